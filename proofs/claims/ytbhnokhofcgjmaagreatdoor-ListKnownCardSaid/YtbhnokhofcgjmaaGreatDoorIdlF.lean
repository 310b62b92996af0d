/- The ideal machine and its evaluators, part 6; no conditions. -/
import Derived.RecoverIn
import Derived.Scope
import Derived.ProofKit
import Derived.Deep.Slices
import Derived.Test.YtbhnokhofcgjmaaGreatDoorIdlE
set_option linter.unusedSectionVars false
set_option linter.unusedVariables false
set_option linter.unusedSimpArgs false
namespace Go.Idl
variable [Globs]
variable {C0 : jaz} {P : Program} {a : Act} {g : Gh} {O : List Nat} {w : World} {s : St} {cf : jo}
theorem qY {b : Frame} {k : List Item} {cs : List Frame} {c : Code} : step P (lone (b.atR a (.code (.scope c) :: k)) cs w) = .next (lone (b.atR a (.code c :: .inScope c :: k)) cs w) :=
 step_lone_go (by simp [stepG, stepG.exec, Frame.atR])
theorem YT {b : Frame} {k : List Item} {cs : List Frame} {c : Code} : step P (lone (b.atR a (.inScope c :: k)) cs w) = .next (lone (b.atR a k) cs w) :=
 step_lone_go (by simp [stepG, stepG.exec, Frame.atR])
theorem Kl {F : Fence} {n : Nat} {Q : Exit -> Act -> World -> Prop} {c : Code} (h : c.wpIn F n P (Exit.noGoto Q) a w) : (Code.scope c).wpIn F n P Q a w := by
 intro b k cs hro hb hr;have h0 : (lone (b.atR a (.code (.scope c) :: k)) cs w).fenced P F := fenced_calm hb hr rfl;obtain ⟨e, a₁, w₁, hq, harr⟩ := h b (.inScope c :: k) cs hro hb hr
 cases e with
 | normal => exact ⟨.normal, a₁, w₁, hq, .head h0 qY (StepsIn.trans harr (.one (fenced_calm hb hr rfl) YT))⟩
 | exit id =>
   have hx : exitTo id (.inScope c :: k) = exitTo id k := by simp [exitTo]
   exact ⟨.exit id, a₁, w₁, hq, fun k' hk => .head h0 qY (harr.1 k' (by rw [hx]; exact hk)),
       fun hr' hk => let ⟨k₁, h1, h2⟩ := harr.2 hr' (by rw [hx]; exact hk); ⟨k₁, h1, .head h0 qY h2⟩⟩
 | goto l => exact hq.elim
 | ret => exact ⟨_, a₁, w₁, hq, .of_steps (.one h0 qY) harr⟩
 | panic ch => exact ⟨_, a₁, w₁, hq, .of_steps (.one h0 qY) harr⟩
 | outgrown => exact ⟨_, a₁, w₁, hq, .of_steps (.one h0 qY) harr⟩
def jW (P : Program) (n : Shape) (top : Bool) : Code -> ICode -> Bool
 | .skip, .skip => true
 | .region _ ops false, .ops l => y9 P ops ops.toList l && J1 n.n l
 | .region _ ops true, .draw l pairs => Ql P n ops l pairs
 | .seq a b, .seq x y => jW P n top a x && jW P n top b y
 | .cond c a b, .cond z x y => jl z c && (jW P n top a x && jW P n top b y)
 | .block id c, .block id' b => id == id' && jW P n top c b
 | .loop c, .loop b => jW P n top c b
 | .exit id, .exit id' => id == id'
 | .scope c, .scope b => jW P n top c b
 | .label _, .label _ => true
 | .goto l, .goto l' => l == l'
 | .ret, .ret => true
 | .rangeFunc g ps ca cb, .rangeF x ps' a b => top && (jl x g && (ps.toList == ps' && ((ps'.all fun p => decide (p < n.n)) && (jW P n false ca a && jW P n false cb b))))
 | _, .stuck => true
 | _, _ => false
def Vv (o : Oper) (t : Nat) : Bool := match o.op with
 | .call c => (match c.callee with | .builtin .recover => c.args.isEmpty && (o.dst == some t && o.guard.isNone) | _ => false)
 | _ => false
def jjL (P : Program) (d : DInfo) (c : ICode) : Bool := match P.funcs[d.g]? with
 | some gfn => gfn.name != "runtime.NumGoroutine" && (gfn.results.isEmpty && (d.nt == gfn.ntmps && (match gfn.body with
   | some body => (match d.slot with
     | none => jW P ⟨d.nt, d.nv, d.m⟩ true body c
     | some t => (match body with
       | .seq (.region _ ops false) b => (match ops.toList with | [o] => Vv o t | _ => false) && (decide (t < d.nt) && jW P ⟨d.nt, d.nv, d.m⟩ true b c)
       | _ => false))
   | none => false)))
 | none => false
def jeU (o : Oper) (x : Opd) (xs : List Opd) : Bool := match o.op with
 | .defer k => (match k.callee with | .value r => jl x r && jD xs k.args.toList | _ => false) && (o.dst.isNone && o.guard.isNone)
 | _ => false
def jgQ (P : Program) (n : Shape) (ops : Array Oper) (l : List IOper) (x : Opd) (xs : List Opd) (d : DInfo) (c : ICode) : Bool :=
 match ops.toList.reverse with
 | o :: pre => jeU o x xs && (y9 P ops pre.reverse l && (J1 n.n l && jjL P d c))
 | [] => false
def vS (P : Program) (n : Shape) : Code -> ICode -> Bool
 | .seq a b, .seq x y => jW P n true a x && vS P n b y
 | .seq a b, .dfr l x xs d c y => (match a with | .region _ ops false => jgQ P n ops l x xs d c | _ => false) && vS P n b y
 | .cond z a b, .cond w x y => jl w z && (vS P n a x && vS P n b y)
 | c, ic => jW P n true c ic
def CR (P : Program) : jaz := fun n nv m c ic => jW P ⟨n, nv, m⟩ false c ic = true
def IFunc.sh (fn : IFunc) : Shape := ⟨fn.nt, fn.nv, fn.m⟩
structure FunOK (P : Program) (gfn : Func) (fn : IFunc) : Prop where
 name : gfn.name ≠ "runtime.NumGoroutine"
 code : ∃ c, gfn.body = some c /\ vS P fn.sh c fn.body = true
 res : VK P gfn.results.toList fn.res = true
 nt : fn.nt = gfn.ntmps
def LibOK (P : Program) (f : FuncId) (p : LibP) : Prop := ∀ σ args v, p (obCs σ) (obMs σ) args = some v -> Callable P f /\
 ∀ (g : Gh) (O : List Nat) (rargs : Array Value) (w : World), g.C = CR P -> args.length = rargs.toList.length -> R g O (args.zip rargs.toList) σ w ->
   CallsIn Fence.wide 0 P f rargs w fun e w' => ∃ v' g' O', e = .returned v' /\ Grow O g w O' g' w' /\ R g' O' [(v, v')] σ w'
def FOK (P : Program) (F : IProg) : Prop := ∀ f fn, F f = some fn -> (∃ gfn, P.funcs[f]? = some gfn /\ FunOK P gfn fn) \/ ∃ p, fn.body = .lib p /\ LibOK P f p
def yw (P : Program) (F : IProg) (n : Nat) : Prop :=
 ∀ [Base] (c : Code) (ic : ICode) (m : Shape) (top : Bool) (s : St) (x : IExit) (s' : St), jW P m top c ic = true -> eval F n ic s = some (x, s') ->
   ∀ (ρ : Option Nat), (top = true -> ρ = none) -> ∀ (k : Nat) (Q : Exit -> Act -> World -> Prop) (a : Act) (w : World) (g : Gh) (O : List Nat), Stand (CR P) m g O s a w -> After (CR P) m g O s w x s' Q -> c.wpIn (WF ρ) k P Q a w
theorem After.imp [Base] {m : Shape} {x : IExit} {s' : St} {Q Q' : Exit -> Act -> World -> Prop} (h : After C0 m g O s w x s' Q) (hq : ∀ e a' w', (∀ x', x = .panic x' -> ∃ ch, e = .panic ch) -> (∀ e', vm x = some e' -> e = e') -> Q e a' w' -> Q' e a' w') : After C0 m g O s w x s' Q' := by
 refine ⟨fun e g' O' a' w' he k st => hq e a' w' (fun x' hx => by subst hx; cases he) (fun e' he' => by rw [he] at he'; cases he'; rfl) (h.1 e g' O' a' w' he k st), fun v g' O' a' w' v' hx k r d wt => hq _ a' w' (fun _ _ => ⟨_, rfl⟩) (fun e' he' => by subst hx; cases he') (h.2 v g' O' a' w' v' hx k r d wt)⟩
theorem jcR : ∀ n, (Tm.empty n).list = [] := by
 intro n
 induction n with
 | zero => rfl
 | succ n ih => simp [Tm.empty, Tm.list, ih]
theorem jex : ∀ n k, (Tm.empty n).get k = none := by
 intro n
 induction n with
 | zero => intro k; rfl
 | succ n ih => intro k; simp only [Tm.empty, Tm.get, ih]; cases Nat.beq k 0 <;> cases Nat.beq (k % 2) 1 <;> rfl
theorem jl3 {tmps : Array Value} {σ : List IObj} : ∀ {vs : List IVal} {us : List Value} {ts : Ts} {j : Nat}, WT ts tmps -> vs.length = us.length -> (∀ (i : Nat) u, us[i]? = some u -> tmps[j + i]? = some u) ->
   R g O (vs.zip us ++ ts.roots tmps) σ w -> R g O ((ts.fill j vs).roots tmps) σ w /\ WT (ts.fill j vs) tmps := by
 intro vs
 induction vs with
 | nil => intro us ts j hW _ _ hR; exact ⟨by simpa [Ts.fill] using hR, hW⟩
 | cons v vs ih =>
   intro us ts j hW hl hu hR
   cases us with
   | nil => simp at hl
   | cons u us =>
     have h0 : tmps[j]? = some u := by simpa using hu 0 u rfl
     have hj : j < tmps.size := (Array.getElem?_eq_some_iff.1 h0).1;have hset : tmps.setIfInBounds j u = tmps := by
       apply Array.ext_getElem?;intro k;rw [Array.getElem?_setIfInBounds];split
       . rename_i e; subst e; exact h0.symm
       . rfl
     obtain ⟨rest, ev, h1, h2⟩ := Ts.roots_put hW hj v u;rw [hset] at h2;refine ih (ts := ts.set j v) (j := j + 1) (hW.set hj v) (by simpa using hl) (fun i u' hi => ?_) ?_
     . have := hu (i + 1) u' (by simpa using hi);rw [show j + 1 + i = j + (i + 1) by omega]; exact this
     . simp only [List.zip_cons_cons, List.cons_append] at hR;have h3 : R g O ((v, u) :: (ev ++ (vs.zip us ++ rest))) σ w := by
         refine hR.perm (.cons _ ?_);refine (h1.append_left _).trans ?_;rw [<- zS, <- zS];exact List.perm_append_comm.append_right _
       cases hb : ts.t.has (ts.slot j) with
       | true =>
         rw [hb] at h2;have h4 : R g O (ev ++ ((v, u) :: (vs.zip us ++ rest))) σ w := h3.perm List.perm_middle.symm;refine (R.drops (l := ev) h4).perm ?_;refine List.Perm.trans ?_ (h2.symm.append_left _);exact List.perm_middle.symm
       | false =>
         rw [hb] at h2;exact (R.drops (l := ev) h3.drop).perm (h2.symm.append_left _)
theorem VM {gfn : Func} {tmps : Array Value} {us : List Value} {w' : World} (h : (jdM tmps gfn.results.toList).run P w = .ok us w') :
   (results gfn tmps).run P w = .ok (if hh : us.toArray.size = 1 then us.toArray[0] else .tuple us.toArray) w' := by
 have e : ∀ f : ResultVar -> Sem Value, gfn.results.mapM f = Functor.map List.toArray (gfn.results.toList.mapM f) := fun f => by
   rw [<- List.mapM_toArray]
 unfold results;rw [e];unfold jdM at h;simp only [map_eq_pure_bind, Sem.run_bind]
 erw [h]
 simp [Sem.run_pure, Result.andThen_ok]
def Q9 (P : Program) (F : IProg) (n : Nat) : Prop :=
 ∀ [Base] (c : Code) (ic : ICode) (m : Shape) (s : St) (x : IExit) (s' : St), vS P m c ic = true -> eval F n ic s = some (x, s') -> (yz x).isSome = true ->
   ∀ (gfn : Func) (Rp : Ending -> World -> Prop) (a : Act) (w : World) (g : Gh) (O : List Nat), Stand (CR P) m g O s a w ->
   (yz x = some none -> ∀ g' O' tmps' ms w', Goes g O s w g' O' s' w' -> R g' O' (s'.ts.roots tmps') s'.σ w' -> WT s'.ts tmps' -> MarksR g' s'.ts.ds ms -> LeavesInM (WF none) 0 P gfn tmps' Rp (ms ++ Base.B) .returning w') ->
   (∀ v, yz x = some (some v) -> ∀ g' O' tmps' ms w' v', Goes g O s w g' O' s' w' -> R g' O' ((v, v') :: s'.ts.roots tmps') s'.σ w' -> WT s'.ts tmps' -> MarksR g' s'.ts.ds ms -> LeavesInM (WF none) 0 P gfn tmps' Rp (ms ++ Base.B) (.panicking [{ v := v', recovered := false }]) w') ->
   c.wpIn (WF none) 0 P (bodyPostM (WF none) 0 P gfn Rp) a w
def jdP (l : jH) : Option IVal -> FrameMode -> Prop
 | none, u => u = .returning
 | some v, u => ∃ v', u = .panicking [{ v := v', recovered := false }] /\ (v, v') ∈ l
theorem Ks {gfn : Func} {tmps : Array Value} (h : gfn.results.isEmpty = true) : ∃ v, (results gfn tmps).run P w = .ok v w := by
 have e : gfn.results.toList = [] := by simpa using h
 have h1 : (jdM tmps gfn.results.toList).run P w = .ok [] w := by rw [e, jci, Sem.run_pure]
 exact ⟨_, VM h1⟩
theorem J9 [Base] {gfn : Func} {args : List IVal} {σ : List IObj} {rargs : Array Value} {nv m dep nt : Nat} (hb : Base.B = []) (hnt : nt = gfn.ntmps) (hC : g.C = CR P) (hlen : args.length = rargs.toList.length) (hR : R g O (args.zip rargs.toList) σ w) :
   Stand (CR P) ⟨nt, nv, m⟩ g O { ts := (Ts.mk nv m (Tm.empty dep) []).fill 0 args, σ := σ, wr := [] } { tmps := rargs ++ Array.replicate (gfn.ntmps - rargs.size) undef, defers := [] } w := by
 have hf := jl3 (g := g) (O := O) (w := w) (σ := σ) (tmps := rargs ++ Array.replicate (gfn.ntmps - rargs.size) undef) (vs := args) (us := rargs.toList) (ts := Ts.mk nv m (Tm.empty dep) []) (j := 0)
   (fun k p hp => by rw [jex] at hp; cases hp) hlen (fun i u hu => by
     rw [Nat.zero_add, Array.getElem?_append_left (by have := jg hu; simpa using this)]; simpa using hu) (by simpa [Ts.roots, jcR] using hR)
 have hsh := SameSh.fill (vs := args) (ts := Ts.mk nv m (Tm.empty dep) []) (j := 0);refine ⟨hf.1, hf.2, by rw [hsh.2.2]; have := DefsR.nil g; rw [hb] at this; exact this, ?_, ⟨hsh.1, hsh.2.1⟩, hC⟩;simp [hnt]; omega
def jm4 : Option IVal -> IVal
 | some v => un3 v
 | none => jkw
theorem jgO {d : DInfo} {args : List IVal} {m : Option IVal} {t : Nat} (h : d.slot = some t) : dTs d args m = ((Ts.mk d.nv d.m (Tm.empty d.dep) []).fill 0 args).set t (jm4 m) := by
 simp only [dTs, h];cases m <;> rfl
theorem jlV {F : IProg} {n : Nat} (hS : yw P F n) {d : DInfo} {c : ICode} (hd : jjL P d c = true) {args : List IVal} {m : Option IVal} {s s' : St} {x : IExit} (h : Ve (eval F n) d c args m s = some (x, s')) :
   ∃ m', x = jcV m' /\ s'.ts = s.ts /\ (m' = none \/ m' = m) /\ ∃ gfn, P.funcs[d.g]? = some gfn /\ gfn.name ≠ "runtime.NumGoroutine" /\ gfn.body ≠ none /\
     ∀ (g : Gh) (O : List Nat) (rargs : Array Value) (w : World) (u : FrameMode) (l : jH), g.C = CR P -> args.length = rargs.toList.length -> jdP l m u -> R g O (args.zip rargs.toList ++ l) s.σ w ->
       CallsDIn Fence.wide 0 P d.g rargs u w fun e u' w' => (∃ v0, e = .returned v0) /\ ∃ g' O' wn, Grow O g w O' g' w' /\ R g' O' l s'.σ w' /\ s'.wr = wn ++ s.wr /\ Keep s.σ s'.σ wn /\ (match m' with | none => settle u' = .returning | some _ => settle u' = u) := by
 unfold Ve at h;split at h
 . rename_i x1 s1 hev;split at h
   . cases h
   . rename_i hnp;split at h
     . rename_i mm hmm hds;simp only [zO, zP] at h;obtain ⟨rfl, rfl⟩ := h;refine ⟨_, rfl, rfl, by cases d.slot <;> simp, ?_⟩;unfold jjL at hd;split at hd
       . rename_i gfn hgf;simp only [zA, bne_iff_ne, ne_eq, beq_iff_eq] at hd;obtain ⟨hname, hres, hnt, hd⟩ := hd;split at hd
         . rename_i body hbody;refine ⟨gfn, hgf, hname, by simp [hbody], ?_⟩;intro g O rargs w u l hC hlen hm hR;have hR0 := hR.sub_own
           -- what is left behind
           have hfin : ∀ {g' : Gh} {O' : List Nat} {w' : World} {s0 : St}, Goes g (jR (args.zip rargs.toList) ++ kM w g.ι s.σ) s0 w g' O' s1 w' -> s0.σ = s.σ -> s0.wr = [] -> (∃ tmps', R g' O' (s1.ts.roots tmps') s1.σ w') ->
               ∃ O'' wn, Grow O g w O'' g' w' /\ R g' O'' l s1.σ w' /\ s1.wr ++ s.wr = wn ++ s.wr /\ Keep s.σ s1.σ wn := by
             intro g' O' w' s0 hgo e1 e2 ⟨tmps', hr⟩;obtain ⟨wn, k1, k2⟩ := hgo.keep;have hr0 : R g' O' [] s1.σ w' := R.drops (l := s1.ts.roots tmps') (by rw [List.append_nil]; exact hr);obtain ⟨O'', q1, q2⟩ := hR.frame hgo.grow hr0;refine ⟨O'', wn, q2, by simpa using q1, by rw [k1, e2, List.append_nil], by rw [<- e1]; exact k2⟩
           letI : Base := ⟨[]⟩
           cases hslot : d.slot with
           | none =>
             rw [hslot] at hd;simp only at hd;have hst := J9 (P := P) (gfn := gfn) (nv := d.nv) (m := d.m) (dep := d.dep) (nt := d.nt) rfl hnt hC hlen hR0;have hts : dTs d args m = (Ts.mk d.nv d.m (Tm.empty d.dep) []).fill 0 args := by simp only [dTs, hslot]
             rw [hts] at hev;refine CallsDIn.mono (callsDIn_of_wp (F := Fence.wide) (u := u) (R := fun e w' => (∃ v0, e = .returned v0) /\ ∃ g' O' wn, Grow O g w O' g' w' /\ R g' O' l s1.σ w' /\ s1.wr ++ s.wr = wn ++ s.wr /\ Keep s.σ s1.σ wn) hgf hbody trivial ?_) ?_
             . refine hS body c _ true _ x1 s1 hd hev none (fun _ => rfl) 0 _ _ w g _ hst ⟨fun e g' O' a' w' he k st => ?_, fun v g' O' a' w' v' hx => absurd hx (hnp v)⟩;have hdef : a'.defers = [] := by have := st.defs; rw [hds] at this; exact this.nil_iff
               obtain ⟨v0, hv0⟩ := Ks (P := P) (w := w') (tmps := a'.tmps) hres;obtain ⟨O'', wn, q1, q2, q3, q4⟩ := hfin k rfl rfl ⟨a'.tmps, st.rel⟩;have hpost : (∃ v0', Ending.returned v0 = .returned v0') /\ ∃ g' O' wn, Grow O g w O' g' w' /\ R g' O' l s1.σ w' /\ s1.wr ++ s.wr = wn ++ s.wr /\ Keep s.σ s1.σ wn := ⟨⟨v0, rfl⟩, g', O'', wn, q1, q2, q3, q4⟩
               cases x1 with
               | normal => simp only [vm, zO] at he; subst he; exact ⟨hdef, v0, hv0, hpost⟩
               | ret => simp only [vm, zO] at he; subst he; exact ⟨hdef, v0, hv0, hpost⟩
               | panic v => exact absurd rfl (hnp v)
               | exit i => simp [yz] at hmm
               | goto i => simp [yz] at hmm
             . rintro e u' w' ⟨rfl, h1, g', O', wn, q1, q2, q3, q4⟩;refine ⟨h1, g', O', wn, q1, q2, q3, q4, ?_⟩;simp only [hslot]
               cases m with
               | none => simp only [jdP] at hm; subst hm; rfl
               | some v => obtain ⟨v', rfl, -⟩ := hm; rfl
           | some t =>
             rw [hslot] at hd;simp only at hd;split at hd
             . rename_i id ops b;simp only [zA, decide_eq_true_eq] at hd;obtain ⟨hrec, htlt, hcode⟩ := hd;split at hrec
               . rename_i o hops;have hop0 : ops[0]? = some o := by rw [<- Array.getElem?_toList, hops]; rfl
                 have hsz : ops.size = 1 := by rw [<- Array.length_toList, hops]; rfl
                 unfold Vv at hrec;split at hrec
                 . rename_i k hk;split at hrec
                   . rename_i hcal;simp only [zA, beq_iff_eq, Option.isNone_iff_eq_none] at hrec;obtain ⟨hargs, hdst, hguard⟩ := hrec;have hargs : k.args = #[] := by simpa using hargs
                     -- the value that comes of it
                     obtain ⟨mv, hV, hmode⟩ : ∃ mv : Value, (V g (jm4 m) mv /\ jA (jm4 m) mv = []) /\
                         ∀ (c₀ : Frame) (cs : List Frame), c₀.mode = u -> ∃ u', settle u' = .returning /\ ((recoverD (c₀ :: cs) = some (mv, { c₀ with mode := u' } :: cs)) \/ (recoverD (c₀ :: cs) = none /\ mv = .nilIface /\ u' = u)) := by
                       cases m with
                       | none =>
                         simp only [jdP] at hm; subst hm;refine ⟨.nilIface, ⟨.prim _ rfl, rfl⟩, fun c₀ cs hc => ⟨.returning, rfl, .inr ⟨?_, rfl, rfl⟩⟩⟩;simp [recoverD, hc]
                       | some v =>
                         obtain ⟨v', rfl, hvl⟩ := hm;have hVv := hR.vals (v, v') (List.mem_append_right _ hvl);refine ⟨v', ⟨hVv.un3, za _ _⟩, fun c₀ cs hc => ⟨.panicking [{ v := v', recovered := true }], rfl, .inl ?_⟩⟩;simp [recoverD, hc]
                     have hst := J9 (P := P) (gfn := gfn) (nv := d.nv) (m := d.m) (dep := d.dep) (nt := d.nt) rfl hnt hC hlen hR0;have hst1 := yM (d := some t) (s := { ts := (Ts.mk d.nv d.m (Tm.empty d.dep) []).fill 0 args, σ := s.σ, wr := [] }) (hst.rel.push hV.1 hV.2) hst.len hst.defs hst.size hst.sh hst.code (fun t' ht => by cases ht; exact htlt);have hts : dTs d args m = ze ((Ts.mk d.nv d.m (Tm.empty d.dep) []).fill 0 args) (some t) (jm4 m) := jgO hslot;rw [hts] at hev;refine callsDIn_of_wpSIn (F := Fence.wide) hgf hbody trivial fun c₀ cs hc₀ => ?_;refine wpSIn_seq (wpSIn_region ?_);have hr : List.range ops.size = [0] := by rw [hsz]; rfl
                     have hw0 : ∀ ys, Region.wanted o ys = true := by intro ys; simp [Region.wanted, hguard]
                     have hrun : ∀ ρ, (execOp ρ o).run P w = .ok .recover w := by
                       intro ρ;simp [execOp, hk, resolve, hcal, hargs, invoke, builtin]
                     obtain ⟨u', hset, hrc⟩ := hmode c₀ cs hc₀
                     -- behind the recovery
                     have hrest : ∀ cs', cs' = { c₀ with mode := u' } :: cs -> b.wpSIn Fence.wide 0 P (bodyPostS P gfn c₀ cs fun e u' w' => (∃ v0, e = .returned v0) /\ ∃ g' O' wn, Grow O g w O' g' w' /\ R g' O' l s1.σ w' /\ s1.wr ++ s.wr = wn ++ s.wr /\ Keep s.σ s1.σ wn /\ settle u' = .returning) (({ tmps := rargs ++ Array.replicate (gfn.ntmps - rargs.size) undef, defers := [] } : Act).put o.dst mv) cs' w := by
                       intro cs' hcs';subst hcs';refine wpSIn_of_wpIn rfl ?_;rw [hdst];refine hS b c _ true _ x1 s1 hcode hev none (fun _ => rfl) 0 _ _ w g _ hst1 ⟨fun e g' O' a' w' he k st => ?_, fun v g' O' a' w' v' hx => absurd hx (hnp v)⟩;have hdef : a'.defers = [] := by have := st.defs; rw [hds] at this; exact this.nil_iff
                       obtain ⟨v0, hv0⟩ := Ks (P := P) (w := w') (tmps := a'.tmps) hres;obtain ⟨O'', wn, q1, q2, q3, q4⟩ := hfin k rfl rfl ⟨a'.tmps, st.rel⟩
                       cases x1 with
                       | normal => simp only [vm, zO] at he; subst he; exact ⟨hdef, u', rfl, v0, hv0, ⟨v0, rfl⟩, g', O'', wn, q1, q2, q3, q4, hset⟩
                       | ret => simp only [vm, zO] at he; subst he; exact ⟨hdef, u', rfl, v0, hv0, ⟨v0, rfl⟩, g', O'', wn, q1, q2, q3, q4, hset⟩
                       | panic v => exact absurd rfl (hnp v)
                       | exit i => simp [yz] at hmm
                       | goto i => simp [yz] at hmm
                     rw [hr];simp only [wpOpsSIn, hop0];refine ⟨fun _ _ => trivial, ?_⟩;rw [if_pos (hw0 _), hrun];simp only
                     rcases hrc with hrc | ⟨hrc, rfl, rfl⟩
                     . rw [hrc];exact hrest _ rfl
                     . rw [hrc];simp only;have e0 : c₀ = { c₀ with mode := u' } := by rw [<- hc₀]
                       exact hrest _ (by rw [<- e0])
                   . cases hrec
                 . cases hrec
               . cases hrec
             . cases hd
         . cases hd
       . cases hd
     . cases h
 . cases h
theorem jlO {F : IProg} {n : Nat} (hF : FOK P F) (hT : Q9 P F n) (f : FuncId) (args : List IVal) (σ : List IObj) (out : Out) (hout : cfOf F n (.f f) args σ = some out) : Callable P f /\
   ∀ g O (rargs : Array Value) w, g.C = CR P -> args.length = rargs.toList.length -> R g O (args.zip rargs.toList) σ w -> CallsIn Fence.wide 0 P f rargs w (JH g O w σ out) := by
 simp only [cfOf] at hout;split at hout
 . rename_i fn hfn;unfold vW at hout
   rcases hF f fn hfn with ⟨gfn, hgf, hok⟩ | ⟨p, hbody, hlib⟩
   . obtain ⟨c, hbody, hcode⟩ := hok.code;have hnl : ZD fn.body = none \/ eval F n fn.body = fun _ => none := by
       cases n with
       | zero => right; funext s; simp [eval]
       | succ n => cases hb : fn.body <;> first | (left; rfl) | (right; funext s; simp [eval])
     split at hout
     . rename_i p hp
       exfalso
       have hb : fn.body = .lib p := by
         cases hb : fn.body <;> rw [hb] at hp <;> simp [ZD] at hp;rw [hp]
       rw [hb] at hcode;cases c <;> simp [vS, jW] at hcode
     . refine ⟨⟨gfn, hgf, hok.name, by simp [hbody]⟩, fun g O rargs w hC hlen hR => ?_⟩;refine callsIn_of_wp_marks (F := Fence.wide) hgf hbody trivial ?_;letI : Base := ⟨[]⟩;have hst := J9 (P := P) (gfn := gfn) (nv := fn.nv) (m := fn.m) (dep := fn.dep) (nt := fn.nt) rfl hok.nt hC hlen hR;have hwide : (WF none) = Fence.wide := rfl;rw [<- hwide]
       -- what is handed back
       have hret : ∀ {s1 : St}, jfL σ.length fn.res s1 = some out ->
           ∀ g' O' tmps' ms w', Goes g O { ts := (Ts.mk fn.nv fn.m (Tm.empty fn.dep) []).fill 0 args, σ := σ, wr := [] } w g' O' s1 w' -> R g' O' (s1.ts.roots tmps') s1.σ w' -> WT s1.ts tmps' -> MarksR g' s1.ts.ds ms ->
           LeavesInM (WF none) 0 P gfn tmps' (JH g O w σ out) (ms ++ Base.B) .returning w' := by
         intro s1 hri g' O' tmps' ms w' hgo hrel hwt hms;unfold jfL at hri;split at hri
         . rename_i σ1 hsh;split at hri
           . rename_i vs s2 hrd;split at hri
             . rename_i hnt;simp only [zO] at hri;refine jcm (l := s1.ts.roots tmps') (by simp) s1.ts.ds s1.σ σ1 ms w' hsh hms hrel (fun w'' hR'' hG'' => ?_);obtain ⟨us, h1, h2, h3, h4, wn, h5, h6, h7⟩ := jbi (l := []) hok.res hrd hwt (by simpa using hR'');have h8 := (R.merge h4 h2 (List.all_eq_true.1 hnt));obtain ⟨wn', k1, k2⟩ := hgo.keep;have hkeep : Keep σ s2.σ s2.wr := by
                 rw [h5];simp only;rw [k1];simp only [List.append_nil];exact (k2.trans (Z8 _ _ _ hsh)).trans h6
               have hR1 : R g' O' [(jdE vs, if hh : us.toArray.size = 1 then us.toArray[0] else .tuple us.toArray)] s2.σ w'' :=
                 R.drops (l := s2.ts.roots tmps') (h8.perm (List.perm_append_comm (l₁ := [_])))
               obtain ⟨g'', k3, k4, k5, k6⟩ := KZ (v := jdE vs) (pan := false) hR (hgo.grow.trans hG'') hR1 hkeep;rw [hri] at k4 k5 k6;exact ⟨(if hh : us.toArray.size = 1 then us.toArray[0] else .tuple us.toArray), VM h1, ⟨g'', O', _, by rw [k6]; rfl, k3, k4, k5⟩⟩
             . cases hri
           . cases hri
         . cases hri
       split at hout
       . rename_i s1 hev;refine hT c fn.body fn.sh _ .normal s1 hcode hev rfl gfn _ _ w g O hst (fun _ g' O' tmps' ms w' k r wt mr => hret hout g' O' tmps' ms w' k r wt mr) (fun v hv => by cases hv)
       . rename_i s1 hev;refine hT c fn.body fn.sh _ .ret s1 hcode hev rfl gfn _ _ w g O hst (fun _ g' O' tmps' ms w' k r wt mr => hret hout g' O' tmps' ms w' k r wt mr) (fun v hv => by cases hv)
       . rename_i v s1 hev;split at hout
         . rename_i hds;simp only [zO] at hout;subst hout;refine hT c fn.body fn.sh _ (.panic v) s1 hcode hev rfl gfn _ _ w g O hst (fun hn => by cases hn) (fun v0 hv g' O' tmps' ms w' v' k r wt mr => ?_);simp only [yz, zO] at hv;subst hv;obtain ⟨wn', k1, k2⟩ := k.keep;have hkeep : Keep σ s1.σ s1.wr := by rw [k1, List.append_nil]; exact k2
           have hR1 : R g' O' [(v, v')] s1.σ w' := R.drops (l := s1.ts.roots tmps') (R.perm r (List.perm_append_comm (l₁ := [_])));obtain ⟨g'', k3, k4, k5, k6⟩ := KZ (v := v) (pan := true) hR k.grow hR1 hkeep;have hnil : ms = [] := by have := mr.1; rw [hds] at this; exact List.eq_nil_of_length_eq_zero (by simpa using this)
           subst hnil;exact ⟨g'', O', v', by rw [k6]; rfl, k3, k4, k5⟩
         . cases hout
       . cases hout
   . rw [hbody] at hout;simp only [ZD] at hout;split at hout
     . rename_i v hv;simp only [zO] at hout;subst hout;obtain ⟨hc, hl⟩ := hlib σ args v hv;refine ⟨hc, fun g O rargs w hC hlen hR => (hl g O rargs w hC hlen hR).mono ?_⟩;rintro e w' ⟨v', g', O', rfl, h1, h2⟩;exact ⟨g', O', v', rfl, h1, h2, .refl _⟩
     . cases hout
 . cases hout
theorem jlf (x : IVal) : un3 (un3 x) = un3 x := by
 cases x with
 | tup xs => simp [un3]; intro a _; exact V5 a
 | agg xs => simp [un3, un2, un1]; intro a _; exact zo a
 | _ => rfl
theorem jlg : ∀ (t : Tm), t.un.list = t.list.map fun p => (p.1, un3 p.2) := by
 intro t
 induction t with
 | leaf => rfl
 | node l c r ihl ihr =>
   simp only [Tm.un, Tm.list, List.map_append, ihl, ihr]
   cases c with
   | none => rfl
   | some p => rfl
theorem un_get : ∀ (t : Tm) (k : Nat), t.un.get k = (t.get k).map fun p => (p.1, un3 p.2) := by
 intro t
 induction t with
 | leaf => intro k; rfl
 | node l c r ihl ihr =>
   intro k;simp only [Tm.un, Tm.get, ihl, ihr];cases Nat.beq k 0 <;> cases Nat.beq (k % 2) 1 <;> simp
   all_goals (cases c <;> rfl)
theorem jbc {l : jH} {σ : List IObj} : ∀ {ps : jH}, (∀ p ∈ ps, V g p.1 p.2 /\ jA p.1 p.2 = []) -> R g O l σ w -> R g O (ps ++ l) σ w := by
 intro ps
 induction ps with
 | nil => intro _ h; exact h
 | cons p ps ih =>
   intro hp h;exact (ih (fun q hq => hp q (by simp [hq])) h).push (hp p (by simp)).1 (hp p (by simp)).2
theorem jh8 {σ : List IObj} : ∀ {ps : List Nat} {vs : List IVal} {us : List Value} {ts ts' : Ts} {tmps : Array Value}, ts.setAll ps vs = some ts' -> vs.length = us.length -> WT ts tmps -> (∀ p ∈ ps, p < tmps.size) -> R g O (vs.zip us ++ ts.roots tmps) σ w ->
   R g O (ts'.roots ((ps.zip us).foldl (fun t p => t.setIfInBounds p.1 p.2) tmps)) σ w /\ WT ts' ((ps.zip us).foldl (fun t p => t.setIfInBounds p.1 p.2) tmps) /\ SameSh ts ts' /\ ((ps.zip us).foldl (fun t p => t.setIfInBounds p.1 p.2) tmps).size = tmps.size := by
 intro ps
 induction ps with
 | nil =>
   intro vs us ts ts' tmps h hl hW _ hR
   cases vs with
   | nil => simp [Ts.setAll] at h; subst h; exact ⟨by simpa using hR, by simpa using hW, .refl _, by simp⟩
   | cons v vs => simp [Ts.setAll] at h
 | cons p ps ih =>
   intro vs us ts ts' tmps h hl hW hp hR
   cases vs with
   | nil => simp [Ts.setAll] at h
   | cons v vs =>
   cases us with
   | nil => simp at hl
   | cons u us =>
     simp only [Ts.setAll] at h;have hj : p < tmps.size := hp p (by simp);obtain ⟨rest, ev, h1, h2⟩ := Ts.roots_put hW hj v u;have hW' : WT (ts.set p v) (tmps.setIfInBounds p u) := fun k q hq => by have := hW.set hj v k q hq; simpa using this
     simp only [List.zip_cons_cons, List.cons_append] at hR;have h3 : R g O ((v, u) :: (ev ++ (vs.zip us ++ rest))) σ w := by
       refine hR.perm (.cons _ ?_);refine (h1.append_left _).trans ?_;rw [<- zS, <- zS];exact List.perm_append_comm.append_right _
     have hR' : R g O (vs.zip us ++ (ts.set p v).roots (tmps.setIfInBounds p u)) σ w := by
       cases hb : ts.t.has (ts.slot p) with
       | true =>
         rw [hb] at h2;have h4 : R g O (ev ++ ((v, u) :: (vs.zip us ++ rest))) σ w := h3.perm List.perm_middle.symm;refine (R.drops (l := ev) h4).perm ?_;refine List.Perm.trans ?_ (h2.symm.append_left _);exact List.perm_middle.symm
       | false =>
         rw [hb] at h2;exact (R.drops (l := ev) h3.drop).perm (h2.symm.append_left _)
     obtain ⟨k1, k2, k3, k4⟩ := ih h (by simpa using hl) hW' (fun q hq => by simpa using hp q (by simp [hq])) hR';simp only [List.zip_cons_cons, List.foldl_cons];exact ⟨k1, k2, SameSh.trans ⟨rfl, rfl, rfl⟩ k3, by rw [k4]; simp⟩
theorem Z6 (r : Loop) (rargs : Array Value) : vp r rargs = (r.params.toList.zip rargs.toList).foldl (fun t p => t.setIfInBounds p.1 p.2) r.tmps := by
 unfold vp;rw [<- Array.foldl_toList, Array.toList_zip]
theorem Yu {σ : List IObj} {l : jH} {id b : Nat} {L : ILoop} (hR : R g O l σ w) (hι : g.ι[id]? = some (Blk.bk b)) (hσ : σ[id]? = some (.loop L)) : ∃ r : Loop, w.heap[b]? = some (.loop r) /\ LoopR g L r /\ b < w.heap.size := by
 obtain ⟨r, h1, h2⟩ := hR.objs id b _ hι hσ;exact ⟨r, h1, h2, (Array.getElem?_eq_some_iff.1 h1).1⟩
theorem R.setLoop {σ : List IObj} {l : jH} {id b : Nat} {L L' : ILoop} {r r' : Loop} (hR : R g O l σ w) (hι : g.ι[id]? = some (Blk.bk b)) (hσ : σ[id]? = some (.loop L)) (hw : w.heap[b]? = some (.loop r)) (hL : LoopR g L' r') :
   R g O l (σ.set id (.loop L')) (w.putObj b (.loop r')) /\ Grow O g w O g (w.putObj b (.loop r')) := by
 have hlt : b < w.heap.size := (Array.getElem?_eq_some_iff.1 hw).1;exact hR.putObj hι hσ (by simp) hlt (by rw [hw]; simp) ⟨r', World.putObj_heap_same hlt, hL⟩ (.inl rfl) rfl
theorem Keep.setLoop {σ : List IObj} {id : Nat} {L L' : ILoop} (hσ : σ[id]? = some (.loop L)) (ht : L'.ts = L.ts) : Keep σ (σ.set id (.loop L')) [(id, false)] :=
 Keep.set fun n _ _ ho => by
   have := ho _ hσ;simpa [RLO, ht] using this
theorem Vi {x : IExit} (h : zX x = true) : ∃ e c, vm x = some e /\ jfy (some x) = some c /\ (∀ (b : Nat) (Rp : Ending -> World -> Prop) (a' : Act) (w' : World), (∃ v w'', (Instr.endRound b (some c)).run P w' = .ok v w'' /\ Rp (.returned v) w'') -> roundPost P b Rp e a' w') /\
   (∀ (F : Fence) (n : Nat) (Q : Exit -> Act -> World -> Prop) (a' : Act) (w' : World), Q e a' w' -> c.wpIn F n P Q a' w') := by
 cases x with
 | exit id => exact ⟨.exit id, .exit id, rfl, rfl, fun _ _ _ _ h => h, fun _ _ _ _ _ h => wpIn_exit h⟩
 | goto l => exact ⟨.goto l, .goto l, rfl, rfl, fun _ _ _ _ h => h, fun _ _ _ _ _ h => wpIn_goto h⟩
 | ret => exact ⟨.ret, .ret, rfl, rfl, fun _ _ _ _ h => h, fun _ _ _ _ _ h => wpIn_ret h⟩
 | normal => cases h
 | panic v => cases h
theorem jlU {F : IProg} {n : Nat} (hS : yw P F n) (id : Nat) (args : List IVal) (σ : List IObj) (out : Out) (hout : cfOf F n (.y id) args σ = some out) (g : Gh) (O : List Nat) (rargs : Array Value) (w : World) (b : Nat) (hC : g.C = CR P) (hι : g.ι[id]? = some (Blk.bk b)) (hlen : args.length = rargs.toList.length)
   (hR : R g O (args.zip rargs.toList) σ w) : ∃ r : Loop, w.heap[b]? = some (.loop r) /\ rargs.size = r.params.size /\ RoundIn Fence.wide 0 P b r.fn (vp r rargs) r.assign r.body w (JH g O w σ out) := by
 simp only [cfOf] at hout;unfold yi at hout;split at hout
 . rename_i L hσ;split at hout
   . rename_i ts hst0 hset;obtain ⟨r, hw, hL, hlt⟩ := Yu hR hι hσ;obtain ⟨m, hm, hpm, hca, hcb⟩ := hL.code;rw [hC] at hca hcb;have hsetlen : ∀ {ps : List Nat} {vs : List IVal} {t t' : Ts}, t.setAll ps vs = some t' -> ps.length = vs.length := by
       intro ps
       induction ps with
       | nil => intro vs t t' h; cases vs <;> simp [Ts.setAll] at h ⊢
       | cons p ps ih => intro vs t t' h; cases vs <;> simp [Ts.setAll] at h ⊢; exact ih h
     have hpl := hsetlen hset;have hsz : rargs.size = r.params.size := by
       have := hL.ps;have e1 : r.params.size = L.ps.length := by rw [<- this]; simp
       rw [e1, hpl, hlen]; simp
     refine ⟨r, hw, hsz, ?_⟩;have hroots : R g O (args.zip rargs.toList ++ L.ts.roots r.tmps) σ w := by
       have h1 := jbc (ps := L.ts.roots r.tmps) (fun p hp => by
         simp only [Ts.roots, List.mem_map] at hp;obtain ⟨q, hq, rfl⟩ := hp;obtain ⟨k1, k2⟩ := hL.vals q hq;exact ⟨k1, by rw [<- k2]; exact za _ _⟩) hR
       exact h1.perm List.perm_append_comm
     obtain ⟨k1, k2, k3, k4⟩ := jh8 hset hlen hL.wt (fun p hp => Nat.lt_of_lt_of_le (hpm p hp) hm) hroots;rw [<- hL.ps, <- Z6] at k1 k2 k4;letI : Base := ⟨[]⟩;have hstand : Stand (CR P) ⟨m, L.ts.nv, L.ts.m⟩ g O { ts := ts, σ := σ, wr := [] } { tmps := vp r rargs, defers := [] } w := by
       refine ⟨k1, k2, by rw [k3.2.2, hL.ds]; exact .nil g, by rw [k4]; exact hm, ⟨k3.1, k3.2.1⟩, hC⟩
     refine roundIn_of_wpIn (F := Fence.wide) trivial ?_;have hF : Fence.wide.inRound b = WF (some b) := rfl;rw [hF];split at hout
     . rename_i s1 h1;split at hout
       . rename_i L1 hσ1;split at hout
         . rename_i hst1;split at hout
           . rename_i x s2 h2;split at hout
             . rename_i L2 hσ2
               -- the assignments
               refine hS r.assign L.a ⟨m, L.ts.nv, L.ts.m⟩ false _ .normal s1 hca h1 (some b) (fun h => by cases h) 0 _ _ w g O hstand ⟨fun e g1 O1 a1 w1 he hgo1 hs1 => ?_, fun v _ _ _ _ _ hx => by cases hx⟩;simp only [vm, zO] at he;subst he;have hι1 := hgo1.grow.pre id b hι;obtain ⟨r1, hw1, hL1, -⟩ := Yu hs1.rel hι1 hσ1;refine ⟨_, run_beginRound hw1 (by rw [hL1.st, hst1]; rfl), ?_⟩;have hLb : LoopR g1 { L1 with st := 1 } { r1 with state := .busy } := ⟨rfl, hL1.ps, hL1.pend, hL1.wt, hL1.ds, hL1.vals, hL1.code⟩;obtain ⟨hRb, hGb⟩ := hs1.rel.setLoop hι1 hσ1 hw1 hLb;have hsb : Stand (CR P) ⟨m, L.ts.nv, L.ts.m⟩ g1 O1 { s1 with σ := s1.σ.set id (.loop { L1 with st := 1 }), wr := (id, false) :: s1.wr } a1 (w1.putObj b (.loop { r1 with state := .busy })) :=
                 ⟨hRb, hs1.len, hs1.defs, hs1.size, hs1.sh, hs1.code⟩
               -- what is behind the body
               have hend : ∀ (g2 : Gh) (O2 : List Nat) (a2 : Act) (w2 : World), Goes g1 O1 { s1 with σ := s1.σ.set id (.loop { L1 with st := 1 }), wr := (id, false) :: s1.wr } (w1.putObj b (.loop { r1 with state := .busy })) g2 O2 s2 w2 -> R g2 O2 (s2.ts.roots a2.tmps) s2.σ w2 ->
                   ∀ (jump : Option Code) (L3 : ILoop), L3.st = (if jump.isNone then 0 else 2) -> L3.ts = L2.ts -> L3.ps = L2.ps -> L3.a = L2.a -> L3.b = L2.b -> jump = jfy L3.pend ->
                   out = jC σ.length false (.bool jump.isNone) { s2 with σ := s2.σ.set id (.loop L3), wr := (id, false) :: s2.wr } ->
                   ∃ v w', (Instr.endRound b jump).run P w2 = .ok v w' /\ JH g O w σ out (.returned v) w' := by
                 intro g2 O2 a2 w2 hgo2 hR2 jump L3 e1 e2 e3 e4 e5 e6 e7;have hι2 := hgo2.grow.pre id b hι1;obtain ⟨r2, hw2, hL2, -⟩ := Yu hR2 hι2 hσ2;have hLe : LoopR g2 L3 { r2 with state := if jump.isNone then .ready else .done, pending := jump } := by
                   refine ⟨?_, by rw [e3]; exact hL2.ps, e6, by rw [e2]; exact hL2.wt, by rw [e2]; exact hL2.ds, by rw [e2]; exact hL2.vals, by rw [e2, e3, e4, e5]; exact hL2.code⟩;rw [e1]; cases jump <;> rfl
                 obtain ⟨hRe, hGe⟩ := hR2.setLoop hι2 hσ2 hw2 hLe;refine ⟨_, _, run_endRound jump hw2, ?_⟩;have hRf := (R.drops (l := s2.ts.roots a2.tmps) (l' := []) (by rw [List.append_nil]; exact hRe)).push (.bool jump.isNone) rfl;have hgr : Grow O g w O2 g2 _ := ((hgo1.grow.trans hGb).trans hgo2.grow).trans hGe;obtain ⟨wn1, q1, q2⟩ := hgo1.keep;obtain ⟨wn2, q3, q4⟩ := hgo2.keep;have hkeep : Keep σ (s2.σ.set id (.loop L3)) ((id, false) :: s2.wr) := by
                   rw [q3]; simp only; rw [q1]; simp only [List.append_nil];have := ((q2.trans (Keep.setLoop hσ1 (L' := { L1 with st := 1 }) rfl)).trans q4).trans (Keep.setLoop hσ2 (L' := L3) e2);simpa using this
                 obtain ⟨g'', k3, k4, k5, k6⟩ := KZ (s' := { s2 with σ := s2.σ.set id (.loop L3), wr := (id, false) :: s2.wr }) (v := .bool jump.isNone) (pan := false) hR hgr hRf hkeep;rw [<- e7] at k4 k5 k6;exact ⟨g'', O2, _, by rw [k6]; rfl, k3, k4, k5⟩
               refine hS r.body L.b ⟨m, L.ts.nv, L.ts.m⟩ false _ x s2 hcb h2 (some b) (fun h => by cases h) 0 _ _ _ g1 O1 hsb ⟨fun e g2 O2 a2 w2 he hgo2 hs2 => ?_, fun v g2 O2 a2 w2 v' hx hgo2 hr2 hd2 _ => ?_⟩
               . split at hout
                 . simp only [vm, zO] at he;subst he;simp only [zO] at hout;exact hend g2 O2 a2 w2 hgo2 hs2.rel none { L2 with st := 0, pend := none } rfl rfl rfl rfl rfl rfl hout.symm
                 . split at hout
                   . rename_i hj;simp only [zO] at hout;obtain ⟨e', c', j1, j2, j3, j4⟩ := Vi (P := P) hj;rw [j1] at he;cases he;refine j3 _ _ _ _ (hend g2 O2 a2 w2 hgo2 hs2.rel (some c') { L2 with st := 2, pend := some x } rfl rfl rfl rfl rfl j2.symm hout.symm)
                   . cases hout
               . subst hx;simp only [zX, Bool.false_eq_true, if_false] at hout;cases hout
             . cases hout
           . cases hout
         . cases hout
       . cases hout
     . cases hout
   . cases hout
 . cases hout
theorem jea {F : IProg} {n : Nat} (hF : FOK P F) (hS : yw P F n) (hT : Q9 P F n) : CallOK P (CR P) (cfOf F n) :=
 ⟨fun f args σ out h => jlO hF hT f args σ out h, fun id args σ out h g O rargs w b hC hι hlen hR => jlU hS id args σ out h g O rargs w b hC hι hlen hR⟩
def Q7 (P : Program) (F : IProg) (n : Nat) : Prop :=
 ∀ [Base] (c : Code) (ic : ICode) (m : Shape) (top : Bool) (s : St) (x : IExit) (s' : St), jW P m top c ic = true -> eval F n (.loop ic) s = some (x, s') ->
   ∀ (ρ : Option Nat), (top = true -> ρ = none) -> ∀ (k : Nat) (Q : Exit -> Act -> World -> Prop) (a : Act) (w : World) (g : Gh) (O : List Nat), Stand (CR P) m g O s a w -> After (CR P) m g O s w x s' Q -> Code.roundsIn (WF ρ) k P c Q n a w
theorem jho {F : IProg} {n : Nat} (ih : yw P F n) (il : Q7 P F n) : Q7 P F (n + 1) := by
 intro _ c ic m top s x s' hok hev ρ hρ k Q a w g O hst haft;simp only [eval] at hev;rw [roundsIn_succ];split at hev
 . rename_i s1 h1;refine ih c ic m top s .normal s1 hok h1 ρ hρ k _ a w g O hst ⟨fun e g' O' a' w' he hk st => ?_, fun v g' O' a' w' v' hx => by cases hx⟩;simp only [vm, zO] at he;subst he;exact il c ic m top s1 x s' hok hev ρ hρ k Q a' w' g' O' st (haft.of_goes hk)
 . rename_i hne;refine ih c ic m top s x s' hok hev ρ hρ k _ a w g O hst (haft.imp fun e a' w' hp hx hq => ?_)
   cases x with
   | normal => exact absurd hev (by intro h; exact hne _ h)
   | panic v => obtain ⟨ch, rfl⟩ := hp v rfl; exact hq
   | exit id => have := hx _ rfl; subst this; exact hq
   | goto id => have := hx _ rfl; subst this; exact hq
   | ret => have := hx _ rfl; subst this; exact hq
theorem jei {F : IProg} (hmx : P.follows .mixedOrders = true) {n : Nat} (ih : yw P F n) (il' : Q7 P F (n + 1)) (hcf : CallOK P (CR P) (cfOf F n)) : yw P F (n + 1) := by
   intro _ c ic m top s x s' hok hev ρ hρ k Q a w g O hst haft;have hns : ic ≠ .stuck := fun e => by subst e; simp [eval] at hev
   cases c <;> cases ic <;> (try exact absurd rfl hns) <;> try (simp only [jW, Bool.false_eq_true] at hok)
   case skip.skip => simp only [eval, zO, zP] at hev; obtain ⟨rfl, rfl⟩ := hev; exact wpIn_skip (haft.1 _ g O a w rfl (.refl _ _ _ _) hst)
   case label.label => simp only [eval, zO, zP] at hev; obtain ⟨rfl, rfl⟩ := hev; exact wpIn_label (haft.1 _ g O a w rfl (.refl _ _ _ _) hst)
   case exit.exit id id' =>
     have := eq_of_beq hok; subst this;simp only [eval, zO, zP] at hev; obtain ⟨rfl, rfl⟩ := hev; exact wpIn_exit (haft.1 _ g O a w rfl (.refl _ _ _ _) hst)
   case goto.goto id id' =>
     have := eq_of_beq hok; subst this;simp only [eval, zO, zP] at hev; obtain ⟨rfl, rfl⟩ := hev; exact wpIn_goto (haft.1 _ g O a w rfl (.refl _ _ _ _) hst)
   case ret.ret => simp only [eval, zO, zP] at hev; obtain ⟨rfl, rfl⟩ := hev; exact wpIn_ret (haft.1 _ g O a w rfl (.refl _ _ _ _) hst)
   case region.ops id ops d l =>
     cases d <;> simp only [jW, Bool.false_eq_true] at hok;simp only [zA] at hok;refine wpIn_region ?_;have := jkD (ρ := ρ) (n := k) (ops := ops) (Q := Q) (pre := []) (os := ops.toList) hcf (by simp) hok.1 hok.2 hev hst haft;simpa [List.range_eq_range'] using this
   case region.draw id ops d l pairs =>
     cases d <;> simp only [jW, Bool.false_eq_true] at hok;simp only [eval] at hev;split at hev
     . rename_i q s1 ls h1;split at hev
       . rename_i hp;exact jgR hmx hcf (jgX n).1 hok h1 hp hev hst haft
       . cases hev
     . cases hev
   case seq.seq c1 c2 i1 i2 =>
     simp only [zA] at hok;simp only [eval] at hev;refine wpIn_seq ?_;split at hev
     . rename_i s1 h1;refine ih c1 i1 m top s .normal s1 hok.1 h1 ρ hρ k _ a w g O hst ⟨fun e g' O' a' w' he hk st => ?_, fun v g' O' a' w' v' hx => by cases hx⟩;simp only [vm, zO] at he;subst he;exact ih c2 i2 m top s1 x s' hok.2 hev ρ hρ k Q a' w' g' O' st (haft.of_goes hk)
     . rename_i hne;refine ih c1 i1 m top s x s' hok.1 hev ρ hρ k _ a w g O hst (haft.imp fun e a' w' hp hx hq => ?_)
       cases x with
       | normal => exact absurd hev (by intro h; exact hne _ h)
       | panic v => obtain ⟨ch, rfl⟩ := hp v rfl; exact hq
       | exit id => have := hx _ rfl; subst this; exact hq
       | goto id => have := hx _ rfl; subst this; exact hq
       | ret => have := hx _ rfl; subst this; exact hq
   case cond.cond cx c1 c2 ix i1 i2 =>
     simp only [zA] at hok;obtain ⟨hx, h1, h2⟩ := hok;simp only [eval] at hev;have hb : ∀ b ts', ix.get s.ts = some (.bool b, ts') -> a.eval cx = .bool b := by
       intro b ts' hg;have h3 := (jk (l := []) hx hg hst.len (by simpa using hst.rel)).1;exact ((h3.vals (.bool b, a.eval cx) (by simp)).bool_iff b).2 rfl
     split at hev
     . rename_i ts' hg; exact wpIn_cond_true (hb true ts' hg) (ih c1 i1 m top s x s' h1 hev ρ hρ k Q a w g O hst haft)
     . rename_i ts' hg; exact wpIn_cond_false (hb false ts' hg) (ih c2 i2 m top s x s' h2 hev ρ hρ k Q a w g O hst haft)
     . cases hev
   case block.block id c1 id' i1 =>
     simp only [zA] at hok;have := eq_of_beq hok.1; subst this;simp only [eval] at hev;refine wpIn_block ?_;split at hev
     . rename_i i s1 h1;split at hev
       . rename_i hi;subst hi;simp only [zO, zP] at hev;obtain ⟨rfl, rfl⟩ := hev;refine ih c1 i1 m top s (.exit i) s1 hok.2 h1 ρ hρ k _ a w g O hst ⟨fun e g' O' a' w' he hk st => ?_, fun v g' O' a' w' v' hx => by cases hx⟩;simp only [vm, zO] at he;subst he;simp only [Exit.inBlock, if_true];exact haft.1 _ g' O' a' w' rfl hk st
       . rename_i hi;simp only [zO, zP] at hev;obtain ⟨rfl, rfl⟩ := hev;refine ih c1 i1 m top s (.exit i) s1 hok.2 h1 ρ hρ k _ a w g O hst ⟨fun e g' O' a' w' he hk st => ?_, fun v g' O' a' w' v' hx => by cases hx⟩;simp only [vm, zO] at he;subst he;simp only [Exit.inBlock, hi, if_false];exact haft.1 _ g' O' a' w' rfl hk st
     . rename_i hne;refine ih c1 i1 m top s x s' hok.2 hev ρ hρ k _ a w g O hst (haft.imp fun e a' w' hp hx hq => ?_)
       cases x with
       | exit i => exact absurd hev (by intro h; exact hne _ _ h)
       | panic v => obtain ⟨ch, rfl⟩ := hp v rfl; exact hq
       | normal => have := hx _ rfl; subst this; exact hq
       | goto i => have := hx _ rfl; subst this; exact hq
       | ret => have := hx _ rfl; subst this; exact hq
   case scope.scope c1 i1 =>
     simp only [eval] at hev;refine Kl ?_;split at hev
     . cases hev
     . rename_i hne;refine ih c1 i1 m top s x s' hok hev ρ hρ k _ a w g O hst (haft.imp fun e a' w' hp hx hq => ?_)
       cases x with
       | goto i => exact absurd hev (by intro h; exact hne _ _ h)
       | panic v => obtain ⟨ch, rfl⟩ := hp v rfl; exact hq
       | normal => have := hx _ rfl; subst this; exact hq
       | exit i => have := hx _ rfl; subst this; exact hq
       | ret => have := hx _ rfl; subst this; exact hq
   case rangeFunc.rangeF g0 ps ca cb x0 ps' ia ib =>
     simp only [zA] at hok;obtain ⟨htop, hx, hps, hall, hca, hcb⟩ := hok;have hρ0 := hρ htop;subst hρ0;have hps := eq_of_beq hps;simp only [List.all_eq_true, decide_eq_true_eq] at hall;simp only [eval] at hev;split at hev
     . rename_i gf us ws ts' vU;split at hev
       . rename_i v σ1 wr1 hc;split at hev
         . rename_i L hσL;split at hev
           . cases hev
           . rename_i hst1;have hR0 := hst.rel;have h1 := (jk (l := []) hx vU hst.len (by simpa using hst.rel)).1;have hV0 : V g (.fn (.func gf) us ws) (a.eval g0) := h1.vals (.fn (.func gf) us ws, a.eval g0) (by simp);generalize hrv : a.eval g0 = rv at hV0
             cases hV0 with
             | fn _ _ _ firsts caps hl1 hv1 hf1 hl2 hv2 hf2 =>
             -- the two blocks
             let L0 : ILoop := ⟨0, { s.ts with t := s.ts.t.un, ds := [] }, ps', ia, ib, none, .none⟩
             let gA : Gh := g.fresh w.heap.size
             let wA : World := w.alloc (.deferred (some []))
             have hRA : R gA (w.heap.size :: O) (s.ts.roots a.tmps) (s.σ ++ [.defr]) wA :=
               (hR0.push (ky g) rfl).new (obr := .deferred (some [])) (ob := .defr) (fun _ => jF w _) ⟨[], rfl, by simp⟩
             have hGA : Grow O g w (w.heap.size :: O) gA wA := kH hR0 _;have hszA : wA.heap.size = w.heap.size + 1 := by simp [wA]
             let gB : Gh := gA.fresh wA.heap.size
             have hιA : ∀ (id b : Nat), g.ι[id]? = some (Blk.bk b) -> gB.ι[id]? = some (Blk.bk b) := by
               intro id b hb;have h2 := hGA.pre id b hb;simp only [gB, Gh.fresh];rw [zL (jg h2)]; exact h2
             have hVB : ∀ {y : IVal} {u : Value}, V g y u -> jA y u = [] -> V gB y u := fun hv ho => hv.mono hιA (fun _ _ _ h => h) (by rw [ho]; simp);have hgBC : gB.C = CR P := hst.code;have hwp : ∀ fn : FuncId, ∃ (l : Nat) (mark : List Deferred) (w₁ : World) (d : Deferred) (w₁' : World) (f : FuncId) (args : Array Value) (w₂ : World),
                 (Instr.enterLoop fn a.tmps ps ca cb (WF none).round).run P w = .ok (l, mark) w₁ /\ (resolve a.eval (rangeCall g0 l) 0).run P w₁ = .ok d w₁' /\ (∀ f', Target.leads P w₁' d.target d.args = some f' -> (WF none).fn f') /\
                 (invoke d.target d.args).run P w₁' = .ok (.enter f args) w₂ /\ ((WF none).depth.isSome = true -> 1 <= k) /\ CallsIn (WF none) (k - 1) P f args w₂ (rangePost (WF none) k P l Q { a with defers := mark ++ a.defers }) := by
               intro fn
               let r0 : Loop := { state := .ready, pending := none, fn := fn, tmps := a.tmps, params := ps, assign := ca, body := cb, defers := w.heap.size }
               let wB : World := wA.alloc (.loop r0)
               have hL0 : LoopR gB L0 r0 := by
                 refine ⟨rfl, by rw [hps], rfl, fun j p hp => ?_, rfl, fun p hp => ?_, m.n, hst.size, hall, ?_, ?_⟩
                 . simp only [L0, un_get, Option.map_eq_some_iff] at hp;obtain ⟨q, hq, rfl⟩ := hp;exact hst.len j q hq
                 . simp only [L0, jlg, List.mem_map] at hp;obtain ⟨q, hq, rfl⟩ := hp;refine ⟨hVB (V.un3 (hR0.vals (q.2, a.tmps.getD q.1 undef) ?_)) (za _ _), jlf _⟩;simp only [Ts.roots, List.mem_map]; exact ⟨q, hq, rfl⟩
                 . rw [hgBC]; show jW P ⟨m.n, s.ts.nv, s.ts.m⟩ false ca ia = true;rw [hst.sh.1, hst.sh.2]; exact hca
                 . rw [hgBC]; show jW P ⟨m.n, s.ts.nv, s.ts.m⟩ false cb ib = true;rw [hst.sh.1, hst.sh.2]; exact hcb
               have hRB : R gB (wA.heap.size :: w.heap.size :: O) (s.ts.roots a.tmps) ((s.σ ++ [.defr]) ++ [.loop L0]) wB :=
                 (hRA.push (ky gA) rfl).new (obr := .loop r0) (ob := .loop L0) (fun _ => ⟨r0, jF wA _, hL0⟩) ⟨[], rfl, by simp⟩
               have hGB : Grow O g w (wA.heap.size :: w.heap.size :: O) gB wB := hGA.trans (kH hRA _);have hlen : g.ι.length = s.σ.length := hR0.len;have hι0 : gB.ι[s.σ.length]? = some (Blk.bk w.heap.size) := by
                 simp only [gB, gA, Gh.fresh, <- hlen];rw [zS, zR (Nat.le_refl _)]; simp
               have hι1 : gB.ι[s.σ.length + 1]? = some (Blk.bk (w.heap.size + 1)) := by
                 simp only [gB, gA, Gh.fresh, <- hlen];rw [zS, zR (by omega)]; simp [hszA]
               have hσe : s.σ ++ [.defr, .loop L0] = (s.σ ++ [.defr]) ++ [.loop L0] := by simp
               obtain ⟨⟨gfn, q1, q2, q3⟩, hcalls⟩ := hcf.fn gf _ _ _ hc
               -- the arguments
               let rargs : Array Value := firsts ++ #[.func (.yield (w.heap.size + 1)) #[] #[]] ++ caps
               have hz : (us ++ [IVal.yl (s.σ.length + 1)] ++ ws).zip rargs.toList = us.zip firsts.toList ++ [(IVal.yl (s.σ.length + 1), Value.func (.yield (w.heap.size + 1)) #[] #[])] ++ ws.zip caps.toList := by
                 simp only [rargs, Array.toList_append];rw [List.zip_append (by simp; omega), List.zip_append (by simpa using hl1)];rfl
               have hRargs : R gB (wA.heap.size :: w.heap.size :: O) ((us ++ [IVal.yl (s.σ.length + 1)] ++ ws).zip rargs.toList ++ s.ts.roots a.tmps) (s.σ ++ [.defr, .loop L0]) wB := by
                 rw [hσe];refine jbc (fun p hp => ?_) hRB;rw [hz] at hp;have hfl : ∀ (xs : List IVal) (vs : Array Value), (∀ (i : Nat) x v, xs[i]? = some x -> vs[i]? = some v -> V g x v) -> (∀ x ∈ xs, yX x) -> p ∈ xs.zip vs.toList -> V gB p.1 p.2 /\ jA p.1 p.2 = [] := by
                   intro xs vs hv hf hp;obtain ⟨i, hi⟩ := jx hp;rw [List.getElem?_zip_eq_some] at hi;have hfx := hf p.1 (zM hi.1);have ho := jK hfx p.2;exact ⟨hVB (hv i p.1 p.2 hi.1 (by simpa using hi.2)) ho, ho⟩
                 rcases List.mem_append.1 hp with hp | hp
                 . rcases List.mem_append.1 hp with hp | hp
                   . exact hfl us firsts hv1 hf1 hp
                   . simp only [List.mem_singleton] at hp; subst hp;exact ⟨.yl _ _ hι1, rfl⟩
                 . exact hfl ws caps hv2 hf2 hp
               have hrl : (us ++ [IVal.yl (s.σ.length + 1)] ++ ws).length = rargs.toList.length := by
                 simp [rargs]; omega
               refine ⟨w.heap.size + 1, _, wB, { target := .fn (.func gf) caps, args := firsts ++ #[.func (.yield (w.heap.size + 1)) #[] #[]] }, wB, gf, rargs, wB, run_enterLoop_outer fn a.tmps ps ca cb, ?_, fun _ _ => trivial, ?_, fun h => by simp [WF, Fence.wide] at h, ?_⟩
               . simp [resolve, rangeCall, hrv, Deferred.ofValue]; rfl
               . simp [invoke, callFunc, q1, q2, q3, rargs]
               . refine KV ((hcalls gB _ rargs wB hgBC hrl hRargs.sub_own).mono ?_);rintro e w' ⟨g', O', v', rfl, hg, hR', hk⟩;obtain ⟨O'', hR'', hg''⟩ := hRargs.frame hg hR';have hι1' := hg''.pre _ _ hι1;obtain ⟨r3, hw3, hL3, hlt3⟩ := Yu hR'' hι1' hσL;have hR3 : R g' O'' (s.ts.roots a.tmps) σ1 w' := R.drops (l := [(v, v')]) hR'';obtain ⟨hRd, hGd⟩ := hR3.putObj (ob' := .dead) (x := .loop { r3 with state := .exhausted }) hι1' hσL (by simp) hlt3 (by rw [hw3]; simp) trivial (.inr rfl) rfl;have hbusy : r3.state ≠ .busy := by
                   rw [hL3.st]
                   match hh : L.st with
                   | 0 => simp [jm7]
                   | 1 => exact absurd hh hst1
                   | 2 => simp [jm7]
                   | (j + 3) => simp [jm7]
                 have hgr : Grow O g w O'' g' (w'.putObj (w.heap.size + 1) (.loop { r3 with state := .exhausted })) := (hGB.trans hg'').trans hGd;have hgoes : Goes g O s w g' O'' { ts := { s.ts with ds := s.σ.length :: s.ts.ds }, σ := σ1.set (s.σ.length + 1) .dead, wr := (s.σ.length + 1, false) :: (wr1 ++ s.wr) } (w'.putObj (w.heap.size + 1) (.loop { r3 with state := .exhausted })) := by
                   refine ⟨hgr, (s.σ.length + 1, false) :: wr1, by simp, ?_⟩;have := (((Keep.snoc s.σ .defr).trans (Keep.snoc _ (.loop L0))).trans (by rw [<- hσe]; exact hk)).trans (Keep.set (σ := σ1) (id := s.σ.length + 1) (ob := .dead) (rf := false) fun n _ _ _ => trivial);simpa using this
                 have hstand : Stand (CR P) m g' O'' { ts := { s.ts with ds := s.σ.length :: s.ts.ds }, σ := σ1.set (s.σ.length + 1) .dead, wr := (s.σ.length + 1, false) :: (wr1 ++ s.wr) } { a with defers := [{ target := .collected w.heap.size, args := #[] }] ++ a.defers } (w'.putObj (w.heap.size + 1) (.loop { r3 with state := .exhausted })) := by
                   exact ⟨hRd, hst.len, (hst.defs.mono hgr.pre).mark (hg''.pre _ _ hι0), hst.size, hst.sh, hgr.code.trans hst.code⟩
                 refine ⟨_, _, run_endLoop hw3 hbusy, ?_⟩;have hpend := hL3.pend;generalize w'.putObj (w.heap.size + 1) (.loop { r3 with state := .exhausted }) = w4 at hgoes hstand ⊢;rw [hpend];split at hev
                 . rename_i hpn;simp only [zO, zP] at hev;obtain ⟨rfl, rfl⟩ := hev;rw [hpn];exact haft.1 _ g' O'' _ _ rfl hgoes hstand
                 . rename_i x1 hpn;split at hev
                   . rename_i hj;simp only [zO, zP] at hev;obtain ⟨rfl, rfl⟩ := hev;obtain ⟨e', c', j1, j2, j3, j4⟩ := Vi (P := P) hj;rw [hpn, j2];exact j4 _ _ _ _ _ (haft.1 _ g' O'' _ _ j1 hgoes hstand)
                   . cases hev
             exact wpIn_rangeFunc fun fn _ => hwp fn
         . cases hev
       . cases hev
     . cases hev
   case loop.loop c1 i1 => exact wpIn_loop_rounds (n + 1) (il' c1 i1 m top s x s' hok hev ρ hρ k Q a w g O hst haft)
theorem jdz [Base] {m : Shape} {gfn : Func} {Rp : Ending -> World -> Prop} {x : IExit} {s' : St} (hx : (yz x).isSome = true)
   (hN : yz x = some none -> ∀ g' O' tmps' ms w', Goes g O s w g' O' s' w' -> R g' O' (s'.ts.roots tmps') s'.σ w' -> WT s'.ts tmps' -> MarksR g' s'.ts.ds ms -> LeavesInM (WF none) 0 P gfn tmps' Rp (ms ++ Base.B) .returning w')
   (hP : ∀ v, yz x = some (some v) -> ∀ g' O' tmps' ms w' v', Goes g O s w g' O' s' w' -> R g' O' ((v, v') :: s'.ts.roots tmps') s'.σ w' -> WT s'.ts tmps' -> MarksR g' s'.ts.ds ms -> LeavesInM (WF none) 0 P gfn tmps' Rp (ms ++ Base.B) (.panicking [{ v := v', recovered := false }]) w') :
   After C0 m g O s w x s' (bodyPostM (WF none) 0 P gfn Rp) := by
 refine ⟨fun e g' O' a' w' he k st => ?_, fun v g' O' a' w' v' hxv k r d wt => ?_⟩
 . obtain ⟨ms, e1, mr⟩ := st.defs
   cases x with
   | normal =>
     simp only [vm, zO] at he;subst he;show LeavesInM _ _ _ _ _ _ a'.defers _ _;rw [e1];exact hN rfl g' O' a'.tmps ms w' k st.rel st.len mr
   | ret =>
     simp only [vm, zO] at he;subst he;show LeavesInM _ _ _ _ _ _ a'.defers _ _;rw [e1];exact hN rfl g' O' a'.tmps ms w' k st.rel st.len mr
   | panic v => cases he
   | exit i => cases hx
   | goto i => cases hx
 . subst hxv;obtain ⟨ms, e1, mr⟩ := d;show LeavesInM _ _ _ _ _ _ a'.defers _ _;rw [e1];exact hP v rfl g' O' a'.tmps ms w' v' k r wt mr
theorem jpa {us vs ws : List IVal} {firsts args caps : List Value} (hl1 : us.length = firsts.length) (hl2 : vs.length = args.length)
   (hv1 : ∀ (i : Nat) x v, us[i]? = some x -> firsts[i]? = some v -> V g x v) (hf1 : ∀ x ∈ us, yX x) (hv2 : ∀ (i : Nat) x v, vs[i]? = some x -> args[i]? = some v -> V g x v) (hn2 : ∀ x ∈ vs, nt x = true)
   (hv3 : ∀ (i : Nat) x v, ws[i]? = some x -> caps[i]? = some v -> V g x v) (hf3 : ∀ x ∈ ws, yX x) :
   ∀ p ∈ (us ++ vs.map un2 ++ ws).zip (firsts ++ args ++ caps), V g p.1 p.2 /\ jA p.1 p.2 = [] := by
 have hz : (us ++ vs.map un2 ++ ws).zip (firsts ++ args ++ caps) = us.zip firsts ++ (vs.map un2).zip args ++ ws.zip caps := by
   rw [List.zip_append (by simp; omega), List.zip_append hl1]
 intro p hp;rw [hz] at hp;have hfl : ∀ (xs : List IVal) (vs : List Value), (∀ (i : Nat) x v, xs[i]? = some x -> vs[i]? = some v -> V g x v) -> (∀ x ∈ xs, yX x) -> p ∈ xs.zip vs -> V g p.1 p.2 /\ jA p.1 p.2 = [] := by
   intro xs vs hv hf hp;obtain ⟨i, hi⟩ := jx hp;rw [List.getElem?_zip_eq_some] at hi;exact ⟨hv i p.1 p.2 hi.1 hi.2, jK (hf p.1 (zM hi.1)) p.2⟩
 rcases List.mem_append.1 hp with hp | hp
 . rcases List.mem_append.1 hp with hp | hp
   . exact hfl us firsts hv1 hf1 hp
   . refine hfl _ args (fun i x v hx hv => ?_) (fun x hx => ?_) hp
     . simp only [List.getElem?_map, Option.map_eq_some_iff] at hx;obtain ⟨y, hy, rfl⟩ := hx;exact (hv2 i y v hy hv).un2
     . simp only [List.mem_map] at hx;obtain ⟨y, hy, rfl⟩ := hx;exact ⟨V5 y, by rw [jcc]; exact hn2 y hy⟩
 . exact hfl ws caps hv3 hf3 hp
theorem jgb {F : IProg} {n : Nat} (ih : yw P F n) (it : Q9 P F n) (ic' : yw P F (n + 1)) (hcf : CallOK P (CR P) (cfOf F n)) : Q9 P F (n + 1) := by
 intro _ c ic m s x s' hok hev hx gfn Rp a w g O hst hN hP;have haft := jdz (C0 := CR P) (m := m) hx hN hP;unfold vS at hok;split at hok
 . rename_i c1 c2 i1 i2;simp only [zA] at hok;simp only [eval] at hev;refine wpIn_seq ?_;split at hev
   . rename_i s1 h1;refine ih c1 i1 m true s .normal s1 hok.1 h1 none (fun _ => rfl) 0 _ a w g O hst ⟨fun e g' O' a' w' he hk st => ?_, fun v g' O' a' w' v' hx => by cases hx⟩;simp only [vm, zO] at he;subst he;exact it c2 i2 m s1 x s' hok.2 hev hx gfn Rp a' w' g' O' st (fun hm g2 O2 t2 ms w2 k2 => hN hm g2 O2 t2 ms w2 (hk.trans k2)) (fun v hm g2 O2 t2 ms w2 v' k2 => hP v hm g2 O2 t2 ms w2 v' (hk.trans k2))
   . rename_i hne;refine ih c1 i1 m true s x s' hok.1 hev none (fun _ => rfl) 0 _ a w g O hst (haft.imp fun e a' w' hp hx hq => ?_)
     cases x with
     | normal => exact absurd hev (by intro h; exact hne _ h)
     | panic v => obtain ⟨ch, rfl⟩ := hp v rfl; exact hq
     | exit id => have := hx _ rfl; subst this; exact hq
     | goto id => have := hx _ rfl; subst this; exact hq
     | ret => have := hx _ rfl; subst this; exact hq
 . rename_i ca cb l xo xs d c b;simp only [zA] at hok;obtain ⟨hok1, hok2⟩ := hok;split at hok1
   . rename_i id ops;unfold jgQ at hok1;split at hok1
     . rename_i o pre hrev;simp only [zA] at hok1;obtain ⟨hdf, hops, hdst, hdok⟩ := hok1;have hlist : ops.toList = pre.reverse ++ [o] := by rw [<- List.reverse_reverse ops.toList, hrev]; simp
       unfold jeU at hdf;split at hdf
       . rename_i k hk;simp only [zA, Option.isNone_iff_eq_none] at hdf;obtain ⟨hcal, hd0, hg0⟩ := hdf;split at hcal
         . rename_i r hr;simp only [zA] at hcal;obtain ⟨hxo, hxs⟩ := hcal;simp only [eval] at hev;split at hev
           . rename_i s1 h1;split at hev
             . rename_i g0 us ws ts1 hgx;split at hev
               . rename_i vs ts2 hga;split at hev
                 . rename_i hcond;obtain ⟨rfl, hnt, hds⟩ := hcond;split at hev
                   . rename_i x2 s2 h2;refine wpIn_seq (wpIn_region ?_);have hrange : List.range ops.size = List.range' ([] : List Oper).length pre.reverse.length ++ [pre.reverse.length] := by
                       rw [<- Array.length_toList, hlist];simp [List.range_eq_range', List.range'_concat]
                     rw [hrange];refine jce (ρ := none) (pre := []) (os := pre.reverse) (more := [o]) hcf (by rw [hlist]; rfl) hops hdst h1 hst ⟨fun e g1 O1 a1 w1 he hk1 st1 => ?_, fun v g' O' a' w' v' hx => by cases hx⟩;simp only [vm, zO] at he;subst he;have vU : ops[pre.reverse.length]? = some o := by rw [<- Array.getElem?_toList, hlist]; simp
                     -- what is read
                     obtain ⟨r1, t1⟩ := jk (l := []) hxo hgx st1.len (by simpa using st1.rel);obtain ⟨r2, t2, hvl⟩ := jX (l := [(.fn (.func d.g) us ws, a1.eval r)]) hxs hga t1 r1;have hVf : V g1 (.fn (.func d.g) us ws) (a1.eval r) := r2.vals (.fn (.func d.g) us ws, a1.eval r) (by simp);generalize hrv : a1.eval r = rv at hVf r2
                     cases hVf with
                     | fn _ _ _ firsts caps hl1 hv1 hf1 hl2 hv2 hf2 =>
                     let rargs : Array Value := firsts ++ k.args.map a1.eval ++ caps
                     let dd : Deferred := { target := .fn (.func d.g) caps, args := firsts ++ k.args.map a1.eval }
                     have hAR : ∀ p ∈ (us ++ vs.map un2 ++ ws).zip rargs.toList, V g1 p.1 p.2 /\ jA p.1 p.2 = [] := by
                       have := jpa (g := g1) (us := us) (vs := vs) (ws := ws) (firsts := firsts.toList) (args := k.args.toList.map a1.eval) (caps := caps.toList) (by simpa using hl1) (by simpa using hvl) (fun i x v hx hv => hv1 i x v hx (by simpa using hv)) hf1
                         (fun i x v hx hv => r2.vals (x, v) (List.mem_append_left _ (zM (List.getElem?_zip_eq_some.2 ⟨hx, hv⟩)))) (List.all_eq_true.1 hnt) (fun i x v hx hv => hv2 i x v hx (by simpa using hv)) hf2
                       simpa [rargs] using this
                     have hlen : (us ++ vs.map un2 ++ ws).length = rargs.toList.length := by
                       simp [rargs] at hvl ⊢; omega
                     have hrel2 : R g1 O1 (ts2.roots a1.tmps) s1.σ w1 := R.drops (l := [(IVal.fn (.func d.g) us ws, Value.func (.func d.g) firsts caps)]) (R.drops (l := vs.zip (k.args.toList.map a1.eval)) r2);have hsh : SameSh s1.ts ts2 := (SameSh.get hgx).trans (.getAll hga);have hds1 : s1.ts.ds = [] := by rw [<- hsh.2.2]; exact hds
                     have hbase : a1.defers = Base.B := by have := st1.defs; rw [hds1] at this; exact this.nil_iff
                     show wpOpsIn (WF none) 0 P ops _ [pre.reverse.length] a1 w1;have hexec : (execOp a1.eval o).run P w1 = .ok (.defer dd) w1 := by
                       simp only [execOp, hk, resolve, hr];show (Sem.run P (do let d' <- (do let dv <- Deferred.ofValue (a1.eval r) (k.args.map a1.eval); pure dv : Sem Deferred); pure (Next.defer d')) w1) = _;rw [hrv];simp [Deferred.ofValue, Result.andThen, dd]
                     simp only [wpOpsIn, vU];rw [if_pos (by simp [Region.wanted, hg0])];refine ⟨fun _ _ => trivial, ?_⟩;show Oper.uponIn _ _ _ _ _ _ _ ((Oper.semAt none a1.eval o).run P w1);rw [Oper.semAt_none, hexec, Oper.uponIn_defer, hd0];show cb.wpIn (WF none) 0 P (bodyPostM (WF none) 0 P gfn Rp) { a1 with defers := dd :: a1.defers } w1
                     -- the call that is owed
                     unfold yI at hev;split at hev
                     . rename_i mm σ1 hmm hshut;obtain ⟨m', rfl, hts', hm', gfd, q1, q2, q3, hdef⟩ := jlV ih hdok hev;have key : ∀ (g2 : Gh) (O2 : List Nat) (tmps2 : Array Value) (ms : List Deferred) (w2 : World) (u : FrameMode) (l : jH), u ≠ .run -> jdP l mm u -> Goes g1 O1 { s1 with ts := ts2 } w1 g2 O2 s2 w2 -> R g2 O2 (l ++ s2.ts.roots tmps2) s2.σ w2 -> WT s2.ts tmps2 -> MarksR g2 s2.ts.ds ms ->
                           (∀ v v', (v, v') ∈ l -> mm = some v -> u = .panicking [{ v := v', recovered := false }] -> l = [(v, v')]) -> (mm = none -> l = []) -> LeavesInM (WF none) 0 P gfn tmps2 Rp (ms ++ dd :: Base.B) u w2 := by
                         intro g2 O2 tmps2 ms w2 u l hu hmode hk2 hR2 hwt2 hms hone hnil;refine jcm (l := l ++ s2.ts.roots tmps2) hu s2.ts.ds s2.σ σ1 ms w2 hshut hms hR2 (fun w3 hR3 hG3 => ?_);have hAR2 : ∀ p ∈ (us ++ vs.map un2 ++ ws).zip rargs.toList, V g2 p.1 p.2 /\ jA p.1 p.2 = [] := fun p hp => by
                           obtain ⟨p1, p2⟩ := hAR p hp;exact ⟨p1.mono hk2.grow.pre hk2.grow.mono (by rw [p2]; simp) hk2.grow.zm, p2⟩
                         have hRc := jbc hAR2 hR3;have hmode' : jdP (l ++ s2.ts.roots tmps2) mm u := by
                           cases mm with
                           | none => exact hmode
                           | some v => obtain ⟨v', e1, e2⟩ := hmode; exact ⟨v', e1, List.mem_append_left _ e2⟩
                         refine ⟨hu, .inr ⟨fun h => by simp [WF, Fence.wide] at h, .func d.g, caps, d.g, rargs, rfl, ?_, fun _ _ => trivial, ?_⟩⟩
                         . simp [invoke, callFunc, q1, q2, q3, dd, rargs]
                         . refine CallsDIn.mono (hdef g2 O2 rargs w3 u _ (hk2.grow.code.trans st1.code) hlen hmode' hRc) ?_;rintro e u' w4 ⟨⟨v0, rfl⟩, g4, O4, wn, p1, p2, p3, p4, p5⟩;show LeavesInM (WF none) 0 P gfn tmps2 Rp Base.B (settle u') w4;have hgo : Goes g O s w g4 O4 s' w4 := by
                             refine ⟨((hk1.grow.trans hk2.grow).trans hG3).trans p1, ?_⟩;obtain ⟨n1, b1, b2⟩ := hk1.keep;obtain ⟨n2, b3, b4⟩ := hk2.keep;refine ⟨wn ++ ((s2.ts.ds.map fun id => (id, false)) ++ (n2 ++ n1)), ?_, ?_⟩
                             . rw [p3]; simp only; rw [b3]; simp only; rw [b1]; simp
                             . exact ((b2.trans b4).trans (Z8 _ _ _ hshut)).trans p4
                           have hwt4 : WT s'.ts tmps2 := by rw [hts']; exact hwt2
                           have hr4 : s'.ts.roots tmps2 = s2.ts.roots tmps2 := by rw [hts']; rfl
                           have hms4 : MarksR g4 s'.ts.ds [] := by rw [hts']; exact ⟨rfl, fun i id d h => by simp at h⟩
                           cases m' with
                           | none =>
                             simp only at p5;rw [p5];have hRl := R.drops (l := l) p2;exact hN rfl g4 O4 tmps2 [] w4 hgo (by rw [hr4]; exact hRl) hwt4 hms4
                           | some v =>
                             simp only at p5;rw [p5]
                             rcases hm' with hm' | hm'
                             . cases hm'
                             . subst hm';obtain ⟨v', rfl, e2⟩ := hmode;have := hone v v' e2 rfl rfl;subst this;exact hP v rfl g4 O4 tmps2 [] w4 v' hgo (by rw [hr4]; simpa using p2) hwt4 hms4
                       have hsz1 := st1.size;have hsh1 := st1.sh;have hco1 := st1.code;letI base' : Base := ⟨dd :: a1.defers⟩;have hst2 : Stand (CR P) m g1 O1 { s1 with ts := ts2 } { a1 with defers := dd :: a1.defers } w1 := by
                         refine ⟨hrel2, t2, ?_, hsz1, ⟨hsh.1.trans hsh1.1, hsh.2.1.trans hsh1.2⟩, hco1⟩;simp only [hds];exact DefsR.nil g1
                       refine it cb b m { s1 with ts := ts2 } x2 s2 hok2 h2 (by rw [hmm]; rfl) gfn Rp _ w1 g1 O1 hst2 (fun hm g2 O2 t2 ms w2 k2 rr wt mr => ?_) (fun v hm g2 O2 t2 ms w2 v' k2 rr hwt mr => ?_)
                       . rw [hmm] at hm;simp only [zO] at hm;subst hm;have := key g2 O2 t2 ms w2 .returning [] (by simp) rfl k2 (by simpa using rr) wt mr (fun v v' h => by cases h) (fun _ => rfl);show LeavesInM _ _ _ _ _ _ (ms ++ dd :: a1.defers) _ _;rw [hbase]; exact this
                       . rw [hmm] at hm;simp only [zO] at hm;subst hm;have := key g2 O2 t2 ms w2 (.panicking [{ v := v', recovered := false }]) [(v, v')] (by simp) ⟨v', rfl, by simp⟩ k2 (by simpa using rr) hwt mr (fun v0 v0' h _ _ => by simp at h; obtain ⟨rfl, rfl⟩ := h; rfl) (fun h => by cases h);show LeavesInM _ _ _ _ _ _ (ms ++ dd :: a1.defers) _ _;rw [hbase]; exact this
                     . cases hev
                   . cases hev
                 . cases hev
               . cases hev
             . cases hev
           . cases hev
         . cases hcal
       . cases hdf
     . cases hok1
   . cases hok1
 . rename_i cx c1 c2 ix i1 i2;simp only [zA] at hok;obtain ⟨hxo, h1, h2⟩ := hok;simp only [eval] at hev;have hb : ∀ b ts', ix.get s.ts = some (.bool b, ts') -> a.eval cx = .bool b := by
     intro b ts' hg;have h3 := (jk (l := []) hxo hg hst.len (by simpa using hst.rel)).1;exact ((h3.vals (.bool b, a.eval cx) (by simp)).bool_iff b).2 rfl
   split at hev
   . rename_i ts' hg; exact wpIn_cond_true (hb true ts' hg) (it c1 i1 m s x s' h1 hev hx gfn Rp a w g O hst hN hP)
   . rename_i ts' hg; exact wpIn_cond_false (hb false ts' hg) (it c2 i2 m s x s' h2 hev hx gfn Rp a w g O hst hN hP)
   . cases hev
 . exact ic' _ _ m true s x s' hok hev none (fun _ => rfl) 0 _ a w g O hst haft
theorem jdU {F : IProg} (hmx : P.follows .mixedOrders = true) (hF : FOK P F) : ∀ n, yw P F n /\ Q7 P F n /\ Q9 P F n := by
 intro n
 induction n with
 | zero => exact ⟨fun c ic m top s x s1 _ hev => (by simp [eval] at hev), fun c ic m top s x s1 _ hev => (by simp [eval] at hev), fun c ic m s x s1 _ hev => (by simp [eval] at hev)⟩
 | succ n ih =>
   obtain ⟨ih, il, it⟩ := ih;have hcf := jea hF @ih @it;have il' : Q7 P F (n + 1) := jho @ih @il;have ic' : yw P F (n + 1) := jei hmx @ih @il' hcf;exact ⟨@ic', @il', jgb @ih @it @ic' hcf⟩
theorem Yj {F : IProg} (hmx : P.follows .mixedOrders = true) (hF : FOK P F) (n : Nat) : CallOK P (CR P) (cfOf F n) := jea hF @(jdU hmx hF n).1 @(jdU hmx hF n).2.2
end Go.Idl
namespace Go.Idl
variable [Globs]
def jfC : Value -> Option IVal
 | .int k n => some (.int k n)
 | .bool b => some (.bool b)
 | .string s => some (.str s.data.toList)
 | .pointer none => some (.prim (.pointer none))
 | .nilIface => some (.prim .nilIface)
 | .nilFunc => some (.prim .nilFunc)
 | .map none => some (.prim (.map none))
 | .slice none 0 0 => some (.sl 0 true [])
 | _ => none
def jgV (P : Program) (T : TypeId) : Nat :=
 match P.underlying T with
 | some (.slice E) => match P.info? E with
   | some i => i.size
   | none => 0
 | _ => 0
def Y5 (P : Program) : Nat -> TypeId -> Option (List IVal)
 | 0, _ => none
 | n + 1, T =>
   match P.underlying T with
   | some (.int k) => some [.int k 0]
   | some .bool => some [.bool false]
   | some .string => some [.str []]
   | some (.pointer _) => some [.prim (.pointer none)]
   | some .unsafePointer => some [.prim (.pointer none)]
   | some (.slice _) => some [.sl (jgV P T) true []]
   | some (.map _ _) => some [.prim (.map none)]
   | some (.func _ _ _) => some [.prim .nilFunc]
   | some (.interface _) => some [.prim .nilIface]
   | some (.array len E) => match Y5 P n E with
     | some zs => some (J2 len zs)
     | none => none
   | some (.struct fs) => fs.toList.foldr (fun f acc => match Y5 P n f.type, acc with
     | some zs, some r => some (zs ++ r)
     | _, _ => none) (some [])
   | _ => none
def jiX (P : Program) (T : TypeId) : Bool :=
 match P.underlying T with
 | some (.struct _) => true
 | some (.array _ _) => true
 | _ => false
def jlS (P : Program) (T : Option TypeId) (v : Value) : Option IVal :=
 match v with
 | .slice none 0 0 => some (.sl (match T with | some T => jgV P T | none => 0) true [])
 | .agg cs => (match T with
   | some T => match Y5 P 16 T with
     | some zs => if Xi zs cs.toList then some zs else cs.toList.mapM jfC
     | none => cs.toList.mapM jfC
   | none => cs.toList.mapM jfC).map .agg
 | .tuple cs => if cs.isEmpty then some (.tup []) else none
 | v => jfC v
structure Cx where
 P : Program
 cand : List TypeId
 mv : Nat -> Bool
 pure : Bool
 take : Bool
 ref : Bool
 draw : Bool
def jn8 : Value -> Option IVal
 | .iface t (.agg vs) => match vs.toList with
   | [.pointer (some a)] => some (.iface t (.agg [.prim (.pointer (some a))]))
   | _ => none
 | .iface t (.pointer (some a)) => some (.iface t (.prim (.pointer (some a))))
 | v => jfC v
def Cx.opd (c : Cx) (T : Option TypeId) : Operand -> Option Opd
 | .tmp j => some (if c.mv j then .m j else .t j)
 | .const v => (jlS c.P T v).map .c
 | .func f => some (.c (.fn (.func f) [] []))
 | .global k => match Globs.vals k with
   | some vs => (vs.mapM jn8).map fun cs => .c (.pv false cs 0)
   | none => none
def kz : Opd -> Opd
 | .m i => .t i
 | x => x
def Cx.opds (c : Cx) (l : List (Operand × Option TypeId)) : Option (List Opd) := l.mapM fun p => c.opd p.2 p.1
def jmt (P : Program) (T : TypeId) : Option Nat := if jiX P T then (P.info? T).map (·.size) else none
def jiY : Operand -> Option Nat
 | .const (.pointer none) => some 0
 | .const .nilIface => some 1
 | .const .nilFunc => some 2
 | .const (.map none) => some 3
 | _ => none
def jkc (P : Program) (T : TypeId) : Option (Nat × TypeId) :=
 match P.underlying T with
 | some (.map K E) => match P.underlying K with
   | some (.int _) => some (0, E)
   | some .string => some (1, E)
   | some .bool => some (2, E)
   | _ => none
 | _ => none
def jpA (P : Program) (T : TypeId) : Option IVal :=
 match Y5 P 16 T with
 | some zs => if jiX P T then some (.agg zs) else zs[0]?
 | none => none
def jp0 (P : Program) : TypeId := match P.cutTypes.find? (·.1 == "internal/reflectlite.rtype") with
 | some (_, t) => t
 | none => 0
def jpN (P : Program) (t : TypeId) : Bool := !P.packed t && (!P.holdsPacked P.depth t && !P.methodsOfAPack P.depth t)
def ji8 (P : Program) (cand : List TypeId) (f : TypeId -> TypeId -> Option Bool) : List ((TypeId × TypeId) × Bool) :=
 cand.flatMap fun t => cand.filterMap fun u => match f u t with
   | some b => some ((t, u), b)
   | none => none
def jiR (P : Program) (cand : List TypeId) (name : String) : Option ExtK :=
 let G := P.globals.size
 let rt := jp0 P
 let cand := cand.filter (jpN P)
 if name == "internal/reflectlite.TypeOf" then some (.typeOf rt G)
 else if name == "(internal/reflectlite.Value).Type" then some (.vType rt G)
 else if name == "(internal/reflectlite.Value).IsNil" then some (.vIsNil G (cand.filter fun t => tyN P t none))
 else if name == "(internal/reflectlite.Value).Elem" then some (.vElem G (cand.filterMap fun t => match jcQ P t with
   | some e => (match Xr P e with | some k => if tyN P t none then some (t, e, k) else none | none => none)
   | none => none))
 else if name == "(internal/reflectlite.rtype).Elem" then some (.rElem rt G (cand.filterMap fun t => (jcQ P t).map fun e => (t, e)))
 else if name == "(internal/reflectlite.rtype).Comparable" then some (.rCmp G (cand.filterMap fun t => (P.info? t).map fun i => (t, i.comparable)))
 else if name == "(internal/reflectlite.rtype).Implements" then some (.rImpl G (ji8 P cand fun u t => if Xr P u == some 20 then jc4 P u t else none))
 else if name == "(internal/reflectlite.rtype).AssignableTo" then some (.rAsg G (ji8 P cand fun u t => match daP P u t, jc4 P u t with
   | some a, some b => some (a || b)
   | _, _ => none))
 else if name == "(*internal/abi.Type).Kind" then some (.aKind G (cand.filterMap fun t => (Xr P t).map fun k => (t, k)))
 else if name == "internal/bytealg.CountString" then some .cntS
 else if name == "internal/bytealg.IndexByteString" then some .idxBS
 else if name == "internal/race.Disable" then some (.mk0 true)
 else if name == "internal/race.Enable" then some (.mk0 false)
 else if name == "internal/race.Acquire" then some (.mk1 true)
 else if name == "internal/race.ReleaseMerge" then some (.mk1 false)
 else none
def jmo (name : String) : Option MemK :=
 [IntKind.i32, .i64, .u32, .u64].findSome? fun k => [MemK.aload k, .astore k, .acas k, .aadd k, .mclone].find? fun m => kW m == some name
def jkR (P : Program) (t : TypeId) (name : String) : Option RecvK := match P.info? t with
 | some i => match i.methods.find? (fun m => m.name == name) with
   | some m => match m.path.toList with
     | [] => some .same
     | [s] => match P.underlying s.struct with
       | some (.struct fs) => match fs[s.index]? with
         | some fd => some (.fld fd.offset (jmt P fd.type))
         | none => none
       | _ => none
     | _ => none
   | none => none
 | none => none
def Cx.extCall (c : Cx) (f : FuncId) (k : Call) : Option IOp :=
 let tys := k.argTypes.toList.map some
 match P_name c.P f, c.opds (k.args.toList.zip (tys ++ List.replicate k.args.size none)) with
 | some name, some xs =>
   if name == "internal/reflectlite.ValueOf" then (match xs with
     | [x] => some (.vOf c.P.globals.size (c.cand.filterMap fun t => (Xr c.P t).map fun n => (t, n)) x)
     | _ => none)
   else if name == "(internal/reflectlite.Value).Set" then (match xs with
     | [x, y] => some (.vSet c.P.globals.size (c.cand.filter fun t => !c.P.packed t && tyN c.P t none) x y)
     | _ => none)
   else match jmo name with
     | some m => some (.mem m xs)
     | none => (jiR c.P c.cand name).map fun e => .pur (.ext e) xs
 | _, _ => none
where P_name (P : Program) (f : FuncId) : Option String := match P.funcs[f]? with
 | some fn => if fn.body.isNone then some fn.name else none
 | none => none
def Cx.invCall (c : Cx) (r : Operand) (name : String) (k : Call) : Option IOp :=
 let tys := k.argTypes.toList.map some
 let P := c.P
 let all := c.cand.filterMap fun t => match mfn P t name, jkR P t name with
   | some f, some rk => if VI P t name f rk then (P.funcs[f]?).map fun fn => (t, f, rk, fn.body.isNone, fn.name) else none
   | _, _ => none
 match c.opd none r, c.opds (k.args.toList.zip (tys ++ List.replicate k.args.size none)) with
 | some x, some xs =>
   let fns := all.filter fun p => !p.2.2.2.1
   if fns.isEmpty then
     some (.pur (.invX (all.filterMap fun p => (jiR P c.cand p.2.2.2.2).map fun e => (p.1, e, p.2.2.1))) (x :: xs))
   else some (.inv (fns.map fun p => (p.1, p.2.1, p.2.2.1)) x xs)
 | _, _ => none
def Cx.call (c : Cx) (o : Oper) (k : Call) : Option IOp :=
 let tys := k.argTypes.toList.map some
 match k.callee with
 | .invoke r name => c.invCall r name k
 | .value (.func f) => match c.extCall f k with
   | some io => some io
   | none => match c.opds (k.args.toList.zip (tys ++ List.replicate k.args.size none)) with
     | some xs => some (if c.pure then .callp f xs else .call f xs)
     | none => none
 | .value r => match c.opd none r, c.opds (k.args.toList.zip (tys ++ List.replicate k.args.size none)) with
   | some x, some xs => some (.callv x xs)
   | _, _ => none
 | .builtin .len => match k.args.toList, k.argTypes[0]? with
   | [r], some T => match (c.opd (some T) r).map kz, c.P.underlying T with
     | some x, some .string => some (.lenS x)
     | some x, some (.slice _) => some (.lenL x)
     | some x, some (.map _ _) => some (.lenM x)
     | _, _ => none
   | _, _ => none
 | .builtin .cap => match k.args.toList, k.argTypes[0]? with
   | [r], some T => match (c.opd (some T) r).map kz, c.P.underlying T with
     | some x, some (.slice _) => some (.pur .cap0 [x])
     | _, _ => none
   | _, _ => none
 | .builtin .clear => match k.args.toList, k.argTypes[0]? with
   | [r], some T => match (c.opd (some T) r).map kz, kU c.P T with
     | some x, some (E, _) => (Y5 c.P 16 E).map fun zs => .clear zs x
     | _, _ => none
   | _, _ => none
 | .builtin .max => match c.opds (k.args.toList.zip (tys ++ List.replicate k.args.size none)) with
   | some xs => some (.minmax true xs)
   | none => none
 | .builtin .min => match c.opds (k.args.toList.zip (tys ++ List.replicate k.args.size none)) with
   | some xs => some (.minmax false xs)
   | none => none
 | .builtin .append => match k.args.toList, k.argTypes.toList with
   | [rx, ry], [T, U] => match c.opd (some T) rx, c.opd (some U) ry, kU c.P T with
     | some x, some y, some (E, i) => match c.P.underlying U with
       | some (.int _) => (Y5 c.P 16 E).map fun zs => .mem (.extN i.size i.bytes zs) [x, y]
       | _ => some (.append c.ref (match c.P.underlying U with | some .string => true | _ => false) i.size i.bytes x y)
     | _, _, _ => none
   | _, _ => none
 | _ => none
def Cx.parts (c : Cx) (place : Nat -> Option (Nat × Nat)) (ty : Nat -> Option TypeId) : List (Nat × Operand) -> Option (List (Nat × Nat × Opd))
 | [] => some []
 | p :: ps => match place p.1, c.opd (ty p.1) p.2, c.parts place ty ps with
   | some q, some x, some r => some ((q.1, q.2, x) :: r)
   | _, _, _ => none
def Cx.op (c : Cx) (o : Oper) : Option IOp :=
 let P := c.P
 match o.op with
 | .move r => (c.opd (some o.type) r).map .mv
 | .assign r => (c.opd (some o.type) r).map .mv
 | .pick a b d => match c.opd none a, c.opd (some o.type) b, c.opd (some o.type) d with
   | some a, some b, some d => some (.pick a (kz b) (kz d))
   | _, _, _ => none
 | .alloc T => (Y5 P 16 T).map .alloc
 | .box T r => (c.opd (some T) r).map (if c.ref then .box else .boxv)
 | .build T ps => match Y5 P 16 T, Kq P T with
   | some zs, some (_, place) =>
     (c.parts place (fun k => match P.underlying T with | some (.array _ E) => some E | some (.struct fs) => (fs[k]?).map (·.type) | _ => none) ps.toList).map (.build zs)
   | _, _ => none
 | .buildSlice T _ ps => match kU P T with
   | some (E, i) => (c.opds (ps.toList.map fun p => (p.2, some E))).map (if c.ref then .buildRs i.size else .buildSl i.size)
   | none => none
 | .load T r => (c.opd none r).map (.load c.take (jmt P T))
 | .store T rx ry => match c.opd none rx, c.opd (some T) ry, P.info? T with
   | some x, some y, some i => some (.store i.size x y)
   | _, _, _ => none
 | .nilCheck r => (c.opd none r).map .nilCheck
 | .binOp op T rx ry _ => match jiY ry, jiY rx with
   | some k, _ => (c.opd none rx).map (.isnil (op == .neq) k)
   | none, some k => (c.opd none ry).map (.isnil (op == .neq) k)
   | none, none => match Yy rx ry with
     | some r => (c.opd (some T) r).map fun x => .pur (.isnilS (op == .neq)) [kz x]
     | none => match c.opd (some T) rx, c.opd (some T) ry, P.underlying T with
     | some x, some y, some .bool => some (.eqb (op == .neq) x y)
     | some x, some y, some (.int _) => some (.bin op x y)
     | some x, some y, some .string => some (.bin op x y)
     | some x, some y, some (.struct _) => (JY P 1000 T).map fun ks => .pur (.eqa (op == .neq) ks) [x, y]
     | some x, some y, some (.array _ _) => (JY P 1000 T).map fun ks => .pur (.eqa (op == .neq) ks) [x, y]
     | some x, some y, some (.interface _) => some (.pur (.eqi (op == .neq) (c.cand.filterMap fun t => match P.info? t, P.underlying t with
       | some i, some (.int _) => if i.comparable then some (t, 0) else none
       | some i, some .string => if i.comparable then some (t, 1) else none
       | _, _ => none)) [x, y])
     | _, _, _ => none
 | .unOp op _ r => (c.opd none r).map (.un op)
 | .convert S T r => match c.opd (some S) r, P.underlying S, P.underlying T with
   | some x, some (.int _), some (.int k) => some (.conv (.int k) x)
   | some x, some .string, some .string => some (.conv .same x)
   | some x, some .string, some (.slice _) => some (.conv .bytes x)
   | some x, some (.slice _), some .string => some (.pur .text [x])
   | some x, some (.int _), some .string => some (.pur .rune [x])
   | some x, some (.pointer _), some .unsafePointer => some (.mem .uptr [x])
   | _, _, _ => none
 | .makeInterface T r => (c.opd (some T) r).map (.mkIface T)
 | .makeFunc (.method n) rs qs => match rs.toList, qs.toList with
   | [r], [] => (c.opd none r).map fun x => .pur (.mkM n) [x]
   | _, _ => none
 | .makeFunc f rs qs => match c.opds (rs.toList.map fun r => (r, none)), c.opds (qs.toList.map fun r => (r, none)) with
   | some xs, some ys => some (.mkFn f xs ys)
   | _, _ => none
 | .makeMap _ _ => some .mkMap
 | .makeSlice T rx ry => match c.opd none rx, c.opd none ry, kU P T with
   | some x, some y, some (E, i) => (Y5 P 16 E).map fun zs => .mkSl c.ref i.size i.bytes zs (kz x) (kz y)
   | _, _, _ => none
 | .slice T r lo hi mx => match c.opd (some T) r, lo.mapM (c.opd none), hi.mapM (c.opd none), mx.mapM (c.opd none), P.underlying T with
   | some x, some l, some h, _, some .string => some (.sliceS x (l.map kz) (h.map kz))
   | some x, some l, some h, some m, some (.slice _) => some (.sliceL (jgV P T) x (l.map kz) (h.map kz) (m.map kz))
   | _, _, _, _, _ => none
 | .fieldAddr T r k => match c.opd none r, P.underlying T with
   | some x, some (.struct fs) => (fs[k]?).map fun f => .fieldAddr f.offset x
   | _, _ => none
 | .field T r k => match c.opd none r, P.underlying T with
   | some x, some (.struct fs) => (fs[k]?).map fun f => .field f.offset (jmt P f.type) x
   | _, _ => none
 | .indexAddr T rx ry => match (c.opd (some T) rx).map kz, c.opd none ry, P.underlying T with
   | some x, some y, some (.slice _) => some (.idxAddr (jgV P T) x y)
   | some x, some y, some (.array len E) => (P.info? E).map fun i => .idxAddrA len i.size x y
   | _, _, _ => none
 | .index T rx ry => match c.opd (some T) rx, c.opd none ry, P.underlying T with
   | some x, some y, some .string => some (.idxS x y)
   | some x, some y, some (.array len E) => (P.info? E).map fun i => .idxA len i.size (jmt P E) x y
   | _, _, _ => none
 | .lookup T rx ry ok => match c.opd none rx, c.opd none ry, jkc P T with
   | some x, some y, some (kk, E) => (jpA P E).map fun z => .lookup kk z ok x y
   | _, _, _ => none
 | .mapUpdate T rx ry rz => match c.opd none rx, c.opd none ry, jkc P T with
   | some x, some y, some (kk, E) => (c.opd (some E) rz).map (.mapSet kk x y)
   | _, _, _ => none
 | .insert T rx ry rz => match c.opd none rx, c.opd none ry, jkc P T with
   | some x, some y, some (kk, E) => (c.opd (some E) rz).map (.mapSet kk x y)
   | _, _, _ => none
 | .typeAssert r _ A ok => match c.opd none r, P.underlying A with
   | some x, some (.interface want) => some (.pur (.tyI (c.cand.filter fun t => XN P want t true) (c.cand.filter fun t => XN P want t false) ok) [x])
   | some x, some _ => (jpA P A).map fun z => .pur (.tyC A ok z) [x]
   | _, _ => none
 | .extract r i => (c.opd none r).map fun x => .extract (if c.draw then kz x else x) i
 | .call k => c.call o k
 | .panic r => (c.opd none r).map .panic
 | .range T r => match P.underlying T with
   | some .string => (c.opd (some T) r).map fun x => .mem .iter [x]
   | _ => none
 | .next r true => (c.opd none r).map fun x => .mem .next [x]
 | _ => none
def ji7 (ops : List Oper) (j : Nat) : Bool := ops.any fun o => o.dst == some j && (match o.op with | .assign _ => false | _ => true)
def jhf (ops : List Oper) (i j : Nat) : Bool := (ops.drop i).any fun o => o.dst == some j
def XC (ops : List Oper) (d : Option Nat) : Bool := match d with
 | some d => ops.any fun o => match o.op with
   | .call c => (match c.callee, c.args.toList with | .builtin .append, (.tmp t) :: _ => t == d | _, _ => false)
   | _ => false
 | none => false
def jkS (refs : Nat -> Bool) (ops : List Oper) (T : TypeId) : Bool := ops.any fun o => match o.op, o.dst with
   | .call c, some e => refs e && (match c.callee, c.argTypes[0]? with | .builtin .append, some t => t == T | _, _ => false)
   | _, _ => false
def jc6 (ops : List Oper) (i : Nat) (T : TypeId) : Bool := (ops.drop i).any fun o => match o.op with | .store T' _ _ => T == T' | _ => false
structure Mode where
 refs : Nat -> Bool
 cand : List TypeId
 vars : Bool
 pure : Bool
 ends : Bool
 take : Bool
 draw : Bool
 once : Bool := false
def jmT (ops : List Oper) (j : Nat) : Nat := ops.foldl (fun n o => n + (o.op.operands.toList.filter fun x => match x with | .tmp t => t == j | _ => false).length) 0
def jmp (ops : List Oper) (j : Nat) : Option String := ops.findSome? fun o => if o.dst == some j then (match o.op with
 | .makeFunc (.method n) _ _ => some n
 | _ => none) else none
def Cx.op' (c : Cx) (ops : List Oper) (o : Oper) : Option IOp := match o.op with
 | .nilCheck (.tmp j) => match jmp ops j with
   | some n => (c.opd none (.tmp j)).map fun x => .pur (.nilM (c.cand.filter fun t => jfi c.P t n) n) [kz x]
   | none => c.op o
 | _ => c.op o
def jjg (P : Program) (md : Mode) (ops : List Oper) (i : Nat) (o : Oper) : Option IOper :=
 let c : Cx := { P := P, cand := md.cand, mv := fun j => o.guard.isNone && (!md.once || decide (jmT ops j <= 1)) && (ji7 ops j || (md.vars && (md.ends || (jhf ops i j || (match o.op with | .move _ => XC ops o.dst | _ => false))))), pure := md.pure,
                 ref := (match o.dst with | some d => md.refs d | none => false), draw := md.draw, take := md.take && (match o.op with | .load T _ => !(jkS md.refs ops T) && (jc6 ops i T || XC ops o.dst) && !(jj9 ((P.underlying T).getD .invalid)) | _ => false) }
 match c.op' ops o with
 | some io => some { dst := o.dst, op := io, guard := match o.guard with
     | some (j, b) => match ops[j]? with
       | some g => match g.dst with
         | some t => some (t, b)
         | none => none
       | none => none
     | none => none }
 | none => none
def jmQ (P : Program) (md : Mode) (ops : List Oper) : Option (List IOper) :=
 (ops.zipIdx).mapM fun p => jjg P md ops p.2 p.1
def jkE (A : List (List Nat)) (l : List (Nat × IOper)) : List (Nat × Nat) :=
 l.flatMap fun p => if jz p.2.op && y5 p.2.op then
   l.filterMap fun q => if jz q.2.op || (A.getD q.1 []).contains p.1 || (A.getD p.1 []).contains q.1 then none else some (p.1, q.1)
 else if Xj p.2.op then
   l.filterMap fun q => if Xj q.2.op && !(Nat.beq p.1 q.1) && !((A.getD q.1 []).contains p.1) && !((A.getD p.1 []).contains q.1) then some (p.1, q.1) else none
 else []
def jpy (ops : Array Oper) : Nat -> List (Nat × IOper) -> List Nat -> List (Nat × IOper)
 | 0, _, _ => []
 | n + 1, l, done => match (match l.find? fun p => (yd p).isSome && (qK ops p.1).isEmpty with
     | some p => some p
     | none => match l.find? fun p => !(vJ p.2.op) && (jz p.2.op && (qK ops p.1).all fun d => done.contains d) with
     | some p => some p
     | none => match l.find? fun p => !(vJ p.2.op) && (qK ops p.1).all fun d => done.contains d with
       | some p => some p
       | none => l.find? fun p => (qK ops p.1).all fun d => done.contains d) with
   | some p => p :: jpy ops n (l.filter fun q => !(Nat.beq q.1 p.1)) (p.1 :: done)
   | none => []
def jod (ops : Array Oper) (l : List (Nat × IOper)) : List (Nat × IOper) :=
 if (l.all fun p => (qK ops p.1).all fun d => Nat.blt d p.1) && pwB (fun p q => (!(vJ p.2.op) && (jz p.2.op || (jz q.2.op || (Xj p.2.op && Xj q.2.op)))) || ((jjt ops.toList []).getD q.1 []).contains p.1) l then l else jpy ops l.length l []
def Qx (P : Program) (n : Shape) (ops : Array Oper) (md : Mode) : Option ICode :=
 match jmQ P md ops.toList with
 | some l =>
   let l' := jod ops (l.zipIdx.map fun p => (p.2, p.1))
   let pairs := jkE (jjt ops.toList []) (Xy 0 l')
   if Ql P n ops l' pairs then some (.draw l' pairs) else none
 | none => none
def jiU (refs : Nat -> Bool) (ops : Array Oper) : Bool := ops.any fun o => match o.op with
 | .call c => (match c.callee with | .builtin .append => !(match o.dst with | some d => refs d | none => false) | _ => false)
 | _ => false
def JW (P : Program) (n : Shape) (ops : Array Oper) (md : Mode) : Option ICode :=
 match Qx P n ops { md with pure := false } with
 | some c => some c
 | none => match (if jiU md.refs ops then none else Qx P n ops { md with pure := false, take := false }) with
   | some c => some c
   | none => match (if jiU md.refs ops then none else Qx P n ops { md with pure := false, take := false, vars := false }) with
     | some c => some c
     | none => match Qx P n ops { md with pure := true } with
       | some c => some c
       | none => match Qx P n ops { md with pure := true, take := false } with
         | some c => some c
         | none => Qx P n ops { md with pure := true, take := false, vars := false }
def V0 (P : Program) (n : Shape) (ops : Array Oper) (md : Mode) : Option ICode :=
 match JW P n ops md with
 | some c => some c
 | none => JW P n ops { md with once := true }
def jcu (P : Program) (n : Shape) (ops : Array Oper) (md : Mode) : Option ICode :=
 match jmQ P md ops.toList with
 | some l => if y9 P ops ops.toList l && J1 n.n l then some (.ops l) else none
 | none => none
def jaL : Code -> Bool
 | .ret => true
 | .seq a _ => jaL a
 | _ => false
def kA (P : Program) (n : Shape) (cand : List TypeId) (refs : Nat -> Bool) (top fin : Bool) : Code -> Option ICode
 | .skip => some .skip
 | .region _ ops false => match jcu P n ops { refs := refs, cand := cand, vars := true, pure := false, ends := fin, take := true, draw := false } with
   | some c => some c
   | none => some .stuck
 | .region _ ops true => match V0 P n ops { refs := refs, cand := cand, vars := true, pure := false, ends := fin, take := true, draw := true } with
   | some c => some c
   | none => some .stuck
 | .seq a b => match kA P n cand refs top (jaL b) a, kA P n cand refs top fin b with
   | some x, some y => some (.seq x y)
   | _, _ => none
 | .cond c a b => match (Cx.mk P [] (fun _ => false) false false false false).opd none c, kA P n cand refs top fin a, kA P n cand refs top fin b with
   | some z, some x, some y => if jl z c then some (.cond z x y) else some .stuck
   | _, _, _ => some .stuck
 | .block id c => (kA P n cand refs top false c).map (.block id)
 | .loop c => (kA P n cand refs top false c).map .loop
 | .exit id => some (.exit id)
 | .scope c => (kA P n cand refs top fin c).map .scope
 | .label l => some (.label l)
 | .goto l => some (.goto l)
 | .ret => some .ret
 | .rangeFunc g ps a b => match (Cx.mk P [] (fun _ => false) false false false false).opd none g, kA P n cand refs false false a, kA P n cand refs false false b with
   | some z, some x, some y => if top && (jl z g && (ps.toList.all fun p => decide (p < n.n))) then some (.rangeF z ps.toList x y) else some .stuck
   | _, _, _ => some .stuck
 | _ => some .stuck
theorem yU {P : Program} {n : Shape} {ops : Array Oper} {md : Mode} {c : ICode} (h : Qx P n ops md = some c) : ∃ l pairs, c = .draw l pairs /\ Ql P n ops l pairs = true := by
 unfold Qx at h;split at h
 . simp only at h;split at h
   . rename_i hok;simp only [zO] at h;exact ⟨_, _, h.symm, hok⟩
   . cases h
 . cases h
theorem KP {P : Program} {n : Shape} {ops : Array Oper} {md : Mode} {c : ICode} (h : JW P n ops md = some c) : ∃ l pairs, c = .draw l pairs /\ Ql P n ops l pairs = true := by
 unfold JW at h;split at h
 . rename_i h1; cases h; exact yU h1
 split at h
 . rename_i h1; cases h;split at h1
   . cases h1
   . exact yU h1
 split at h
 . rename_i h1; cases h;split at h1
   . cases h1
   . exact yU h1
 split at h
 . rename_i h1; cases h; exact yU h1
 split at h
 . rename_i h1; cases h; exact yU h1
 . exact yU h
theorem jal {P : Program} {n : Shape} {ops : Array Oper} {md : Mode} {c : ICode} (h : V0 P n ops md = some c) : ∃ l pairs, c = .draw l pairs /\ Ql P n ops l pairs = true := by
 unfold V0 at h;split at h
 . rename_i h1; cases h; exact KP h1
 . exact KP h
theorem zk {P : Program} {n : Shape} {top : Bool} (c : Code) : jW P n top c .stuck = true := by cases c <;> simp only [jW]
theorem jak {P : Program} {n : Shape} {cand : List TypeId} {refs : Nat -> Bool} : ∀ {c : Code} {top fin : Bool} {ic : ICode}, kA P n cand refs top fin c = some ic -> jW P n top c ic = true := by
 intro c
 induction c with
 | skip => intro top fin ic h; simp only [kA, zO] at h; subst h; rfl
 | region id ops d =>
   intro top fin ic h
   cases d with
   | false =>
     simp only [kA] at h;split at h
     . rename_i h0;simp only [jcu] at h0;split at h0
       . split at h0
         . rename_i hok;simp only [zO] at h0 h;subst h0; subst h;exact hok
         . cases h0
       . cases h0
     . simp only [zO] at h; subst h; exact zk _
   | true =>
     simp only [kA] at h;split at h
     . rename_i h0;obtain ⟨l, pairs, rfl, hok⟩ := jal h0;simp only [zO] at h;subst h;exact hok
     . simp only [zO] at h; subst h; exact zk _
 | seq a b iha ihb =>
   intro top fin ic h;simp only [kA] at h;split at h
   . rename_i h1 h2;simp only [zO] at h;subst h;simp [jW, iha h1, ihb h2]
   . cases h
 | cond z a b iha ihb =>
   intro top fin ic h;simp only [kA] at h;split at h
   . rename_i h1 h2 h3;split at h
     . rename_i h4;simp only [zO] at h;subst h;simp [jW, iha h2, ihb h3, h4]
     . simp only [zO] at h; subst h; exact zk _
   . simp only [zO] at h; subst h; exact zk _
 | block id c ih =>
   intro top fin ic h;simp only [kA, Option.map_eq_some_iff] at h;obtain ⟨x, h1, rfl⟩ := h;simp [jW, ih h1]
 | loop c ih =>
   intro top fin ic h;simp only [kA, Option.map_eq_some_iff] at h;obtain ⟨x, h1, rfl⟩ := h;simp [jW, ih h1]
 | scope c ih =>
   intro top fin ic h;simp only [kA, Option.map_eq_some_iff] at h;obtain ⟨x, h1, rfl⟩ := h;simp [jW, ih h1]
 | exit id => intro top fin ic h; simp only [kA, zO] at h; subst h; simp [jW]
 | label l => intro top fin ic h; simp only [kA, zO] at h; subst h; rfl
 | goto l => intro top fin ic h; simp only [kA, zO] at h; subst h; simp [jW]
 | ret => intro top fin ic h; simp only [kA, zO] at h; subst h; rfl
 | rangeFunc f ps a b iha ihb =>
   intro top fin ic h;simp only [kA] at h;split at h
   . rename_i h1 h2 h3;split at h
     . rename_i h4;simp only [zO] at h;subst h;simp only [zA] at h4;simp [jW, iha h2, ihb h3, h4.1, h4.2.1];simpa using h4.2.2
     . simp only [zO] at h; subst h; exact zk _
   . simp only [zO] at h; subst h; exact zk _
 | refuse w => intro top fin ic h; simp only [kA, zO] at h; subst h; exact zk _
def jla (P : Program) : List ResultVar -> List RV
 | [] => []
 | .tmp t :: rs => .t t :: jla P rs
 | .cell t T :: rs => .cell t (jmt P T) :: jla P rs
def jmA (ops : List Oper) (j : Nat) : Bool := ops.any fun o => match o.op with
 | .assign _ => false
 | _ => o.dst == some j
def jpx (f : Nat -> Bool) (l : List Operand) (m : Nat) : Nat := l.foldl (fun m x => match x with
 | .tmp t => if f t then max m (t + 1) else m
 | _ => m) m
def jgN (ops : List Oper) (m : Nat) : Nat := ops.foldl (fun m o =>
 let m := jpx (fun t => !(jmA ops t)) o.op.operands.toList m
 match o.op with
 | .assign _ => (match o.dst with | some d => max m (d + 1) | none => m)
 | _ => m) m
def yx : Code -> Nat -> Nat
 | .region _ ops _, m => jgN ops.toList m
 | .seq a b, m => yx b (yx a m)
 | .cond _ a b, m => yx b (yx a m)
 | .block _ c, m => yx c m
 | .loop c, m => yx c m
 | .scope c, m => yx c m
 | .rangeFunc f _ a b, m => yx b (yx a (jpx (fun _ => true) [f] m))
 | _, m => m
def jmO (nv : Nat) (ops : List Oper) : Nat :=
 let r := ops.foldl (fun (r : Option (Nat × Nat)) o => match o.dst with
   | some d => if d < nv then r else match r with
     | some (lo, hi) => some (min lo d, max hi d)
     | none => some (d, d)
   | none => r) none
 match r with
 | some (lo, hi) => hi - lo + 1
 | none => 0
def qZ (nv : Nat) : Code -> Nat -> Nat
 | .region _ ops _, m => max m (jmO nv ops.toList)
 | .seq a b, m => qZ nv b (qZ nv a m)
 | .cond _ a b, m => qZ nv b (qZ nv a m)
 | .block _ c, m => qZ nv c m
 | .loop c, m => qZ nv c m
 | .scope c, m => qZ nv c m
 | .rangeFunc _ _ a b, m => qZ nv b (qZ nv a m)
 | _, m => m
def jmH (rs : List ResultVar) (m : Nat) : Nat := rs.foldl (fun m r => match r with
 | .tmp t => max m (t + 1)
 | .cell t _ => max m (t + 1)) m
def jfX (gfn : Func) (c : Code) : Nat × Nat :=
 let nv := yx c (jmH gfn.results.toList (gfn.params.size + gfn.nfree))
 (nv, qZ nv c 1)
def jep (ops : List Oper) : Operand -> Option FuncId
 | .func g => some g
 | .tmp j => ops.findSome? fun o => if o.dst == some j then (match o.op with
   | .makeFunc (.func g) _ _ => some g
   | _ => none) else none
 | _ => none
def jh1 : Code -> Option Nat × Code
 | .seq (.region i ops false) b => match ops.toList with
   | [o] => match o.dst with
     | some t => if Vv o t then (some t, b) else (none, .seq (.region i ops false) b)
     | none => (none, .seq (.region i ops false) b)
   | _ => (none, .seq (.region i ops false) b)
 | c => (none, c)
def jk9 (P : Program) (n : Shape) (cand : List TypeId) (refs : FuncId -> Nat -> Bool) (f : FuncId) (ops : Array Oper) (b : ICode) : Option ICode :=
 match ops.toList.reverse with
 | o :: pre => match o.op with
   | .defer k => match k.callee with
     | .value r => match jep pre r with
       | some g => match P.funcs[g]? with
         | some gfn => match gfn.body with
           | some body => match jfX gfn body, jh1 body with
             | (nv, m), (slot, rest) =>
               let md : Mode := { refs := refs f, cand := cand, vars := true, pure := false, ends := false, take := true, draw := false }
               let cx : Cx := { P := P, cand := cand, mv := fun j => ji7 ops.toList j, pure := false, ref := false, draw := false, take := false }
               match kA P ⟨gfn.ntmps, nv, m⟩ cand (refs g) true false rest, (pre.reverse.zipIdx).mapM (fun p => jjg P md ops.toList p.2 p.1), cx.opd none r, cx.opds (k.args.toList.zip (k.argTypes.toList.map some ++ List.replicate k.args.size none)) with
               | some c, some l, some x, some xs =>
                 let d : DInfo := { g := g, nt := gfn.ntmps, nv := nv, m := m, dep := Nat.log2 (nv + m) + 1, slot := slot }
                 if jgQ P n ops l x xs d c then some (.dfr l x xs d c b) else none
               | _, _, _, _ => none
           | none => none
         | none => none
       | none => none
     | _ => none
   | _ => none
 | [] => none
def Qy (P : Program) (n : Shape) (cand : List TypeId) (refs : FuncId -> Nat -> Bool) (f : FuncId) : Code -> Option ICode
 | .seq a b => match Qy P n cand refs f b with
   | some y => match (match a with | .region _ ops false => jk9 P n cand refs f ops y | _ => none) with
     | some z => some z
     | none => match kA P n cand (refs f) true (jaL b) a with
       | some x => some (.seq x y)
       | none => none
   | none => none
 | .cond c a b => match (Cx.mk P [] (fun _ => false) false false false false).opd none c, Qy P n cand refs f a, Qy P n cand refs f b with
   | some z, some x, some y => if jl z c then some (.cond z x y) else some .stuck
   | _, _, _ => some .stuck
 | c => kA P n cand (refs f) true false c
theorem jiw {P : Program} {n : Shape} {cand : List TypeId} {refs : FuncId -> Nat -> Bool} {f : FuncId} {ops : Array Oper} {b ic : ICode} (h : jk9 P n cand refs f ops b = some ic) : ∃ l x xs d c, ic = .dfr l x xs d c b /\ jgQ P n ops l x xs d c = true := by
 unfold jk9 at h
 repeat' split at h
 all_goals first
   | (cases h; done)
   | skip
 simp only at h
 repeat' split at h
 all_goals first
   | (cases h; done)
   | (rename_i hok; simp only [zO] at h; exact ⟨_, _, _, _, _, h.symm, hok⟩)
theorem X5 {P : Program} {n : Shape} (c : Code) : vS P n c .stuck = true := by cases c <;> simp only [vS, jW]
theorem jgf {P : Program} {n : Shape} {cand : List TypeId} {refs : FuncId -> Nat -> Bool} {f : FuncId} : ∀ {c : Code} {ic : ICode}, Qy P n cand refs f c = some ic -> vS P n c ic = true := by
 intro c
 induction c with
 | seq a b _ ihb =>
   intro ic h;simp only [Qy] at h;split at h
   . rename_i y hy;split at h
     . rename_i z hz;simp only [zO] at h;subst h;split at hz
       . obtain ⟨l, x, xs, d, c, rfl, hok⟩ := jiw hz;simp only [vS, hok, ihb hy, Bool.and_self]
       . cases hz
     . split at h
       . rename_i x hx;simp only [zO] at h;subst h;simp only [vS, jak hx, ihb hy, Bool.and_self]
       . cases h
   . cases h
 | cond z a b iha ihb =>
   intro ic h;simp only [Qy] at h;split at h
   . rename_i h1 h2 h3;split at h
     . rename_i h4;simp only [zO] at h;subst h;simp only [vS, iha h2, ihb h3, h4, Bool.and_self]
     . simp only [zO] at h; subst h; exact X5 _
   . simp only [zO] at h; subst h; exact X5 _
 | _ => intro ic h; have h' := jak (top := true) (fin := false) (by simpa only [Qy] using h); unfold vS; exact h'
def jjf (P : Program) (cand : List TypeId) (refs : FuncId -> Nat -> Bool) (f : FuncId) (gfn : Func) : Option IFunc :=
 if gfn.name = "runtime.NumGoroutine" then none else
 match gfn.body with
 | some c => match jfX gfn c with
   | (nv, m) => match Qy P ⟨gfn.ntmps, nv, m⟩ cand refs f c with
     | some ic =>
       let rs := jla P gfn.results.toList
       if VK P gfn.results.toList rs then some { nt := gfn.ntmps, nv := nv, m := m, dep := Nat.log2 (nv + m) + 1, body := ic, res := rs } else none
     | none => none
 | none => none
def trProg (P : Program) (cand : List TypeId) (refs : FuncId -> Nat -> Bool) : IProg := fun f => match P.funcs[f]? with
 | some gfn => jjf P cand refs f gfn
 | none => none
theorem trProg_ok (P : Program) (cand : List TypeId) (refs : FuncId -> Nat -> Bool) : FOK P (trProg P cand refs) := by
 intro f fn h;unfold trProg at h;split at h
 . rename_i gfn hf;refine .inl ⟨gfn, hf, ?_⟩;unfold jjf at h;split at h
   . cases h
   . rename_i hname;split at h
     . rename_i c hb;simp only at h;split at h
       . rename_i ic hc;split at h
         . rename_i hr;simp only [zO] at h;subst h;exact ⟨hname, ⟨c, hb, jgf hc⟩, hr, rfl⟩
         . cases h
       . cases h
     . cases h
 . cases h
def trProgL (P : Program) (cand : List TypeId) (refs : FuncId -> Nat -> Bool) (libs : FuncId -> Option LibP) : IProg := fun f => match libs f with
 | some p => some { nt := 0, nv := 0, m := 1, dep := 1, body := .lib p, res := [] }
 | none => trProg P cand refs f
theorem jdD {P : Program} (cand : List TypeId) (refs : FuncId -> Nat -> Bool) {libs : FuncId -> Option LibP} (hl : ∀ f p, libs f = some p -> LibOK P f p) : FOK P (trProgL P cand refs libs) := by
 intro f fn h;unfold trProgL at h;split at h
 . rename_i p hp;simp only [zO] at h;subst h;exact .inr ⟨p, rfl, hl f p hp⟩
 . exact trProg_ok P cand refs f fn h
theorem run_okL {P : Program} (cand : List TypeId) (refs : FuncId -> Nat -> Bool) {libs : FuncId -> Option LibP} (hl : ∀ f p, libs f = some p -> LibOK P f p) (hmx : P.follows .mixedOrders = true) (n : Nat) : CallOK P (CR P) (cfOf (trProgL P cand refs libs) n) := Yj hmx (jdD cand refs hl) n
theorem run_ok {P : Program} (cand : List TypeId) (refs : FuncId -> Nat -> Bool) (hmx : P.follows .mixedOrders = true) (n : Nat) : CallOK P (CR P) (cfOf (trProg P cand refs) n) := Yj hmx (trProg_ok P cand refs) n
end Go.Idl
namespace Go.Idl
variable [Globs]
open Go.RowKit (Below)
variable {P : Program} {w : World}
def jje (P : Program) (w : World) : Gh := { ι := [], M := fun b o => w.cell? ⟨b, o, none⟩, T := fun _ => none, C := CR P }
theorem jfs {l : jH} (h : ∀ p ∈ l, jA p.1 p.2 = []) : jR l = [] := by
 unfold jR;apply flatten_nil;intro x hx;obtain ⟨p, hp, rfl⟩ := List.mem_map.1 hx;exact h p hp
def GlobsAt (w : World) : Prop := ∀ k vs, Globs.vals k = some vs -> ∀ (i : Nat) c, vs[i]? = some c -> w.cell? ⟨k, i, none⟩ = some c
theorem jo9 {l : jH} (hG : GlobsAt w) (hV : ∀ p ∈ l, V (jje P w) p.1 p.2 /\ jA p.1 p.2 = []) : R (jje P w) [] l [] w := by
 have e : jR l = [] := jfs fun p hp => (hV p hp).2;refine ⟨rfl, fun p hp => (hV p hp).1, fun id b o h => (by simp [jje] at h), ?_, ?_, fun b hb => (by cases hb), fun b o v h => h, fun id b o h => (by simp [jje] at h), fun b hb => (by cases hb), fun k vs hk i c hi => by rw [Nat.zero_add]; exact hG k vs hk i c hi, fun b hb => absurd rfl hb⟩
 . rw [e]; simp [kM, jje]
 . rw [e]; simp [kM, jje]
theorem Yf {g g' : Gh} {O' : List Nat} {w' : World} (h : Grow [] g w O' g' w') : Below w.heap.size w w' :=
 ⟨h.os, h.tape, h.output, h.size, fun k hk => (h.same k hk (by simp)).1⟩
theorem top_calls {cf : jo} (hcf : CallOK P (CR P) cf) (hG : GlobsAt w) {f : FuncId} {args : List IVal} {rargs : Array Value} {out : Out} (hrun : cf (.f f) args [] = some out) (hlen : args.length = rargs.toList.length)
   (hV : ∀ p ∈ args.zip rargs.toList, V (jje P w) p.1 p.2 /\ jA p.1 p.2 = []) :
   Calls P f rargs w fun e w' => ∃ v' g', e = jcS out.pan v' /\ V g' out.v v' /\ Below w.heap.size w w' := by
 refine callsIn_wide.1 ((hcf.fn f args [] out hrun).2 (jje P w) [] rargs w rfl hlen (jo9 hG hV) |>.mono ?_);rintro e w' ⟨g', O', v', rfl, hg, hR, -⟩;exact ⟨v', g', rfl, hR.vals (out.v, v') (by simp), Yf hg⟩
end Go.Idl
namespace Go.Idl
def QQ (x : Option Opd) (vs : List IVal) : Option Opd := match x, vs with
 | some _, a :: _ => some (.c a)
 | some y, [] => some y
 | none, _ => none
def KE (x : Option Opd) (vs : List IVal) : List IVal := match x with
 | some _ => vs.tail
 | none => vs
def IOp.with : IOp -> List IVal -> IOp
 | .pur k _, vs => .pur k (vs.map .c)
 | .mem k _, vs => .mem k (vs.map .c)
 | .pick _ _ _, [c, a, b] => .pick (.c c) (.c a) (.c b)
 | .build zs parts, vs => .build zs ((parts.zip vs).map fun p => (p.1.1, p.1.2.1, .c p.2))
 | .buildSl e _, vs => .buildSl e (vs.map .c)
 | .buildRs e _, vs => .buildRs e (vs.map .c)
 | .mkFn f xs _, vs => .mkFn f ((vs.take xs.length).map .c) ((vs.drop xs.length).map .c)
 | .minmax m _, vs => .minmax m (vs.map .c)
 | .call f _, vs => .call f (vs.map .c)
 | .callp f _, vs => .callp f (vs.map .c)
 | .callv _ _, a :: vs => .callv (.c a) (vs.map .c)
 | .inv tab _ _, a :: vs => .inv tab (.c a) (vs.map .c)
 | .mapSet kk _ _ _, [m, k, v] => .mapSet kk (.c m) (.c k) (.c v)
 | .sliceS _ lo hi, a :: vs => .sliceS (.c a) (QQ lo vs) (QQ hi (KE lo vs))
 | .sliceL e _ lo hi mx, a :: vs => .sliceL e (.c a) (QQ lo vs) (QQ hi (KE lo vs)) (QQ mx (KE hi (KE lo vs)))
 | .mv  _, [a] => .mv  (.c a)
 | .box  _, [a] => .box  (.c a)
 | .vOf p0 p1 _, [a] => .vOf p0 p1 (.c a)
 | .boxv  _, [a] => .boxv  (.c a)
 | .load p0 p1 _, [a] => .load p0 p1 (.c a)
 | .nilCheck  _, [a] => .nilCheck  (.c a)
 | .isnil p0 p1 _, [a] => .isnil p0 p1 (.c a)
 | .un p0 _, [a] => .un p0 (.c a)
 | .conv p0 _, [a] => .conv p0 (.c a)
 | .mkIface p0 _, [a] => .mkIface p0 (.c a)
 | .fieldAddr p0 _, [a] => .fieldAddr p0 (.c a)
 | .field p0 p1 _, [a] => .field p0 p1 (.c a)
 | .lenS  _, [a] => .lenS  (.c a)
 | .lenL  _, [a] => .lenL  (.c a)
 | .lenM  _, [a] => .lenM  (.c a)
 | .panic  _, [a] => .panic  (.c a)
 | .clear p0 _, [a] => .clear p0 (.c a)
 | .store p0 _ _, [a, b] => .store p0 (.c a) (.c b)
 | .bin p0 _ _, [a, b] => .bin p0 (.c a) (.c b)
 | .eqa p0 _ _, [a, b] => .eqa p0 (.c a) (.c b)
 | .eqb p0 _ _, [a, b] => .eqb p0 (.c a) (.c b)
 | .idxAddr p0 _ _, [a, b] => .idxAddr p0 (.c a) (.c b)
 | .idxAddrA p0 p1 _ _, [a, b] => .idxAddrA p0 p1 (.c a) (.c b)
 | .idxS  _ _, [a, b] => .idxS  (.c a) (.c b)
 | .idxA p0 p1 p2 _ _, [a, b] => .idxA p0 p1 p2 (.c a) (.c b)
 | .lookup p0 p1 p2 _ _, [a, b] => .lookup p0 p1 p2 (.c a) (.c b)
 | .append p0 p1 p2 p3 _ _, [a, b] => .append p0 p1 p2 p3 (.c a) (.c b)
 | .copy p0 p1 _ _, [a, b] => .copy p0 p1 (.c a) (.c b)
 | .vSet p0 p1 _ _, [a, b] => .vSet p0 p1 (.c a) (.c b)
 | .mkSl p0 p1 p2 p3 _ _, [a, b] => .mkSl p0 p1 p2 p3 (.c a) (.c b)
 | o, _ => o
def okX : IOp -> Bool
 | .pick _ a b => plain a && plain b
 | .sliceS _ lo hi => zx lo && zx hi
 | .sliceL _ _ lo hi mx => zx lo && (zx hi && zx mx)
 | .extract _ _ => false
 | _ => true
variable [Globs]
theorem kl (v : IVal) (ts : Ts) : (Opd.c v).get ts = some (v, ts) := rfl
theorem jM (vs : List IVal) (ts : Ts) : getAll (vs.map .c) ts = some (vs, ts) := by
 induction vs with
 | nil => rfl
 | cons v vs ih => simp only [List.map_cons, getAll, kl, ih]
theorem VF {lo : Option Opd} (hp : zx lo = true) {ts t1 ts0 : Ts} {vs ws : List IVal} {d : Nat} (h1 : getAll lo.toList ts = some (vs, t1)) :
   t1 = ts /\ qL (QQ lo (vs ++ ws)) ts0 d = qL lo ts d /\ KE lo (vs ++ ws) = ws := by
 cases lo with
 | none =>
   simp only [Option.toList, jd] at h1;obtain ⟨rfl, rfl⟩ := h1;exact ⟨rfl, rfl, rfl⟩
 | some x =>
   simp only [Option.toList, jc, jd] at h1;obtain ⟨v, t, ws', a1, ⟨rfl, rfl⟩, rfl⟩ := h1;have := qC hp a1;subst t1;refine ⟨rfl, ?_, rfl⟩;simp only [List.cons_append, List.nil_append, QQ, qL, kl, a1];cases v <;> rfl
theorem VX {cf : jo} {o : IOp} (hd : okX o = true) {ts t1 ts0 : Ts} {σ : List IObj} {wr : List (Nat × Bool)} {vs : List IVal} {r : Res}
   (h1 : getAll (je o) ts = some (vs, t1)) (hs : ja cf (o.with vs) ⟨ts0, σ, wr⟩ = some r) :
   ja cf o ⟨ts, σ, wr⟩ = some { r with s := { r.s with ts := t1 } } := by
 cases o
 case extract => simp [okX] at hd
 case mem k xs =>
   simp only [je] at h1;simp only [IOp.with, ja, jM, h1] at hs ⊢;split at hs
   . rename_i hm; simp only [zO] at hs; subst hs; simp [hm]
   . cases hs
 case mv x | box x | vOf G tab x | boxv x | load mvf n x | nilCheck x | isnil neg k x | un op x | conv c x | mkIface t x | fieldAddr o x | field o n x | lenS x | lenL x | lenM x | panic x =>
   simp only [je, jc, jd] at h1;obtain ⟨v, t, ws, a1, ⟨rfl, rfl⟩, rfl⟩ := h1;simp only [IOp.with, ja, kl, a1, rv, jw] at hs ⊢
   repeat' split at hs
   all_goals first | (cases hs; done) | (simp only [zO] at hs; subst hs; simp_all; done) | (simp only [zO] at hs; subst hs; rfl)
 case clear zs x =>
   simp only [je, jc, jd] at h1;obtain ⟨v, t, ws, a1, ⟨rfl, rfl⟩, rfl⟩ := h1;simp only [IOp.with, ja, kl, a1, rv, jw] at hs ⊢
   cases v with
   | rs e id off len =>
     simp only at hs ⊢;split at hs
     . rename_i hl;split at hs
       . rename_i hc;rw [if_pos hc];simp only [zO] at hs; subst hs; rfl
       . cases hs
     . cases hs
   | sl own r xs =>
     cases xs with
     | nil => simp only [zO] at hs ⊢; subst hs; rfl
     | cons => simp at hs
   | _ => simp at hs
 case store n x v | bin op x y | eqa neg x y | eqb neg x y | idxAddr esz x i | idxAddrA len esz x i | idxS x i | idxA len esz n x i | lookup kk z ok x k | append byref str esz bytes sv x | mkSl byref esz bytes zs len cap =>
   simp only [je, jc, jd] at h1;obtain ⟨v1, t, ws, a1, ⟨v2, t', ws', a2, ⟨rfl, rfl⟩, rfl⟩, rfl⟩ := h1;simp only [IOp.with, ja, kl, a1, a2, rv, jw] at hs ⊢
   repeat' split at hs
   all_goals first | (cases hs; done) | (simp only [zO] at hs; subst hs; simp_all; done) | (simp only [zO] at hs; subst hs; rfl)
 case mapSet kk m k v =>
   simp only [je, jc, jd] at h1;obtain ⟨v1, t, ws, a1, ⟨v2, t', ws', a2, ⟨v3, t3, ws3, a3, ⟨rfl, rfl⟩, rfl⟩, rfl⟩, rfl⟩ := h1;simp only [IOp.with, ja, kl, a1, a2, a3, rv, jw] at hs ⊢
   repeat' split at hs
   all_goals first | (cases hs; done) | (simp only [zO] at hs; subst hs; simp_all; done) | (simp only [zO] at hs; subst hs; rfl)
 case pur k xs | buildSl e xs | buildRs e xs | call f xs | callp f xs =>
   simp only [je] at h1;simp only [IOp.with, ja, jM, h1, rv, stepCall, jQ] at hs ⊢
   repeat' split at hs
   all_goals first | (cases hs; done) | (simp only [zO] at hs; subst hs; simp_all; done) | (simp only [zO] at hs; subst hs; rfl)
 case alloc zs | mkMap =>
   simp only [je, jd] at h1;obtain ⟨rfl, rfl⟩ := h1;simp only [IOp.with, ja, zO] at hs ⊢;subst hs; rfl
 case build zs parts =>
   simp only [je] at h1;have hl := j8 h1;have e1 : ((parts.zip vs).map fun p => (p.1.1, p.1.2.1, Opd.c p.2)).map (·.2.2) = vs.map Opd.c := by
     simp only [List.map_map];show (parts.zip vs).map (fun p => Opd.c p.2) = _;rw [show (fun p : (Nat × Nat × Opd) × IVal => Opd.c p.2) = Opd.c ∘ Prod.snd from rfl, <- List.map_map, List.map_snd_zip (by simp at hl; omega)]
   have e2 : ∀ (ps : List (Nat × Nat × Opd)) (us : List IVal), ((((ps.zip us).map fun p => (p.1.1, p.1.2.1, Opd.c p.2)).zip us).map fun p => (p.1.1, p.1.2.1, un2 p.2)) = (ps.zip us).map fun p => (p.1.1, p.1.2.1, un2 p.2) := by
     intro ps
     induction ps with
     | nil => intro us; simp
     | cons p ps ih => intro us; cases us with
       | nil => simp
       | cons u us => simp [ih]
   simp only [IOp.with, ja, e1, e2, jM, h1, rv] at hs ⊢
   repeat' split at hs
   all_goals first | (cases hs; done) | (simp only [zO] at hs; subst hs; simp_all; done) | (simp only [zO] at hs; subst hs; rfl)
 case mkFn f xs ys =>
   simp only [je, kG] at h1;obtain ⟨v1, t, v2, a1, a2, rfl⟩ := h1;have hl := j8 a1;have e1 : (v1 ++ v2).take xs.length = v1 := by rw [<- hl]; simp
   have e2 : (v1 ++ v2).drop xs.length = v2 := by rw [<- hl]; simp
   simp only [IOp.with, ja, e1, e2, jM, a1, a2, rv] at hs ⊢
   repeat' split at hs
   all_goals first | (cases hs; done) | (simp only [zO] at hs; subst hs; simp_all; done) | (simp only [zO] at hs; subst hs; rfl)
 case callv f xs | inv tab x xs =>
   simp only [je, jc] at h1;obtain ⟨v, t, ws, a1, a2, rfl⟩ := h1;simp only [IOp.with, ja, kl, jM, a1, rv, stepCall, jQ] at hs ⊢
   repeat' split at hs
   all_goals first | (cases hs; done) | (simp only [zO] at hs; subst hs; simp_all [jQ, stepCall]; done) | (simp only [zO] at hs; subst hs; rfl)
 case pick c a b =>
   simp only [okX, zA] at hd;simp only [je, jc, jd] at h1;obtain ⟨v1, t, ws, a1, ⟨v2, t', ws', a2, ⟨v3, t3, ws3, a3, ⟨rfl, rfl⟩, rfl⟩, rfl⟩, rfl⟩ := h1;have := qC hd.1 a2;subst t';have := qC hd.2 a3;subst t1;simp only [IOp.with, ja, kl, a1, rv] at hs ⊢
   repeat' split at hs
   all_goals first | (cases hs; done) | (simp only [zO] at hs; subst hs; simp_all; done) | (simp only [zO] at hs; subst hs; rfl)
 case sliceS x lo hi =>
   simp only [okX, zA] at hd;simp only [je, jc, kG] at h1;obtain ⟨v, t, ws, a1, ⟨v1, t2, v2, b1, b2, rfl⟩, rfl⟩ := h1;have q1 := fun d => VF (d := d) (ts0 := ts0) (ws := v2) hd.1 b1;obtain rfl := (q1 0).1;have q2 := fun d => VF (d := d) (ts0 := ts0) (ws := []) hd.2 b2;obtain rfl := (q2 0).1;simp only [List.append_nil] at q2;simp only [IOp.with, ja, kl, a1, (q1 0).2.2, fun d => (q1 d).2.1, fun d => (q2 d).2.1, rv] at hs ⊢
   repeat' split at hs
   all_goals first | (cases hs; done) | (simp only [zO] at hs; subst hs; simp_all; done) | (simp only [zO] at hs; subst hs; rfl)
 case sliceL e x lo hi mx =>
   simp only [okX, zA] at hd;simp only [je, jc, kG] at h1;obtain ⟨v, t, ws, a1, ⟨v1, t2, v2', b1, ⟨v2, t3, v3, b2, b3, rfl⟩, rfl⟩, rfl⟩ := h1;have q1 := fun d => VF (d := d) (ts0 := ts0) (ws := v2 ++ v3) hd.1 b1;obtain rfl := (q1 0).1;have q2 := fun d => VF (d := d) (ts0 := ts0) (ws := v3) hd.2.1 b2;obtain rfl := (q2 0).1;have q3 := fun d => VF (d := d) (ts0 := ts0) (ws := []) hd.2.2 b3;obtain rfl := (q3 0).1;simp only [List.append_nil] at q3;have hm : mx = none ↔ QQ mx v3 = none := by
     cases mx with
     | none => simp [QQ]
     | some y => cases v3 <;> simp [QQ]
   cases v with
   | sl own r0 xs =>
     simp only [IOp.with, ja, kl, a1, (q1 0).2.2, (q2 0).2.2, fun d => (q1 d).2.1, fun d => (q2 d).2.1, fun d => (q3 d).2.1, rv] at hs ⊢
     cases mx with
     | none =>
       simp only [hm.1] at hs
       repeat' split at hs
       all_goals first | (cases hs; done) | (simp only [zO] at hs; subst hs; simp_all; done)
     | some y =>
       obtain ⟨z, hz⟩ : ∃ z, QQ (some y) v3 = some z := by cases v3 <;> exact ⟨_, rfl⟩
       simp only [hz] at hs
       repeat' split at hs
       all_goals first | (cases hs; done) | (simp only [zO] at hs; subst hs; simp_all; done)
   | rs e' id off len =>
     simp only [IOp.with, ja, kl, a1, (q1 0).2.2, (q2 0).2.2, fun d => (q1 d).2.1, fun d => (q2 d).2.1, rv] at hs ⊢
     cases mx with
     | none =>
       simp only [hm.1] at hs
       repeat' split at hs
       all_goals first | (cases hs; done) | (simp only [zO] at hs; subst hs; simp_all; done)
     | some y =>
       obtain ⟨z, hz⟩ : ∃ z, QQ (some y) v3 = some z := by cases v3 <;> exact ⟨_, rfl⟩
       simp only [hz] at hs
       repeat' split at hs
       all_goals first | (cases hs; done) | (simp only [zO] at hs; subst hs; simp_all; done)
   | _ => simp [IOp.with, ja, kl] at hs
 case copy str esz d x =>
   simp only [je, jc, jd] at h1;obtain ⟨v1, t, ws, a1, ⟨v2, t', ws', a2, ⟨rfl, rfl⟩, rfl⟩, rfl⟩ := h1;cases v1 <;> simp [IOp.with, ja, kl, a1, a2, rv, jw] at hs ⊢;split at hs
   . split at hs
     . rename_i hc;obtain ⟨rfl, hc2⟩ := hc;simp only [zO] at hs; subst hs; simp_all
     . cases hs
   . cases hs
 case minmax m xs =>
   simp only [je] at h1
   revert h1 hs
   rcases vs with _ | ⟨v, _ | ⟨v2, _ | ⟨v3, vs⟩⟩⟩ <;> intro h1 hs
   . simp [IOp.with, ja, getAll] at hs
   . simp [IOp.with, ja, getAll, kl] at hs
   . cases v <;> cases v2 <;> simp [IOp.with, ja, getAll, kl, h1, rv] at hs ⊢;obtain ⟨hk, hs⟩ := hs;subst hs;simp [hk]
   . have e := jM (v :: v2 :: v3 :: vs) ts0;simp only [IOp.with, ja, e] at hs;cases hs
 case vSet G tab x y =>
   simp only [je, jc, jd] at h1;obtain ⟨v1, t, ws, a1, ⟨v2, t', ws', a2, ⟨rfl, rfl⟩, rfl⟩, rfl⟩ := h1;simp only [IOp.with, ja, kl, a1, jw] at hs ⊢;split at hs
   . rename_i e1;simp only [zO, zP] at e1;obtain ⟨rfl, rfl⟩ := e1;simp only [a2] at hs ⊢;split at hs
     . rename_i e2;simp only [zO, zP] at e2;obtain ⟨rfl, rfl⟩ := e2;split at hs
       . rename_i q1 q2;simp only [q1, q2] at hs ⊢;split at hs
         . rename_i q3;rw [if_pos q3];split at hs
           . rename_i q4;split at hs
             . rename_i q5;simp only [zO] at hs; subst hs; simp only [q4]; rw [if_pos q5]
             . cases hs
           . cases hs
         . cases hs
       . cases hs
     . cases hs
   . cases hs
end Go.Idl
namespace Go.Idl
def Yb (a b : jo) : Prop := ∀ f args σ o, a f args σ = some o -> b f args σ = some o
def jgz (a b : ICode -> St -> Option (IExit × St)) : Prop := ∀ c s r, a c s = some r -> b c s = some r
theorem zg {a b : jo} (h : Yb a b) {f : Cal} {vs : List IVal} {ts : Ts} {s : St} {r : Res} (hs : stepCall a f vs ts s = some r) : stepCall b f vs ts s = some r := by
 unfold stepCall at hs ⊢;split at hs
 . rename_i o ho;rw [h _ _ _ _ ho]; exact hs
 . cases hs
theorem yQ {a b : jo} (h : Yb a b) {o : IOp} {s : St} {r : Res} (hs : ja a o s = some r) : ja b o s = some r := by
 cases o
 case call f xs =>
   simp only [ja] at hs ⊢;split at hs
   . exact zg h hs
   . cases hs
 case callp f xs =>
   simp only [ja] at hs ⊢;split at hs
   . split at hs
     . rename_i hn;rw [if_pos hn];split at hs
       . rename_i ho;rw [h _ _ _ _ ho]; exact hs
       . cases hs
     . cases hs
   . cases hs
 case callv f xs =>
   simp only [ja] at hs ⊢;split at hs
   . split at hs
     . exact zg h hs
     . cases hs
   . split at hs
     . exact zg h hs
     . cases hs
   . cases hs
 case inv tab x xs =>
   simp only [ja] at hs ⊢;split at hs
   . split at hs
     . split at hs
       . split at hs
         . exact zg h hs
         . cases hs
       . cases hs
     . cases hs
   . cases hs
 all_goals exact hs
theorem Jq {a b : jo} (h : Yb a b) : ∀ {l : List IOper} {s : St} {r : IExit × St}, jY a l s = some r -> jY b l s = some r := by
 intro l
 induction l with
 | nil => intro s r hr; exact hr
 | cons o l ih =>
   intro s r hr;simp only [jY] at hr ⊢;split at hr
   . split at hr
     . rename_i hs; rw [yQ h hs]; exact ih hr
     . rename_i hs; rw [yQ h hs]; exact hr
     . cases hr
   . exact ih hr
   . cases hr
theorem Yi {a b : ICode -> St -> Option (IExit × St)} (h : jgz a b) {fn : IFunc} {args : List IVal} {σ : List IObj} {o : Out} (ho : vW a fn args σ = some o) : vW b fn args σ = some o := by
 unfold vW at ho ⊢;split at ho
 . exact ho
 split at ho
 . rename_i e; rw [h _ _ _ e]; exact ho
 . rename_i e; rw [h _ _ _ e]; exact ho
 . rename_i e; rw [h _ _ _ e]; exact ho
 . cases ho
theorem YS {a b : jo} (h : Yb a b) {o : IOper} {s : St} {r : Option IVal × St × DLog} (hr : jG a o s = some r) : jG b o s = some r := by
 unfold jG at hr ⊢;split at hr
 . split at hr
   . rename_i hn;rw [if_pos hn];split at hr
     . split at hr
       . rename_i hs; rw [yQ h hs]; exact hr
       . rename_i hs; rw [yQ h hs]; exact hr
       . cases hr
     . cases hr
   . cases hr
 . exact hr
 . cases hr
theorem Qd {a b : jo} (h : Yb a b) : ∀ {l : List (Nat × IOper)} {s : St} {r : Option (IVal × List (Nat × Bool)) × St × List (Nat × DLog)}, jv a l s = some r -> jv b l s = some r := by
 intro l
 induction l with
 | nil => intro s r hr; exact hr
 | cons o l ih =>
   intro s r hr;simp only [jv] at hr ⊢;split at hr
   . rename_i hs;rw [YS h hs];simp only;split at hr
     . rename_i hl; rw [ih hl]; exact hr
     . cases hr
   . rename_i hs;rw [YS h hs];exact hr
   . cases hr
theorem ZZ {a b : ICode -> St -> Option (IExit × St)} (h : jgz a b) {id : Nat} {args : List IVal} {σ : List IObj} {o : Out} (ho : yi a id args σ = some o) : yi b id args σ = some o := by
 unfold yi at ho ⊢;split at ho
 . split at ho
   . split at ho
     . rename_i e;rw [h _ _ _ e];simp only;split at ho
       . split at ho
         . split at ho
           . rename_i e2; rw [h _ _ _ e2]; exact ho
           . cases ho
         . cases ho
       . cases ho
     . cases ho
   . cases ho
 . cases ho
theorem jd9 {F : IProg} {n m : Nat} (h : jgz (eval F n) (eval F m)) : Yb (cfOf F n) (cfOf F m) := by
 intro f args σ o ho
 cases f with
 | f f =>
   simp only [cfOf] at ho ⊢;split at ho
   . exact Yi h ho
   . cases ho
 | y id => exact ZZ h ho
theorem ZC {a b : ICode -> St -> Option (IExit × St)} (h : jgz a b) {d : DInfo} {c : ICode} {args : List IVal} {x : IExit} {s : St} {r : IExit × St} (hr : yI a d c args x s = some r) : yI b d c args x s = some r := by
 unfold yI at hr ⊢;split at hr
 . rename_i h1 h2;unfold Ve at hr ⊢;split at hr
   . rename_i e; rw [h _ _ _ e]; exact hr
   . cases hr
 . cases hr
def jgu (ev : ICode -> St -> Option (IExit × St)) (cf : jo) (l : List IOper) (x : Opd) (xs : List Opd) (d : DInfo) (c b : ICode) (s : St) : Option (IExit × St) :=
 match jY cf l s with
 | some (.normal, s1) => match x.get s1.ts with
   | some (.fn (.func g) us ws, ts1) => match getAll xs ts1 with
     | some (vs, ts2) => if g = d.g /\ vs.all nt = true /\ ts2.ds = [] then
         match ev b { s1 with ts := ts2 } with
         | some (x, s2) => yI ev d c (us ++ vs.map un2 ++ ws) x s2
         | none => none
       else none
     | none => none
   | _ => none
 | _ => none
theorem jgY {F : IProg} {n : Nat} {l : List IOper} {x : Opd} {xs : List Opd} {d : DInfo} {c b : ICode} {s : St} : eval F (n + 1) (.dfr l x xs d c b) s = jgu (eval F n) (cfOf F n) l x xs d c b s := rfl
theorem jer {a b : ICode -> St -> Option (IExit × St)} {ca cb : jo} (h : jgz a b) (hc : Yb ca cb) {l : List IOper} {x : Opd} {xs : List Opd} {d : DInfo} {c e : ICode} {s : St} {r : IExit × St} (hr : jgu a ca l x xs d c e s = some r) : jgu b cb l x xs d c e s = some r := by
 unfold jgu at hr ⊢;split at hr
 . rename_i e1;rw [Jq hc e1];simp only;split at hr
   . split at hr
     . split at hr
       . rename_i hif;rw [if_pos hif];split at hr
         . rename_i e2; rw [h _ _ _ e2]; exact ZC h hr
         . cases hr
       . cases hr
     . cases hr
   . cases hr
 . cases hr
theorem jeC (F : IProg) : ∀ n, jgz (eval F n) (eval F (n + 1)) := by
 intro n
 induction n with
 | zero => intro c s r h; simp [eval] at h
 | succ n ih =>
   have hcf := jd9 ih;intro c s r h
   cases c with
   | stuck => simp [eval] at h
   | skip => simpa [eval] using h
   | label l => simpa [eval] using h
   | exit id => simpa [eval] using h
   | goto l => simpa [eval] using h
   | ret => simpa [eval] using h
   | ops l =>
     have h' : jY (cfOf F n) l s = some r := h;show jY (cfOf F (n + 1)) l s = some r;exact Jq hcf h'
   | draw l pairs =>
     have h' : (match jv (cfOf F n) l s with
       | some (q, s', log) => if vw pairs log then yy l q s' else none
       | none => none) = some r := h
     show (match jv (cfOf F (n + 1)) l s with
       | some (q, s', log) => if vw pairs log then yy l q s' else none
       | none => none) = some r
     split at h'
     . rename_i e; rw [Qd hcf e]; exact h'
     . cases h'
   | seq a b =>
     rw [eval] at h ⊢;split at h
     . rename_i e; rw [ih _ _ _ e]; exact ih _ _ _ h
     . rename_i hne;have e := ih _ _ _ h;rw [e];split
       . rename_i hr; exact absurd (by rw [<- hr]; exact h) (hne _)
       . rfl
   | cond x a b =>
     rw [eval] at h ⊢;split at h
     . exact ih _ _ _ h
     . exact ih _ _ _ h
     . cases h
   | block id b =>
     rw [eval] at h ⊢;split at h
     . rename_i e; rw [ih _ _ _ e]; exact h
     . rename_i hne;have e := ih _ _ _ h;rw [e];split
       . rename_i hr; exact absurd (by rw [<- hr]; exact h) (hne _ _)
       . rfl
   | loop b =>
     rw [eval] at h ⊢;split at h
     . rename_i e; rw [ih _ _ _ e]; exact ih _ _ _ h
     . rename_i hne;have e := ih _ _ _ h;rw [e];split
       . rename_i hr; exact absurd (by rw [<- hr]; exact h) (hne _)
       . rfl
   | scope b =>
     rw [eval] at h ⊢;split at h
     . cases h
     . rename_i hne;have e := ih _ _ _ h;rw [e];split
       . rename_i hr; exact absurd (by rw [<- hr]; exact h) (hne _ _)
       . rfl
   | dfr l x xs d c b => rw [jgY] at h ⊢; exact jer ih hcf h
   | lib p => simp [eval] at h
   | rangeF x ps a b =>
     cases hx : x.get s.ts with
     | none => simp [eval, hx] at h
     | some p =>
       obtain ⟨y, t⟩ := p
       cases y with
       | fn gf us ws =>
         cases gf with
         | func g =>
           cases hF : F g with
           | none => simp [eval, hx, hF] at h
           | some fn =>
             cases hc : vW (eval F n) fn (us ++ [.yl (s.σ.length + 1)] ++ ws) (s.σ ++ [.defr, .loop ⟨0, { s.ts with t := s.ts.t.un, ds := [] }, ps, a, b, none, .none⟩]) with
             | none =>
               simp only [eval, hx, hF, hc] at h;cases h
             | some o =>
               have hc' := Yi ih hc;simp only [eval, hx, hF, hc] at h;rw [eval];simp only [hx, hF, hc'];exact h
         | _ => simp [eval, hx] at h
       | _ => simp [eval, hx] at h
theorem ka (F : IProg) {n m : Nat} (h : n <= m) : jgz (eval F n) (eval F m) := by
 induction h with
 | refl => exact fun _ _ _ h => h
 | step _ ih => exact fun c s r hr => jeC F _ c s r (ih c s r hr)
def Ev (F : IProg) (c : ICode) (s : St) (Q : IExit -> St -> Prop) : Prop := ∃ n x s', eval F n c s = some (x, s') /\ Q x s'
variable {F : IProg} {c a b : ICode} {s : St} {Q : IExit -> St -> Prop}
theorem Ev.mono {Q' : IExit -> St -> Prop} (h : Ev F c s Q) (hq : ∀ x s', Q x s' -> Q' x s') : Ev F c s Q' :=
 let ⟨n, x, s', h1, h2⟩ := h
 ⟨n, x, s', h1, hq _ _ h2⟩
theorem Ev.skip (h : Q .normal s) : Ev F .skip s Q := ⟨1, _, _, rfl, h⟩
theorem Ev.ret (h : Q .ret s) : Ev F .ret s Q := ⟨1, _, _, rfl, h⟩
theorem Ev.exit {id : Nat} (h : Q (.exit id) s) : Ev F (.exit id) s Q := ⟨1, _, _, rfl, h⟩
theorem Ev.seq (h : Ev F a s fun x s' => match x with
   | .normal => Ev F b s' Q
   | x => Q x s') : Ev F (.seq a b) s Q := by
 obtain ⟨n, x, s', h1, h2⟩ := h
 cases x with
 | normal =>
   obtain ⟨m, y, s2, h3, h4⟩ := h2;refine ⟨max n m + 1, y, s2, ?_, h4⟩;rw [eval, ka F (Nat.le_max_left n m) _ _ _ h1];exact ka F (Nat.le_max_right n m) _ _ _ h3
 | _ => exact ⟨n + 1, _, s', by rw [eval, h1], h2⟩
theorem Ev.cond {x : Opd} {v : Bool} {ts : Ts} (hx : x.get s.ts = some (.bool v, ts)) (h : Ev F (if v then a else b) s Q) : Ev F (.cond x a b) s Q := by
 obtain ⟨n, y, s', h1, h2⟩ := h;refine ⟨n + 1, y, s', ?_, h2⟩;rw [eval, hx];cases v <;> exact h1
theorem Ev.block {id : Nat} (h : Ev F c s fun x s' => match x with
   | .exit i => if i = id then Q .normal s' else Q (.exit i) s'
   | x => Q x s') : Ev F (.block id c) s Q := by
 obtain ⟨n, x, s', h1, h2⟩ := h
 cases x with
 | exit i =>
   by_cases e : i = id
   . exact ⟨n + 1, .normal, s', by rw [eval, h1]; simp [e], by simpa [e] using h2⟩
   . exact ⟨n + 1, .exit i, s', by rw [eval, h1]; simp [e], by simpa [e] using h2⟩
 | _ => exact ⟨n + 1, _, s', by rw [eval, h1], h2⟩
theorem Ev.loop {I : Nat -> St -> Prop} (hI : ∀ k s, I k s -> Ev F c s fun x s' => match x with
   | .normal => ∃ k', k' < k /\ I k' s'
   | x => Q x s') : ∀ k s, I k s -> Ev F (.loop c) s Q := by
 intro k
 induction k using Nat.strongRecOn with
 | _ k ih =>
   intro s hs;obtain ⟨n, x, s', h1, h2⟩ := hI k s hs
   cases x with
   | normal =>
     obtain ⟨k', hk, hi⟩ := h2;obtain ⟨m, y, s2, h3, h4⟩ := ih k' hk s' hi;refine ⟨max n m + 1, y, s2, ?_, h4⟩;rw [eval, ka F (Nat.le_max_left n m) _ _ _ h1];exact ka F (Nat.le_max_right n m) _ _ _ h3
   | _ => exact ⟨n + 1, _, s', by rw [eval, h1], h2⟩
end Go.Idl
