/- The ideal machine and its evaluators, part 4; no conditions. -/
import Derived.LoopNIn
import Derived.Test.YtjjmammoapggkaaGreatDoorIdlC
set_option linter.unusedSectionVars false
set_option linter.unusedVariables false
set_option linter.unusedSimpArgs false
namespace Go.Idl
variable [Globs]
variable {C0 : Q5} {P : Program} {a : Act} {g : Gh} {O : List Nat} {w : World} {s : St} {cf : kt}
structure Shape where
 n : Nat
 nv : Nat
 m : Nat
def Shape.slot (z : Shape) (j : Nat) : Nat := bif Nat.blt j z.nv then j else z.nv + (j - z.nv) % z.m
def SameSh (ts ts' : Ts) : Prop := ts'.nv = ts.nv /\ ts'.m = ts.m /\ ts'.ds = ts.ds
theorem SameSh.refl (ts : Ts) : SameSh ts ts := ⟨rfl, rfl, rfl⟩
theorem SameSh.trans {a b c : Ts} (h : SameSh a b) (k : SameSh b c) : SameSh a c := ⟨k.1.trans h.1, k.2.1.trans h.2.1, k.2.2.trans h.2.2⟩
theorem SameSh.get {x : Opd} {ts ts' : Ts} {v : IVal} (h : x.get ts = some (v, ts')) : SameSh ts ts' := by
 cases x <;> simp only [Opd.get] at h
 . split at h <;> simp at h; obtain ⟨-, rfl⟩ := h; exact .refl _
 . split at h <;> simp at h; obtain ⟨-, rfl⟩ := h; exact ⟨rfl, rfl, rfl⟩
 . simp at h; obtain ⟨-, rfl⟩ := h; exact .refl _
theorem SameSh.getAll {xs : List Opd} : ∀ {ts ts' : Ts} {vs : List IVal}, Idl.getAll xs ts = some (vs, ts') -> SameSh ts ts' := by
 induction xs with
 | nil => intro ts ts' vs h; simp [Idl.getAll] at h; rw [h.2]; exact .refl _
 | cons x xs ih =>
   intro ts ts' vs h;simp only [Idl.getAll] at h;split at h
   . rename_i h1;split at h
     . rename_i h2;simp only [zO, zP] at h;obtain ⟨-, rfl⟩ := h;exact (SameSh.get h1).trans (ih h2)
     . cases h
   . cases h
theorem SameSh.fill : ∀ {vs : List IVal} {ts : Ts} {j : Nat}, SameSh ts (ts.fill j vs) := by
 intro vs
 induction vs with
 | nil => intro ts j; exact .refl _
 | cons v vs ih => intro ts j; exact SameSh.trans ⟨rfl, rfl, rfl⟩ ih
theorem SameSh.put {ts : Ts} {d : Option Nat} {v : IVal} : SameSh ts (jP ts d v) := by cases d <;> exact ⟨rfl, rfl, rfl⟩
theorem SameSh.stepCall {f : Cal} {vs : List IVal} {ts : Ts} {r : Res} (h : Idl.stepCall cf f vs ts s = some r) : r.s.ts = ts := by
 unfold Idl.stepCall at h;split at h
 . simp only [zO] at h; subst h; rfl
 . cases h
theorem SameSh.step {o : IOp} {r : Res} (h : ja cf o s = some r) : SameSh s.ts r.s.ts := by
 cases o <;> simp only [ja, rv] at h
 case call f xs =>
   split at h
   . rename_i h1; rw [SameSh.stepCall h]; exact .getAll h1
   . cases h
 case callv f xs =>
   split at h
   . rename_i h0;split at h
     . rename_i h1; rw [SameSh.stepCall h]; exact (SameSh.get h0).trans (.getAll h1)
     . cases h
   . rename_i h0;split at h
     . rename_i h1; rw [SameSh.stepCall h]; exact (SameSh.get h0).trans (.getAll h1)
     . cases h
   . cases h
 case inv tab x xs =>
   repeat' split at h
   all_goals first | (cases h; done) | (rw [SameSh.stepCall h]; exact (SameSh.get (by assumption)).trans (.getAll (by assumption)))
 case extract x i =>
   split at h
   . rename_i h0;split at h
     . split at h
       . simp only [zO] at h; subst h; exact (SameSh.get h0).trans ⟨rfl, rfl, rfl⟩
       . simp only [zO] at h; subst h; exact SameSh.get h0
     . cases h
   . cases h
 all_goals
   repeat' split at h
   all_goals first | (cases h; done) | (simp only [zO] at h; subst h; simp only; first | exact .refl _ | exact SameSh.get (by assumption) | exact SameSh.getAll (by assumption) | exact SameSh.trans (SameSh.get (by assumption)) (SameSh.get (by assumption)) | exact SameSh.trans (SameSh.getAll (by assumption)) (SameSh.getAll (by assumption)) | exact SameSh.trans (SameSh.get (by assumption)) (SameSh.trans (SameSh.get (by assumption)) (SameSh.get (by assumption))) | exact SameSh.trans (SameSh.get (by assumption)) ⟨rfl, rfl, rfl⟩)
class Base where
 B : List Deferred
def MarksR (g : Gh) (ds : List Nat) (ms : List Deferred) : Prop :=
 ms.length = ds.length /\ ∀ (i : Nat) id d, ds[i]? = some id -> ms[i]? = some d -> ∃ b, g.ι[id]? = some (Blk.bk b) /\ d = { target := .collected b, args := #[] }
def DefsR [Base] (g : Gh) (ds : List Nat) (defers : List Deferred) : Prop := ∃ ms, defers = ms ++ Base.B /\ MarksR g ds ms
theorem MarksR.mono {g g' : Gh} {ds : List Nat} {ms : List Deferred} (h : MarksR g ds ms) (hι : ∀ (id b : Nat), g.ι[id]? = some (Blk.bk b) -> g'.ι[id]? = some (Blk.bk b)) : MarksR g' ds ms :=
 ⟨h.1, fun i id d h1 h2 => let ⟨b, q1, q2⟩ := h.2 i id d h1 h2; ⟨b, hι _ _ q1, q2⟩⟩
theorem DefsR.mono [Base] {g g' : Gh} {ds : List Nat} {defers : List Deferred} (h : DefsR g ds defers) (hι : ∀ (id b : Nat), g.ι[id]? = some (Blk.bk b) -> g'.ι[id]? = some (Blk.bk b)) : DefsR g' ds defers :=
 let ⟨ms, e, h⟩ := h; ⟨ms, e, h.mono hι⟩
theorem DefsR.nil [Base] (g : Gh) : DefsR g [] Base.B := ⟨[], rfl, rfl, fun i id d h => by simp at h⟩
theorem DefsR.nil_iff [Base] {g : Gh} {defers : List Deferred} (h : DefsR g [] defers) : defers = Base.B := by
 obtain ⟨ms, rfl, h1, -⟩ := h;have := List.eq_nil_of_length_eq_zero (by simpa using h1);subst this; rfl
theorem DefsR.mark [Base] {g : Gh} {ds : List Nat} {defers : List Deferred} {id b : Nat} (h : DefsR g ds defers) (hb : g.ι[id]? = some (Blk.bk b)) : DefsR g (id :: ds) ({ target := .collected b, args := #[] } :: defers) := by
 obtain ⟨ms, rfl, h1, h2⟩ := h;refine ⟨_ :: ms, rfl, by simp [h1], fun i id' d q1 q2 => ?_⟩
 cases i with
 | zero => simp at q1 q2; subst q1 q2; exact ⟨b, hb, rfl⟩
 | succ i => simp at q1 q2; exact h2 i id' d q1 q2
variable [Base]
structure Stand (C0 : Q5) (N : Shape) (g : Gh) (O : List Nat) (s : St) (a : Act) (w : World) : Prop where
 rel : R g O (s.ts.roots a.tmps) s.σ w
 len : WT s.ts a.tmps
 defs : DefsR g s.ts.ds a.defers
 size : N.n <= a.tmps.size
 sh : s.ts.nv = N.nv /\ s.ts.m = N.m
 code : g.C = C0
structure Goes (g : Gh) (O : List Nat) (s : St) (w : World) (g' : Gh) (O' : List Nat) (s' : St) (w' : World) : Prop where
 grow : Grow O g w O' g' w'
 keep : ∃ wn, s'.wr = wn ++ s.wr /\ Keep s.σ s'.σ wn
theorem Goes.refl (g : Gh) (O : List Nat) (s : St) (w : World) : Goes g O s w g O s w := ⟨.refl O g w, ⟨[], rfl, .refl _⟩⟩
theorem Goes.trans {g1 g2 g3 : Gh} {O1 O2 O3 : List Nat} {s1 s2 s3 : St} {w1 w2 w3 : World} (h : Goes g1 O1 s1 w1 g2 O2 s2 w2) (k : Goes g2 O2 s2 w2 g3 O3 s3 w3) : Goes g1 O1 s1 w1 g3 O3 s3 w3 := by
 obtain ⟨wn, h1, h2⟩ := h.keep;obtain ⟨wn', k1, k2⟩ := k.keep;exact ⟨h.grow.trans k.grow, ⟨wn' ++ wn, by rw [k1, h1, zS], h2.trans k2⟩⟩
def qK : IExit -> Option Exit
 | .normal => some .normal
 | .exit id => some (.exit id)
 | .goto l => some (.goto l)
 | .ret => some .ret
 | .panic _ => none
def After (C0 : Q5) (N : Shape) (g : Gh) (O : List Nat) (s : St) (w : World) (x : IExit) (s' : St) (Q : Exit -> Act -> World -> Prop) : Prop :=
 (∀ e g' O' a' w', qK x = some e -> Goes g O s w g' O' s' w' -> Stand C0 N g' O' s' a' w' -> Q e a' w') /\
 (∀ v g' O' a' w' v', x = .panic v -> Goes g O s w g' O' s' w' -> R g' O' ((v, v') :: s'.ts.roots a'.tmps) s'.σ w' -> DefsR g' s'.ts.ds a'.defers -> WT s'.ts a'.tmps -> Q (.panic [{ v := v', recovered := false }]) a' w')
theorem After.of_goes {N : Shape} {g1 : Gh} {O1 : List Nat} {s1 : St} {w1 : World} {x : IExit} {s' : St} {Q : Exit -> Act -> World -> Prop} (h : After C0 N g O s w x s' Q) (hg : Goes g O s w g1 O1 s1 w1) : After C0 N g1 O1 s1 w1 x s' Q :=
 ⟨fun e g' O' a' w' he k st => h.1 e g' O' a' w' he (hg.trans k) st, fun v g' O' a' w' v' he k r d wt => h.2 v g' O' a' w' v' he (hg.trans k) r d wt⟩
def KN (ops : Array Oper) : Option (Nat × Bool) -> Option (Nat × Bool) -> Bool
 | none, none => true
 | some (j, b), some (t, b') => b == b' && (match ops[j]? with | some o => o.dst == some t | none => false)
 | _, _ => false
def zt (P : Program) (ops : Array Oper) (o : Oper) (io : IOper) : Bool := jeK P o.op io.op && o.dst == io.dst && KN ops o.guard io.guard
def vY (P : Program) (ops : Array Oper) : List Oper -> List IOper -> Bool
 | [], [] => true
 | o :: os, io :: ios => zt P ops o io && vY P ops os ios
 | _, _ => false
omit [Base] in
theorem V.bool_iff {x : IVal} {v : Value} (h : V g x v) (b : Bool) : v = .bool b ↔ x = .bool b := by
 cases h with
 | prim v hp => cases v <;> simp [Zi] at hp ⊢
 | _ => simp
theorem yM {N : Shape} {ops : Array Oper} {o : Oper} {io : IOper} {bw : Bool} (h : KN ops o.guard io.guard = true) (hs : Stand C0 N g O s a w) (hw : jg io.guard s.ts = some bw) : Region.wanted o (yielded ops a.tmps) = bw := by
 unfold KN at h;unfold jg at hw;unfold Region.wanted;split at h
 . rename_i h1 h2; rw [h2] at hw; simp at hw; simp [h1, hw]
 . rename_i j b t b' h1 h2;simp only [zA] at h;obtain ⟨h3, h4⟩ := h;have := eq_of_beq h3;subst this;rw [h1];rw [h2] at hw;simp only at hw ⊢;split at h4
   . rename_i og hog;have hdst : og.dst = some t := eq_of_beq h4;simp only [yielded, hog, Option.bind_some, hdst]
     cases ht : s.ts.get? t with
     | none => simp [ht] at hw
     | some x =>
       rw [ht] at hw;obtain ⟨rest, hp, -⟩ := Ts.roots_get a.tmps ht;have hV : V g x (a.tmps.getD t undef) := hs.rel.vals (x, a.tmps.getD t undef) (hp.mem_iff.2 (by simp));have hlt := (hs.len _ _ (Ts.get?_spec ht)).2;have hget : a.tmps[t]? = some (a.tmps.getD t undef) := by simp [hlt]
       rw [hget];generalize a.tmps.getD t undef = v at hV
       cases v with
       | bool b0 =>
         have := (hV.bool_iff b0).1 rfl;subst this;simp only [zO] at hw;subst hw;cases b0 <;> cases b <;> rfl
       | _ =>
         cases x with
         | bool b0 => have := (hV.bool_iff b0).2 rfl; cases this
         | _ => simp at hw; subst hw; cases b <;> rfl
   . cases h4
 . cases h
theorem vH {N : Shape} {d : Option Nat} {x : IVal} {v : Value} (hR : R g O ((x, v) :: s.ts.roots a.tmps) s.σ w) (hl : WT s.ts a.tmps) (hd : DefsR g s.ts.ds a.defers) (hN : N.n <= a.tmps.size) (hz : s.ts.nv = N.nv /\ s.ts.m = N.m) (hC : g.C = C0) (hlt : ∀ t, d = some t -> t < N.n) :
   Stand C0 N g O { s with ts := jP s.ts d x } (a.put d v) w := by
 cases d with
 | none => exact ⟨hR.drop, hl, hd, hN, hz, hC⟩
 | some t =>
   have ht : t < a.tmps.size := Nat.lt_of_lt_of_le (hlt t rfl) hN;have hW := hl.set ht x;refine ⟨?_, fun k p hp => by have := hW k p hp; simpa [Act.put, jP] using this, hd, by simpa [Act.put] using hN, hz, hC⟩;obtain ⟨rest, ev, h1, h2⟩ := Ts.roots_put hl ht x v;simp only [jP, Act.put];have h3 := hR.perm (h1.cons _)
   cases hb : s.ts.t.has (s.ts.slot t) with
   | true =>
     rw [hb] at h2;refine R.perm (R.drops (l := ev) (h3.perm ?_)) (h2.symm);simpa using (tW (a := (x, v)) (l₁ := ev) (l₂ := rest)).symm
   | false =>
     rw [hb] at h2;exact R.perm (R.drops (l := ev) h3.drop) (by simpa using h2.symm)
def yP (n : Nat) (ios : List IOper) : Bool := ios.all fun io => match io.dst with | some d => decide (d < n) | none => true
def Qk (P : Program) (ρ : Option Nat) (n : Nat) (ops : Array Oper) (Q : Exit -> Act -> World -> Prop) (tl : List Nat) : Exit -> Act -> World -> Prop := fun e a w => match e with
 | .normal => wpOpsIn (WF ρ) n P ops Q tl a w
 | e => Q e a w
theorem jdH {ρ : Option Nat} {n : Nat} {ops : Array Oper} {Q : Exit -> Act -> World -> Prop} : Qk P ρ n ops Q [] = Q := by
 funext e a w
 cases e <;> rfl
theorem Xe {tl : List Nat} {more : List Oper} {ρ : Option Nat} {n : Nat} {N : Shape} {ops : Array Oper} {Q : Exit -> Act -> World -> Prop} (hcf : CallOK P C0 cf) : ∀ {ios : List IOper} {os pre : List Oper} {g : Gh} {O : List Nat} {s s' : St} {a : Act} {w : World} {x : IExit}, ops.toList = pre ++ (os ++ more) -> vY P ops os ios = true ->
   yP N.n ios = true -> jm cf ios s = some (x, s') -> Stand C0 N g O s a w -> After C0 N g O s w x s' (Qk P ρ n ops Q tl) -> wpOpsIn (WF ρ) n P ops Q (List.range' pre.length os.length ++ tl) a w := by
 intro ios
 induction ios with
 | nil =>
   intro os pre g O s s' a w x hops hok hds hrun hst haft;cases os <;> simp [vY] at hok;simp [jm] at hrun;obtain ⟨rfl, rfl⟩ := hrun;exact haft.1 _ g O a w rfl (.refl _ _ _ _) hst
 | cons io ios ih =>
   intro os pre g O s s' a w x hops hok hds hrun hst haft
   cases os with
   | nil => simp [vY] at hok
   | cons o os =>
     simp only [vY, zA, zt] at hok;obtain ⟨⟨⟨hop, hdst⟩, hgd⟩, hrest⟩ := hok;have hdst := eq_of_beq hdst;obtain ⟨iod, iop, iog⟩ := io;simp only at hop hdst hgd;subst hdst;simp only [yP, List.all_cons, zA] at hds;have hd0 : ∀ t, o.dst = some t -> t < N.n := by
       intro t ht;have := hds.1;rw [ht] at this;simpa using this
     have hget : ops[pre.length]? = some o := by
       rw [<- Array.getElem?_toList, hops]; simp
     simp only [tB, List.range'_succ, tI, wpOpsIn, hget];have hnext : ops.toList = (pre ++ [o]) ++ (os ++ more) := by rw [hops]; simp
     have hlenp : (pre ++ [o]).length = pre.length + 1 := by simp
     simp only [jm] at hrun;split at hrun
     . rename_i hwi;rw [if_pos (yM (o := o) (io := ⟨o.dst, iop, iog⟩) hgd hst hwi)];split at hrun
       . rename_i v s1 hstep;refine Xd hcf hst.code hop hstep hst.len hst.rel ρ n _ Q (fun _ v' w' hp => ?_) (fun h => by cases h);obtain ⟨g1, O1, wn, hg, hR, hl, hwr, hk⟩ := hp;have hst1 := vH (d := o.dst) (s := s1) hR hl (by rw [(SameSh.step hstep).2.2]; exact hst.defs.mono hg.pre) hst.size ⟨(SameSh.step hstep).1.trans hst.sh.1, (SameSh.step hstep).2.1.trans hst.sh.2⟩ (hg.code.trans hst.code) hd0;rw [<- hlenp];exact ih hnext hrest hds.2 hrun hst1 (haft.of_goes ⟨hg, ⟨wn, hwr, hk⟩⟩)
       . rename_i v s1 hstep;refine Xd hcf hst.code hop hstep hst.len hst.rel ρ n _ Q (fun h => by cases h) (fun _ v' w' hp => ?_);obtain ⟨g1, O1, wn, hg, hR, hl, hwr, hk⟩ := hp;simp only [zO, zP] at hrun;obtain ⟨rfl, rfl⟩ := hrun;exact haft.2 v g1 O1 a w' v' rfl ⟨hg, ⟨wn, hwr, hk⟩⟩ hR (by rw [(SameSh.step hstep).2.2]; exact hst.defs.mono hg.pre) hl
       . cases hrun
     . rename_i hwi;rw [if_neg (by rw [yM (o := o) (io := ⟨o.dst, iop, iog⟩) hgd hst hwi]; simp)];refine ⟨fun _ _ => trivial, ?_⟩;have hR : R g O ((jl, undef) :: s.ts.roots a.tmps) s.σ w := hst.rel.push (kJ g) rfl;have hst1 := vH (d := o.dst) (s := s) hR hst.len hst.defs hst.size hst.sh hst.code hd0;rw [<- hlenp];exact ih hnext hrest hds.2 hrun hst1 (haft.of_goes ⟨.refl O g w, ⟨[], rfl, .refl _⟩⟩)
     . cases hrun
theorem jc1 {ρ : Option Nat} {n : Nat} {N : Shape} {ops : Array Oper} {Q : Exit -> Act -> World -> Prop} (hcf : CallOK P C0 cf) {ios : List IOper} {os pre : List Oper} {g : Gh} {O : List Nat} {s s' : St} {a : Act} {w : World} {x : IExit} (hops : ops.toList = pre ++ os) (hok : vY P ops os ios = true)
   (hds : yP N.n ios = true) (hrun : jm cf ios s = some (x, s')) (hst : Stand C0 N g O s a w) (haft : After C0 N g O s w x s' Q) : wpOpsIn (WF ρ) n P ops Q (List.range' pre.length os.length) a w := by
 have := Xe (ρ := ρ) (n := n) (Q := Q) (tl := []) (more := []) hcf (by rw [rM]; exact hops) hok hds hrun hst (by rw [jdH]; exact haft);simpa using this
end Go.Idl
namespace Go.Idl
variable [Globs]
variable {P : Program} {a : Act} {g : Gh} {O : List Nat} {w : World} {s : St} {cf : kt}
def ja2 (P : Program) : ResultVar -> RV -> Bool
 | .tmp t, .t i => t == i
 | .cell t T, .cell i n => t == i && tyN P T n
 | _, _ => false
def JO (P : Program) : List ResultVar -> List RV -> Bool
 | [], [] => true
 | r :: rs, v :: vs => ja2 P r v && JO P rs vs
 | _, _ => false
def Ya (tmps : Array Value) (rs : List ResultVar) : Sem (List Value) := rs.mapM fun r => match r with
 | .tmp t => pure (tmps.getD t undef)
 | .cell a t => do loadVar t (<- asAddr (tmps.getD a undef))
theorem Xi {tmps : Array Value} : Ya tmps [] = pure [] := by simp [Ya]
theorem ja1 {tmps : Array Value} {t : Nat} {rs : List ResultVar} : (Ya tmps (.tmp t :: rs)).run P w = ((Ya tmps rs).run P w).andThen fun us w' => .ok (tmps.getD t undef :: us) w' := by
 simp only [Ya, List.mapM_cons, Sem.run_bind, Sem.run_pure, Result.andThen_ok]
theorem Zv {tmps : Array Value} {t : Nat} {T : TypeId} {rs : List ResultVar} {ad : Addr} (h : tmps.getD t undef = .pointer (some ad)) {u : Value} {w' : World} (hl : (loadVar T ad).run P w = .ok u w') :
   (Ya tmps (.cell t T :: rs)).run P w = ((Ya tmps rs).run P w').andThen fun us w' => .ok (u :: us) w' := by
 simp only [Ya, List.mapM_cons, Sem.run_bind, h, asAddr, Sem.run_pure, Result.andThen_ok, hl]
theorem VB {tmps : Array Value} : ∀ {vs : List RV} {rs : List ResultVar} {l : ke} {s s' : St} {g : Gh} {O : List Nat} {w : World} {xs : List IVal}, JO P rs vs = true -> jf vs s = some (xs, s') -> WT s.ts tmps ->
   R g O (l ++ s.ts.roots tmps) s.σ w ->
   ∃ us : List Value, (Ya tmps rs).run P w = .ok us w /\ xs.length = us.length /\ WT s'.ts tmps /\
     R g O (xs.zip us ++ (l ++ s'.ts.roots tmps)) s'.σ w /\ ∃ wn, s'.wr = wn ++ s.wr /\ Keep s.σ s'.σ wn /\ wn.all (fun p => !p.2) = true := by
 intro vs
 induction vs with
 | nil =>
   intro rs l s s' g O w xs hok hrd hl hR;cases rs <;> simp [JO] at hok;simp [jf] at hrd;obtain ⟨rfl, rfl⟩ := hrd;exact ⟨[], by simp [Xi, Sem.run_pure], rfl, hl, by simpa using hR, [], rfl, .refl _, rfl⟩
 | cons v vs ih =>
   intro rs l s s' g O w xs hok hrd hl hR
   cases rs with
   | nil => simp [JO] at hok
   | cons r rs =>
     simp only [JO, zA] at hok
     cases v with
     | t i =>
       simp only [jf] at hrd;split at hrd
       . rename_i x hx;split at hrd
         . rename_i ys s1 hrest;simp only [zO, zP] at hrd;obtain ⟨rfl, rfl⟩ := hrd;have hr : r = .tmp i := by cases r <;> simp [ja2] at hok; rw [hok.1]
           subst hr;have hm := jI (a := ⟨tmps, []⟩) (x := .m i) (r := .tmp i) (ts' := s.ts.set i (un3 x)) (v := x) (by simp [jL]) (by simp [Opd.get, hx]) hl hR;obtain ⟨us, h1, h2, h3, h4, wn, h5, h6, h7⟩ := ih (s := { s with ts := s.ts.set i (un3 x) }) (l := (x, (⟨tmps, []⟩ : Act).eval (.tmp i)) :: l) hok.2 hrest hm.2 (by simpa using hm.1);refine ⟨tmps.getD i undef :: us, ?_, by simp [h2], h3, ?_, wn, h5, h6, h7⟩
           . rw [ja1, h1, Result.andThen_ok]
           . refine h4.perm ?_;simp only [tC, tI, Act.eval];exact tW
         . cases hrd
       . cases hrd
     | cell i n =>
       simp only [jf] at hrd;split at hrd
       . rename_i id off hx;split at hrd
         . rename_i cs hcs;split at hrd
           . rename_i z hz;split at hrd
             . rename_i ys s1 hrest;simp only [zO, zP] at hrd;obtain ⟨rfl, rfl⟩ := hrd;obtain ⟨T, hr, hT⟩ : ∃ T, r = .cell i T /\ tyN P T n = true := by
                 cases r with
                 | tmp t => simp [ja2] at hok
                 | cell t T => simp only [ja2, zA] at hok; exact ⟨T, by rw [eq_of_beq hok.1.1], hok.1.2⟩
               subst hr;obtain ⟨rest0, hp0, -⟩ := Ts.roots_get tmps hx;have hV0 : V g (.ptr id off) (tmps.getD i undef) := hR.vals (.ptr id off, tmps.getD i undef) (rW _ (hp0.mem_iff.2 (by simp)));obtain ⟨b, hget, hι⟩ := hV0.ptr_inv;obtain ⟨u, hrun, hR', hk, _⟩ := hR.loadMove hι (j9 hcs) hT hz;obtain ⟨us, h1, h2, h3, h4, wn, h5, h6, h7⟩ := ih (s := { s with σ := s.σ.set id (.cells (jb cs off (un2 z).cells)), wr := (id, false) :: s.wr }) (l := (z, u) :: l) hok.2 hrest hl (by simpa using hR');refine ⟨u :: us, ?_, by simp [h2], h3, ?_, wn ++ [(id, false)], by rw [h5]; simp, hk.trans h6, by simp [h7]⟩
               . rw [Zv hget hrun, h1, Result.andThen_ok]
               . refine h4.perm ?_;simp only [tC, tI];exact tW
             . cases hrd
           . cases hrd
         . cases hrd
       . cases hrd
theorem R.merge {xs : List IVal} {us : List Value} {l : ke} {σ : List IObj} (h : R g O (xs.zip us ++ l) σ w) (hl : xs.length = us.length) (hnt : ∀ x ∈ xs, nt x = true) :
   R g O ((jZ xs, if hh : us.toArray.size = 1 then us.toArray[0] else .tuple us.toArray) :: l) σ w := by
 have hlist : xs.length = 1 \/ xs.length ≠ 1 := by omega
 rcases hlist with h1 | h1
 . obtain ⟨x, rfl⟩ := List.length_eq_one_iff.1 h1;obtain ⟨u, rfl⟩ := List.length_eq_one_iff.1 (hl ▸ h1);simpa [jZ] using h
 . have e : jZ xs = .tup xs := by
     cases xs with
     | nil => rfl
     | cons x xs => cases xs with
       | nil => simp at h1
       | cons y ys => rfl
   rw [e, dif_neg (by simp; omega)];have hV : V g (.tup xs) (.tuple us.toArray) := .tup xs us.toArray (by simpa using hl) (fun i x v hx hv => zr (vs := us) (fun p hp => h.vals p (by simp [hp])) hx (by simpa using hv)) hnt;have hown : kl (.tup xs) (.tuple us.toArray) = ky (xs.zip us) := by
     simp only [kl, ky]
     congr 1
     apply List.ext_getElem?;intro i;simp only [tL, rJ, List.zip]
     cases hx : xs[i]? with
     | none => simp
     | some x => cases hu : us[i]? with
       | none => simp [hu]
       | some u => simp [hu]; exact (yq (hnt x (zM hx)) u).symm
   have e1 : ky ((.tup xs, .tuple us.toArray) :: l) = ky (xs.zip us ++ l) := by rw [ve, <- hown]; simp [ky]
   refine ⟨h.len, fun p hp => ?_, h.objo, by rw [e1]; exact h.nodup, by rw [e1]; exact h.sub, h.lt, h.claim, h.apart, h.spare, h.glob, h.zs⟩
   rcases List.mem_cons.1 hp with rfl | hp
   . exact hV
   . exact h.vals p (by simp [hp])
theorem OBJ.cut {b n : Nat} {x : IObj} (h : OBJ g w b x) (hr : RLO n x) : OBJ (g.cut n) w b x := by
 cases x with
 | cells cs =>
   obtain ⟨c, el, fz, h1, h0, h2, h3⟩ := h;exact ⟨c, el, fz, h1, h0, h2, fun i x v hx hv => ⟨(h3 i x v hx hv).1.cut n (hr x (zM hx)), (h3 i x v hx hv).2⟩⟩
 | map es =>
   obtain ⟨mes, clock, h1, h2, h3, h4⟩ := h;refine ⟨mes, clock, h1, h2, fun i e me he hm => ?_, h4⟩;obtain ⟨⟨q1, q2⟩, q3⟩ := h3 i e me he hm;have := hr e (zM he);exact ⟨⟨q1.cut n this.1, q2.cut n this.2⟩, q3⟩
 | loop L =>
   obtain ⟨r, h1, h2⟩ := h;exact ⟨r, h1, h2.st, h2.ps, h2.pend, h2.wt, h2.ds, fun p hp => ⟨(h2.vals p hp).1.cut n (hr p hp), (h2.vals p hp).2⟩, h2.code⟩
 | defr => exact h
 | it s pos => exact h
 | ty T m k => obtain ⟨b', h1, h2⟩ := h; exact ⟨b', by simp only [Gh.cut]; rw [List.getElem?_take_of_lt hr]; exact h1, h2⟩
 | dead => trivial
theorem OBJ.rlo {b : Nat} {x : IObj} (h : OBJ g w b x) : RLO g.ι.length x := by
 cases x with
 | cells cs =>
   obtain ⟨c, el, fz, h1, h0, h2, h3⟩ := h;intro x hx;obtain ⟨i, hi⟩ := kc hx;obtain ⟨v, hv⟩ := yj h2 hi;exact (h3 i x v hi hv).1.rl
 | map es =>
   obtain ⟨mes, clock, h1, h2, h3, _⟩ := h;intro e he;obtain ⟨i, hi⟩ := kc he;obtain ⟨me, hm⟩ := kH h2.symm hi;obtain ⟨⟨q1, q2⟩, _⟩ := h3 i e me hi hm;exact ⟨q1.rl, q2.rl⟩
 | loop L =>
   obtain ⟨r, h1, h2⟩ := h;exact fun p hp => (h2.vals p hp).1.rl
 | defr => trivial
 | it s pos => trivial
 | ty T m k => obtain ⟨b', h1, h2⟩ := h; exact jk h1
 | dead => trivial
theorem RLO.le {n m : Nat} {x : IObj} (h : RLO n x) (hle : n <= m) : RLO m x := by
 cases x with
 | cells cs => exact fun x hx => (h x hx).le hle
 | map es => exact fun e he => ⟨(h e he).1.le hle, (h e he).2.le hle⟩
 | loop L => exact fun p hp => (h p hp).le hle
 | ty T k j => exact Nat.lt_of_lt_of_le h hle
 | _ => trivial
theorem R.rlo {l : ke} {σ : List IObj} (h : R g O l σ w) {id : Nat} {o : IObj} (ho : σ[id]? = some o) : RLO σ.length o := by
 have hid' : id < g.ι.length := by rw [h.len]; exact jk ho
 have h1 := h.objo id (g.ι[id]) o (by simp [hid']) ho
 cases hb : g.ι[id] with
 | un zs =>
   rw [hb] at h1;obtain ⟨rfl, h2⟩ := h1;exact RLO.le (n := 0) h2 (Nat.zero_le _)
 | bk b => rw [hb] at h1; rw [<- h.len]; exact OBJ.rlo h1
theorem zQ {l : ke} {σ : List IObj} {g' : Gh} {O' : List Nat} {w' : World} {s' : St} {v : IVal} {v' : Value} {pan : Bool} (h : R g O l σ w) (hg : Grow O g w O' g' w') (hR : R g' O' [(v, v')] s'.σ w') (hk : Keep σ s'.σ s'.wr) :
   ∃ g'', Grow O g w O' g'' w' /\ R g'' O' [((jo σ.length pan v s').v, v')] (jo σ.length pan v s').σ w' /\ Keep σ (jo σ.length pan v s').σ (jo σ.length pan v s').wr /\ (jo σ.length pan v s').pan = pan := by
 have hkf : ∀ σ2 : List IObj, Keep σ σ2 s'.wr -> Keep σ σ2 (s'.wr.filter fun p => decide (p.1 < σ.length)) := by
   intro σ2 hk2;refine ⟨hk2.1, fun n hn hw ho => hk2.2 n hn (fun p hp hp2 => ?_) ho⟩
   by_cases hlt : p.1 < σ.length
   . exact hw p (List.mem_filter.2 ⟨hp, by simpa using hlt⟩) hp2
   . omega
 unfold jo;split
 . rename_i hcond;simp only [zA, rD] at hcond;obtain ⟨hnr, hwr⟩ := hcond;have hlow : ∀ id o, id < σ.length -> s'.σ[id]? = some o -> RLO σ.length o := by
     refine hk.2 σ.length (rP _) (fun p hp hp2 => ?_) (fun id o hid ho => ?_)
     . have := hwr p hp;simp only [Bool.or_eq_true, tT, decide_eq_true_eq] at this
       rcases this with h1 | h1
       . rw [h1] at hp2; cases hp2
       . exact h1
     . exact h.rlo ho
   have hι : (g'.cut σ.length).ι = g'.ι.take σ.length := rfl;have hSsub : (kY w' (g'.ι.take σ.length) (s'.σ.take σ.length)).Sublist (kY w' g'.ι s'.σ) := by
     simp only [kY];rw [<- List.take_zipWith];exact JY (List.take_sublist _ _)
   have hsub : (ky [(v, v')] ++ kY w' (g'.ι.take σ.length) (s'.σ.take σ.length)).Sublist (ky [(v, v')] ++ kY w' g'.ι s'.σ) := List.Sublist.append (.refl _) hSsub;have hget : ∀ {α : Type} {l : List α} {id : Nat} {x : α}, (l.take σ.length)[id]? = some x -> l[id]? = some x /\ id < σ.length := by
     intro α l id x hx;rw [tD] at hx;split at hx
     . exact ⟨hx, by assumption⟩
     . cases hx
   refine ⟨g'.cut σ.length, ⟨hg.size, hg.same, hg.mono, fun id b hb => ?_, hg.fresh, hg.code, hg.os, hg.tape, hg.output, hg.zm⟩, ⟨?_, fun p hp => ?_, fun id b o h1 h2 => ?_, hR.nodup.sublist hsub, fun b hb => hR.sub b (hsub.mem hb), hR.lt, hR.claim, fun id b o h1 h2 => hR.apart id b o (hget h1).1 (hget h2).1, hR.spare, hR.glob, hR.zs⟩, ?_, rfl⟩
   . rw [hι, tD, if_pos (by rw [<- h.len]; exact jk hb)];exact hg.preo id b hb
   . simp [Gh.cut, hR.len]
   . simp only [List.mem_singleton] at hp;subst hp;exact (hR.vals (v, v') (by simp)).cut _ ((hR.vals (v, v') (by simp)).norl _ hnr)
   . obtain ⟨q1, q2⟩ := hget h1;obtain ⟨q3, _⟩ := hget h2
     cases b with
     | un zs => exact hR.objo id (.un zs) o q1 q3
     | bk b => exact (hR.objs id b o q1 q3).cut (hlow id o q2 q3)
   . refine hkf _ ⟨by have := hk.1; simp only [tE]; omega, fun n hn hw ho id o hid hgo => ?_⟩;exact hk.2 n hn hw ho id o hid (hget hgo).1
 . exact ⟨g', hg, hR, hkf _ hk, rfl⟩
theorem Xl {gfn : Func} {tmps : Array Value} {Rp : Ending -> World -> Prop} {F : Fence} {n : Nat} {l : ke} {u : FrameMode} {base : List Deferred} (hu : u ≠ .run) : ∀ (ds : List Nat) (σ σ' : List IObj) (ms : List Deferred) (w : World), jV σ ds = some σ' -> MarksR g ds ms -> R g O l σ w ->
   (∀ w', R g O l σ' w' -> Grow O g w O g w' -> LeavesInM F n P gfn tmps Rp base u w') -> LeavesInM F n P gfn tmps Rp (ms ++ base) u w := by
 intro ds
 induction ds with
 | nil =>
   intro σ σ' ms w hs hd hR hk;have : ms = [] := List.eq_nil_of_length_eq_zero (by simpa using hd.1);subst this;simp [jV] at hs;subst hs;exact hk w hR (.refl _ _ _)
 | cons id ds ih =>
   intro σ σ' ms w hs hd hR hk
   cases ms with
   | nil => have := hd.1; simp at this
   | cons d ms =>
     obtain ⟨b, hι, rfl⟩ := hd.2 0 id d rfl rfl;simp only [jV] at hs;split at hs
     . rename_i hσ;have hob : w.heap[b]? = some (.deferred (some [])) := hR.objs id b _ hι hσ;have hlt : b < w.heap.size := (Array.getElem?_eq_some_iff.1 hob).1;obtain ⟨hR', hG⟩ := hR.putObj (ob' := .dead) (x := .deferred none) hι hσ (by simp) hlt (by rw [hob]; simp) trivial (.inr rfl) rfl;refine ⟨hu, .inl ⟨b, _, rfl, run_takeDeferred hob, ?_⟩⟩;exact ih _ σ' ms _ hs ⟨by have := hd.1; simp at this; exact this, fun i id' d' h1 h2 => hd.2 (i + 1) id' d' (by simpa using h1) (by simpa using h2)⟩ hR' (fun w' k1 k2 => hk w' k1 (hG.trans k2))
     . cases hs
theorem QQ : ∀ (ds : List Nat) (σ σ' : List IObj), jV σ ds = some σ' -> Keep σ σ' (ds.map fun id => (id, false)) := by
 intro ds
 induction ds with
 | nil => intro σ σ' h; simp [jV] at h; subst h; exact .refl _
 | cons id ds ih =>
   intro σ σ' h;simp only [jV] at h;split at h
   . have h1 := ih _ _ h;have h2 : Keep σ (σ.set id .dead) [(id, false)] := Keep.set fun n _ _ _ => trivial;have h3 := h2.trans h1;refine ⟨h3.1, fun n hn hw ho => h3.2 n hn (fun p hp hp2 => hw p ?_ hp2) ho⟩;simp only [List.mem_append, List.mem_singleton, rR, List.mem_cons] at hp ⊢
     rcases hp with hp | hp
     . exact .inr hp
     . exact .inl (by simpa using hp)
   . cases h
end Go.Idl
namespace Go.Idl
variable [Globs]
def plain : Opd -> Bool
 | .m _ => false
 | _ => true
def Kt : Option Opd -> Bool
 | some x => plain x
 | none => true
theorem vG {x : Opd} (h : plain x = true) {ts ts' : Ts} {v : IVal} (hg : x.get ts = some (v, ts')) : ts' = ts := by
 cases x <;> simp [plain] at h <;> simp [Opd.get] at hg
 . split at hg
   . simp at hg; exact hg.2.symm
   . cases hg
 . exact hg.2.symm
theorem jD {x : Opd} {xs : List Opd} {ts ts' : Ts} {vs : List IVal} : getAll (x :: xs) ts = some (vs, ts') ↔ ∃ v t1 ws, x.get ts = some (v, t1) /\ getAll xs t1 = some (ws, ts') /\ vs = v :: ws := by
 simp only [getAll]
 constructor
 . intro h;split at h
   . rename_i v t1 hx;split at h
     . rename_i ws t2 hxs;simp at h;obtain ⟨rfl, rfl⟩ := h;exact ⟨v, t1, ws, hx, hxs, rfl⟩
     . cases h
   . cases h
 . rintro ⟨v, t1, ws, h1, h2, rfl⟩;simp [h1, h2]
theorem jK {ts ts' : Ts} {vs : List IVal} : getAll [] ts = some (vs, ts') ↔ vs = [] /\ ts' = ts := by
 simp only [getAll, zO, zP];exact ⟨fun h => ⟨h.1.symm, h.2.symm⟩, fun h => ⟨h.1.symm, h.2.symm⟩⟩
theorem vR {xs ys : List Opd} : ∀ {ts ts' : Ts} {vs : List IVal}, getAll (xs ++ ys) ts = some (vs, ts') ↔ ∃ v1 t1 v2, getAll xs ts = some (v1, t1) /\ getAll ys t1 = some (v2, ts') /\ vs = v1 ++ v2 := by
 induction xs with
 | nil =>
   intro ts ts' vs;simp only [tJ, jK]
   constructor
   . intro h; exact ⟨[], ts, vs, ⟨rfl, rfl⟩, h, rfl⟩
   . rintro ⟨_, _, v2, ⟨rfl, rfl⟩, h, rfl⟩; exact h
 | cons x xs ih =>
   intro ts ts' vs;simp only [tI, jD, ih]
   constructor
   . rintro ⟨v, t1, _, h1, ⟨v1, t2, v2, h2, h3, rfl⟩, rfl⟩; exact ⟨v :: v1, t2, v2, ⟨v, t1, v1, h1, h2, rfl⟩, h3, rfl⟩
   . rintro ⟨_, t2, v2, ⟨v, t1, v1, h1, h2, rfl⟩, h3, rfl⟩; exact ⟨v, t1, _, h1, ⟨v1, t2, v2, h2, h3, rfl⟩, rfl⟩
def kU : IOp -> Bool
 | .pick _ a b => plain a && plain b
 | .sliceS _ lo hi => Kt lo && Kt hi
 | .sliceL _ _ lo hi mx => Kt lo && (Kt hi && Kt mx)
 | .extract x _ => plain x
 | _ => true
theorem qm {lo : Option Opd} (hp : Kt lo = true) {ts ts2 t1 t2 : Ts} {vs : List IVal} {d : Nat} (h1 : getAll lo.toList ts = some (vs, t1)) (h2 : getAll lo.toList ts2 = some (vs, t2)) :
   t1 = ts /\ t2 = ts2 /\ jq lo ts2 d = jq lo ts d := by
 cases lo with
 | none =>
   simp only [Option.toList, jK] at h1 h2;exact ⟨h1.2, h2.2, rfl⟩
 | some x =>
   simp only [Option.toList, jD, jK] at h1 h2;obtain ⟨v, t, ws, a1, ⟨rfl, rfl⟩, rfl⟩ := h1;obtain ⟨v', t', ws', b1, ⟨rfl, rfl⟩, e⟩ := h2;simp at e;subst e;have := vG hp a1;have := vG hp b1;subst t1 t2;refine ⟨rfl, rfl, ?_⟩;simp only [jq, a1, b1];cases v <;> rfl
theorem yJ {cf : kt} {o : IOp} (hd : kU o = true) {s : St} {ts2 t1 t2 : Ts} {vs : List IVal} {r : Res}
   (h1 : getAll (jj o) s.ts = some (vs, t1)) (h2 : getAll (jj o) ts2 = some (vs, t2)) (hs : ja cf o s = some r) :
   r.s.ts = t1 /\ ja cf o { s with ts := ts2 } = some { r with s := { r.s with ts := t2 } } := by
 cases o
 case panic x =>
   simp only [jj, jD, jK] at h1 h2;obtain ⟨v, t, ws, a1, ⟨rfl, rfl⟩, rfl⟩ := h1;obtain ⟨v', t', ws', b1, ⟨rfl, rfl⟩, e⟩ := h2;simp only [tP] at e;obtain ⟨rfl, -⟩ := e;simp only [ja, a1, b1, rv, jz] at hs ⊢
   repeat' split at hs
   all_goals first | (cases hs; done) | (simp only [zO] at hs; subst hs; simp_all; done) | (simp only [zO] at hs; subst hs; simp_all; obtain ⟨rfl, rfl⟩ := a2; simp_all; done)
 case clear zs x =>
   simp only [jj, jD, jK] at h1 h2;obtain ⟨v, t, ws, a1, ⟨rfl, rfl⟩, rfl⟩ := h1;obtain ⟨v', t', ws', b1, ⟨rfl, rfl⟩, e⟩ := h2;simp only [tP] at e;obtain ⟨rfl, -⟩ := e;simp only [ja, a1, b1, rv, jz] at hs ⊢;split at hs
   . rename_i e1;simp only [zO, zP] at e1;obtain ⟨rfl, rfl⟩ := e1;simp only;split at hs
     . split at hs
       . rename_i hc;rw [if_pos hc];simp only [zO] at hs; subst hs; exact ⟨rfl, rfl⟩
       . cases hs
     . cases hs
   . rename_i e1;simp only [zO, zP] at e1;obtain ⟨rfl, rfl⟩ := e1;simp only [zO] at hs; subst hs; exact ⟨rfl, rfl⟩
   . cases hs
 case pur k xs =>
   simp only [jj] at h1 h2;simp only [ja, h1, h2, rv] at hs ⊢;split at hs
   . rename_i hp; simp only [zO] at hs; subst hs; simp [hp]
   . cases hs
 case mem k xs =>
   simp only [jj] at h1 h2;simp only [ja, h1, h2] at hs ⊢;split at hs
   . rename_i hp; simp only [zO] at hs; subst hs; simp [hp]
   . cases hs
 case mv x | box x | vOf G tab x | boxv x | load mvf n x | nilCheck x | isnil neg k x | un op x | conv c x | mkIface ty x | fieldAddr o x | field o n x | lenS x | lenL x | lenM x =>
   simp only [jj, jD, jK] at h1 h2;obtain ⟨v, t, ws, a1, ⟨rfl, rfl⟩, rfl⟩ := h1;obtain ⟨v', t', ws', b1, ⟨rfl, rfl⟩, e⟩ := h2;simp only [tP] at e;obtain ⟨rfl, -⟩ := e;simp only [ja, a1, b1, rv, jz] at hs ⊢
   repeat' split at hs
   all_goals first | (cases hs; done) | (simp only [zO] at hs; subst hs; simp_all; done) | (simp only [zO] at hs; subst hs; simp_all; obtain ⟨rfl, rfl⟩ := a2; simp_all; done)
 case vSet G tab x y =>
   simp only [jj, jD, jK] at h1 h2;obtain ⟨v, t, ws, a1, ⟨v2, t3, ws2, a2, ⟨rfl, rfl⟩, rfl⟩, rfl⟩ := h1;obtain ⟨v', t', ws', b1, ⟨v2', t3', ws2', b2, ⟨rfl, rfl⟩, rfl⟩, e⟩ := h2;simp only [tP] at e;obtain ⟨rfl, rfl, -⟩ := e;simp only [ja, a1, b1, jz] at hs ⊢;split at hs
   . rename_i e1;simp only [zO, zP] at e1;obtain ⟨rfl, rfl⟩ := e1;simp only [a2, b2] at hs ⊢;split at hs
     . rename_i e2;simp only [zO, zP] at e2;obtain ⟨rfl, rfl⟩ := e2;split at hs
       . rename_i q1 q2;simp only [q1, q2] at hs ⊢;split at hs
         . rename_i q3;rw [if_pos q3];split at hs
           . rename_i q4;split at hs
             . rename_i q5;rw [if_pos q5];simp only [zO] at hs; subst hs; exact ⟨rfl, rfl⟩
             . cases hs
           . cases hs
         . cases hs
       . cases hs
     . cases hs
   . cases hs
 case store n x y | bin op x y | eqa neg x y | eqb neg x y | mkSl br esz bytes zs x y | idxAddr esz x y | idxAddrA len esz x y | idxS x y | idxA len esz n x y | lookup kk z ok x y | append br str esz bytes x y =>
   simp only [jj, jD, jK] at h1 h2;obtain ⟨v, t, ws, a1, ⟨v2, t3, ws2, a2, ⟨rfl, rfl⟩, rfl⟩, rfl⟩ := h1;obtain ⟨v', t', ws', b1, ⟨v2', t3', ws2', b2, ⟨rfl, rfl⟩, rfl⟩, e⟩ := h2;simp only [tP] at e;obtain ⟨rfl, rfl, -⟩ := e;simp only [ja, a1, b1, a2, b2, rv, jz] at hs ⊢
   repeat' split at hs
   all_goals first | (cases hs; done) | (simp only [zO] at hs; subst hs; simp_all; done) | (simp only [zO] at hs; subst hs; simp_all; obtain ⟨rfl, rfl⟩ := a2; simp_all; done)
 case copy str esz x y =>
   simp only [jj, jD, jK] at h1 h2;obtain ⟨v, t, ws, a1, ⟨v2, t3, ws2, a2, ⟨rfl, rfl⟩, rfl⟩, rfl⟩ := h1;obtain ⟨v', t', ws', b1, ⟨v2', t3', ws2', b2, ⟨rfl, rfl⟩, rfl⟩, e⟩ := h2;simp only [tP] at e;obtain ⟨rfl, rfl, -⟩ := e;cases v <;> simp [ja, a1, b1, a2, b2, rv, jz] at hs ⊢;split at hs
   . split at hs
     . rename_i hc;obtain ⟨rfl, hc2⟩ := hc;simp only [zO] at hs; subst hs; simp_all
     . cases hs
   . cases hs
 case mapSet kk x y z =>
   simp only [jj, jD, jK] at h1 h2;obtain ⟨v, t, ws, a1, ⟨v2, t3, ws2, a2, ⟨v3, t4, ws3, a3, ⟨rfl, rfl⟩, rfl⟩, rfl⟩, rfl⟩ := h1;obtain ⟨v', t', ws', b1, ⟨v2', t3', ws2', b2, ⟨v3', t4', ws3', b3, ⟨rfl, rfl⟩, rfl⟩, rfl⟩, e⟩ := h2;simp only [tP] at e;obtain ⟨rfl, rfl, rfl, -⟩ := e;cases v <;> simp [ja, a1, b1, a2, b2, a3, b3, rv] at hs ⊢;split at hs
   . split at hs
     . split at hs
       . simp only [zO] at hs; subst hs; simp_all
       . cases hs
     . cases hs
   . cases hs
 case build zs parts | buildSl esz xs | buildRs esz xs =>
   simp only [jj] at h1 h2;simp only [ja, h1, h2, rv, stepCall, jn] at hs ⊢
   repeat' split at hs
   all_goals first | (cases hs; done) | (simp only [zO] at hs; subst hs; simp_all; done) | (simp only [zO] at hs; subst hs; simp_all; obtain ⟨rfl, rfl⟩ := a2; simp_all; done)
 case minmax mx xs =>
   simp only [jj] at h1 h2
   revert h1 h2 hs
   rcases vs with _ | ⟨v, _ | ⟨v2, _ | ⟨v3, vs⟩⟩⟩ <;> intro h1 h2 hs
   . simp [ja, h1] at hs
   . simp [ja, h1] at hs
   . cases v <;> cases v2 <;> simp [ja, h1, h2, rv] at hs ⊢;obtain ⟨hk, hs⟩ := hs;subst hs;simp [hk]
   . simp [ja, h1] at hs
 case call f xs | callp f xs =>
   simp only [jj] at h1 h2;simp only [ja, h1, h2, rv, stepCall, jn] at hs ⊢
   repeat' split at hs
   all_goals first | (cases hs; done) | (simp only [zO] at hs; subst hs; simp_all; done) | (simp only [zO] at hs; subst hs; simp_all; obtain ⟨rfl, rfl⟩ := a2; simp_all; done)
 case alloc zs | mkMap =>
   simp only [jj, jK] at h1 h2;simp only [ja, zO] at hs ⊢;subst hs;simp [h1.2, h2.2]
 case extract x i =>
   simp only [jj, jD, jK] at h1 h2;obtain ⟨v, t, ws, a1, ⟨rfl, rfl⟩, rfl⟩ := h1;obtain ⟨v', t', ws', b1, ⟨rfl, rfl⟩, e⟩ := h2;simp only [tP] at e;obtain ⟨rfl, -⟩ := e;simp only [kU] at hd;cases v <;> simp [ja, a1, b1, rv] at hs ⊢;split at hs
   . cases x <;> simp [plain] at hd hs ⊢ <;> (subst hs; simp_all)
   . cases hs
 case pick c x y =>
   simp only [jj, jD, jK] at h1 h2;obtain ⟨v, t, ws, a1, ⟨v2, t3, ws2, a2, ⟨v3, t4, ws3, a3, ⟨rfl, rfl⟩, rfl⟩, rfl⟩, rfl⟩ := h1;obtain ⟨v', t', ws', b1, ⟨v2', t3', ws2', b2, ⟨v3', t4', ws3', b3, ⟨rfl, rfl⟩, rfl⟩, rfl⟩, e⟩ := h2;simp only [tP] at e;obtain ⟨rfl, rfl, rfl, -⟩ := e;simp only [kU, zA] at hd;have p1 := vG hd.1 a2;have p2 := vG hd.1 b2;subst p1 p2;have p1 := vG hd.2 a3;have p2 := vG hd.2 b3;subst p1 p2
   cases v with
   | bool b => cases b <;> simp [ja, a1, b1, a2, b2, a3, b3, rv] at hs ⊢ <;> (subst hs; simp)
   | _ => simp [ja, a1] at hs
 case mkFn f xs ys =>
   simp only [jj, vR] at h1 h2;obtain ⟨v1, u1, v2, a1, a2, rfl⟩ := h1;obtain ⟨v1', u1', v2', b1, b2, e⟩ := h2;have hl : v1.length = v1'.length := by rw [qf a1, qf b1]
   obtain ⟨rfl, rfl⟩ := List.append_inj e hl;simp only [ja, a1, b1, a2, b2, rv] at hs ⊢;split at hs
   . rename_i hc;simp only [zO] at hs;subst hs;simp [hc]
   . cases hs
 case inv tab x xs =>
   simp only [jj, jD] at h1 h2;obtain ⟨v, t, ws, a1, a2, rfl⟩ := h1;obtain ⟨v', t', ws', b1, b2, e⟩ := h2;simp only [tP] at e;obtain ⟨rfl, rfl⟩ := e;simp only [ja, a1, b1, stepCall, jn] at hs ⊢
   repeat' split at hs
   all_goals first | (cases hs; done) | (simp only [zO] at hs; subst hs; simp_all; done)
 case callv f xs =>
   simp only [jj, jD] at h1 h2;obtain ⟨v, t, ws, a1, a2, rfl⟩ := h1;obtain ⟨v', t', ws', b1, b2, e⟩ := h2;simp only [tP] at e;obtain ⟨rfl, rfl⟩ := e
   cases v with
   | fn gf us vs =>
     cases gf <;> simp [ja, a1, b1, a2, b2, stepCall, jn] at hs ⊢;split at hs
     . rename_i hc;simp only [zO] at hs;subst hs;simp [hc]
     . cases hs
   | yl id =>
     simp [ja, a1, b1, a2, b2, stepCall, jn] at hs ⊢;split at hs
     . rename_i hc;simp only [zO] at hs;subst hs;simp [hc]
     . cases hs
   | _ => simp [ja, a1] at hs
 case sliceS x lo hi =>
   simp only [jj, jD, vR] at h1 h2;obtain ⟨v, t, ws, a1, ⟨w1, t3, w2, a2, a3, rfl⟩, rfl⟩ := h1;obtain ⟨v', t', ws', b1, ⟨w1', t3', w2', b2, b3, rfl⟩, e⟩ := h2;simp only [tP] at e;obtain ⟨rfl, e⟩ := e;obtain ⟨rfl, rfl⟩ := List.append_inj e (by rw [qf a2, qf b2]);simp only [kU, zA] at hd
   cases v with
   | str b =>
     obtain ⟨rfl, rfl, q1⟩ := qm (d := 0) hd.1 a2 b2;obtain ⟨rfl, rfl, q2⟩ := qm (d := b.length) hd.2 a3 b3;simp only [ja, a1, b1, rv, q1, q2] at hs ⊢;split at hs
     . split at hs
       . simp only [zO] at hs; subst hs; simp_all
       . cases hs
     . cases hs
   | _ => simp [ja, a1] at hs
 case sliceL esz x lo hi mx =>
   simp only [jj, jD, vR] at h1 h2;obtain ⟨v, t, ws, a1, ⟨w1, t3, _, a2, ⟨w2, t4, w3, a3, a4, rfl⟩, rfl⟩, rfl⟩ := h1;obtain ⟨v', t', ws', b1, ⟨w1', t3', _, b2, ⟨w2', t4', w3', b3, b4, rfl⟩, rfl⟩, e⟩ := h2;simp only [tP] at e;obtain ⟨rfl, e⟩ := e;obtain ⟨rfl, e2⟩ := List.append_inj e (by rw [qf a2, qf b2]);obtain ⟨rfl, rfl⟩ := List.append_inj e2 (by rw [qf a3, qf b3]);simp only [kU, zA] at hd
   cases v with
   | sl own r xs =>
     obtain ⟨rfl, rfl, q1⟩ := qm (d := 0) hd.1 a2 b2;obtain ⟨rfl, rfl, q2⟩ := qm (d := xs.length) hd.2.1 a3 b3;obtain ⟨rfl, rfl, q3⟩ := qm (d := xs.length) hd.2.2 a4 b4;simp only [ja, a1, b1, rv, q1, q2, q3] at hs ⊢
     repeat' split at hs
     all_goals first | (cases hs; done) | (simp only [zO] at hs; subst hs; simp_all; done)
   | rs e id off len =>
     obtain ⟨rfl, rfl, q1⟩ := qm (d := 0) hd.1 a2 b2;obtain ⟨rfl, rfl, q2⟩ := qm (d := len) hd.2.1 a3 b3;obtain ⟨rfl, rfl, q3⟩ := qm (d := len) hd.2.2 a4 b4;simp only [ja, a1, b1, rv, q1, q2] at hs ⊢
     repeat' split at hs
     all_goals first | (cases hs; done) | (simp only [zO] at hs; subst hs; simp_all; done)
   | _ => simp [ja, a1] at hs
end Go.Idl
namespace Go.Idl
variable [Globs]
theorem XS {cf : kt} {o : IOp} (hq : jy o = true) {s : St} {r : Res} (hn : jU o s = true) (hs : ja cf o s = some r) :
   r.s.σ = s.σ /\ r.s.wr = s.wr /\ ∀ σ2, (∀ id, jR o s = some id -> σ2[id]? = s.σ[id]?) -> ja cf o { s with σ := σ2 } = some { r with s := { r.s with σ := σ2 } } := by
 cases o <;> simp only [jy, r8] at hq
 case load mvf n x =>
   simp only [tT] at hq;subst hq;simp only [ja, rv, jR] at hs ⊢
   cases hx : x.get s.ts with
   | none => simp [hx] at hs
   | some p =>
     obtain ⟨v, ts⟩ := p;cases v <;> simp [hx] at hs ⊢
     case ptr id off =>
       split at hs
       . rename_i cs hcs;split at hs
         . simp only [zO] at hs; subst hs;refine ⟨rfl, rfl, fun σ2 h2 => ?_⟩;have : jc σ2 id = jc s.σ id := by simp [jc, h2]
           simp_all
         . cases hs
       . cases hs
     case pv r cs off =>
       split at hs
       . simp only [zO] at hs; subst hs; simp_all
       . cases hs
 case lookup kk z ok x k | lenM x =>
   simp only [ja, rv, jR] at hs ⊢
   cases hx : x.get s.ts with
   | none => simp [hx] at hs
   | some p =>
     obtain ⟨v, ts⟩ := p;cases v <;> simp [hx] at hs ⊢
     case map id =>
       refine ⟨?_, ?_, fun σ2 h2 => ?_⟩
       . repeat' split at hs
         all_goals first | (cases hs; done) | (simp only [zO] at hs; subst hs; rfl)
       . repeat' split at hs
         all_goals first | (cases hs; done) | (simp only [zO] at hs; subst hs; rfl)
       . rw [h2]
         repeat' split at hs
         all_goals first | (cases hs; done) | (simp only [zO] at hs; subst hs; simp_all; done)
 case append br str esz bytes x y =>
   simp only [tT] at hq;subst hq;simp only [ja, rv, jU, r8, if_false, false_and] at hs hn ⊢
   cases hx : x.get s.ts with
   | none => simp [hx] at hs
   | some p =>
     obtain ⟨v, ts⟩ := p;simp only [hx] at hs hn
     cases hy : y.get ts with
     | none => simp [hy] at hs
     | some q =>
       obtain ⟨v2, ts2⟩ := q;simp only [hy] at hs hn;have he : ∀ σ2, jh str esz v2 σ2 = jh str esz v2 s.σ := by
         intro σ2;cases str <;> cases v2 <;> first | rfl | simp at hn
       refine ⟨?_, ?_, fun σ2 _ => ?_⟩
       . repeat' split at hs
         all_goals first | (cases hs; done) | (simp only [zO] at hs; subst hs; rfl)
       . repeat' split at hs
         all_goals first | (cases hs; done) | (simp only [zO] at hs; subst hs; rfl)
       . simp only [hy, he σ2]
         repeat' split at hs
         all_goals first | (cases hs; done) | (simp only [zO] at hs; subst hs; simp_all; done)
 case minmax mx xs =>
   simp only [ja, rv] at hs ⊢
   cases hx : getAll xs s.ts with
   | none => simp [hx] at hs
   | some p =>
     obtain ⟨vs, ts⟩ := p;simp only [hx] at hs
     rcases vs with _ | ⟨v, _ | ⟨v2, _ | ⟨v3, vs⟩⟩⟩
     . simp at hs
     . simp at hs
     . cases v <;> cases v2 <;> simp at hs ⊢;obtain ⟨hk, hs⟩ := hs;subst hs;simp [hk]
     . simp at hs
 all_goals
   simp only [ja, rv] at hs ⊢
   repeat' split at hs
   all_goals first | (cases hs; done) | (simp only [zO] at hs; subst hs; simp_all; done)
def Same (σ σ' : List IObj) (wr : List (Nat × Bool)) : Prop := ∀ id, id < σ.length -> (∀ p ∈ wr, p.1 ≠ id) -> σ'[id]? = σ[id]?
theorem Same.refl (σ : List IObj) : Same σ σ [] := fun _ _ _ => rfl
theorem Same.trans {σ σ1 σ2 : List IObj} {w1 w2 : List (Nat × Bool)} (h : Same σ σ1 w1) (k : Same σ1 σ2 w2) : Same σ σ2 (w2 ++ w1) := by
 intro id hid hw;have h1 := h id hid (fun p hp => hw p (by simp [hp]));have hlt : id < σ1.length := by
   rcases Nat.lt_or_ge id σ1.length with h2 | h2
   . exact h2
   . rw [rV h2, rG hid] at h1; cases h1
 rw [k id hlt (fun p hp => hw p (by simp [hp])), h1]
theorem Same.set (σ : List IObj) (i : Nat) (o : IObj) (b : Bool) : Same σ (σ.set i o) [(i, b)] := by
 intro id _ hw;have := hw (i, b) (by simp);rw [rA this]
theorem Same.push (σ : List IObj) (o : IObj) : Same σ (σ ++ [o]) [] := by
 intro id hid _;rw [zL hid]
def yi (cf : kt) : Prop := ∀ f args σ out, cf f args σ = some out -> Same σ out.σ out.wr
theorem Y7 {k : MemK} {vs : List IVal} {σ σ' : List IObj} {v : IVal} {wr : List (Nat × Bool)} (h : jO k vs σ = some (v, σ', wr)) : Same σ σ' wr := by
 unfold jO at h
 repeat' split at h
 all_goals first
   | (cases h; done)
   | (simp only [zO, zP] at h; obtain ⟨-, rfl, rfl⟩ := h; exact .refl _)
   | (simp only [zO, zP] at h; obtain ⟨-, rfl, rfl⟩ := h; exact .push _ _)
   | (simp only [zO, zP] at h; obtain ⟨-, rfl, rfl⟩ := h; exact (Same.push _ _).trans (.push _ _))
   | (simp only [zO, zP] at h; obtain ⟨-, rfl, rfl⟩ := h; exact ((Same.set _ _ _ false).trans (.push _ _)).trans (.push _ _))
   | (simp only [zO, zP] at h; obtain ⟨-, rfl, rfl⟩ := h; exact .set _ _ _ _)
theorem yc {cf : kt} (hcf : yi cf) {o : IOp} {s : St} {r : Res} (hs : ja cf o s = some r) : ∃ wn, r.s.wr = wn ++ s.wr /\ Same s.σ r.s.σ wn := by
 have hcall : ∀ f vs ts, stepCall cf f vs ts s = some r -> ∃ wn, r.s.wr = wn ++ s.wr /\ Same s.σ r.s.σ wn := by
   intro f vs ts h;unfold stepCall at h;split at h
   . rename_i out hout;simp only [zO] at h;subst h;exact ⟨out.wr, rfl, hcf _ _ _ _ hout⟩
   . cases h
 cases o
 case alloc zs => simp only [ja, zO] at hs; subst hs; exact ⟨[], rfl, .push _ _⟩
 case mkMap => simp only [ja, zO] at hs; subst hs; exact ⟨[], rfl, .push _ _⟩
 case call f xs =>
   simp only [ja] at hs;split at hs
   . exact hcall _ _ _ hs
   . cases hs
 case callv f xs =>
   simp only [ja] at hs;split at hs
   . split at hs
     . exact hcall _ _ _ hs
     . cases hs
   . split at hs
     . exact hcall _ _ _ hs
     . cases hs
   . cases hs
 case inv tab x xs =>
   simp only [ja] at hs
   repeat' split at hs
   all_goals first
     | (cases hs; done)
     | exact hcall _ _ _ hs
 case mem k xs =>
   simp only [ja] at hs;split at hs
   . split at hs
     . rename_i hm; simp only [zO] at hs; subst hs; exact ⟨_, rfl, Y7 hm⟩
     . cases hs
   . cases hs
 all_goals
   simp only [ja, rv, jz] at hs
   repeat' split at hs
   all_goals first
     | (cases hs; done)
     | (simp only [zO] at hs; subst hs; exact ⟨[], rfl, .refl _⟩)
     | (simp only [zO] at hs; subst hs; exact ⟨[], rfl, .push _ _⟩)
     | (simp only [zO] at hs; subst hs; exact ⟨[_], rfl, .set _ _ _ _⟩)
     | (simp only [zO] at hs; subst hs; exact ⟨[_], rfl, (Same.set _ _ .dead false).trans (.push _ _)⟩)
end Go.Idl
namespace Go.Idl
variable [Globs]
theorem Same.fin {σ σ' : List IObj} {wr : List (Nat × Bool)} (h : Same σ σ' wr) : Same σ (σ'.take σ.length) (wr.filter fun p => decide (p.1 < σ.length)) := by
 intro id hid hw;rw [tD, if_pos hid];refine h id hid fun p hp he => ?_;exact hw p (List.mem_filter.2 ⟨hp, by simp [he, hid]⟩) he
theorem Same.filter {σ σ' : List IObj} {wr : List (Nat × Bool)} (h : Same σ σ' wr) : Same σ σ' (wr.filter fun p => decide (p.1 < σ.length)) := by
 intro id hid hw;refine h id hid fun p hp he => ?_;exact hw p (List.mem_filter.2 ⟨hp, by simp [he, hid]⟩) he
def Chg (s s' : St) : Prop := ∃ wn, s'.wr = wn ++ s.wr /\ Same s.σ s'.σ wn
theorem Chg.refl (s : St) : Chg s s := ⟨[], rfl, .refl _⟩
theorem Chg.trans {s s1 s2 : St} (h : Chg s s1) (k : Chg s1 s2) : Chg s s2 := by
 obtain ⟨w1, h1, h2⟩ := h;obtain ⟨w2, k1, k2⟩ := k;exact ⟨w2 ++ w1, by rw [k1, h1, zS], h2.trans k2⟩
theorem VA : ∀ {rs : List RV} {s s' : St} {vs : List IVal}, jf rs s = some (vs, s') -> Chg s s' := by
 intro rs
 induction rs with
 | nil => intro s s' vs h; simp [jf] at h; obtain ⟨-, rfl⟩ := h; exact .refl _
 | cons r rs ih =>
   intro s s' vs h
   cases r with
   | t i =>
     simp only [jf] at h;split at h
     . split at h
       . rename_i h1;simp only [zO, zP] at h;obtain ⟨-, rfl⟩ := h;have := ih h1;exact this
       . cases h
     . cases h
   | cell i n =>
     simp only [jf] at h
     repeat' split at h
     all_goals first | (cases h; done) | skip
     rename_i h1;simp only [zO, zP] at h;obtain ⟨-, rfl⟩ := h;exact Chg.trans ⟨[_], rfl, Same.set _ _ _ _⟩ (ih h1)
theorem Ku {cf : kt} (hcf : yi cf) : ∀ {l : List IOper} {s s' : St} {x : IExit}, jm cf l s = some (x, s') -> Chg s s' := by
 intro l
 induction l with
 | nil => intro s s' x h; simp [jm] at h; obtain ⟨-, rfl⟩ := h; exact .refl _
 | cons o os ih =>
   intro s s' x h;simp only [jm] at h;split at h
   . split at h
     . rename_i v s1 h1;have h2 := ih h;exact Chg.trans (s1 := s1) (yc hcf h1) h2
     . rename_i v s1 h1;simp only [zO, zP] at h;obtain ⟨-, rfl⟩ := h;exact yc hcf h1
     . cases h
   . exact ih (s := { s with ts := jP s.ts o.dst jl }) h
   . cases h
theorem qr {cf : kt} (hcf : yi cf) {o : IOper} {s s' : St} {q : Option IVal} {l : DLog} (h : jx cf o s = some (q, s', l)) : s'.wr = l.wr ++ s.wr /\ Same s.σ s'.σ l.wr := by
 simp only [jx] at h;split at h
 . split at h
   . split at h
     . split at h
       . rename_i hs;obtain ⟨wn, h1, h2⟩ := yc hcf hs;simp only [zO, zP] at h;obtain ⟨rfl, rfl, rfl⟩ := h;simp only [rM] at h1;exact ⟨rfl, by rw [h1]; exact h2⟩
       . rename_i hs;obtain ⟨wn, h1, h2⟩ := yc hcf hs;simp only [zO, zP] at h;obtain ⟨rfl, rfl, rfl⟩ := h;simp only [rM] at h1;exact ⟨rfl, by rw [h1]; exact h2⟩
       . cases h
     . cases h
   . cases h
 . simp only [zO, zP] at h;obtain ⟨rfl, rfl, rfl⟩ := h;exact ⟨rfl, .refl _⟩
 . cases h
theorem VD {cf : kt} (hcf : yi cf) : ∀ {l : List (Nat × IOper)} {s s' : St} {q : Option (IVal × List (Nat × Bool))} {ls : List (Nat × DLog)}, jd cf l s = some (q, s', ls) -> Chg s s' := by
 intro l
 induction l with
 | nil => intro s s' q x h; simp [jd] at h; obtain ⟨-, rfl, -⟩ := h; exact .refl _
 | cons o os ih =>
   intro s s' q x h;simp only [jd] at h;split at h
   . rename_i s1 lg h1;split at h
     . rename_i h2;simp only [zO, zP] at h;obtain ⟨rfl, rfl, -⟩ := h;exact Chg.trans ⟨_, qr hcf h1⟩ (ih h2)
     . cases h
   . rename_i h1;simp only [zO, zP] at h;obtain ⟨-, rfl, -⟩ := h;exact ⟨_, qr hcf h1⟩
   . cases h
theorem Q9 {l : List (Nat × IOper)} {q : Option (IVal × List (Nat × Bool))} {s0 s s' : St} {x : IExit} (h : je l q s = some (x, s')) (hc : Chg s0 s) : Chg s0 s' := by
 cases q with
 | none => simp only [je, zO, zP] at h; obtain ⟨-, rfl⟩ := h; exact hc
 | some p =>
   simp only [je, zO, zP] at h;obtain ⟨-, rfl⟩ := h;obtain ⟨wn, h1, h2⟩ := hc;exact ⟨wn, h1, h2⟩
def yh (F : kg) (n : Nat) : kt := fun f args σ => match f with
 | .f f => match F f with
   | some fn => jw (eval F n) fn args σ
   | none => none
 | .y id => vI (eval F n) id args σ
theorem QR : ∀ (ds : List Nat) (σ σ' : List IObj), jV σ ds = some σ' -> Same σ σ' (ds.map fun id => (id, false)) := by
 intro ds
 induction ds with
 | nil => intro σ σ' h; simp [jV] at h; subst h; exact .refl _
 | cons id ds ih =>
   intro σ σ' h;simp only [jV] at h;split at h
   . have h3 := (Same.set σ id .dead false).trans (ih _ _ h);intro k hk hw;refine h3 k hk fun p hp => hw p ?_;simp only [List.mem_append, List.mem_singleton, rR, List.mem_cons] at hp ⊢
     rcases hp with hp | hp
     . exact .inr hp
     . exact .inl (by simpa using hp)
   . cases h
theorem KJ {pan : Bool} {v : IVal} {σ : List IObj} {s1 : St} (h : ∃ wn, s1.wr = wn ++ [] /\ Same σ s1.σ wn) : Same σ (jo σ.length pan v s1).σ (jo σ.length pan v s1).wr := by
 obtain ⟨wn, h1, h2⟩ := h;simp only [rM] at h1;subst h1;unfold jo;split
 . exact h2.fin
 . exact h2.filter
theorem YY {ev : ICode -> St -> Option (IExit × St)} (hev : ∀ {c : ICode} {s s' : St} {x : IExit}, ev c s = some (x, s') -> Chg s s') {d : DInfo} {c : ICode} {args : List IVal} {x y : IExit} {s s' : St} (h : yf ev d c args x s = some (y, s')) : Chg s s' := by
 unfold yf at h;split at h
 . rename_i m σ1 hm hsh;unfold Ju at h;split at h
   . rename_i z s3 h3;have key : Chg s { s with ts := { s.ts with ds := [] }, σ := s3.σ, wr := s3.wr ++ ((s.ts.ds.map fun id => (id, false)) ++ s.wr) } := by
       obtain ⟨w3, q1, q2⟩ := hev h3;refine ⟨s3.wr ++ (s.ts.ds.map fun id => (id, false)), by simp, ?_⟩;refine (QR _ _ _ hsh).trans ?_;simp only [rM] at q1;rw [q1]; exact q2
     split at h
     . cases h
     . split at h
       . simp only [zO, zP] at h;obtain ⟨-, rfl⟩ := h;exact key
       . cases h
   . cases h
 . cases h
theorem jak {F : kg} : ∀ n, yi (yh F n) /\ ∀ {c : ICode} {s s' : St} {x : IExit}, eval F n c s = some (x, s') -> Chg s s' := by
 have hret : ∀ {σ : List IObj} {s1 : St} {res : List RV} {out : Out}, (∃ wn, s1.wr = wn ++ [] /\ Same σ s1.σ wn) -> jY σ.length res s1 = some out -> Same σ out.σ out.wr := by
   intro σ s1 res out h0 h;obtain ⟨wn, q1, q2⟩ := h0;unfold jY at h;split at h
   . rename_i σ1 hsh;split at h
     . rename_i vs s' hrd;split at h
       . simp only [zO] at h;subst h;obtain ⟨wn', k1, k2⟩ := VA hrd;refine KJ ⟨wn' ++ ((s1.ts.ds.map fun id => (id, false)) ++ wn), ?_, ?_⟩
         . rw [k1]; simp only; rw [q1]; simp
         . exact (q2.trans (QR _ _ _ hsh)).trans k2
       . cases h
     . cases h
   . cases h
 have hcall : ∀ n, (∀ {c : ICode} {s s' : St} {x : IExit}, eval F n c s = some (x, s') -> Chg s s') -> yi (yh F n) := by
   intro n ih f args σ out h;unfold yh at h;split at h
   . split at h
     . unfold jw at h
       repeat' split at h
       all_goals first | (cases h; done) | skip
       . simp only [zO] at h; subst h; exact .refl _
       . rename_i h1; exact hret (ih h1) h
       . rename_i h1; exact hret (ih h1) h
       . rename_i h1 _ _;simp only [zO] at h;subst h;exact KJ (ih h1)
     . cases h
   . rename_i id;unfold vI at h;split at h
     . split at h
       . split at h
         . rename_i s1 h1;split at h
           . split at h
             . split at h
               . rename_i x s2 h2;split at h
                 . rename_i l2 _;have k0 : Chg { ts := ‹Ts›, σ := σ, wr := [] } s1 := ih h1;have k1 := ih h2;obtain ⟨w1, a1, a2⟩ := k0;obtain ⟨w2, b1, b2⟩ := k1;have key : ∀ (L : ILoop) (v : Bool), Same σ (jo σ.length false (.bool v) { s2 with σ := s2.σ.set id (.loop L), wr := (id, false) :: s2.wr }).σ (jo σ.length false (.bool v) { s2 with σ := s2.σ.set id (.loop L), wr := (id, false) :: s2.wr }).wr := by
                     intro L v;refine KJ ⟨[(id, false)] ++ (w2 ++ ([(id, false)] ++ w1)), ?_, ?_⟩
                     . simp only [b1, a1]; simp
                     . exact ((a2.trans (Same.set _ _ _ _)).trans b2).trans (Same.set _ _ _ _)
                   split at h
                   . simp only [zO] at h; subst h; exact key _ _
                   . split at h
                     . simp only [zO] at h; subst h; exact key _ _
                     . cases h
                 . cases h
               . cases h
             . cases h
           . cases h
         . cases h
       . cases h
     . cases h
 intro n
 suffices h : ∀ {c : ICode} {s s' : St} {x : IExit}, eval F n c s = some (x, s') -> Chg s s' from ⟨hcall n h, h⟩
 induction n with
 | zero => intro c s s' x h; simp [eval] at h
 | succ n ih =>
   have hcf := hcall n ih;have hcfe : (fun (f : Cal) (args : List IVal) (σ : List IObj) => match f with
     | .f f => match F f with
       | some fn => jw (eval F n) fn args σ
       | none => none
     | .y id => vI (eval F n) id args σ) = yh F n := rfl
   intro c s s' x h;cases c <;> simp only [eval, hcfe] at h
   case ops l => exact Ku hcf h
   case draw l pairs =>
     split at h
     . rename_i h1;split at h
       . exact Q9 h (VD hcf h1)
       . cases h
     . cases h
   case seq a b =>
     split at h
     . rename_i h1; exact (ih h1).trans (ih h)
     . exact ih h
   case cond y a b =>
     repeat' split at h
     all_goals first | (cases h; done) | exact ih h
   case block id b =>
     split at h
     . rename_i h1;split at h
       . simp only [zO, zP] at h; obtain ⟨-, rfl⟩ := h; exact ih h1
       . simp only [zO, zP] at h; obtain ⟨-, rfl⟩ := h; exact ih h1
     . exact ih h
   case loop b =>
     split at h
     . rename_i h1; exact (ih h1).trans (ih h)
     . exact ih h
   case scope b =>
     split at h
     . cases h
     . exact ih h
   case rangeF y ps a b =>
     split at h
     . split at h
       . rename_i v σ1 wr1 hc;split at h
         . rename_i l hl;have k0 := hcf (.f _) _ _ _ hc;have k1 : ∀ (ts : Ts), Chg s { ts := ts, σ := σ1.set (s.σ.length + 1) .dead, wr := (s.σ.length + 1, false) :: (wr1 ++ s.wr) } := by
             intro ts;refine ⟨(s.σ.length + 1, false) :: wr1, by simp, ?_⟩;have a1 : Same s.σ (s.σ ++ [.defr, .loop ⟨0, { s.ts with t := s.ts.t.un, ds := [] }, ps, a, b, none, .none⟩]) [] := by
               intro id hid _;rw [zL hid]
             have := (a1.trans k0).trans (Same.set σ1 (s.σ.length + 1) .dead false);simpa using this
           split at h
           . cases h
           . split at h
             . simp only [zO, zP] at h; obtain ⟨-, rfl⟩ := h; exact k1 _
             . split at h
               . simp only [zO, zP] at h; obtain ⟨-, rfl⟩ := h; exact k1 _
               . cases h
         . cases h
       . cases h
     . cases h
   case stuck => cases h
   case dfr l x xs d c b =>
     split at h
     . rename_i s1 h1;split at h
       . split at h
         . split at h
           . split at h
             . rename_i x2 s2 h2;have k1 := Ku hcf h1;have k2 := ih h2;exact k1.trans (Chg.trans ⟨k2.choose, k2.choose_spec.1, k2.choose_spec.2⟩ (YY ih h))
             . cases h
           . cases h
         . cases h
       . cases h
     . cases h
   case lib p => cases h
   all_goals (simp only [zO, zP] at h; obtain ⟨-, rfl⟩ := h; exact .refl _)
end Go.Idl
namespace Go.Idl
variable [Globs]
def Zk : Opd -> List Nat
 | .t i => [i]
 | .m i => [i]
 | .c _ => []
def V2 : Option (Nat × Bool) -> List Nat
 | some (t, _) => [t]
 | none => []
def qw (o : IOper) : List Nat := (jj o.op).flatMap Zk ++ V2 o.guard
theorem jaN {x : Opd} {i : Nat} (h : i ∈ XQ x) : i ∈ Zk x := by cases x <;> simp_all [XQ, Zk]
theorem y6 {o : IOper} {i : Nat} (h : i ∈ qR o) : i ∈ qw o := by
 simp only [qR, List.mem_flatMap] at h;obtain ⟨x, hx, hi⟩ := h;exact rZ _ (List.mem_flatMap.2 ⟨x, hx, jaN hi⟩)
theorem Ts.get?_set_ne {ts : Ts} {i k : Nat} {v : IVal} (h : ts.slot i ≠ ts.slot k) : (ts.set i v).get? k = ts.get? k := by
 have h2 : (ts.set i v).slot k = ts.slot k := rfl;unfold Ts.get?;rw [h2];simp only [Ts.set, Tm.get_ne _ _ _ _ h]
theorem Ts.set_comm {ts : Ts} {i k : Nat} {v u : IVal} (h : ts.slot i ≠ ts.slot k) : (ts.set i v).set k u = (ts.set k u).set i v := by
 have h1 : (ts.set i v).slot k = ts.slot k := rfl;have h2 : (ts.set k u).slot i = ts.slot i := rfl;simp only [Ts.set] at *;rw [h1, h2, Tm.set_comm _ _ _ _ _ h]
def mv1 (ts : Ts) (i : Nat) : Ts := match ts.get? i with
 | some v => ts.set i (un3 v)
 | none => ts
def kO (ms : List Nat) (ts : Ts) : Ts := ms.foldl mv1 ts
theorem vX {ts : Ts} {i : Nat} {v : IVal} (h : ts.get? i = some v) : mv1 ts i = ts.set i (un3 v) := by unfold mv1; rw [h]
theorem zp {ts : Ts} {i : Nat} (h : ts.get? i = none) : mv1 ts i = ts := by unfold mv1; rw [h]
theorem zq (ts : Ts) (i : Nat) : SameSh ts (mv1 ts i) := by unfold mv1; split <;> exact ⟨rfl, rfl, rfl⟩
theorem SameSh.slot {ts ts' : Ts} (h : SameSh ts ts') (k : Nat) : ts'.slot k = ts.slot k := by simp only [Ts.slot, h.1, h.2.1]
theorem qp (ms : List Nat) : ∀ (ts : Ts), SameSh ts (kO ms ts) := by
 induction ms with
 | nil => intro ts; exact .refl _
 | cons m ms ih => intro ts; exact (zq _ _).trans (ih _)
theorem jbN {ts : Ts} {i k : Nat} (h : ts.slot i ≠ ts.slot k) : (mv1 ts i).get? k = ts.get? k := by
 unfold mv1; split
 . exact Ts.get?_set_ne h
 . rfl
theorem jbM {ts : Ts} {i : Nat} : (mv1 ts i).get? i = (ts.get? i).map un3 := by
 cases hv : ts.get? i with
 | none => rw [zp hv, hv]; rfl
 | some v => rw [vX hv, Ts.get?_set hv]; rfl
theorem jaG {ms : List Nat} : ∀ {ts : Ts} {k : Nat}, (∀ m ∈ ms, ts.slot m ≠ ts.slot k) -> (kO ms ts).get? k = ts.get? k := by
 induction ms with
 | nil => intro ts k _; rfl
 | cons m ms ih =>
   intro ts k h;refine (ih (ts := mv1 ts m) fun m' hm => ?_).trans (jbN (h m (by simp)));rw [(zq ts m).slot, (zq ts m).slot]; exact h m' (by simp [hm])
theorem Zc {ts : Ts} {i m : Nat} {v : IVal} (h : ts.slot i ≠ ts.slot m) : mv1 (ts.set i v) m = (mv1 ts m).set i v := by
 unfold mv1;rw [Ts.get?_set_ne h];split
 . rw [Ts.set_comm h]
 . rfl
theorem Qw {ms : List Nat} : ∀ {ts : Ts} {i : Nat} {v : IVal}, (∀ m ∈ ms, ts.slot i ≠ ts.slot m) -> kO ms (ts.set i v) = (kO ms ts).set i v := by
 induction ms with
 | nil => intro ts i v _; rfl
 | cons m ms ih =>
   intro ts i v h;simp only [kO, List.foldl_cons];rw [Zc (h m (by simp))];refine ih (ts := mv1 ts m) fun m' hm => ?_;rw [(zq ts m).slot, (zq ts m).slot]; exact h m' (by simp [hm])
theorem jcV {ts : Ts} {i m : Nat} (h : ts.slot i ≠ ts.slot m) : mv1 (mv1 ts i) m = mv1 (mv1 ts m) i := by
 have h1 : (mv1 ts m).get? i = ts.get? i := jbN (Ne.symm h)
 cases hv : ts.get? i with
 | none =>
   rw [zp hv, zp (h1.trans hv)]
 | some v => rw [vX hv, vX (h1.trans hv), Zc h]
theorem Zd {ms : List Nat} : ∀ {ts : Ts} {i : Nat}, (∀ m ∈ ms, ts.slot i ≠ ts.slot m) -> kO ms (mv1 ts i) = mv1 (kO ms ts) i := by
 induction ms with
 | nil => intro ts i _; rfl
 | cons m ms ih =>
   intro ts i h;simp only [kO, List.foldl_cons];rw [jcV (h m (by simp))];refine ih (ts := mv1 ts m) fun m' hm => ?_;rw [(zq ts m).slot, (zq ts m).slot]; exact h m' (by simp [hm])
theorem Vr {ks : List Nat} : ∀ {ms : List Nat} {ts : Ts}, (∀ k ∈ ks, ∀ m ∈ ms, ts.slot k ≠ ts.slot m) -> kO ms (kO ks ts) = kO ks (kO ms ts) := by
 induction ks with
 | nil => intro ms ts _; rfl
 | cons k ks ih =>
   intro ms ts h;simp only [kO, List.foldl_cons];have h1 := ih (ms := ms) (ts := mv1 ts k) (fun k' hk m hm => by rw [(zq ts k).slot, (zq ts k).slot]; exact h k' (by simp [hk]) m hm);have h2 := Zd (ts := ts) (h k (by simp));simp only [kO] at h1 h2;rw [h1, h2]
def Off (U : List Nat) (ts ts2 : Ts) : Prop := ∀ k ∈ U, ts.get? k = ts2.get? k
theorem Off.symm {U : List Nat} {ts ts2 : Ts} (h : Off U ts ts2) : Off U ts2 ts := fun k hk => (h k hk).symm
theorem Ts.get?_set_iff {ts : Ts} {i k : Nat} {v : IVal} (h : ts.get? i = some v) (y : IVal) (hk : k ≠ i) : (ts.set i y).get? k = ts.get? k := by
 by_cases hs : ts.slot i = ts.slot k
 . have h1 := Ts.get?_spec h;have h2 : (ts.set i y).slot k = ts.slot k := rfl;unfold Ts.get?;rw [h2, <- hs, h1];simp only [Ts.set, Tm.get_set, Vh h1, cond_true];have : Nat.beq i k = false := by
     cases hb : Nat.beq i k with
     | false => rfl
     | true => exact absurd (zN hb).symm hk
   rw [this]; rfl
 . exact Ts.get?_set_ne hs
theorem Off.mv1 {U : List Nat} {ts ts2 : Ts} (h : Off U ts ts2) (i : Nat) (hi : i ∈ U) : Off U (mv1 ts i) (mv1 ts2 i) := by
 intro k hk
 by_cases e : k = i
 . subst e; rw [jbM, jbM, h k hi]
 . cases hv : ts.get? i with
   | none => rw [zp hv, zp ((h i hi).symm.trans hv)]; exact h k hk
   | some v =>
     have hv2 := (h i hi).symm.trans hv;rw [vX hv, vX hv2, Ts.get?_set_iff hv _ e, Ts.get?_set_iff hv2 _ e];exact h k hk
theorem yk {U : List Nat} {x : Opd} (hx : ∀ i ∈ Zk x, i ∈ U) {ts ts2 ts' : Ts} {v : IVal} (h : Off U ts ts2) (hg : x.get ts = some (v, ts')) :
   ts' = kO (XQ x) ts /\ x.get ts2 = some (v, kO (XQ x) ts2) /\ Off U ts' (kO (XQ x) ts2) := by
 cases x with
 | t i =>
   have hi := h i (hx i (by simp [Zk]));simp only [Opd.get, XQ, kO, List.foldl_nil] at hg ⊢;rw [<- hi];split at hg
   . simp only [zO, zP] at hg; obtain ⟨rfl, rfl⟩ := hg;exact ⟨rfl, rfl, h⟩
   . cases hg
 | m i =>
   have hiU := hx i (by simp [Zk]);have hi := h i hiU;simp only [Opd.get, XQ, kO, List.foldl_cons, List.foldl_nil] at hg ⊢;rw [<- hi];split at hg
   . rename_i v0 hv;simp only [zO, zP] at hg; obtain ⟨rfl, rfl⟩ := hg;have e1 := vX hv;have e2 := vX (hi.symm.trans hv);rw [e1, e2];refine ⟨rfl, rfl, ?_⟩;rw [<- e1, <- e2];exact h.mv1 i hiU
   . cases hg
 | c c =>
   simp only [Opd.get, zO, zP] at hg;obtain ⟨rfl, rfl⟩ := hg;exact ⟨rfl, rfl, h⟩
theorem zT {U : List Nat} {xs : List Opd} : ∀ {ts ts2 ts' : Ts} {vs : List IVal}, (∀ i ∈ xs.flatMap Zk, i ∈ U) -> Off U ts ts2 -> getAll xs ts = some (vs, ts') ->
   ts' = kO (xs.flatMap XQ) ts /\ getAll xs ts2 = some (vs, kO (xs.flatMap XQ) ts2) := by
 induction xs with
 | nil =>
   intro ts ts2 ts' vs _ _ h;rw [jK] at h;obtain ⟨rfl, rfl⟩ := h;exact ⟨rfl, rfl⟩
 | cons x xs ih =>
   intro ts ts2 ts' vs hU ho h;rw [jD] at h;obtain ⟨v, t1, ws, h1, h2, rfl⟩ := h;obtain ⟨e1, e2, e3⟩ := yk (fun i hi => hU i (by simp [hi])) ho h1;obtain ⟨f1, f2⟩ := ih (fun i hi => hU i (by simp at hi ⊢; exact .inr hi)) e3 h2;have happ : ∀ t, kO ((x :: xs).flatMap XQ) t = kO (xs.flatMap XQ) (kO (XQ x) t) := by
     intro t; simp [kO, List.foldl_append]
   refine ⟨by rw [happ, <- e1, f1], ?_⟩;rw [jD];exact ⟨v, _, ws, e2, by rw [happ]; exact f2, rfl⟩
theorem y9 {U : List Nat} {gd : Option (Nat × Bool)} (hU : ∀ i ∈ V2 gd, i ∈ U) {ts ts2 : Ts} (h : Off U ts ts2) : jg gd ts2 = jg gd ts := by
 cases gd with
 | none => rfl
 | some p => obtain ⟨t, b⟩ := p; simp only [jg]; rw [h t (hU t (by simp [V2]))]
theorem Jl {U : List Nat} {o : IOp} (hU : ∀ i ∈ (jj o).flatMap Zk, i ∈ U) {s : St} {ts2 : Ts} {σ2 : List IObj} {wr2 : List (Nat × Bool)} (h : Off U s.ts ts2) {vs : List IVal} {ts' : Ts} (hg : getAll (jj o) s.ts = some (vs, ts')) :
   jR o { ts := ts2, σ := σ2, wr := wr2 } = jR o s := by
 cases o <;> simp only [jR]
 case load mvf n x | lookup kk z ok x k | lenM x | store n x y =>
   simp only [jj, jD] at hg hU;obtain ⟨v, t1, ws, h1, h2, rfl⟩ := hg;obtain ⟨e1, e2, e3⟩ := yk (fun i hi => hU i (by simp [hi])) h h1;rw [h1, e2]; cases v <;> rfl
theorem KU {U : List Nat} {o : IOp} (hU : ∀ i ∈ (jj o).flatMap Zk, i ∈ U) {s : St} {ts2 : Ts} {σ2 : List IObj} {wr2 : List (Nat × Bool)} (h : Off U s.ts ts2) {vs : List IVal} {ts' : Ts} (hg : getAll (jj o) s.ts = some (vs, ts')) :
   jU o { ts := ts2, σ := σ2, wr := wr2 } = jU o s := by
 cases o <;> simp only [jU]
 case append br str esz bytes sv x =>
   simp only [jj, jD] at hg hU;obtain ⟨v, t1, ws, h1, ⟨v2, t2, ws2, h2, h3, rfl⟩, rfl⟩ := hg;obtain ⟨e1, e2, e3⟩ := yk (fun i hi => hU i (by simp [hi])) h h1;obtain ⟨f1, f2, f3⟩ := yk (fun i hi => hU i (by simp [hi])) e3 h2
   cases br with
   | true => rfl
   | false => simp only [h1, e2, h2, f2]; cases v2 <;> rfl
 case conv c x =>
   simp only [jj, jD] at hg hU;obtain ⟨v, t1, ws, h1, h2, rfl⟩ := hg;obtain ⟨e1, e2, e3⟩ := yk (fun i hi => hU i (by simp [hi])) h h1;rw [h1, e2]; cases v <;> rfl
end Go.Idl
namespace Go.Idl
variable [Globs]
theorem Off.refl (U : List Nat) (ts : Ts) : Off U ts ts := fun _ _ => rfl
theorem QW {cf : kt} {o : IOper} {s s1 : St} {q : Option IVal} {l : DLog} (h : jx cf o s = some (q, s1, l)) : l.len <= s.σ.length := by
 simp only [jx] at h
 repeat' split at h
 all_goals first | (cases h; done) | skip
 all_goals
   simp only [zO, zP] at h;obtain ⟨-, -, rfl⟩ := h;simp
def putP (q : Option IVal) (ts : Ts) (d : Option Nat) (v : IVal) : Ts := match q with
 | none => jP ts d v
 | some _ => ts
theorem yI {cf : kt} {o : IOper} (hd : kU o.op = true) {s s1 : St} {q : Option IVal} {l : DLog} (h : jx cf o s = some (q, s1, l)) :
   ∃ v ms, (∀ m ∈ ms, m ∈ qR o) /\ s1.ts = putP q (kO ms s.ts) o.dst v /\ s1.wr = l.wr ++ s.wr /\
     ∀ ts2 wr2, Off (qw o) s.ts ts2 -> jx cf o ⟨ts2, s.σ, wr2⟩ = some (q, ⟨putP q (kO ms ts2) o.dst v, s1.σ, l.wr ++ wr2⟩, l) := by
 have hU1 : ∀ i ∈ (jj o.op).flatMap Zk, i ∈ qw o := fun i hi => rZ _ hi;have hU2 : ∀ i ∈ V2 o.guard, i ∈ qw o := fun i hi => rW _ hi;simp only [jx] at h;split at h
 . rename_i hw;split at h
   . rename_i hn;split at h
     . rename_i p hg;obtain ⟨vs, t'⟩ := p;obtain ⟨e1, -⟩ := zT hU1 (Off.refl _ s.ts) hg;split at h
       . rename_i v s' hs;simp only [zO, zP] at h;obtain ⟨rfl, rfl, rfl⟩ := h;obtain ⟨d1, -⟩ := yJ hd (s := { s with wr := [] }) (ts2 := s.ts) hg hg hs;refine ⟨v, qR o, fun m hm => hm, ?_, rfl, fun ts2 wr2 ho => ?_⟩
         . simp only [putP] at d1 ⊢; rw [d1, e1]; rfl
         . obtain ⟨-, e2⟩ := zT hU1 ho hg;obtain ⟨-, d2⟩ := yJ hd (s := { s with wr := [] }) (ts2 := ts2) hg e2 hs;simp only [jx, y9 hU2 ho, hw, KU hU1 ho hg, Jl hU1 ho hg, hn, if_true, e2];simp only at d2;rw [d2];rfl
       . rename_i v s' hs;simp only [zO, zP] at h;obtain ⟨rfl, rfl, rfl⟩ := h;obtain ⟨d1, -⟩ := yJ hd (s := { s with wr := [] }) (ts2 := s.ts) hg hg hs;refine ⟨v, qR o, fun m hm => hm, ?_, rfl, fun ts2 wr2 ho => ?_⟩
         . simp only [putP] at d1 ⊢; rw [d1, e1]; rfl
         . obtain ⟨-, e2⟩ := zT hU1 ho hg;obtain ⟨-, d2⟩ := yJ hd (s := { s with wr := [] }) (ts2 := ts2) hg e2 hs;simp only [jx, y9 hU2 ho, hw, KU hU1 ho hg, Jl hU1 ho hg, hn, if_true, e2];simp only at d2;rw [d2];rfl
       . cases h
     . cases h
   . cases h
 . rename_i hw;simp only [zO, zP] at h;obtain ⟨rfl, rfl, rfl⟩ := h;refine ⟨jl, [], fun m hm => (by cases hm), rfl, rfl, fun ts2 wr2 ho => ?_⟩;simp only [jx, y9 hU2 ho, hw];rfl
 . cases h
def vd : IOp -> Bool
 | .call _ _ => true
 | .callv _ _ => true
 | .inv _ _ _ => true
 | .panic _ => true
 | _ => false
theorem QF {o : IOp} (h : jy o = true) : vd o = false := by cases o <;> first | rfl | cases h
theorem KA {cf : kt} {o : IOp} {s : St} {r : Res} (hs : ja cf o s = some r) (hp : r.pan = true) : vd o = true := by
 cases o
 case call f xs => rfl
 case callv f xs => rfl
 case inv tab x xs => rfl
 case panic x => rfl
 all_goals
   exfalso
   simp only [ja, rv] at hs
   repeat' split at hs
   all_goals first
     | (cases hs; done)
     | (simp only [zO] at hs; subst hs; cases hp; done)
theorem JW {cf : kt} {o : IOper} {s s1 : St} {v : IVal} {l : DLog} (h : jx cf o s = some (some v, s1, l)) : vd o.op = true := by
 simp only [jx] at h;split at h
 . split at h
   . split at h
     . split at h
       . cases h
       . rename_i hs; exact KA hs rfl
       . cases h
     . cases h
   . cases h
 . cases h
 . cases h
theorem qD {cf : kt} {o : IOper} (hq : jy o.op = true) {s s1 : St} {q : Option IVal} {l : DLog} (h : jx cf o s = some (q, s1, l)) :
   q = none /\ s1.σ = s.σ /\ l.wr = [] /\ ∀ σ2, (∀ id, l.rd = some id -> σ2[id]? = s.σ[id]?) -> jx cf o { s with σ := σ2 } = some (none, { s1 with σ := σ2 }, l) := by
 have hU1 : ∀ i ∈ (jj o.op).flatMap Zk, i ∈ qw o := fun i hi => rZ _ hi;simp only [jx] at h;split at h
 . rename_i hw;split at h
   . rename_i hn;split at h
     . rename_i p hg;obtain ⟨vs, t'⟩ := p;split at h
       . rename_i v s' hs;simp only [zO, zP] at h;obtain ⟨rfl, rfl, rfl⟩ := h;have hrd : ∀ σ2 wr2, jR o.op { ts := s.ts, σ := σ2, wr := wr2 } = jR o.op s := fun σ2 wr2 => Jl hU1 (Off.refl _ s.ts) hg;have hnr : ∀ σ2 wr2, jU o.op { ts := s.ts, σ := σ2, wr := wr2 } = jU o.op s := fun σ2 wr2 => KU hU1 (Off.refl _ s.ts) hg;obtain ⟨q1, q2, q3⟩ := XS hq (s := { s with wr := [] }) ((hnr s.σ []).trans hn) hs;simp only at q1 q2;refine ⟨rfl, q1, q2, fun σ2 hσ => ?_⟩;have q4 := q3 σ2 (fun id hid => hσ id (by rw [<- hid]; exact (hrd s.σ []).symm));simp only at q4;simp only [jx, hw, hnr, hrd, hn, if_true, hg, q4, hq]
       . rename_i v s' hs;have h1 := KA hs rfl;rw [QF hq] at h1; cases h1
       . cases h
     . cases h
   . cases h
 . rename_i hw;simp only [zO, zP] at h;obtain ⟨rfl, rfl, rfl⟩ := h;refine ⟨rfl, rfl, rfl, fun σ2 hσ => ?_⟩;simp only [jx, hw, hq, if_true]
 . cases h
def J0 : IOp -> Bool
 | .store _ _ _ => true
 | _ => false
theorem Ja {cf : kt} {n : Nat} {x v : Opd} {s : St} {r : Res} (hs : ja cf (.store n x v) s = some r) :
   ∃ id ob b, jR (.store n x v) s = some id /\ id < s.σ.length /\ r.s.σ = s.σ.set id ob /\ r.s.wr = (id, b) :: s.wr /\ r.pan = false /\
     ∀ σ2 : List IObj, σ2[id]? = s.σ[id]? -> ja cf (.store n x v) { s with σ := σ2 } = some { r with s := { r.s with σ := σ2.set id ob } } := by
 simp only [ja, jz] at hs;split at hs
 . rename_i id off ts hx;split at hs
   . rename_i u ts2 hv;split at hs
     . rename_i cs hc;split at hs
       . rename_i hif;simp only [zO] at hs;subst hs;have hlt : id < s.σ.length := by
           unfold jc at hc;split at hc
           . rename_i h1; exact jk h1
           . cases hc
         refine ⟨id, _, _, by simp only [jR, hx], hlt, rfl, rfl, rfl, fun σ2 h2 => ?_⟩;have hc2 : jc σ2 id = some cs := by unfold jc at hc ⊢; rw [h2]; exact hc
         simp only [ja, hx, hv, hc2, jz];rw [if_pos hif]
       . cases hs
     . cases hs
   . cases hs
 . cases hs
theorem JX {cf : kt} {o : IOper} (ho : J0 o.op = true) {s s1 : St} {q : Option IVal} {l : DLog} (h : jx cf o s = some (q, s1, l)) :
   q = none /\ ((s1.σ = s.σ /\ ∀ σ2 : List IObj, σ2.length = s.σ.length -> jx cf o { s with σ := σ2 } = some (none, { s1 with σ := σ2 }, l)) \/
     ∃ id ob b, l.rd = some id /\ id < s.σ.length /\ s1.σ = s.σ.set id ob /\ l.wr = [(id, b)] /\
       ∀ σ2 : List IObj, σ2.length = s.σ.length -> σ2[id]? = s.σ[id]? -> jx cf o { s with σ := σ2 } = some (none, { s1 with σ := σ2.set id ob }, l)) := by
 obtain ⟨dst, op, gd⟩ := o;cases op <;> simp only [J0, r8] at ho;rename_i n x v;simp only [jx] at h;split at h
 . rename_i hw;split at h
   . rename_i hn;split at h
     . rename_i p hg;have hrd : ∀ σ2 wr2, jR (.store n x v) { ts := s.ts, σ := σ2, wr := wr2 } = jR (.store n x v) s := fun σ2 wr2 => Jl (fun i hi => rZ _ hi) (Off.refl (qw ⟨dst, .store n x v, gd⟩) s.ts) hg;split at h
       . rename_i u s' hs;simp only [zO, zP] at h;obtain ⟨rfl, rfl, rfl⟩ := h;obtain ⟨id, ob, b, k1, k2, k3, k4, -, k6⟩ := Ja hs;have k1 := (hrd s.σ []).symm.trans k1;simp only at k2 k3 k4 k6;refine ⟨rfl, .inr ⟨id, ob, b, k1, k2, k3, k4, fun σ2 hl h2 => ?_⟩⟩;have k7 := k6 σ2 h2;have hnr : jU (.store n x v) ⟨s.ts, σ2, s.wr⟩ = true := rfl;simp only [jx, hw, hnr, if_true, hg];rw [k7];simp only [hrd, hl]
       . rename_i u s' hs;obtain ⟨id, ob, b, k1, k2, k3, k4, k5, k6⟩ := Ja hs;cases k5
       . cases h
     . cases h
   . cases h
 . rename_i hw;simp only [zO, zP] at h;obtain ⟨rfl, rfl, rfl⟩ := h;refine ⟨rfl, .inl ⟨rfl, fun σ2 hl => ?_⟩⟩;simp only [jx, hw, hl]
 . cases h
def vW : IOp -> Bool
 | .load _ _ _ => true
 | .lookup _ _ _ _ _ => true
 | .lenM _ => true
 | .store _ _ _ => true
 | _ => false
theorem Xo {cf : kt} {o : IOper} (hr : vW o.op = false) {s s1 : St} {q : Option IVal} {l : DLog} (h : jx cf o s = some (q, s1, l)) : l.rd = none := by
 have hrd : jR o.op s = none := by cases ho : o.op <;> simp [ho, vW] at hr <;> rfl
 simp only [jx] at h
 repeat' split at h
 all_goals first | (cases h; done) | skip
 all_goals
   simp only [zO, zP] at h;obtain ⟨-, -, rfl⟩ := h
   first | rfl | exact hrd
def Kh (sl : Nat -> Nat) (d : Option Nat) (U : List Nat) : Bool := match d with
 | some k => U.all fun u => !(Nat.beq (sl k) (sl u))
 | none => true
def jcf (sl : Nat -> Nat) (d e : Option Nat) : Bool := match d, e with
 | some a, some b => !(Nat.beq (sl a) (sl b))
 | _, _ => true
def J5 (sl : Nat -> Nat) (i j : IOper) : Bool :=
 (kU i.op && kU j.op) && (((jy i.op || jy j.op) || (J0 i.op && J0 j.op)) && (jcf sl i.dst j.dst && ((Kh sl i.dst (qw j) && Kh sl j.dst (qw i)) &&
   ((qR i).all (fun k => Kh sl (some k) (qw j)) && (qR j).all (fun k => Kh sl (some k) (qw i))))))
theorem Ze {a b : Nat} (h : (!(Nat.beq a b)) = true) : a ≠ b := by
 intro e; subst e; simp at h
theorem vC {sl : Nat -> Nat} {k u : Nat} {U : List Nat} (h : Kh sl (some k) U = true) (hu : u ∈ U) : sl k ≠ sl u := Ze (List.all_eq_true.1 h u hu)
theorem jac {sl : Nat -> Nat} {a b : Nat} (h : jcf sl (some a) (some b) = true) : sl a ≠ sl b := Ze h
theorem Vt {U : List Nat} {ts : Ts} {ms : List Nat} {d : Option Nat} {v : IVal} (h1 : Kh ts.slot d U = true) (h2 : ∀ m ∈ ms, ∀ u ∈ U, ts.slot m ≠ ts.slot u) : Off U ts (jP (kO ms ts) d v) := by
 intro k hk;have h3 : (kO ms ts).get? k = ts.get? k := jaG fun m hm => h2 m hm k hk
 cases d with
 | none => exact h3.symm
 | some d =>
   have : (kO ms ts).slot d ≠ (kO ms ts).slot k := by
     rw [(qp ms ts).slot, (qp ms ts).slot]; exact vC h1 hk
   simp only [jP];rw [Ts.get?_set_ne this, h3]
theorem jaW {ts : Ts} {mi mj : List Nat} {di dj : Option Nat} {vi vj : IVal} (h0 : jcf ts.slot di dj = true) (h1 : ∀ k, di = some k -> ∀ m ∈ mj, ts.slot k ≠ ts.slot m) (h2 : ∀ k, dj = some k -> ∀ m ∈ mi, ts.slot k ≠ ts.slot m)
   (h3 : ∀ k ∈ mi, ∀ m ∈ mj, ts.slot k ≠ ts.slot m) :
   jP (kO mi (jP (kO mj ts) dj vj)) di vi = jP (kO mj (jP (kO mi ts) di vi)) dj vj := by
 have e1 : kO mi (jP (kO mj ts) dj vj) = jP (kO mi (kO mj ts)) dj vj := by
   cases dj with
   | none => rfl
   | some k => exact Qw fun m hm => by rw [(qp mj ts).slot, (qp mj ts).slot]; exact h2 k rfl m hm
 have e2 : kO mj (jP (kO mi ts) di vi) = jP (kO mj (kO mi ts)) di vi := by
   cases di with
   | none => rfl
   | some k => exact Qw fun m hm => by rw [(qp mi ts).slot, (qp mi ts).slot]; exact h1 k rfl m hm
 rw [e1, e2, Vr h3]
 cases di with
 | none => rfl
 | some a => cases dj with
   | none => rfl
   | some b =>
     simp only [jP];refine Ts.set_comm ?_;rw [(qp mi _).slot, (qp mi _).slot, (qp mj _).slot, (qp mj _).slot];exact Ne.symm (jac h0)
theorem JI {x y : DLog} {σ σ' : List IObj} (h : jp x y = true) (hl : y.len <= σ.length) (hs : Same σ σ' y.wr) : ∀ id, x.rd = some id -> σ'[id]? = σ[id]? := by
 intro id hid;unfold jp at h;rw [hid] at h;simp only [zA, decide_eq_true_eq, rD] at h;refine hs id (by omega) fun p hp e => ?_;have := h.2 p hp;simp [e] at this
theorem SameSh.putP {q : Option IVal} {ts : Ts} {d : Option Nat} {v : IVal} : SameSh ts (putP q ts d v) := by cases q with
 | none => exact .put
 | some _ => exact .refl _
theorem jbg {cf : kt} {o : IOper} (hd : kU o.op = true) {s s1 : St} {q : Option IVal} {l : DLog} (h : jx cf o s = some (q, s1, l)) : SameSh s.ts s1.ts := by
 obtain ⟨v, ms, -, e, -⟩ := yI hd h;rw [e];exact (qp _ _).trans .putP
theorem X3 {cf : kt} (hcf : yi cf) {i j : IOper} {s s1 s2 : St} (hi : J5 s.ts.slot i j = true) {li lj : DLog} (h1 : jx cf i s = some (none, s1, li)) (h2 : jx cf j s1 = some (none, s2, lj))
   (hp1 : jy i.op = true -> jy j.op = false -> jp li lj = true) (hp2 : jy j.op = true -> jy i.op = false -> jp lj li = true) (hp3 : J0 i.op = true -> J0 j.op = true -> jp li lj = true) :
   ∃ t1 t2, jx cf j s = some (none, t1, lj) /\ jx cf i t1 = some (none, t2, li) /\ t2.ts = s2.ts /\ t2.σ = s2.σ := by
 simp only [J5, zA, rD] at hi;obtain ⟨⟨di, dj⟩, hq, hne, ⟨hdi, hdj⟩, hmi, hmj⟩ := hi;obtain ⟨vi, mi, ki, ei, wi, Ti⟩ := yI di h1;obtain ⟨vj, mj, kj, ej, wj, Tj⟩ := yI dj h2;simp only [putP] at ei ej Ti Tj;have hmi' : ∀ m ∈ mi, ∀ u ∈ qw j, s.ts.slot m ≠ s.ts.slot u := fun m hm u hu => vC (hmi m (ki m hm)) hu;have hmj' : ∀ m ∈ mj, ∀ u ∈ qw i, s.ts.slot m ≠ s.ts.slot u := fun m hm u hu => vC (hmj m (kj m hm)) hu;have offj : Off (qw j) s1.ts s.ts := by rw [ei]; exact (Vt hdi hmi').symm
 have offi : Off (qw i) s.ts (jP (kO mj s.ts) j.dst vj) := Vt hdj hmj';have hts : jP (kO mi (jP (kO mj s.ts) j.dst vj)) i.dst vi = s2.ts := by
   rw [ej, ei];refine jaW hne (fun k hk m hm => ?_) (fun k hk m hm => ?_) (fun k hk m hm => hmi' k hk m (y6 (kj m hm)))
   . rw [hk] at hdi; exact vC hdi (y6 (kj m hm))
   . rw [hk] at hdj; exact vC hdj (y6 (ki m hm))
 have hj := Tj s.ts s.wr offj
 by_cases qi : jy i.op = true
 . obtain ⟨-, a1, a2, a3⟩ := qD qi h1;rw [a1] at hj;have hi2 := Ti _ (lj.wr ++ s.wr) offi;have hrd : ∀ id, li.rd = some id -> s2.σ[id]? = s.σ[id]? := by
     by_cases qj : jy j.op = true
     . intro id _; rw [(qD qj h2).2.1, a1]
     . have := JI (σ := s1.σ) (σ' := s2.σ) (hp1 qi (by simpa using qj)) (QW h2) (qr hcf h2).2;intro id hid; rw [this id hid, a1]
   obtain ⟨-, -, -, b3⟩ := qD qi hi2;have hi3 := b3 s2.σ hrd;exact ⟨_, _, hj, hi3, hts, rfl⟩
 . by_cases qj : jy j.op = true
   . obtain ⟨-, a1, a2, a3⟩ := qD qj hj;have hrd := JI (σ := s.σ) (σ' := s1.σ) (hp2 qj (by simpa using qi)) (QW h1) (qr hcf h1).2;have hj2 := a3 s.σ (fun id hid => (hrd id hid).symm);have hi2 := Ti _ (lj.wr ++ s.wr) offi;refine ⟨_, _, hj2, hi2, hts, ?_⟩;exact ((qD qj h2).2.1).symm
   . -- two stores
     have hss : J0 i.op = true /\ J0 j.op = true := by simpa [qi, qj] using hq
     obtain ⟨si, sj⟩ := hss;have hok := hp3 si sj;have hi2 := Ti _ (lj.wr ++ s.wr) offi;obtain ⟨-, hI⟩ := JX si hi2;obtain ⟨-, hJ⟩ := JX sj hj
     rcases hI with ⟨a1, a2⟩ | ⟨idi, obi, bi, a1, a2, a3, a4, a5⟩
     . simp only at a1;rw [a1] at hj;have hl2 : s2.σ.length = s.σ.length := by
         rcases hJ with ⟨b1, _⟩ | ⟨_, _, _, _, _, b3, _⟩
         . simp only at b1; rw [b1, a1]
         . simp only at b3; rw [b3, a1]; simp
       exact ⟨_, _, hj, a2 s2.σ hl2, hts, rfl⟩
     . simp only at a2 a3 a5
       rcases hJ with ⟨b1, b2⟩ | ⟨idj, obj, bj, b1, b2, b3, b4, b5⟩
       . simp only at b1;exact ⟨_, _, b2 s.σ (by rw [a3]; simp), hi2, hts, b1.symm⟩
       . simp only at b2 b3 b5;have hne2 : idi ≠ idj := by
           intro e;unfold jp at hok;rw [a1] at hok;simp [b4, e] at hok
         have hj2 := b5 s.σ (by rw [a3]; simp) (by rw [a3, rA hne2]);refine ⟨_, _, hj2, a5 _ (by simp) (by rw [rA (Ne.symm hne2)]), hts, ?_⟩;simp only;rw [b3, a3, List.set_comm _ _ hne2]
theorem VU {cf : kt} {i j : IOper} {s s1 s2 : St} (hi : J5 s.ts.slot i j = true) {v : IVal} {li lj : DLog} (h1 : jx cf i s = some (none, s1, li)) (h2 : jx cf j s1 = some (some v, s2, lj)) :
   ∃ t1, jx cf j s = some (some v, t1, lj) /\ t1.σ = s2.σ := by
 simp only [J5, zA, rD] at hi;obtain ⟨⟨di, dj⟩, hq, hne, ⟨hdi, hdj⟩, hmi, hmj⟩ := hi;obtain ⟨vi, mi, ki, ei, wi, Ti⟩ := yI di h1;obtain ⟨vj, mj, kj, ej, wj, Tj⟩ := yI dj h2;simp only [putP] at ei ej Ti Tj;have hmi' : ∀ m ∈ mi, ∀ u ∈ qw j, s.ts.slot m ≠ s.ts.slot u := fun m hm u hu => vC (hmi m (ki m hm)) hu;have offj : Off (qw j) s1.ts s.ts := by rw [ei]; exact (Vt hdi hmi').symm
 have hj := Tj s.ts s.wr offj;have hp := JW h2;have qj : jy j.op = false := by
   cases hq2 : jy j.op with
   | false => rfl
   | true => rw [QF hq2] at hp; cases hp
 have sj : J0 j.op = false := by
   cases ho : j.op <;> simp [ho, vd, J0] at hp ⊢
 have qi : jy i.op = true := by simpa [qj, sj] using hq
 obtain ⟨-, a1, -, -⟩ := qD qi h1;rw [a1] at hj;exact ⟨_, hj, rfl⟩
theorem Xp {cf : kt} {o : IOper} {s s1 t : St} {q : Option IVal} {l : DLog} (h : jx cf o s = some (q, s1, l)) (h1 : t.ts = s.ts) (h2 : t.σ = s.σ) : ∃ t1, jx cf o t = some (q, t1, l) /\ t1.ts = s1.ts /\ t1.σ = s1.σ := by
 have hrd : jR o.op t = jR o.op s := by cases ho : o.op <;> simp [jR, h1]
 have hnr : jU o.op t = jU o.op s := by cases ho : o.op <;> simp [jU, h1]
 have hst : ({ t with wr := [] } : St) = { s with wr := [] } := by cases t; cases s; simp_all
 have hd : jx cf o t = match jx cf o s with
     | some (q, s1, l) => some (q, { s1 with wr := l.wr ++ t.wr }, l)
     | none => none := by
   simp only [jx, hrd, hnr, hst, h1, h2]
   rcases jg o.guard s.ts with _ | _ | _
   . rfl
   . rfl
   ·
     cases jU o.op s with
     | false => rfl
     | true =>
       cases getAll (jj o.op) s.ts with
       | none => rfl
       | some p =>
         simp only [if_true]
         cases ja cf o.op { s with wr := [] } with
         | none => rfl
         | some r =>
           obtain ⟨pan, v, s'⟩ := r;cases pan <;> rfl
 rw [h] at hd;exact ⟨_, hd, rfl, rfl⟩
abbrev Pan := Option (IVal × List (Nat × Bool))
theorem runDraw_cons {cf : kt} {o : Nat × IOper} {os : List (Nat × IOper)} {s s' : St} {q : Pan} {ls : List (Nat × DLog)} : jd cf (o :: os) s = some (q, s', ls) ↔
   (∃ s1 l ls1, jx cf o.2 s = some (none, s1, l) /\ jd cf os s1 = some (q, s', ls1) /\ ls = (o.1, l) :: ls1) \/ (∃ v l, jx cf o.2 s = some (some v, s', l) /\ q = some (v, l.wr) /\ ls = []) := by
 constructor
 . intro h;simp only [jd] at h;split at h
   . rename_i s1 lg e1;split at h
     . rename_i s2 ls2 e2;simp only [zO, zP] at h;obtain ⟨rfl, rfl, rfl⟩ := h;exact .inl ⟨s1, lg, _, e1, e2, rfl⟩
     . cases h
   . rename_i v s1 l e1;simp only [zO, zP] at h;obtain ⟨rfl, rfl, rfl⟩ := h;exact .inr ⟨v, l, e1, rfl, rfl⟩
   . cases h
 . rintro (⟨s1, l, ls1, h1, h2, rfl⟩ | ⟨v, l, h1, rfl, rfl⟩)
   . simp [jd, h1, h2]
   . simp [jd, h1]
theorem XU {cf : kt} : ∀ {l : List (Nat × IOper)} {s s' t : St} {q : Pan} {ls : List (Nat × DLog)}, jd cf l s = some (q, s', ls) -> t.ts = s.ts -> t.σ = s.σ -> ∃ t', jd cf l t = some (q, t', ls) /\ t'.ts = s'.ts /\ t'.σ = s'.σ := by
 intro l
 induction l with
 | nil => intro s s' t q ls h h1 h2; simp [jd] at h; obtain ⟨rfl, rfl, rfl⟩ := h; exact ⟨t, rfl, h1, h2⟩
 | cons o os ih =>
   intro s s' t q ls h h1 h2
   rcases runDraw_cons.1 h with ⟨s1, lg, ls2, e1, e2, rfl⟩ | ⟨v, lg, e1, rfl, rfl⟩
   . obtain ⟨t1, f1, f2, f3⟩ := Xp e1 h1 h2;obtain ⟨t2, g1, g2, g3⟩ := ih e2 f2 f3;exact ⟨t2, runDraw_cons.2 (.inl ⟨t1, lg, ls2, f1, g1, rfl⟩), g2, g3⟩
   . obtain ⟨t1, f1, f2, f3⟩ := Xp e1 h1 h2;exact ⟨t1, runDraw_cons.2 (.inr ⟨v, lg, f1, rfl, rfl⟩), f2, f3⟩
def Ke (pairs : List (Nat × Nat)) (ls : List (Nat × DLog)) : Prop := ∀ x ∈ ls, ∀ y ∈ ls, (x.1, y.1) ∈ pairs -> jp x.2 y.2 = true
theorem Zo {pairs : List (Nat × Nat)} {ls : List (Nat × DLog)} (h : ji pairs ls = true) : Ke pairs ls := by
 intro x hx y hy hp;simp only [ji, rD] at h;have h1 := h _ hp x hx;simp only [bne_self_eq_false, Bool.false_or, rD] at h1;have h2 := h1 y hy;simpa using h2
def qH (sl : Nat -> Nat) (pairs : List (Nat × Nat)) (p q : Nat × IOper) : Bool :=
 J5 sl p.2 q.2 && (((!(jy p.2.op && vW p.2.op) || (jy q.2.op || pairs.contains (p.1, q.1))) && (!(jy q.2.op && vW q.2.op) || (jy p.2.op || pairs.contains (q.1, p.1)))) &&
   (!(J0 p.2.op && J0 q.2.op) || pairs.contains (p.1, q.1)))
theorem Qo {cf : kt} {pairs : List (Nat × Nat)} {sl : Nat -> Nat} {p q : Nat × IOper} (h : qH sl pairs p q = true) {s1 s2 t1 t2 : St} {lp lq : DLog} (hp : jx cf p.2 s1 = some (none, t1, lp)) (hq : jx cf q.2 s2 = some (none, t2, lq))
   {ls : List (Nat × DLog)} (hP : Ke pairs ls) (mp : (p.1, lp) ∈ ls) (mq : (q.1, lq) ∈ ls) :
   (jy p.2.op = true -> jy q.2.op = false -> jp lp lq = true) /\ (jy q.2.op = true -> jy p.2.op = false -> jp lq lp = true) /\ (J0 p.2.op = true -> J0 q.2.op = true -> jp lp lq = true) := by
 simp only [qH, zA] at h;obtain ⟨-, ⟨h1, h2⟩, h3⟩ := h;refine ⟨?_, ?_, ?_⟩
 . intro a b
   by_cases hr : vW p.2.op = true
   . simp [a, b, hr] at h1; exact hP _ mp _ mq h1
   . have := Xo (by simpa using hr) hp; simp [jp, this]
 . intro a b
   by_cases hr : vW q.2.op = true
   . simp [a, b, hr] at h2; exact hP _ mq _ mp h2
   . have := Xo (by simpa using hr) hq; simp [jp, this]
 . intro a b;simp [a, b] at h3; exact hP _ mp _ mq h3
theorem KZ {cf : kt} (hcf : yi cf) {pairs : List (Nat × Nat)} {i : Nat × IOper} {post : List (Nat × IOper)} : ∀ {pre : List (Nat × IOper)} {s s' : St} {q : Pan} {ls : List (Nat × DLog)}, (∀ p ∈ pre, qH s.ts.slot pairs p i = true /\ vd p.2.op = false) -> Ke pairs ls ->
   jd cf (pre ++ i :: post) s = some (q, s', ls) -> ∃ s'' ls', jd cf (i :: (pre ++ post)) s = some (q, s'', ls') /\ (q = none -> s''.ts = s'.ts) /\ s''.σ = s'.σ /\ ∀ x ∈ ls', x ∈ ls := by
 intro pre
 induction pre with
 | nil => intro s s' q ls _ _ h; exact ⟨s', ls, h, fun _ => rfl, rfl, fun _ hx => hx⟩
 | cons p pre ih =>
   intro s s' q ls hf hP h;simp only [tI] at h;have hfp := (hf p (by simp)).1;have hind : J5 s.ts.slot p.2 i.2 = true := by
     have := hfp;simp only [qH, zA] at this;exact this.1
   rcases runDraw_cons.1 h with ⟨s1, lp, ls1, e1, e2, rfl⟩ | ⟨v, lp, e1, -, -⟩
   . have hP1 : Ke pairs ls1 := fun x hx y hy => hP x (by simp [hx]) y (by simp [hy]);have hdp : kU p.2.op = true := by
       simp only [J5, zA] at hind;exact hind.1.1
     have hsl : s1.ts.slot = s.ts.slot := funext fun k => (jbg hdp e1).slot k;obtain ⟨s2, ls2, f1, f2, f3, f4⟩ := ih (fun q hq => by rw [hsl]; exact hf q (by simp [hq])) hP1 e2
     rcases runDraw_cons.1 f1 with ⟨s3, li, ls3, g1, g2, rfl⟩ | ⟨v, li, g1, rfl, rfl⟩
     . have mi : (i.1, li) ∈ (p.1, lp) :: ls1 := rK _ (f4 _ (by simp));obtain ⟨d1, d2, d3⟩ := Qo hfp e1 g1 hP (by simp) mi;obtain ⟨t1, t2, k1, k2, k3, k4⟩ := X3 hcf hind e1 g1 d1 d2 d3;obtain ⟨t3, m1, m2, m3⟩ := XU (t := t2) g2 k3 k4;refine ⟨t3, (i.1, li) :: (p.1, lp) :: ls3, ?_, fun hq => m2.trans (f2 hq), m3.trans f3, fun x hx => ?_⟩
       . refine runDraw_cons.2 (.inl ⟨t1, li, (p.1, lp) :: ls3, k1, ?_, rfl⟩);exact runDraw_cons.2 (.inl ⟨t2, lp, ls3, k2, m1, rfl⟩)
       . simp only [List.mem_cons] at hx ⊢
         rcases hx with hx | hx | hx
         . exact .inr (f4 x (by simp [hx]))
         . exact .inl hx
         . exact .inr (f4 x (by simp [hx]))
     . obtain ⟨t1, k1, k2⟩ := VU hind e1 g1;refine ⟨t1, [], runDraw_cons.2 (.inr ⟨v, li, k1, rfl, rfl⟩), fun h => (by cases h), k2.trans f3, fun x hx => (by cases hx)⟩
   . have h1 := JW e1;rw [(hf p (by simp)).2] at h1; cases h1
theorem Tm.set_set (x y : Option (Nat × IVal)) : ∀ (t : Tm) (k : Nat), (t.set x k).set y k = t.set y k := by
 intro t
 induction t with
 | leaf => intro k; rfl
 | node l c r ihl ihr =>
   intro k
   cases h0 : Nat.beq k 0 with
   | true => simp [Tm.set, h0]
   | false => cases h1 : Nat.beq (k % 2) 1 <;> simp [Tm.set, h0, h1, ihl, ihr]
theorem Xz {ts : Ts} {i j : Nat} {v : IVal} (h : ts.slot i = ts.slot j) : (ts.set j v).clr i = ts.clr i := by
 have h1 : (ts.set j v).slot i = ts.slot i := rfl;simp only [Ts.clr, h1, h];simp only [Ts.set, Tm.set_set]
theorem XA {ts : Ts} {i j : Nat} {v : IVal} (h : ts.slot i ≠ ts.slot j) : (ts.set j v).clr i = (ts.clr i).set j v := by
 have h1 : (ts.set j v).slot i = ts.slot i := rfl;have h2 : (ts.clr i).slot j = ts.slot j := rfl;simp only [Ts.clr, h1];simp only [Ts.clr] at h2;simp only [Ts.set, h2];rw [Tm.set_comm _ _ _ _ _ (Ne.symm h)]
theorem V0 : ∀ {X : List Nat} {ts : Ts} {j : Nat} {v : IVal}, j ∈ X -> (ts.set j v).clrs X = ts.clrs X := by
 intro X
 induction X with
 | nil => intro ts j v h; cases h
 | cons x X ih =>
   intro ts j v h;show ((ts.set j v).clr x).clrs X = (ts.clr x).clrs X
   by_cases hs : ts.slot x = ts.slot j
   . rw [Xz hs]
   . rw [XA hs]
     rcases List.mem_cons.1 h with rfl | h
     . exact absurd rfl hs
     . exact ih h
theorem Z6 {X : List Nat} {ts : Ts} {j : Nat} (h : j ∈ X) : (mv1 ts j).clrs X = ts.clrs X := by
 unfold mv1;split
 . exact V0 h
 . rfl
theorem XB {X : List Nat} : ∀ {ms : List Nat} {ts : Ts}, (∀ m ∈ ms, m ∈ X) -> (kO ms ts).clrs X = ts.clrs X := by
 intro ms
 induction ms with
 | nil => intro ts _; rfl
 | cons m ms ih =>
   intro ts h;exact (ih (ts := mv1 ts m) fun k hk => h k (by simp [hk])).trans (Z6 (h m (by simp)))
theorem Yn {X : List Nat} {q : Option IVal} {ts : Ts} {d : Option Nat} {v : IVal} (h : ∀ k, d = some k -> k ∈ X) : (putP q ts d v).clrs X = ts.clrs X := by
 cases q with
 | some _ => rfl
 | none => cases d with
   | none => rfl
   | some k => exact V0 (h k rfl)
def Yc (X : List Nat) (o : IOper) : Prop := (∀ m ∈ qR o, m ∈ X) /\ ∀ k, o.dst = some k -> k ∈ X
theorem zB {cf : kt} {o : IOper} (hd : kU o.op = true) {s s1 : St} {q : Option IVal} {l : DLog} {X : List Nat} (hX : Yc X o) (h : jx cf o s = some (q, s1, l)) : s1.ts.clrs X = s.ts.clrs X := by
 obtain ⟨v, ms, h1, e, -⟩ := yI hd h;rw [e, Yn hX.2, XB fun m hm => hX.1 m (h1 m hm)]
theorem zC {l : List (Nat × IOper)} {p : Nat × IOper} (h : p ∈ l) : Yc (yW l) p.2 := by
 refine ⟨fun m hm => ?_, fun k hk => ?_⟩
 . exact List.mem_flatMap.2 ⟨p, h, rW _ hm⟩
 . exact List.mem_flatMap.2 ⟨p, h, rZ _ (by simp [hk])⟩
end Go.Idl
namespace Go.Idl
variable [Globs]
variable {P : Program} {g : Gh} {O : List Nat} {w : World}
structure GrowB (n : Nat) (O : List Nat) (g : Gh) (w : World) (O' : List Nat) (g' : Gh) (w' : World) : Prop where
 size : w.heap.size <= w'.heap.size
 same : ∀ b, b < w.heap.size -> b ∉ O -> w'.heap[b]? = w.heap[b]? /\ g'.T b = g.T b /\ ∀ o, g'.M b o = g.M b o
 mono : ∀ b o v, g.M b o = some v -> g'.M b o = some v
 preo : ∀ (id : Nat) b, id < n -> g.ι[id]? = some b -> g'.ι[id]? = some b
 fresh : ∀ b ∈ O', b ∈ O \/ w.heap.size <= b
 code : g'.C = g.C
 os : w'.os = w.os
 tape : w'.tape = w.tape
 output : w'.output = w.output
 zm : ZM g g'
theorem GrowB.of {n : Nat} {O O' : List Nat} {g g' : Gh} {w w' : World} (h : Grow O g w O' g' w') : GrowB n O g w O' g' w' :=
 ⟨h.size, h.same, h.mono, fun id b _ hb => h.preo id b hb, h.fresh, h.code, h.os, h.tape, h.output, h.zm⟩
theorem GrowB.all {n : Nat} {O O' : List Nat} {g g' : Gh} {w w' : World} (h : GrowB n O g w O' g' w') (hn : g.ι.length <= n) : Grow O g w O' g' w' :=
 ⟨h.size, h.same, h.mono, fun id b hb => h.preo id b (Nat.lt_of_lt_of_le (jk hb) hn) hb, h.fresh, h.code, h.os, h.tape, h.output, h.zm⟩
theorem GrowB.trans {n : Nat} {O O' O'' : List Nat} {g g' g'' : Gh} {w w' w'' : World} (h : GrowB n O g w O' g' w') (k : GrowB n O' g' w' O'' g'' w'') : GrowB n O g w O'' g'' w'' := by
 refine ⟨Nat.le_trans h.size k.size, fun b hb hO => ?_, fun b o v hm => k.mono b o v (h.mono b o v hm), fun id b hid hb => k.preo id b hid (h.preo id b hid hb), fun b hb => ?_, k.code.trans h.code, k.os.trans h.os, k.tape.trans h.tape, k.output.trans h.output, h.zm.trans k.zm⟩
 . have h1 := h.same b hb hO;have hO' : b ∉ O' := fun hm => by
     rcases h.fresh b hm with h2 | h2
     . exact hO h2
     . omega
   have h2 := k.same b (Nat.lt_of_lt_of_le hb h.size) hO';exact ⟨h2.1.trans h1.1, h2.2.1.trans h1.2.1, fun o => (h2.2.2 o).trans (h1.2.2 o)⟩
 . rcases k.fresh b hb with h1 | h1
   . exact h.fresh b h1
   . exact .inr (Nat.le_trans h.size h1)
def Gh.addUn (g : Gh) (zs : List IVal) : Gh := { g with ι := g.ι ++ [.un zs] }
theorem R.pushUn {l : ke} {σ : List IObj} {zs : List IVal} (h : R g O l σ w) (hz : ∀ x ∈ zs, RL 0 x) : R (g.addUn zs) O l (σ ++ [.cells zs]) w := by
 have hιm : ∀ (id b : Nat), g.ι[id]? = some (Blk.bk b) -> (g.addUn zs).ι[id]? = some (Blk.bk b) := fun id b hb => by
   simp only [Gh.addUn]; rw [zL (jk hb)]; exact hb
 have hS : kY w (g.addUn zs).ι (σ ++ [.cells zs]) = kY w g.ι σ := by
   simp only [kY, Gh.addUn];rw [List.zipWith_append h.len];simp [qk]
 refine ⟨by simp [Gh.addUn, h.len], fun p hp => (h.vals p hp).mono hιm (fun _ _ _ h => h) (fun _ _ => rfl), fun id b x h1 h2 => ?_, by rw [hS]; exact h.nodup, by rw [hS]; exact h.sub, h.lt, h.claim, fun id b x h1 h2 hm => ?_, h.spare, h.glob, h.zs⟩
 . rcases vS h1 with h1' | ⟨h1', rfl⟩
   . have hid : id < σ.length := by rw [<- h.len]; exact jk h1'
     rw [zL hid] at h2
     cases b with
     | un ys => exact h.objo id (.un ys) x h1' h2
     | bk b => exact (h.objs id b x h1' h2).mono rfl hιm (fun _ _ _ h => h) rfl (fun _ _ => rfl)
   . rw [h1', h.len] at h2;simp at h2;subst h2;exact ⟨rfl, hz⟩
 . rcases vS h1 with h1' | ⟨h1', hbk⟩
   . have hid : id < σ.length := by rw [<- h.len]; exact jk h1'
     rw [zL hid] at h2;exact h.apart id b x h1' h2 hm
   . cases hbk
theorem GrowB.addUn (n : Nat) (O : List Nat) (g : Gh) (w : World) (zs : List IVal) : GrowB n O g w O (g.addUn zs) w :=
 ⟨rP _, fun _ _ _ => ⟨rfl, rfl, fun _ => rfl⟩, fun _ _ _ h => h, fun id b _ hb => by simp only [Gh.addUn]; rw [zL (jk hb)]; exact hb, fun _ h => .inl h, rfl, rfl, rfl, rfl, fun _ => ⟨rP _, fun _ h => h⟩⟩
def Gh.bear (g : Gh) (id b : Nat) : Gh := { g with ι := g.ι.set id (.bk b) }
theorem VY {id b : Nat} {zs : List IVal} (hι : g.ι[id]? = some (.un zs)) (j : Nat) (x : Blk) (hj : j ≠ id) (h : g.ι[j]? = some x) : (g.bear id b).ι[j]? = some x := by
 simp only [Gh.bear]; rw [rA (Ne.symm hj)]; exact h
theorem Qc {id b : Nat} {zs : List IVal} (hι : g.ι[id]? = some (.un zs)) (j k : Nat) (h : g.ι[j]? = some (.bk k)) : (g.bear id b).ι[j]? = some (.bk k) :=
 VY hι j _ (fun e => by subst e; rw [hι] at h; cases h) h
theorem R.bear {l : ke} {σ : List IObj} {id b : Nat} {zs : List IVal} (h : R g O l σ w) (hb : b ∉ O) (hlt : b < w.heap.size) (hM : ∀ o, g.M b o = none) (hT : g.T b = none) (hι : g.ι[id]? = some (.un zs))
   (hob : OBJ (g.bear id b) w b (.cells zs)) (ho : kR w b (.cells zs) = [b]) : R (g.bear id b) (b :: O) l σ w := by
 have hidl : id < σ.length := by rw [<- h.len]; exact jk hι
 have hσ : σ[id]? = some (.cells zs) := by
   have h1 := h.objo id (.un zs) (σ[id]) hι (by simp [hidl]);rw [rG hidl, h1.1]
 have hιm := fun (j k : Nat) (hj : g.ι[j]? = some (Blk.bk k)) => Qc (b := b) hι j k hj;have hget : (List.zipWith (qk w) g.ι σ)[id]? = some [] := by simp [tL, hι, hσ, qk]
 have hzip : List.zipWith (qk w) (g.ι.set id (.bk b)) σ = (List.zipWith (qk w) g.ι σ).set id [b] := by
   apply List.ext_getElem?;intro j
   by_cases hj : j = id
   . subst hj;rw [rH (by have := jk hι; simp; omega)];simp only [tL];rw [rH (jk hι), hσ];simp [qk, ho]
   . rw [rA (Ne.symm hj)];simp only [tL];rw [rA (Ne.symm hj)]
 obtain ⟨r, hr1, hr2⟩ := vw (d := [b]) hget;have hp : (ky l ++ kY w (g.bear id b).ι σ).Perm (b :: (ky l ++ kY w g.ι σ)) := by
   have e1 : (kY w (g.bear id b).ι σ).Perm (b :: kY w g.ι σ) := by
     show ((List.zipWith (qk w) (g.ι.set id (.bk b)) σ).flatten).Perm (b :: (List.zipWith (qk w) g.ι σ).flatten);rw [hzip];exact hr2.trans (by simpa using (hr1.symm.cons b))
   exact (e1.append_left _).trans tW
 refine ⟨by simp [Gh.bear, h.len], fun p hp' => (h.vals p hp').mono hιm (fun _ _ _ h => h) (fun _ _ => rfl), fun j k y h1 h2 => ?_, ?_, fun k hk => ?_, fun k hk => ?_, h.claim, fun j k y h1 h2 hm => ?_, fun k hk => ?_, h.glob, h.zs⟩
 . by_cases hj : j = id
   . subst hj;simp only [Gh.bear] at h1;rw [rH (jk hι)] at h1;cases h1;rw [hσ] at h2; cases h2;exact hob
   . simp only [Gh.bear] at h1;rw [rA (Ne.symm hj)] at h1
     cases k with
     | un ys => exact h.objo j (.un ys) y h1 h2
     | bk k => exact (h.objs j k y h1 h2).mono rfl hιm (fun _ _ _ h => h) rfl (fun _ _ => rfl)
 . rw [hp.nodup_iff, List.nodup_cons];exact ⟨fun hm => hb (h.sub b hm), h.nodup⟩
 . rcases List.mem_cons.1 (hp.mem_iff.1 hk) with rfl | hk
   . simp
   . exact rK _ (h.sub k hk)
 . rcases List.mem_cons.1 hk with rfl | hk
   . exact hlt
   . exact h.lt k hk
 . by_cases hj : j = id
   . subst hj;simp only [Gh.bear] at h1;rw [rH (jk hι)] at h1;cases h1;exact hM
   . simp only [Gh.bear] at h1;rw [rA (Ne.symm hj)] at h1;exact h.apart j k y h1 h2 hm
 . rcases List.mem_cons.1 hk with rfl | hk
   . intro ext top ht; simp [Gh.bear, hT] at ht
   . exact h.spare k hk
def Gh.born (g : Gh) (id k : Nat) : Gh := { g with ι := g.ι.set id (.bk k), T := fun b => if b = k then none else g.T b }
theorem R.born {l : ke} {σ : List IObj} {id : Nat} {zs : List IVal} {c : Array Value} {T : TypeId} (h : R g O l σ w) (hι : g.ι[id]? = some (.un zs)) (hc : Jh zs c.toList = true) :
   R (g.born id w.heap.size) (w.heap.size :: O) ((.ptr id 0, .pointer (some ⟨w.heap.size, 0, none⟩)) :: l) σ (w.alloc (.cells c T)) /\ ∀ n, n <= id -> GrowB n O g w (w.heap.size :: O) (g.born id w.heap.size) (w.alloc (.cells c T)) := by
 have h1 := h.allocW (.cells c T);have hk := h.notO;have h2 : R { g with T := fun b => if b = w.heap.size then none else g.T b } O l σ (w.alloc (.cells c T)) := by
   refine h1.ghost hk rfl rfl (fun _ _ _ => rfl) (fun _ _ h => h) (fun b hb => by simp [hb]) (fun o v hm => ?_);rw [h.noClaim o] at hm; cases hm
 have h3 : R (g.born id w.heap.size) (w.heap.size :: O) l σ (w.alloc (.cells c T)) := by
   refine h2.bear (id := id) (b := w.heap.size) (zs := zs) hk (by simp) h.noClaim (by simp) hι ?_ ?_
   . obtain ⟨q1, q2⟩ := qS (Gh.bear { g with T := fun b => if b = w.heap.size then none else g.T b } id w.heap.size) hc;exact ⟨c, T, (0, 0), jW w _, .inl rfl, by have := q1; simp at this ⊢; omega, fun i x v hx hv => by
       obtain ⟨r1, _, r3⟩ := q2 i x v hx (by simpa using hv);exact ⟨r1, r3⟩⟩
   . simp only [kR, kq];rw [flatten_nil];intro d hd;obtain ⟨i, x, y, r1, r2, rfl⟩ := kh hd;exact ((qS g hc).2 i x y r1 r2).2.1
 refine ⟨h3.push (.ptr _ 0 _ ?_) rfl, fun n hn => ⟨by simp, fun b hb _ => ⟨yB w _ b hb, by simp [Gh.born]; omega, fun _ => rfl⟩, fun _ _ _ h => h, fun j b hj hb => ?_, fun b hb => ?_, rfl, rfl, rfl, rfl, fun _ => ⟨rP _, fun _ h => h⟩⟩⟩
 . simp only [Gh.born]; rw [rH (jk hι)]
 . simp only [Gh.born]; rw [rA (by omega)]; exact hb
 . rcases List.mem_cons.1 hb with rfl | hb
   . exact .inr (rP _)
   . exact .inl hb
theorem jca {zs : List IVal} {vs : List Value} (h : Jh zs vs = true) : ∀ x ∈ zs, RL 0 x := by
 intro x hx;obtain ⟨i, hi⟩ := kc hx;obtain ⟨h1, h2⟩ := qS (⟨[], fun _ _ => none, fun _ => none, fun _ _ _ _ _ => True, fun _ => 0, fun _ => none⟩ : Gh) h;obtain ⟨v, hv⟩ := ku h1 hi;exact (h2 i x v hi hv).1.rl
def vq (p : Nat × IOper) : Option (List IVal) := match p.2.op, p.2.guard with
 | .alloc zs, none => some zs
 | _, _ => none
theorem vT {p : Nat × IOper} {zs : List IVal} (h : vq p = some zs) : p = (p.1, ⟨p.2.dst, .alloc zs, none⟩) := by
 obtain ⟨i, d, op, gd⟩ := p;unfold vq at h;simp only at h;split at h
 . cases h; rfl
 . cases h
def Kc : Nat -> List (Nat × IOper) -> List (Nat × IOper)
 | _, [] => []
 | b, p :: l => match vq p with
   | some _ => (p.1, ⟨p.2.dst, .mv (.c (.ptr b 0)), none⟩) :: Kc (b + 1) l
   | none => p :: l
def qt : Nat -> List (Nat × IOper) -> List (Nat × Nat × List IVal)
 | _, [] => []
 | b, p :: l => match vq p with
   | some zs => (p.1, b, zs) :: qt (b + 1) l
   | none => []
def qx (p : Nat × IOper) : Nat × IOper := match p with
 | (i, ⟨d, .mv (.c _), g⟩) => (i, ⟨d, .mv (.c (.bool true)), g⟩)
 | p => p
theorem Vd (sl : Nat -> Nat) (p q : Nat × IOper) : J5 sl (qx p).2 (qx q).2 = J5 sl p.2 q.2 := by
 have h : ∀ p : Nat × IOper, kU (qx p).2.op = kU p.2.op /\ jy (qx p).2.op = jy p.2.op /\ J0 (qx p).2.op = J0 p.2.op /\ (qx p).2.dst = p.2.dst /\ qw (qx p).2 = qw p.2 /\ qR (qx p).2 = qR p.2 := by
   intro p;unfold qx;split
   . exact ⟨rfl, rfl, rfl, rfl, rfl, rfl⟩
   . exact ⟨rfl, rfl, rfl, rfl, rfl, rfl⟩
 obtain ⟨a1, a2, a3, a4, a5, a6⟩ := h p;obtain ⟨b1, b2, b3, b4, b5, b6⟩ := h q;simp only [J5, a1, a2, a3, a4, a5, a6, b1, b2, b3, b4, b5, b6]
theorem Ki (sl : Nat -> Nat) (pairs : List (Nat × Nat)) (p q : Nat × IOper) : qH sl pairs (qx p) (qx q) = qH sl pairs p q /\ vd (qx p).2.op = vd p.2.op := by
 have h : ∀ p : Nat × IOper, (qx p).1 = p.1 /\ jy (qx p).2.op = jy p.2.op /\ J0 (qx p).2.op = J0 p.2.op /\ vW (qx p).2.op = vW p.2.op /\ vd (qx p).2.op = vd p.2.op := by
   intro p;unfold qx;split
   . exact ⟨rfl, rfl, rfl, rfl, rfl⟩
   . exact ⟨rfl, rfl, rfl, rfl, rfl⟩
 obtain ⟨a1, a2, a3, a4, a5⟩ := h p;obtain ⟨b1, b2, b3, b4, b5⟩ := h q;refine ⟨?_, a5⟩;simp only [qH, Vd, a1, a2, a3, a4, b1, b2, b3, b4]
theorem XG : ∀ (l : List (Nat × IOper)) (b c : Nat), (Kc b l).map qx = (Kc c l).map qx := by
 intro l
 induction l with
 | nil => intro b c; rfl
 | cons p l ih =>
   intro b c;simp only [Kc]
   cases vq p with
   | some zs => simp only [rR]; rw [ih (b + 1) (c + 1)]; rfl
   | none => rfl
theorem Qf (p : Nat × IOper) : (qx p).1 = p.1 := by unfold qx; split <;> rfl
theorem J7 {r : Nat × IOper -> Nat × IOper -> Prop} (hr : ∀ p q, r (qx p) (qx q) ↔ r p q) {l l' : List (Nat × IOper)} (he : l.map qx = l'.map qx) (h : l.Pairwise r) : l'.Pairwise r := by
 have h1 : (l.map qx).Pairwise r := List.pairwise_map.2 (h.imp fun {p q} hpq => (hr p q).2 hpq);rw [he] at h1;exact (List.pairwise_map.1 h1).imp fun {p q} hpq => (hr p q).1 hpq
theorem jbm : ∀ (l : List (Nat × IOper)) (b : Nat), (Kc b l).map (·.1) = l.map (·.1) /\ (Kc b l).map (·.2.dst) = l.map (·.2.dst) := by
 intro l
 induction l with
 | nil => intro b; exact ⟨rfl, rfl⟩
 | cons p l ih =>
   intro b;simp only [Kc]
   cases vq p with
   | some zs =>
     simp only [rR];rw [(ih (b + 1)).1, (ih (b + 1)).2];exact ⟨rfl, rfl⟩
   | none => exact ⟨rfl, rfl⟩
theorem X7 : ∀ (l : List (Nat × IOper)) (b : Nat), yW (Kc b l) = yW l := by
 intro l
 induction l with
 | nil => intro b; rfl
 | cons p l ih =>
   intro b;simp only [Kc]
   cases hh : vq p with
   | some zs =>
     have h1 := ih (b + 1);have e := vT hh;have h2 : qR p.2 = [] := by rw [e]; rfl
     simp only [yW] at h1 ⊢;simp only [rO, h1, h2];rfl
   | none => rfl
theorem Xt : ∀ {l : List (Nat × IOper)} {b : Nat} {p : Nat × IOper}, p ∈ Kc b l -> p ∈ l \/ ∃ d id zs, (p.1, id, zs) ∈ qt b l /\ p = (p.1, ⟨d, .mv (.c (.ptr id 0)), none⟩) /\ (p.1, (⟨d, .alloc zs, none⟩ : IOper)) ∈ l := by
 intro l
 induction l with
 | nil => intro b p hp; cases hp
 | cons q l ih =>
   intro b p hp;simp only [Kc, qt] at hp ⊢
   cases hh : vq q with
   | some zs =>
     rw [hh] at hp;simp only at hp ⊢;have e := vT hh
     rcases List.mem_cons.1 hp with rfl | hp
     . refine .inr ⟨q.2.dst, b, zs, by simp, rfl, ?_⟩;simp only;rw [<- e]; simp
     . rcases ih hp with h | ⟨d', id, zs', h1, h2, h3⟩
       . exact .inl (rK _ h)
       . exact .inr ⟨d', id, zs', rK _ h1, h2, rK _ h3⟩
   | none => rw [hh] at hp; exact .inl hp
theorem zi : ∀ {l : List (Nat × IOper)} {b : Nat} {h : Nat × Nat × List IVal}, h ∈ qt b l -> (∃ d, (h.1, (⟨d, .alloc h.2.2, none⟩ : IOper)) ∈ l) /\ b <= h.2.1 := by
 intro l
 induction l with
 | nil => intro b h hm; cases hm
 | cons q l ih =>
   intro b h hm;simp only [qt] at hm
   cases hh : vq q with
   | some zs =>
     rw [hh] at hm;have e := vT hh
     rcases List.mem_cons.1 hm with rfl | hm
     . refine ⟨⟨q.2.dst, ?_⟩, rP _⟩;simp only;rw [<- e]; simp
     . obtain ⟨⟨d', h1⟩, h2⟩ := ih hm;exact ⟨⟨d', rK _ h1⟩, by omega⟩
   | none => rw [hh] at hm; cases hm
theorem YO : ∀ {l : List (Nat × IOper)} {b : Nat} {h k : Nat × Nat × List IVal}, h ∈ qt b l -> k ∈ qt b l -> h.2.1 = k.2.1 -> h = k := by
 intro l
 induction l with
 | nil => intro b h k hm; cases hm
 | cons q l ih =>
   intro b h k hm km e;simp only [qt] at hm km
   cases hh : vq q with
   | some zs =>
     rw [hh] at hm km
     rcases List.mem_cons.1 hm with rfl | hm
     . rcases List.mem_cons.1 km with rfl | km
       . rfl
       . have := (zi km).2;simp only at e; omega
     . rcases List.mem_cons.1 km with rfl | km
       . have := (zi hm).2;simp only at e; omega
       . exact ih hm km e
   | none => rw [hh] at hm; cases hm
theorem YN : ∀ (l : List (Nat × IOper)) (b c : Nat), (qt b l).map (·.1) = (qt c l).map (·.1) := by
 intro l
 induction l with
 | nil => intro b c; rfl
 | cons p l ih =>
   intro b c;simp only [qt]
   cases vq p with
   | some zs => simp only [rR]; rw [ih (b + 1) (c + 1)]
   | none => rfl
theorem QI {cf : kt} : ∀ {l : List (Nat × IOper)} {s s' : St} {q : Pan} {ls : List (Nat × DLog)}, jd cf l s = some (q, s', ls) ->
   ∃ ls0, jd cf (Kc s.σ.length l) { s with σ := s.σ ++ (qt s.σ.length l).map fun h => .cells h.2.2 } = some (q, s', ls0) /\ ∀ x ∈ ls0, x ∈ ls \/ (x.2 = ⟨none, [], 0⟩ /\ ∃ h ∈ qt s.σ.length l, x.1 = h.1) := by
 intro l
 induction l with
 | nil =>
   intro s s' q ls h;refine ⟨ls, ?_, fun x hx => .inl hx⟩;simpa [Kc, qt] using h
 | cons p l ih =>
   intro s s' q ls h;simp only [Kc, qt]
   cases hh : vq p with
   | some zs =>
     have e := vT hh;have hst : jx cf ⟨p.2.dst, .alloc zs, none⟩ s = some (none, { ts := jP s.ts p.2.dst (.ptr s.σ.length 0), σ := s.σ ++ [.cells zs], wr := s.wr }, ⟨none, [], s.σ.length⟩) := by
       simp [jx, jg, jU, jj, getAll, ja, jR, jy]
     have e2 : p.2 = ⟨p.2.dst, .alloc zs, none⟩ := congrArg Prod.snd e
     rcases runDraw_cons.1 h with ⟨s1, li, ls1, h1, h2, rfl⟩ | ⟨v, li, h1, -, -⟩
     . rw [e2, hst] at h1;cases h1;obtain ⟨ls0, k1, k2⟩ := ih h2;simp only [rF, List.length_singleton] at k1 k2;refine ⟨(p.1, ⟨none, [], 0⟩) :: ls0, ?_, fun x hx => ?_⟩
       . refine runDraw_cons.2 (.inl ⟨_, ⟨none, [], 0⟩, ls0, ?_, k1, rfl⟩);simp [jx, jg, jU, jj, getAll, Opd.get, ja, rv, jR, jy]
       . rcases List.mem_cons.1 hx with rfl | hx
         . exact .inr ⟨rfl, _, List.mem_cons_self, rfl⟩
         . rcases k2 x hx with h3 | ⟨h3, hh, h4, h5⟩
           . exact .inl (rK _ h3)
           . exact .inr ⟨h3, hh, rK _ h4, h5⟩
     . rw [e2, hst] at h1; cases h1
   | none => exact ⟨ls, by simpa using h, fun x hx => .inl hx⟩
end Go.Idl
namespace Go.Idl
variable [Globs] [Base]
variable {C0 : Q5} {P : Program} {a : Act} {g : Gh} {O : List Nat} {w : World} {s : St} {cf : kt}
def Z9 (o : Oper) : List Nat := (o.after.toList.filter (Region.binds .any)).map (·.on)
def qu (ops : Array Oper) (k : Nat) : List Nat := match ops[k]? with
 | some o => Z9 o
 | none => []
def jb5 : List Oper -> List (List Nat) -> List (List Nat)
 | [], A => A
 | o :: os, A => jb5 os (A ++ [(Z9 o ++ (Z9 o).flatMap fun d => A.getD d []).eraseDups])
def DC (ops : Array Oper) (L : Nat -> Prop) : Prop := ∀ k, L k -> ∀ d ∈ qu ops k, L d
def Anc (ops : Array Oper) (A : List (List Nat)) : Prop := ∀ q as, A[q]? = some as -> ∀ L : Nat -> Prop, DC ops L -> (∀ d ∈ qu ops q, L d) -> ∀ p ∈ as, L p
theorem KR {l : List Nat} {x : Nat} (h : x ∈ l.eraseDups) : x ∈ l := by
 simpa using h
theorem Z1 {ops : Array Oper} : ∀ {os pre : List Oper} {A : List (List Nat)}, ops.toList = pre ++ os -> A.length = pre.length -> Anc ops A -> Anc ops (jb5 os A) := by
 intro os
 induction os with
 | nil => intro pre A _ _ h; exact h
 | cons o os ih =>
   intro pre A ho hl hA;refine ih (pre := pre ++ [o]) (by rw [ho]; simp) (by simp [hl]) ?_;intro q as hq L hL hd p hp
   by_cases hlt : q < A.length
   . rw [zL hlt] at hq;exact hA q as hq L hL hd p hp
   . have hqe : q = A.length := by
       have h1 := jk hq;simp at h1; omega
     subst hqe;simp only [List.getElem?_concat_length, zO] at hq;subst hq;have hat : qu ops A.length = Z9 o := by
       have : ops[A.length]? = some o := by rw [<- Array.getElem?_toList, ho, hl]; simp
       simp [qu, this]
     rw [hat] at hd;have hp := KR hp
     rcases List.mem_append.1 hp with hp | hp
     . exact hd p hp
     . obtain ⟨d, hdm, hpd⟩ := List.mem_flatMap.1 hp;rw [List.getD_eq_getElem?_getD] at hpd
       cases hAd : A[d]? with
       | none => rw [hAd] at hpd; cases hpd
       | some bs =>
         rw [hAd] at hpd;exact hA d bs hAd L hL (fun e he => hL d (hd d hdm) e he) p hpd
def pwB {α : Type} (r : α -> α -> Bool) : List α -> Bool
 | [] => true
 | x :: xs => xs.all (r x) && pwB r xs
theorem Xh {α : Type} {r : α -> α -> Bool} : ∀ {l : List α}, pwB r l = true -> l.Pairwise (fun x y => r x y = true) := by
 intro l
 induction l with
 | nil => intro _; exact .nil
 | cons x xs ih =>
   intro h;simp only [pwB, zA, rD] at h;exact .cons h.1 (ih h.2)
def z5 (P : Program) (z : Shape) (ops : Array Oper) (l : List (Nat × IOper)) (pairs : List (Nat × Nat)) : Bool :=
 (Nat.beq l.length ops.size && (List.range ops.size).all fun k => (l.map (·.1)).contains k) && ((l.all fun p => match ops[p.1]? with
   | some o => zt P ops o p.2 && (Z9 o).all (fun d => decide (d < ops.size) && !(Nat.beq d p.1))
   | none => false) && ((pwB (fun p q => !(Nat.beq p.1 q.1) && !((qu ops p.1).contains q.1)) l && (yP z.n (l.map (·.2)) && l.all fun p => kU p.2.op)) &&
     (pwB (fun p q => ((jb5 ops.toList []).getD q.1 []).contains p.1 || (!(vd p.2.op) && qH z.slot pairs p q)) (Kc 0 l) && (qt 0 l).all fun h => pairs.all fun p => !(Nat.beq p.2 h.1))))
theorem QX {ρ : Option Nat} {n i : Nat} {z : Shape} {ops : Array Oper} {Q : Exit -> Act -> World -> Prop} {K : Act -> World -> Prop} (hcf : CallOK P C0 cf) {o : Oper} {io : IOper} {s1 : St} {q : Option IVal} {l : DLog} (ho : ops[i]? = some o) (hok : zt P ops o io = true)
   (hds : ∀ d, io.dst = some d -> d < z.n) (hrun : jx cf io s = some (q, s1, l)) (hst : Stand C0 z g O s a w)
   (hK : q = none -> ∀ g' O' a' w', Goes g O s w g' O' s1 w' -> Stand C0 z g' O' s1 a' w' -> K a' w')
   (hP : ∀ v, q = some v -> ∀ g' O' w' v', Goes g O s w g' O' s1 w' -> R g' O' ((v, v') :: s1.ts.roots a.tmps) s1.σ w' -> DefsR g' s1.ts.ds a.defers -> WT s1.ts a.tmps -> Q (.panic [{ v := v', recovered := false }]) a w') : wpOpIn (WF ρ) n P ops Q i K a w := by
 obtain ⟨iod, iop, iog⟩ := io;simp only [zt, zA] at hok;obtain ⟨⟨hop, hdst⟩, hgd⟩ := hok;have hdst := eq_of_beq hdst;subst hdst;simp only [wpOpIn, ho];simp only [jx] at hrun;split at hrun
 . rename_i hwi;rw [if_pos (yM (o := o) (io := ⟨o.dst, iop, iog⟩) hgd hst hwi)];split at hrun
   . split at hrun
     . split at hrun
       . rename_i v s' hstep;simp only [zO, zP] at hrun;obtain ⟨rfl, rfl, rfl⟩ := hrun;refine Xd hcf hst.code hop (s := { s with wr := [] }) hstep hst.len hst.rel ρ n _ Q (fun _ v' w' hp => ?_) (fun h => by cases h);obtain ⟨g1, O1, wn, hg, hR, hl, hwr, hk⟩ := hp;have hsh := SameSh.step hstep;have hst1 := vH (N := z) (d := o.dst) (s := s') hR hl (by rw [hsh.2.2]; exact hst.defs.mono hg.pre) hst.size ⟨hsh.1.trans hst.sh.1, hsh.2.1.trans hst.sh.2⟩ (hg.code.trans hst.code) hds;simp only [rM] at hwr;exact hK rfl g1 O1 _ w' ⟨hg, ⟨s'.wr, rfl, by rw [hwr]; exact hk⟩⟩ ⟨hst1.rel, hst1.len, hst1.defs, hst1.size, hst1.sh, hst1.code⟩
       . rename_i v s' hstep;simp only [zO, zP] at hrun;obtain ⟨rfl, rfl, rfl⟩ := hrun;refine Xd hcf hst.code hop (s := { s with wr := [] }) hstep hst.len hst.rel ρ n _ Q (fun h => by cases h) (fun _ v' w' hp => ?_);obtain ⟨g1, O1, wn, hg, hR, hl, hwr, hk⟩ := hp;have hsh := SameSh.step hstep;simp only [rM] at hwr;exact hP v rfl g1 O1 w' v' ⟨hg, ⟨s'.wr, rfl, by rw [hwr]; exact hk⟩⟩ hR (by rw [hsh.2.2]; exact hst.defs.mono hg.pre) hl
       . cases hrun
     . cases hrun
   . cases hrun
 . rename_i hwi;rw [if_neg (by rw [yM (o := o) (io := ⟨o.dst, iop, iog⟩) hgd hst hwi]; simp)];simp only [zO, zP] at hrun;obtain ⟨rfl, rfl, rfl⟩ := hrun;have hR : R g O ((jl, undef) :: s.ts.roots a.tmps) s.σ w := hst.rel.push (kJ g) rfl;have hst1 := vH (N := z) (d := o.dst) (s := s) hR hst.len hst.defs hst.size hst.sh hst.code hds;exact ⟨fun _ _ => trivial, hK rfl g O _ w ⟨.refl O g w, ⟨[], rfl, .refl _⟩⟩ hst1⟩
 . cases hrun
structure GoesB (n : Nat) (g : Gh) (O : List Nat) (s : St) (w : World) (g' : Gh) (O' : List Nat) (s' : St) (w' : World) : Prop where
 grow : GrowB n O g w O' g' w'
 keep : ∃ wn, s'.wr = wn ++ s.wr /\ Keep s.σ s'.σ wn
theorem GoesB.of {n : Nat} {g' : Gh} {O' : List Nat} {s' : St} {w' : World} (h : Goes g O s w g' O' s' w') : GoesB n g O s w g' O' s' w' := ⟨.of h.grow, h.keep⟩
theorem GoesB.trans {n : Nat} {g1 g2 g3 : Gh} {O1 O2 O3 : List Nat} {s1 s2 s3 : St} {w1 w2 w3 : World} (h : GoesB n g1 O1 s1 w1 g2 O2 s2 w2) (k : GoesB n g2 O2 s2 w2 g3 O3 s3 w3) : GoesB n g1 O1 s1 w1 g3 O3 s3 w3 := by
 obtain ⟨wn, h1, h2⟩ := h.keep;obtain ⟨wn', k1, k2⟩ := k.keep;exact ⟨h.grow.trans k.grow, ⟨wn' ++ wn, by rw [k1, h1, zS], h2.trans k2⟩⟩
def Yh (P : Program) (o : Oper) (d : Option Nat) (zs : List IVal) : Prop :=
 o.dst = d /\ o.guard = none /\ ∃ T i z, o.op = .alloc T /\ P.info? T = some i /\ i.zero = some z /\ Jh zs z.cells.toList = true
theorem Qb {ops : Array Oper} {o : Oper} {d : Option Nat} {zs : List IVal} (h : zt P ops o ⟨d, .alloc zs, none⟩ = true) : Yh P o d zs := by
 simp only [zt, zA] at h;obtain ⟨⟨hop, hdst⟩, hgd⟩ := h;have hg : o.guard = none := by
   unfold KN at hgd;split at hgd
   . assumption
   . rename_i h1 h2; cases h2
   . cases hgd
 refine ⟨eq_of_beq hdst, hg, ?_⟩
 cases ho : o.op with
 | alloc T =>
   rw [ho] at hop;simp only [jeK] at hop;split at hop
   . rename_i i z hz;obtain ⟨z1, z2⟩ := k9 hz;exact ⟨T, i, z, rfl, z1, z2, hop⟩
   . cases hop
 | _ => rw [ho] at hop; simp only [jeK] at hop; cases hop
theorem Z2 {ρ : Option Nat} {n i k b : Nat} {z : Shape} {ops : Array Oper} {Q : Exit -> Act -> World -> Prop} {K : Act -> World -> Prop} {o : Oper} {d : Option Nat} {zs : List IVal} {s1 : St} {q : Option IVal} {l : DLog} (ho : ops[i]? = some o) (hh : Yh P o d zs)
   (hds : ∀ k, d = some k -> k < z.n) (hrun : jx cf ⟨d, .mv (.c (.ptr k 0)), none⟩ s = some (q, s1, l)) (hst : Stand C0 z g O s a w) (hι : g.ι[k]? = some (.un zs)) (hb : b <= k)
   (hK : ∀ O' a' w', GoesB b g O s w (g.born k w.heap.size) O' s1 w' -> Stand C0 z (g.born k w.heap.size) O' s1 a' w' -> K a' w') : q = none /\ wpOpIn (WF ρ) n P ops Q i K a w := by
 obtain ⟨hdst, hgd, T, ti, zv, hop, hi, hz, hc⟩ := hh;subst hdst;simp [jx, jg, jU, jj, getAll, Opd.get, ja, rv, jR, jy] at hrun;obtain ⟨rfl, rfl, -⟩ := hrun;refine ⟨rfl, ?_⟩;simp only [wpOpIn, ho];rw [if_pos (by simp [Region.wanted, hgd])];refine ⟨fun _ _ => trivial, ?_⟩;have hr : (execOp a.eval o).run P w = .ok (.value (.pointer (some ⟨w.heap.size, 0, none⟩))) (w.alloc (.cells zv.cells T)) := by
   simp [execOp, hop, Instr.alloc, zeroValue, typeInfo, hi, hz, qZ]
 rw [Oper.semAt_eq _ _ _ (fun c h => by rw [hop] at h; cases h), hr];obtain ⟨hR, hG⟩ := hst.rel.born hι hc (T := T);have hpre : ∀ (id b' : Nat), g.ι[id]? = some (Blk.bk b') -> (g.born k w.heap.size).ι[id]? = some (Blk.bk b') := fun id b' h => Qc hι id b' h;have hst1 := vH (N := z) (d := o.dst) (s := s) (a := a) hR hst.len (hst.defs.mono hpre) hst.size hst.sh hst.code hds;exact hK _ _ _ ⟨hG b hb, ⟨[], rfl, .refl _⟩⟩ hst1
structure Reg (P : Program) (z : Shape) (ops : Array Oper) (hs : List (Nat × Nat × List IVal)) (l : List (Nat × IOper)) (pairs : List (Nat × Nat)) : Prop where
 len : l.length = ops.size
 cov : ∀ k, k < ops.size -> k ∈ l.map (·.1)
 ok : ∀ p ∈ l, ∃ o, ops[p.1]? = some o /\ (zt P ops o p.2 = true \/ ∃ d id zs, (p.1, id, zs) ∈ hs /\ p.2 = ⟨d, .mv (.c (.ptr id 0)), none⟩ /\ Yh P o d zs) /\ ∀ d ∈ Z9 o, d < ops.size /\ d ≠ p.1
 ord : l.Pairwise fun p q => p.1 ≠ q.1 /\ q.1 ∉ qu ops p.1
 free : l.Pairwise fun p q => (∀ L : Nat -> Prop, DC ops L -> (∀ d ∈ qu ops q.1, L d) -> L p.1) \/ (qH z.slot pairs p q = true /\ vd p.2.op = false)
theorem jeP {n : Shape} {ops : Array Oper} {l : List (Nat × IOper)} {pairs : List (Nat × Nat)} (h : z5 P n ops l pairs = true) (b : Nat) : Reg P n ops (qt b l) (Kc b l) pairs /\ yP n.n ((Kc b l).map (·.2)) = true /\ (∀ p ∈ Kc b l, kU p.2.op = true) /\ (∀ h ∈ qt b l, ∀ p ∈ pairs, p.2 ≠ h.1) /\ ∀ h ∈ qt b l, ∀ x ∈ h.2.2, RL 0 x := by
 simp only [z5, zA] at h;obtain ⟨⟨h0, h1⟩, h2, ⟨h5, h3, h7⟩, h4, h8⟩ := h;have hok : ∀ p ∈ l, ∃ o, ops[p.1]? = some o /\ zt P ops o p.2 = true /\ ∀ d ∈ Z9 o, d < ops.size /\ d ≠ p.1 := by
   intro p hp;have := List.all_eq_true.1 h2 p hp;split at this
   . rename_i o ho;simp only [zA, rD, decide_eq_true_eq] at this;refine ⟨o, ho, this.1, fun d hd => ⟨(this.2 d hd).1, fun e => ?_⟩⟩;have h6 := (this.2 d hd).2;subst e;simp at h6
   . cases this
 obtain ⟨v1, v2⟩ := jbm l b;have vlen : (Kc b l).length = l.length := by have := congrArg List.length v1; simpa using this
 refine ⟨⟨by rw [vlen]; exact zN h0, fun k hk => ?_, fun p hp => ?_, ?_, ?_⟩, ?_, fun p hp => ?_, fun hd hm p hp e => ?_, fun hd hm x hx => ?_⟩
 . rw [v1];have := List.all_eq_true.1 h1 k (List.mem_range.2 hk);simpa using this
 . rcases Xt hp with hp | ⟨d, id, zs, q1, q2, q3⟩
   . obtain ⟨o, k1, k2, k3⟩ := hok p hp;exact ⟨o, k1, .inl k2, k3⟩
   . obtain ⟨o, k1, k2, k3⟩ := hok _ q3;exact ⟨o, k1, .inr ⟨d, id, zs, q1, congrArg Prod.snd q2, Qb k2⟩, k3⟩
 . have h6 : l.Pairwise fun p q => p.1 ≠ q.1 /\ q.1 ∉ qu ops p.1 := (Xh h5).imp fun {p q} hpq => by
     simp only [zA] at hpq;refine ⟨fun e => ?_, fun hm => ?_⟩
     . have h6 := hpq.1;rw [e] at h6;simp at h6
     . have h6 := hpq.2;rw [List.contains_iff_mem.2 hm] at h6;cases h6
   have h9 : (l.map (·.1)).Pairwise fun i j => i ≠ j /\ j ∉ qu ops i := List.pairwise_map.2 h6;rw [<- v1] at h9;exact List.pairwise_map.1 h9
 . refine J7 (fun p q => ?_) (XG l 0 b) ((Xh h4).imp fun {p q} hpq => ?_)
   . rw [Qf, Qf, (Ki _ _ p q).1, (Ki n.slot pairs p q).2]
   . simp only [Bool.or_eq_true] at hpq
     rcases hpq with hpq | hpq
     . left
       intro L hL hd;have hA : Anc ops (jb5 ops.toList []) := Z1 (pre := []) (by simp) rfl (fun q as hq => by simp at hq)
       cases hAq : (jb5 ops.toList [])[q.1]? with
       | none => simp [List.getD_eq_getElem?_getD, hAq] at hpq
       | some as =>
         simp only [List.getD_eq_getElem?_getD, hAq, Option.getD_some, List.contains_iff_mem] at hpq;exact hA q.1 as hAq L hL hd p.1 hpq
     . rw [zA] at hpq;exact .inr ⟨hpq.2, by simpa using hpq.1⟩
 . simp only [yP, rD] at h3 ⊢;intro io hio;obtain ⟨p, hp, rfl⟩ := List.mem_map.1 hio;have h6 : p.2.dst ∈ l.map (·.2.dst) := by rw [<- v2]; exact List.mem_map_of_mem hp
   obtain ⟨p', hp', e⟩ := List.mem_map.1 h6;rw [<- e];exact h3 p'.2 (List.mem_map_of_mem hp')
 . rcases Xt hp with hp | ⟨d, id, zs, q1, q2, q3⟩
   . exact List.all_eq_true.1 h7 p hp
   . rw [q2]; rfl
 . have h9 : hd.1 ∈ (qt 0 l).map (·.1) := by rw [YN l 0 b]; exact List.mem_map_of_mem hm
   obtain ⟨h', h10, h11⟩ := List.mem_map.1 h9;have h12 := List.all_eq_true.1 (List.all_eq_true.1 h8 h' h10) p hp;rw [h11, e] at h12;simp at h12
 . obtain ⟨⟨d, q1⟩, _⟩ := zi hm;obtain ⟨o, _, k2, _⟩ := hok _ q1;obtain ⟨_, _, T, i, z, _, _, _, hc⟩ := Qb k2;exact jca hc x hx
theorem jb7 {ρ : Option Nat} {n : Nat} {z : Shape} {ops : Array Oper} {l : List (Nat × IOper)} {hs : List (Nat × Nat × List IVal)} {b : Nat} {pairs : List (Nat × Nat)} {Q : Exit -> Act -> World -> Prop} (hcf : CallOK P C0 cf) (hcs : yi cf) (hreg : Reg P z ops hs l pairs) (hdr : ∀ p ∈ l, kU p.2.op = true)
   (hsb : ∀ h ∈ hs, b <= h.2.1) (hsi : ∀ h ∈ hs, ∀ k ∈ hs, h.2.1 = k.2.1 -> h = k) :
   ∀ (fuel : Nat) (rem : List (Nat × IOper)) (listed : Array Bool) (g : Gh) (O : List Nat) (s s' : St) (q : Pan) (ls : List (Nat × DLog)) (a : Act) (w : World),
     rem.Sublist l -> listed.size = ops.size -> (∀ k, k < ops.size -> (listed.getD k true = false ↔ k ∈ rem.map (·.1))) -> DC ops (fun k => listed.getD k false = true) -> rem.length <= fuel ->
     yP z.n (l.map (·.2)) = true -> jd cf rem s = some (q, s', ls) -> Ke pairs ls -> Stand C0 z g O s a w -> (∀ h ∈ hs, h.1 ∈ rem.map (·.1) -> g.ι[h.2.1]? = some (.un h.2.2)) ->
     (q = none -> ∀ g' O' t' a' w', t'.ts = s'.ts -> t'.σ = s'.σ -> (∃ wn, t'.wr = wn ++ s.wr /\ ∀ p ∈ wn, ∃ x ∈ ls, p ∈ x.2.wr) -> GoesB b g O s w g' O' t' w' -> Stand C0 z g' O' t' a' w' -> Q .normal a' w') ->
     (∀ v lw, q = some (v, lw) -> ∀ g' O' t' a' w' v', t'.ts.clrs (yW l) = s.ts.clrs (yW l) -> t'.σ = s'.σ -> (∃ wn, t'.wr = wn ++ s.wr /\ ∀ p ∈ wn, p ∈ lw \/ ∃ x ∈ ls, p ∈ x.2.wr) -> GoesB b g O s w g' O' t' w' ->
       R g' O' ((v, v') :: t'.ts.roots a'.tmps) t'.σ w' -> DefsR g' t'.ts.ds a'.defers -> WT t'.ts a'.tmps -> Q (.panic [{ v := v', recovered := false }]) a' w') ->
     wpAnyIn (WF ρ) n P .any ops Q fuel listed a w := by
 have hlt : ∀ p ∈ l, p.1 < ops.size := fun p hp => by
   obtain ⟨o, ho, -⟩ := hreg.ok p hp;exact (Array.getElem?_eq_some_iff.1 ho).1
 have hunl : ∀ {rem : List (Nat × IOper)} {listed : Array Bool} {k : Nat}, listed.size = ops.size -> (∀ k, k < ops.size -> (listed.getD k true = false ↔ k ∈ rem.map (·.1))) -> k ∈ Region.ready .any ops listed -> k ∈ rem.map (·.1) := by
   intro rem listed k hsz hlist hk;obtain ⟨h1, o, h2, -⟩ := mem_ready.1 hk;exact (hlist k (Array.getElem?_eq_some_iff.1 h2).1).1 h1
 have hnil : ∀ {listed : Array Bool} {fuel : Nat} {a : Act} {w : World}, listed.size = ops.size -> (∀ k, k < ops.size -> (listed.getD k true = false ↔ k ∈ ([] : List (Nat × IOper)).map (·.1))) -> Q .normal a w -> wpAnyIn (WF ρ) n P .any ops Q fuel listed a w := by
   intro listed fuel a w hsz hlist hq;refine wpAnyIn_done ?_ hq fuel;exact List.eq_nil_iff_forall_not_mem.2 fun k hk => by have := hunl hsz hlist hk; cases this
 intro fuel
 induction fuel with
 | zero =>
   intro rem listed g O s s' q ls a w hsub hsz hlist hdc hlen hds hrun hP hst _ hQ _;have : rem = [] := List.eq_nil_of_length_eq_zero (by omega);subst this;simp [jd] at hrun;obtain ⟨rfl, rfl, rfl⟩ := hrun;exact hnil hsz hlist (hQ rfl g O s a w rfl rfl ⟨[], rfl, fun p hp => by cases hp⟩ (.of (.refl _ _ _ _)) hst)
 | succ fuel ih =>
   intro rem listed g O s s' q ls a w hsub hsz hlist hdc hlen hds hrun hP hst hpn hQ hQP
   cases rem with
   | nil =>
     simp [jd] at hrun;obtain ⟨rfl, rfl, rfl⟩ := hrun;exact hnil hsz hlist (hQ rfl g O s a w rfl rfl ⟨[], rfl, fun p hp => by cases hp⟩ (.of (.refl _ _ _ _)) hst)
   | cons hd tl =>
     generalize hrem : hd :: tl = rem at *;have hord : rem.Pairwise fun p q => p.1 ≠ q.1 /\ q.1 ∉ qu ops p.1 := List.Pairwise.sublist hsub hreg.ord;have hnd : (rem.map (·.1)).Nodup := List.pairwise_map.2 (hord.imp fun h => h.1);refine ⟨fun hr => ?_, fun i hi => ?_⟩
     . -- the first one is ready
       exfalso
       have hmem : hd ∈ rem := by rw [<- hrem]; simp
       have hml := hsub.subset hmem;obtain ⟨o, ho, -, hdeps⟩ := hreg.ok hd hml;have hready : hd.1 ∈ Region.ready .any ops listed := by
         rw [mem_ready];refine ⟨(hlist hd.1 (hlt hd hml)).2 (List.mem_map_of_mem hmem), o, ho, fun e he hb => ?_⟩;have hde : e.on ∈ Z9 o := List.mem_map.2 ⟨e, List.mem_filter.2 ⟨by simpa using he, hb⟩, rfl⟩;have h1 := hdeps _ hde;have h2 : e.on < ops.size := h1.1;have h3 : e.on ∉ rem.map (·.1) := by
           intro hm;rw [<- hrem] at hm hord;simp only [rR, List.mem_cons] at hm
           rcases hm with hm | hm
           . exact h1.2 hm
           . obtain ⟨q, hq, e1⟩ := List.mem_map.1 hm;have h6 := ((List.pairwise_cons.1 hord).1 q hq).2;rw [e1] at h6;simp only [qu, ho] at h6;exact h6 hde
         have h4 : ¬ (listed.getD e.on true = false) := fun h => h3 ((hlist _ h2).1 h);have h5 : e.on < listed.size := by omega
         simp [h5] at h4 ⊢;exact h4
       rw [hr] at hready;cases hready
     . have him := hunl hsz hlist hi;obtain ⟨⟨i0, io⟩, hio, hie⟩ := List.mem_map.1 him;simp only at hie;subst hie;obtain ⟨pre, post, hsplit⟩ := List.append_of_mem hio;obtain ⟨-, o', ho', hafter⟩ := mem_ready.1 hi;obtain ⟨o, ho, hok, hdeps⟩ := hreg.ok _ (hsub.subset hio);simp only at ho;have : o' = o := by rw [ho] at ho'; exact (rY ho').symm
       subst this;have hL : ∀ d ∈ qu ops i0, listed.getD d false = true := by
         intro d hd0;simp only [qu, ho, Z9, tO, List.mem_filter] at hd0;obtain ⟨e, ⟨he, hb⟩, rfl⟩ := hd0;exact hafter e (by simpa using he) hb
       have hfree : ∀ p ∈ pre, qH s.ts.slot pairs p (i0, io) = true /\ vd p.2.op = false := by
         intro p hp;have hsl : s.ts.slot = z.slot := funext fun k => by simp only [Ts.slot, Shape.slot, hst.sh.1, hst.sh.2]
         rw [hsl];have hpw : rem.Pairwise _ := List.Pairwise.sublist hsub hreg.free;rw [hsplit, List.pairwise_append] at hpw
         rcases hpw.2.2 p hp (i0, io) (by simp) with h1 | h1
         . have h2 := h1 (fun k => listed.getD k false = true) hdc hL;have hpm : p.1 ∈ rem.map (·.1) := by rw [hsplit]; simp; exact .inl ⟨_, hp⟩
           have hpl : p ∈ l := hsub.subset (by rw [hsplit]; simp [hp]);have h3 := (hlist p.1 (hlt p hpl)).2 hpm;have h4 : p.1 < listed.size := by rw [hsz]; exact hlt p hpl
           simp [h4] at h2 h3;rw [h2] at h3; cases h3
         . exact h1
       rw [hsplit] at hrun;obtain ⟨s'', ls', hrun', e1, e2, hperm⟩ := KZ hcs hfree hP hrun;have hio_l := hsub.subset hio;have hds0 : ∀ d, io.dst = some d -> d < z.n := by
         intro d hd0;have := List.all_eq_true.1 hds io (List.mem_map.2 ⟨_, hio_l, rfl⟩);rw [hd0] at this;simpa using this
       have hilt : i0 < listed.size := by rw [hsz]; exact hlt _ hio_l
       rw [hsplit] at hnd;simp only [List.map_append, rR] at hnd;have hni : i0 ∉ (pre ++ post).map (·.1) := by
         have := (tW (a := i0) (l₁ := pre.map (·.1)) (l₂ := post.map (·.1))).nodup_iff.1 hnd;simpa using (List.nodup_cons.1 this).1
       have hsubi : ∀ k, k ∈ (pre ++ post).map (·.1) -> k ∈ rem.map (·.1) := by
         intro k hk;rw [hsplit];simp only [List.map_append, rR, List.mem_append, List.mem_cons] at hk ⊢
         rcases hk with h | h
         . exact .inl h
         . exact .inr (.inr h)
       -- behind one that ended
       have next : ∀ {s1 : St} {li : DLog} {ls1 : List (Nat × DLog)}, jx cf io s = some (none, s1, li) -> jd cf (pre ++ post) s1 = some (q, s'', ls1) -> ls' = (i0, li) :: ls1 ->
           ∀ g1 O1 a1 w1, GoesB b g O s w g1 O1 s1 w1 -> Stand C0 z g1 O1 s1 a1 w1 -> (∀ h ∈ hs, h.1 ∈ (pre ++ post).map (·.1) -> g1.ι[h.2.1]? = some (.un h.2.2)) ->
           wpAnyIn (WF ρ) n P .any ops Q fuel (listed.setIfInBounds i0 true) a1 w1 := by
         intro s1 li ls1 hstep hrest hls g1 O1 a1 w1 hgo hst1 hpn1;subst hls;refine ih (pre ++ post) _ g1 O1 s1 s'' q ls1 a1 w1 ?_ (by simp [hsz]) ?_ ?_ ?_ ?_ hrest ?_ hst1 hpn1 ?_ ?_
         . refine List.Sublist.trans ?_ hsub;rw [hsplit]; exact List.Sublist.append_left (List.sublist_cons_self _ _) _
         . intro k hk
           by_cases hki : i0 = k
           . subst hki;simp only [hni, iff_false];simp [hilt]
           . rw [getD_set_ne true hki, hlist k hk, hsplit];simp only [List.map_append, rR, List.mem_append, List.mem_cons]
             constructor
             . rintro (h | h | h)
               . exact .inl h
               . exact absurd h.symm hki
               . exact .inr h
             . rintro (h | h)
               . exact .inl h
               . exact .inr (.inr h)
         . intro k hk d hd0
           by_cases hki : i0 = k
           . subst hki; exact getD_set_true (hL d hd0)
           . simp only [getD_set_ne false hki] at hk;exact getD_set_true (hdc k hk d hd0)
         . have : rem.length = (pre ++ post).length + 1 := by rw [hsplit]; simp; omega
           omega
         . exact hds
         . intro x hx y hy;exact hP x (hperm x (by simp [hx])) y (hperm y (by simp [hy]))
         . intro hq g' O' t' a' w' q1 q2 ⟨wn, q3, q4⟩ q5 q6;refine hQ hq g' O' t' a' w' (q1.trans (e1 hq)) (q2.trans e2) ⟨wn ++ li.wr, ?_, fun p hp => ?_⟩ (hgo.trans q5) q6
           . rw [q3, (qr hcs hstep).1, zS]
           . rcases List.mem_append.1 hp with hp | hp
             . obtain ⟨x, hx, hpx⟩ := q4 p hp;exact ⟨x, hperm x (by simp [hx]), hpx⟩
             . exact ⟨(i0, li), hperm _ (by simp), hp⟩
         . intro v lw hq g' O' t' a' w' v' q1 q2 ⟨wn, q3, q4⟩ q5 q6 q7 q8;refine hQP v lw hq g' O' t' a' w' v' (q1.trans (zB (hdr _ hio_l) (zC hio_l) hstep)) (q2.trans e2) ⟨wn ++ li.wr, ?_, fun p hp => ?_⟩ (hgo.trans q5) q6 q7 q8
           . rw [q3, (qr hcs hstep).1, zS]
           . rcases List.mem_append.1 hp with hp | hp
             . rcases q4 p hp with hp | ⟨x, hx, hpx⟩
               . exact .inl hp
               . exact .inr ⟨x, hperm x (by simp [hx]), hpx⟩
             . exact .inr ⟨(i0, li), hperm _ (by simp), hp⟩
       rcases hok with hok | ⟨d, id, zs, hh1, hh2, hh3⟩
       . rcases runDraw_cons.1 hrun' with ⟨s1, li, ls1, hstep, hrest, hls⟩ | ⟨v, li, hstep, rfl, rfl⟩
         . refine QX hcf ho hok hds0 hstep hst (fun _ g1 O1 a1 w1 hgo hst1 => ?_) (fun v h => by cases h);exact next hstep hrest hls g1 O1 a1 w1 (.of hgo) hst1 (fun h hm hk => hgo.grow.preo _ _ (hpn h hm (hsubi _ hk)))
         . refine QX hcf ho hok hds0 hstep hst (fun h => by cases h) (fun v0 h g1 O1 w1 v' hgo hR hD hW => ?_);cases h;exact hQP v li.wr rfl g1 O1 s'' a w1 v' (zB (hdr _ hio_l) (zC hio_l) hstep) e2 ⟨li.wr, (qr hcs hstep).1, fun p hp => .inl hp⟩ (.of hgo) hR hD hW
       . simp only at hh1 hh2;subst hh2;have hι := hpn _ hh1 (by rw [hsplit]; simp)
         rcases runDraw_cons.1 hrun' with ⟨s1, li, ls1, hstep, hrest, hls⟩ | ⟨v, li, hstep, _, _⟩
         . refine (Z2 (K := wpAnyIn (WF ρ) n P .any ops Q fuel (listed.setIfInBounds i0 true)) ho hh3 hds0 hstep hst hι (hsb _ hh1) fun O1 a1 w1 hgo hst1 => ?_).2;refine next hstep hrest hls _ O1 a1 w1 hgo hst1 (fun h hm hk => ?_);refine VY hι _ _ (fun e => ?_) (hpn h hm (hsubi _ hk));have := hsi h hm _ hh1 e;subst this;exact hni hk
         . exfalso
           have := JW hstep;cases this
theorem VF (hcs : yi cf) : ∀ {l : List (Nat × IOper)} {s s' : St} {q : Pan} {ls : List (Nat × DLog)}, jd cf l s = some (q, s', ls) -> ∃ wn, s'.wr = wn ++ s.wr /\ (∀ x ∈ ls, ∀ p ∈ x.2.wr, p ∈ wn) /\ ∀ v lw, q = some (v, lw) -> ∀ p ∈ lw, p ∈ wn := by
 intro l
 induction l with
 | nil => intro s s' q ls h; simp [jd] at h; obtain ⟨rfl, rfl, rfl⟩ := h; exact ⟨[], rfl, fun x hx => (by cases hx), fun v lw h => (by cases h)⟩
 | cons o os ih =>
   intro s s' q ls h
   rcases runDraw_cons.1 h with ⟨s1, li, ls1, h1, h2, rfl⟩ | ⟨v, li, h1, rfl, rfl⟩
   . obtain ⟨wn, h3, h4, h5⟩ := ih h2;refine ⟨wn ++ li.wr, by rw [h3, (qr hcs h1).1, zS], fun x hx p hp => ?_, fun v lw hq p hp => rZ _ (h5 v lw hq p hp)⟩
     rcases List.mem_cons.1 hx with rfl | hx
     . exact rW _ hp
     . exact rZ _ (h4 x hx p hp)
   . refine ⟨li.wr, (qr hcs h1).1, fun x hx => (by cases hx), fun v' lw h p hp => ?_⟩;cases h; exact hp
theorem VE : ∀ {l l0 : List (Nat × IOper)} {s s' : St} {q : Pan} {ls : List (Nat × DLog)}, (∀ p ∈ l, p ∈ l0) -> (∀ p ∈ l0, kU p.2.op = true) -> jd cf l s = some (q, s', ls) -> s'.ts.clrs (yW l0) = s.ts.clrs (yW l0) := by
 intro l
 induction l with
 | nil => intro l0 s s' q ls _ _ h; simp [jd] at h; obtain ⟨rfl, rfl, rfl⟩ := h; rfl
 | cons o os ih =>
   intro l0 s s' q ls hl hd h;have ho := hl o (by simp)
   rcases runDraw_cons.1 h with ⟨s1, li, ls1, h1, h2, rfl⟩ | ⟨v, li, h1, rfl, rfl⟩
   . exact (ih (fun p hp => hl p (by simp [hp])) hd h2).trans (zB (hd o ho) (zC ho) h1)
   . exact zB (hd o ho) (zC ho) h1
theorem jcb (X : List Nat) : ∀ (ts : Ts), (ts.clrs X).ds = ts.ds := by
 induction X with
 | nil => intro ts; rfl
 | cons x X ih => intro ts; exact ih (ts.clr x)
theorem WT.clrs {tmps : Array Value} (X : List Nat) : ∀ {ts : Ts}, WT ts tmps -> WT (ts.clrs X) tmps := by
 induction X with
 | nil => intro ts h; exact h
 | cons x X ih =>
   intro ts h;refine ih (ts := ts.clr x) ?_;intro k p hp
   by_cases hk : ts.slot x = k
   . subst hk;simp only [Ts.clr, Tm.get_set] at hp;cases hb : ts.t.has (ts.slot x) <;> rw [hb] at hp <;> cases hp
   . simp only [Ts.clr] at hp;rw [Tm.get_ne _ _ _ _ hk] at hp;exact h k p hp
theorem R.clrs {tmps : Array Value} {p : IVal × Value} {σ : List IObj} (X : List Nat) : ∀ {ts : Ts}, R g O (p :: ts.roots tmps) σ w -> R g O (p :: (ts.clrs X).roots tmps) σ w := by
 induction X with
 | nil => intro ts h; exact h
 | cons x X ih =>
   intro ts h;refine ih (ts := ts.clr x) ?_;have h1 := (Tm.list_get ts.t (ts.slot x)).map fun p => (p.2, tmps.getD p.1 undef);simp only [List.map_append] at h1;have h2 : R g O (((ts.t.get (ts.slot x)).toList.map fun p => (p.2, tmps.getD p.1 undef)) ++ (p :: (ts.clr x).roots tmps)) σ w := by
     refine h.perm ((h1.cons p).trans ?_);exact (tW (a := p)).symm
   exact R.drops h2
theorem R.drawn {l : ke} {σ : List IObj} (h : R g O l σ w) (k : Nat) : R g O l σ { w with drawn := k } :=
 ⟨h.len, h.vals, h.objo, h.nodup, h.sub, h.lt, h.claim, h.apart, h.spare, h.glob, h.zs⟩
theorem Grow.drawn {g' : Gh} {O' : List Nat} {w' : World} {k : Nat} (h : Grow O g { w with drawn := k } O' g' w') : Grow O g w O' g' w' :=
 ⟨h.size, h.same, h.mono, h.preo, h.fresh, h.code, h.os, h.tape, h.output, h.zm⟩
def Gh.addUns (g : Gh) : List (List IVal) -> Gh
 | [] => g
 | zs :: zss => (g.addUn zs).addUns zss
theorem Xu {n : Nat} : ∀ {zss : List (List IVal)} {g : Gh} {s : St} {a : Act} {z : Shape}, (∀ zs ∈ zss, ∀ x ∈ zs, RL 0 x) -> Stand C0 z g O s a w ->
   Stand C0 z (g.addUns zss) O { s with σ := s.σ ++ zss.map .cells } a w /\ GoesB n g O s w (g.addUns zss) O { s with σ := s.σ ++ zss.map .cells } w /\ ∀ (j : Nat) zs, zss[j]? = some zs -> (g.addUns zss).ι[s.σ.length + j]? = some (.un zs) := by
 intro zss
 induction zss with
 | nil =>
   intro g s a z _ hst;refine ⟨by simpa [Gh.addUns] using hst, ?_, fun j zs h => by simp at h⟩;have := GoesB.of (n := n) (Goes.refl g O s w);simpa [Gh.addUns] using this
 | cons zs zss ih =>
   intro g s a z hz hst;have hR := hst.rel.pushUn (hz zs (by simp));have hpre : ∀ (id b : Nat), g.ι[id]? = some (Blk.bk b) -> (g.addUn zs).ι[id]? = some (Blk.bk b) := fun id b hb => by
     simp only [Gh.addUn]; rw [zL (jk hb)]; exact hb
   have hst1 : Stand C0 z (g.addUn zs) O { s with σ := s.σ ++ [.cells zs] } a w := ⟨hR, hst.len, hst.defs.mono hpre, hst.size, hst.sh, hst.code⟩;obtain ⟨k1, k2, k3⟩ := ih (fun ys hy => hz ys (by simp [hy])) hst1;have e : s.σ ++ [IObj.cells zs] ++ zss.map .cells = s.σ ++ (zs :: zss).map .cells := by simp
   simp only [e] at k1 k2;have hgo : GoesB n g O s w (g.addUn zs) O { s with σ := s.σ ++ [.cells zs] } w := ⟨.addUn n O g w zs, ⟨[], rfl, Keep.snoc _ _⟩⟩;refine ⟨k1, hgo.trans k2, fun j ys hj => ?_⟩
   cases j with
   | zero =>
     simp only [List.getElem?_cons_zero, zO] at hj;subst hj;have h1 : (g.addUn zs).ι[s.σ.length]? = some (.un zs) := by
       simp only [Gh.addUn, <- hst.rel.len]; simp
     have h2 : ∀ (zss : List (List IVal)) (g : Gh) (i : Nat) x, g.ι[i]? = some x -> (g.addUns zss).ι[i]? = some x := by
       intro zss
       induction zss with
       | nil => intro g i x h; exact h
       | cons a l ih => intro g i x h; exact ih _ _ _ (by simp only [Gh.addUn]; rw [zL (jk h)]; exact h)
     exact h2 zss _ _ _ h1
   | succ j =>
     simp only [List.getElem?_cons_succ] at hj;have := k3 j ys hj;simp only [rF, List.length_singleton] at this;rw [show s.σ.length + (j + 1) = s.σ.length + 1 + j by omega];exact this
theorem YM : ∀ {l : List (Nat × IOper)} {b : Nat} {h : Nat × Nat × List IVal}, h ∈ qt b l -> ∃ j, h.2.1 = b + j /\ ((qt b l).map (·.2.2))[j]? = some h.2.2 := by
 intro l
 induction l with
 | nil => intro b h hm; cases hm
 | cons q l ih =>
   intro b h hm;simp only [qt] at hm ⊢
   cases hh : vq q with
   | some zs =>
     rw [hh] at hm
     rcases List.mem_cons.1 hm with rfl | hm
     . exact ⟨0, rfl, rfl⟩
     . obtain ⟨j, h1, h2⟩ := ih hm;exact ⟨j + 1, by omega, by simpa using h2⟩
   | none => rw [hh] at hm; cases hm
theorem jab {ρ : Option Nat} {n id : Nat} {m : Shape} {ops : Array Oper} {l : List (Nat × IOper)} {pairs : List (Nat × Nat)} {Q : Exit -> Act -> World -> Prop} {s1 s' : St} {x : IExit} {q : Pan} {ls : List (Nat × DLog)} (hmx : P.follows .mixedOrders = true) (hcf : CallOK P C0 cf) (hcs : yi cf)
   (hok : z5 P m ops l pairs = true) (hrun : jd cf l s = some (q, s1, ls)) (hP : ji pairs ls = true) (hend : je l q s1 = some (x, s')) (hst : Stand C0 m g O s a w) (haft : After C0 m g O s w x s' Q) :
   (Code.region id ops true).wpIn (WF ρ) n P Q a w := by
 obtain ⟨hreg, hds, hdr, hpr, hrl⟩ := jeP hok s.σ.length;obtain ⟨ls0, hrun0, hls0⟩ := QI hrun;have hP0 : Ke pairs ls0 := by
   intro x hx y hy hp;have hy1 : y ∈ ls := by
     rcases hls0 y hy with h | ⟨_, hh, h1, h2⟩
     . exact h
     . exact absurd h2 (fun e => hpr hh h1 _ hp e)
   rcases hls0 x hx with h | ⟨h, _⟩
   . exact Zo hP x h y hy1 hp
   . rw [h]; rfl
 obtain ⟨hstU, hgoU, hunU⟩ := Xu (n := s.σ.length) (zss := (qt s.σ.length l).map (·.2.2)) (fun zs hz => by
   obtain ⟨h, hm, rfl⟩ := List.mem_map.1 hz;exact hrl h hm) hst
 have eσ : s.σ ++ ((qt s.σ.length l).map (·.2.2)).map IObj.cells = s.σ ++ (qt s.σ.length l).map fun h => IObj.cells h.2.2 := by simp
 rw [eσ] at hstU hgoU;generalize hgU : g.addUns ((qt s.σ.length l).map (·.2.2)) = gU at hstU hgoU hunU;generalize hsU : ({ s with σ := s.σ ++ (qt s.σ.length l).map fun h => IObj.cells h.2.2 } : St) = sU at hstU hgoU hrun0;have hwU : sU.wr = s.wr := by subst hsU; rfl
 have htU : sU.ts = s.ts := by subst hsU; rfl
 have hlen : (Kc s.σ.length l).length = ops.size := hreg.len;have hgl : g.ι.length <= s.σ.length := Nat.le_of_eq hst.rel.len;have keepOf : ∀ {wn : List (Nat × Bool)} {t' : St} {g' : Gh} {O' : List Nat} {w' : World} {k : Nat} {sE : St}, t'.σ = sE.σ -> t'.wr = wn ++ sU.wr -> sE.wr = s1.wr -> (∀ p ∈ wn, (∃ v lw, q = some (v, lw) /\ p ∈ lw) \/ ∃ x ∈ ls0, p ∈ x.2.wr) -> GoesB s.σ.length gU O sU { w with drawn := k } g' O' t' w' -> Goes g O s w g' O' sE w' := by
   intro wn t' g' O' w' k sE q2 q3 q0 q4 q5;obtain ⟨wt, r1, r2, r3⟩ := VF hcs hrun0;have q6 := hgoU.trans (⟨⟨q5.grow.size, q5.grow.same, q5.grow.mono, q5.grow.preo, q5.grow.fresh, q5.grow.code, q5.grow.os, q5.grow.tape, q5.grow.output, q5.grow.zm⟩, q5.keep⟩ : GoesB s.σ.length gU O sU w g' O' t' w');obtain ⟨wk, k1, k2⟩ := q6.keep;have e : wk = wn := by
     have := k1.symm.trans q3;rw [hwU] at this;exact List.append_cancel_right this
   subst e;refine ⟨q6.grow.all hgl, ⟨wt, (q0.trans r1).trans (by rw [hwU]), ?_⟩⟩;rw [<- q2];refine ⟨k2.1, fun n hn hw ho => k2.2 n hn (fun p hp hp2 => ?_) ho⟩
   rcases q4 p hp with ⟨v, lw, hq, hpl⟩ | ⟨x, hx, hpx⟩
   . exact hw p (r3 v lw hq p hpl) hp2
   . exact hw p (r2 x hx p hpx) hp2
 refine wpIn_region_any hmx (jb7 hcf hcs hreg hdr (b := s.σ.length) (fun h hm => (zi hm).2) (fun h hm k km e => YO hm km e) ops.size _ _ gU O sU s1 q ls0 a _ (.refl _) (by simp) ?_ ?_ (by omega) ?_ hrun0 hP0 ?_ ?_ ?_ ?_)
 . intro k hk;exact ⟨fun _ => hreg.cov k hk, fun _ => by simp [hk]⟩
 . intro k hk
   exfalso
   simp only [Array.getD_eq_getD_getElem?, Array.getElem?_replicate] at hk;split at hk <;> simp at hk
 . exact hds
 . exact ⟨hstU.rel.drawn _, hstU.len, hstU.defs, hstU.size, hstU.sh, hstU.code⟩
 . intro h hm _;obtain ⟨j, h1, h2⟩ := YM hm;rw [h1];exact hunU j _ h2
 . intro hq g' O' t' a' w' q1 q2 ⟨wn, q3, q4⟩ q5 q6;subst hq;simp only [je, zO, zP] at hend;obtain ⟨rfl, rfl⟩ := hend;refine haft.1 _ g' O' a' w' rfl (keepOf q2 q3 rfl (fun p hp => .inr (q4 p hp)) q5) ⟨by rw [<- q1, <- q2]; exact q6.rel, by rw [<- q1]; exact q6.len, by rw [<- q1]; exact q6.defs, q6.size, by rw [<- q1]; exact q6.sh, q6.code⟩
 . intro v lw hq g' O' t' a' w' v' q1 q2 ⟨wn, q3, q4⟩ q5 q6 q7 q8;subst hq;simp only [je, zO, zP] at hend;obtain ⟨rfl, rfl⟩ := hend;have hc := VE (fun p hp => hp) hdr hrun0;rw [X7] at q1 hc;have e : t'.ts.clrs (yW l) = (je7 l s1).ts := q1.trans hc.symm;have hds2 : t'.ts.ds = (je7 l s1).ts.ds := by rw [<- e, jcb]
   refine haft.2 v g' O' a' w' v' rfl (keepOf (sE := je7 l s1) q2 q3 rfl (fun p hp => ?_) q5) ?_ ?_ ?_
   . rcases q4 p hp with h | h
     . exact .inl ⟨v, lw, rfl, h⟩
     . exact .inr h
   . rw [<- e];show R g' O' _ s1.σ w';rw [<- q2];exact R.clrs _ q6
   . rw [<- hds2]; exact q7
   . rw [<- e]; exact WT.clrs _ q8
end Go.Idl
