/- The ideal machine and its evaluators, part 4; no conditions. -/
import Derived.RecoverIn
import Derived.Scope
import Derived.Test.YtgkedaeojkbaiaaGreatDoorIdlC
set_option linter.unusedSectionVars false
set_option linter.unusedVariables false
set_option linter.unusedSimpArgs false
namespace Go.Idl
variable [Globs]
theorem jam {cf : jD} {o : IOp} (hq : quiet o = true) {s : St} {r : Res} (hn : noRs o s = true) (hs : stepOp cf o s = some r) :
   r.s.σ = s.σ /\ r.s.wr = s.wr /\ ∀ σ2, (∀ id, rdOf o s = some id -> σ2[id]? = s.σ[id]?) -> stepOp cf o { s with σ := σ2 } = some { r with s := { r.s with σ := σ2 } } := by
 cases o <;> simp only [quiet, tF] at hq
 case load mvf n x =>
   simp only [t9] at hq;subst hq;simp only [stepOp, rv, rdOf] at hs ⊢
   cases hx : x.get s.ts with
   | none => simp [hx] at hs
   | some p =>
     obtain ⟨v, ts⟩ := p;cases v <;> simp [hx] at hs ⊢
     case ptr id off =>
       split at hs
       . rename_i cs hcs;split at hs
         . simp only [zO] at hs; subst hs;refine ⟨rfl, rfl, fun σ2 h2 => ?_⟩;have : loadCell σ2 id = loadCell s.σ id := by simp [loadCell, h2]
           simp_all
         . cases hs
       . cases hs
     case pv r cs off =>
       split at hs
       . simp only [zO] at hs; subst hs; simp_all
       . cases hs
 case lookup kk z ok x k | lenM x =>
   simp only [stepOp, rv, rdOf] at hs ⊢
   cases hx : x.get s.ts with
   | none => simp [hx] at hs
   | some p =>
     obtain ⟨v, ts⟩ := p;cases v <;> simp [hx] at hs ⊢
     case map id =>
       refine ⟨?_, ?_, fun σ2 h2 => ?_⟩
       . repeat' split at hs
         all_goals first | (cases hs; done) | (simp only [zO] at hs; subst hs; rfl)
       . repeat' split at hs
         all_goals first | (cases hs; done) | (simp only [zO] at hs; subst hs; rfl)
       . rw [h2]
         repeat' split at hs
         all_goals first | (cases hs; done) | (simp only [zO] at hs; subst hs; simp_all; done)
 case append br str esz bytes x y =>
   simp only [t9] at hq;subst hq;simp only [stepOp, rv, noRs, tF, if_false, false_and] at hs hn ⊢
   cases hx : x.get s.ts with
   | none => simp [hx] at hs
   | some p =>
     obtain ⟨v, ts⟩ := p;simp only [hx] at hs hn
     cases hy : y.get ts with
     | none => simp [hy] at hs
     | some q =>
       obtain ⟨v2, ts2⟩ := q;simp only [hy] at hs hn;have he : ∀ σ2, elemsOf str esz v2 σ2 = elemsOf str esz v2 s.σ := by
         intro σ2;cases str <;> cases v2 <;> first | rfl | simp at hn
       refine ⟨?_, ?_, fun σ2 _ => ?_⟩
       . repeat' split at hs
         all_goals first | (cases hs; done) | (simp only [zO] at hs; subst hs; rfl)
       . repeat' split at hs
         all_goals first | (cases hs; done) | (simp only [zO] at hs; subst hs; rfl)
       . simp only [hy, he σ2]
         repeat' split at hs
         all_goals first | (cases hs; done) | (simp only [zO] at hs; subst hs; simp_all; done)
 case minmax mx xs =>
   simp only [stepOp, rv] at hs ⊢
   cases hx : getAll xs s.ts with
   | none => simp [hx] at hs
   | some p =>
     obtain ⟨vs, ts⟩ := p;simp only [hx] at hs
     rcases vs with _ | ⟨v, _ | ⟨v2, _ | ⟨v3, vs⟩⟩⟩
     . simp at hs
     . simp at hs
     . cases v <;> cases v2 <;> simp at hs ⊢;obtain ⟨hk, hs⟩ := hs;subst hs;simp [hk]
     . simp at hs
 all_goals
   simp only [stepOp, rv] at hs ⊢
   repeat' split at hs
   all_goals first | (cases hs; done) | (simp only [zO] at hs; subst hs; simp_all; done)
def Same (σ σ' : List IObj) (wr : List (Nat × Bool)) : Prop := ∀ id, id < σ.length -> (∀ p ∈ wr, p.1 ≠ id) -> σ'[id]? = σ[id]?
theorem Same.refl (σ : List IObj) : Same σ σ [] := fun _ _ _ => rfl
theorem Same.trans {σ σ1 σ2 : List IObj} {w1 w2 : List (Nat × Bool)} (h : Same σ σ1 w1) (k : Same σ1 σ2 w2) : Same σ σ2 (w2 ++ w1) := by
 intro id hid hw;have h1 := h id hid (fun p hp => hw p (by simp [hp]));have hlt : id < σ1.length := by
   rcases Nat.lt_or_ge id σ1.length with h2 | h2
   . exact h2
   . rw [rY h2, rJ hid] at h1; cases h1
 rw [k id hlt (fun p hp => hw p (by simp [hp])), h1]
theorem Same.set (σ : List IObj) (i : Nat) (o : IObj) (b : Bool) : Same σ (σ.set i o) [(i, b)] := by
 intro id _ hw;have := hw (i, b) (by simp);rw [rD this]
theorem Same.push (σ : List IObj) (o : IObj) : Same σ (σ ++ [o]) [] := by
 intro id hid _;rw [zL hid]
def yh (cf : jD) : Prop := ∀ f args σ out, cf f args σ = some out -> Same σ out.σ out.wr
theorem jbN {k : MemK} {vs : List IVal} {σ σ' : List IObj} {v : IVal} {wr : List (Nat × Bool)} (h : Va k vs σ = some (v, σ', wr)) : Same σ σ' wr := by
 unfold Va at h
 repeat' split at h
 all_goals first
   | (cases h; done)
   | (simp only [zO, zP] at h; obtain ⟨-, rfl, rfl⟩ := h; exact .refl _)
   | (simp only [zO, zP] at h; obtain ⟨-, rfl, rfl⟩ := h; exact .push _ _)
   | (simp only [zO, zP] at h; obtain ⟨-, rfl, rfl⟩ := h; exact .set _ _ _ _)
theorem vY {cf : jD} (hcf : yh cf) {o : IOp} {s : St} {r : Res} (hs : stepOp cf o s = some r) : ∃ wn, r.s.wr = wn ++ s.wr /\ Same s.σ r.s.σ wn := by
 have hcall : ∀ f vs ts, stepCall cf f vs ts s = some r -> ∃ wn, r.s.wr = wn ++ s.wr /\ Same s.σ r.s.σ wn := by
   intro f vs ts h;unfold stepCall at h;split at h
   . rename_i out hout;simp only [zO] at h;subst h;exact ⟨out.wr, rfl, hcf _ _ _ _ hout⟩
   . cases h
 cases o
 case alloc zs => simp only [stepOp, zO] at hs; subst hs; exact ⟨[], rfl, .push _ _⟩
 case mkMap => simp only [stepOp, zO] at hs; subst hs; exact ⟨[], rfl, .push _ _⟩
 case call f xs =>
   simp only [stepOp] at hs;split at hs
   . exact hcall _ _ _ hs
   . cases hs
 case callv f xs =>
   simp only [stepOp] at hs;split at hs
   . split at hs
     . exact hcall _ _ _ hs
     . cases hs
   . split at hs
     . exact hcall _ _ _ hs
     . cases hs
   . cases hs
 case inv tab x xs =>
   simp only [stepOp] at hs
   repeat' split at hs
   all_goals first
     | (cases hs; done)
     | exact hcall _ _ _ hs
 case mem k xs =>
   simp only [stepOp] at hs;split at hs
   . split at hs
     . rename_i hm; simp only [zO] at hs; subst hs; exact ⟨_, rfl, jbN hm⟩
     . cases hs
   . cases hs
 all_goals
   simp only [stepOp, rv, markW] at hs
   repeat' split at hs
   all_goals first
     | (cases hs; done)
     | (simp only [zO] at hs; subst hs; exact ⟨[], rfl, .refl _⟩)
     | (simp only [zO] at hs; subst hs; exact ⟨[], rfl, .push _ _⟩)
     | (simp only [zO] at hs; subst hs; exact ⟨[_], rfl, .set _ _ _ _⟩)
     | (simp only [zO] at hs; subst hs; exact ⟨[_], rfl, (Same.set _ _ .dead false).trans (.push _ _)⟩)
end Go.Idl
namespace Go.Idl
variable [Globs]
theorem Same.fin {σ σ' : List IObj} {wr : List (Nat × Bool)} (h : Same σ σ' wr) : Same σ (σ'.take σ.length) (wr.filter fun p => decide (p.1 < σ.length)) := by
 intro id hid hw;rw [tK, if_pos hid];refine h id hid fun p hp he => ?_;exact hw p (List.mem_filter.2 ⟨hp, by simp [he, hid]⟩) he
theorem Same.filter {σ σ' : List IObj} {wr : List (Nat × Bool)} (h : Same σ σ' wr) : Same σ σ' (wr.filter fun p => decide (p.1 < σ.length)) := by
 intro id hid hw;refine h id hid fun p hp he => ?_;exact hw p (List.mem_filter.2 ⟨hp, by simp [he, hid]⟩) he
def Chg (s s' : St) : Prop := ∃ wn, s'.wr = wn ++ s.wr /\ Same s.σ s'.σ wn
theorem Chg.refl (s : St) : Chg s s := ⟨[], rfl, .refl _⟩
theorem Chg.trans {s s1 s2 : St} (h : Chg s s1) (k : Chg s1 s2) : Chg s s2 := by
 obtain ⟨w1, h1, h2⟩ := h;obtain ⟨w2, k1, k2⟩ := k;exact ⟨w2 ++ w1, by rw [k1, h1, zS], h2.trans k2⟩
theorem Yr : ∀ {rs : List RV} {s s' : St} {vs : List IVal}, readRes rs s = some (vs, s') -> Chg s s' := by
 intro rs
 induction rs with
 | nil => intro s s' vs h; simp [readRes] at h; obtain ⟨-, rfl⟩ := h; exact .refl _
 | cons r rs ih =>
   intro s s' vs h
   cases r with
   | t i =>
     simp only [readRes] at h;split at h
     . split at h
       . rename_i h1;simp only [zO, zP] at h;obtain ⟨-, rfl⟩ := h;have := ih h1;exact this
       . cases h
     . cases h
   | cell i n =>
     simp only [readRes] at h
     repeat' split at h
     all_goals first | (cases h; done) | skip
     rename_i h1;simp only [zO, zP] at h;obtain ⟨-, rfl⟩ := h;exact Chg.trans ⟨[_], rfl, Same.set _ _ _ _⟩ (ih h1)
theorem QB {cf : jD} (hcf : yh cf) : ∀ {l : List IOper} {s s' : St} {x : IExit}, runOps cf l s = some (x, s') -> Chg s s' := by
 intro l
 induction l with
 | nil => intro s s' x h; simp [runOps] at h; obtain ⟨-, rfl⟩ := h; exact .refl _
 | cons o os ih =>
   intro s s' x h;simp only [runOps] at h;split at h
   . split at h
     . rename_i v s1 h1;have h2 := ih h;exact Chg.trans (s1 := s1) (vY hcf h1) h2
     . rename_i v s1 h1;simp only [zO, zP] at h;obtain ⟨-, rfl⟩ := h;exact vY hcf h1
     . cases h
   . exact ih (s := { s with ts := putT s.ts o.dst undefI }) h
   . cases h
theorem kV {cf : jD} (hcf : yh cf) {o : IOper} {s s' : St} {q : Option IVal} {l : DLog} (h : stepD cf o s = some (q, s', l)) : s'.wr = l.wr ++ s.wr /\ Same s.σ s'.σ l.wr := by
 simp only [stepD] at h;split at h
 . split at h
   . split at h
     . split at h
       . rename_i hs;obtain ⟨wn, h1, h2⟩ := vY hcf hs;simp only [zO, zP] at h;obtain ⟨rfl, rfl, rfl⟩ := h;simp only [rP] at h1;exact ⟨rfl, by rw [h1]; exact h2⟩
       . rename_i hs;obtain ⟨wn, h1, h2⟩ := vY hcf hs;simp only [zO, zP] at h;obtain ⟨rfl, rfl, rfl⟩ := h;simp only [rP] at h1;exact ⟨rfl, by rw [h1]; exact h2⟩
       . cases h
     . cases h
   . cases h
 . simp only [zO, zP] at h;obtain ⟨rfl, rfl, rfl⟩ := h;exact ⟨rfl, .refl _⟩
 . cases h
theorem Yw {cf : jD} (hcf : yh cf) : ∀ {l : List (Nat × IOper)} {s s' : St} {q : Option (IVal × List (Nat × Bool))} {ls : List (Nat × DLog)}, runDraw cf l s = some (q, s', ls) -> Chg s s' := by
 intro l
 induction l with
 | nil => intro s s' q x h; simp [runDraw] at h; obtain ⟨-, rfl, -⟩ := h; exact .refl _
 | cons o os ih =>
   intro s s' q x h;simp only [runDraw] at h;split at h
   . rename_i s1 lg h1;split at h
     . rename_i h2;simp only [zO, zP] at h;obtain ⟨rfl, rfl, -⟩ := h;exact Chg.trans ⟨_, kV hcf h1⟩ (ih h2)
     . cases h
   . rename_i h1;simp only [zO, zP] at h;obtain ⟨-, rfl, -⟩ := h;exact ⟨_, kV hcf h1⟩
   . cases h
theorem XO {l : List (Nat × IOper)} {q : Option (IVal × List (Nat × Bool))} {s0 s s' : St} {x : IExit} (h : drawEnd l q s = some (x, s')) (hc : Chg s0 s) : Chg s0 s' := by
 cases q with
 | none => simp only [drawEnd, zO, zP] at h; obtain ⟨-, rfl⟩ := h; exact hc
 | some p =>
   simp only [drawEnd, zO, zP] at h;obtain ⟨-, rfl⟩ := h;obtain ⟨wn, h1, h2⟩ := hc;exact ⟨wn, h1, h2⟩
def vo (F : jn) (n : Nat) : jD := fun f args σ => match f with
 | .f f => match F f with
   | some fn => callI (eval F n) fn args σ
   | none => none
 | .y id => JL (eval F n) id args σ
theorem Xp : ∀ (ds : List Nat) (σ σ' : List IObj), shut σ ds = some σ' -> Same σ σ' (ds.map fun id => (id, false)) := by
 intro ds
 induction ds with
 | nil => intro σ σ' h; simp [shut] at h; subst h; exact .refl _
 | cons id ds ih =>
   intro σ σ' h;simp only [shut] at h;split at h
   . have h3 := (Same.set σ id .dead false).trans (ih _ _ h);intro k hk hw;refine h3 k hk fun p hp => hw p ?_;simp only [List.mem_append, List.mem_singleton, rU, List.mem_cons] at hp ⊢
     rcases hp with hp | hp
     . exact .inr hp
     . exact .inl (by simpa using hp)
   . cases h
theorem QV {pan : Bool} {v : IVal} {σ : List IObj} {s1 : St} (h : ∃ wn, s1.wr = wn ++ [] /\ Same σ s1.σ wn) : Same σ (finish σ.length pan v s1).σ (finish σ.length pan v s1).wr := by
 obtain ⟨wn, h1, h2⟩ := h;simp only [rP] at h1;subst h1;unfold finish;split
 . exact h2.fin
 . exact h2.filter
theorem jbF {ev : ICode -> St -> Option (IExit × St)} (hev : ∀ {c : ICode} {s s' : St} {x : IExit}, ev c s = some (x, s') -> Chg s s') {d : DInfo} {c : ICode} {args : List IVal} {x y : IExit} {s s' : St} (h : yp ev d c args x s = some (y, s')) : Chg s s' := by
 unfold yp at h;split at h
 . rename_i m σ1 hm hsh;unfold Qq at h;split at h
   . rename_i z s3 h3;have key : Chg s { s with ts := { s.ts with ds := [] }, σ := s3.σ, wr := s3.wr ++ ((s.ts.ds.map fun id => (id, false)) ++ s.wr) } := by
       obtain ⟨w3, q1, q2⟩ := hev h3;refine ⟨s3.wr ++ (s.ts.ds.map fun id => (id, false)), by simp, ?_⟩;refine (Xp _ _ _ hsh).trans ?_;simp only [rP] at q1;rw [q1]; exact q2
     split at h
     . cases h
     . split at h
       . simp only [zO, zP] at h;obtain ⟨-, rfl⟩ := h;exact key
       . cases h
   . cases h
 . cases h
theorem jdt {F : jn} : ∀ n, yh (vo F n) /\ ∀ {c : ICode} {s s' : St} {x : IExit}, eval F n c s = some (x, s') -> Chg s s' := by
 have hret : ∀ {σ : List IObj} {s1 : St} {res : List RV} {out : Out}, (∃ wn, s1.wr = wn ++ [] /\ Same σ s1.σ wn) -> retI σ.length res s1 = some out -> Same σ out.σ out.wr := by
   intro σ s1 res out h0 h;obtain ⟨wn, q1, q2⟩ := h0;unfold retI at h;split at h
   . rename_i σ1 hsh;split at h
     . rename_i vs s' hrd;split at h
       . simp only [zO] at h;subst h;obtain ⟨wn', k1, k2⟩ := Yr hrd;refine QV ⟨wn' ++ ((s1.ts.ds.map fun id => (id, false)) ++ wn), ?_, ?_⟩
         . rw [k1]; simp only; rw [q1]; simp
         . exact (q2.trans (Xp _ _ _ hsh)).trans k2
       . cases h
     . cases h
   . cases h
 have hcall : ∀ n, (∀ {c : ICode} {s s' : St} {x : IExit}, eval F n c s = some (x, s') -> Chg s s') -> yh (vo F n) := by
   intro n ih f args σ out h;unfold vo at h;split at h
   . split at h
     . unfold callI at h
       repeat' split at h
       all_goals first | (cases h; done) | skip
       . simp only [zO] at h; subst h; exact .refl _
       . rename_i h1; exact hret (ih h1) h
       . rename_i h1; exact hret (ih h1) h
       . rename_i h1 _ _;simp only [zO] at h;subst h;exact QV (ih h1)
     . cases h
   . rename_i id;unfold JL at h;split at h
     . split at h
       . split at h
         . rename_i s1 h1;split at h
           . split at h
             . split at h
               . rename_i x s2 h2;split at h
                 . rename_i l2 _;have k0 : Chg { ts := ‹Ts›, σ := σ, wr := [] } s1 := ih h1;have k1 := ih h2;obtain ⟨w1, a1, a2⟩ := k0;obtain ⟨w2, b1, b2⟩ := k1;have key : ∀ (L : ILoop) (v : Bool), Same σ (finish σ.length false (.bool v) { s2 with σ := s2.σ.set id (.loop L), wr := (id, false) :: s2.wr }).σ (finish σ.length false (.bool v) { s2 with σ := s2.σ.set id (.loop L), wr := (id, false) :: s2.wr }).wr := by
                     intro L v;refine QV ⟨[(id, false)] ++ (w2 ++ ([(id, false)] ++ w1)), ?_, ?_⟩
                     . simp only [b1, a1]; simp
                     . exact ((a2.trans (Same.set _ _ _ _)).trans b2).trans (Same.set _ _ _ _)
                   split at h
                   . simp only [zO] at h; subst h; exact key _ _
                   . split at h
                     . simp only [zO] at h; subst h; exact key _ _
                     . cases h
                 . cases h
               . cases h
             . cases h
           . cases h
         . cases h
       . cases h
     . cases h
 intro n
 suffices h : ∀ {c : ICode} {s s' : St} {x : IExit}, eval F n c s = some (x, s') -> Chg s s' from ⟨hcall n h, h⟩
 induction n with
 | zero => intro c s s' x h; simp [eval] at h
 | succ n ih =>
   have hcf := hcall n ih;have hcfe : (fun (f : Cal) (args : List IVal) (σ : List IObj) => match f with
     | .f f => match F f with
       | some fn => callI (eval F n) fn args σ
       | none => none
     | .y id => JL (eval F n) id args σ) = vo F n := rfl
   intro c s s' x h;cases c <;> simp only [eval, hcfe] at h
   case ops l => exact QB hcf h
   case draw l pairs =>
     split at h
     . rename_i h1;split at h
       . exact XO h (Yw hcf h1)
       . cases h
     . cases h
   case seq a b =>
     split at h
     . rename_i h1; exact (ih h1).trans (ih h)
     . exact ih h
   case cond y a b =>
     repeat' split at h
     all_goals first | (cases h; done) | exact ih h
   case block id b =>
     split at h
     . rename_i h1;split at h
       . simp only [zO, zP] at h; obtain ⟨-, rfl⟩ := h; exact ih h1
       . simp only [zO, zP] at h; obtain ⟨-, rfl⟩ := h; exact ih h1
     . exact ih h
   case loop b =>
     split at h
     . rename_i h1; exact (ih h1).trans (ih h)
     . exact ih h
   case scope b =>
     split at h
     . cases h
     . exact ih h
   case rangeF y ps a b =>
     split at h
     . split at h
       . rename_i v σ1 wr1 hc;split at h
         . rename_i l hl;have k0 := hcf (.f _) _ _ _ hc;have k1 : ∀ (ts : Ts), Chg s { ts := ts, σ := σ1.set (s.σ.length + 1) .dead, wr := (s.σ.length + 1, false) :: (wr1 ++ s.wr) } := by
             intro ts;refine ⟨(s.σ.length + 1, false) :: wr1, by simp, ?_⟩;have a1 : Same s.σ (s.σ ++ [.defr, .loop ⟨0, { s.ts with t := s.ts.t.un, ds := [] }, ps, a, b, none, .none⟩]) [] := by
               intro id hid _;rw [zL hid]
             have := (a1.trans k0).trans (Same.set σ1 (s.σ.length + 1) .dead false);simpa using this
           split at h
           . cases h
           . split at h
             . simp only [zO, zP] at h; obtain ⟨-, rfl⟩ := h; exact k1 _
             . split at h
               . simp only [zO, zP] at h; obtain ⟨-, rfl⟩ := h; exact k1 _
               . cases h
         . cases h
       . cases h
     . cases h
   case stuck => cases h
   case dfr l x xs d c b =>
     split at h
     . rename_i s1 h1;split at h
       . split at h
         . split at h
           . split at h
             . rename_i x2 s2 h2;have k1 := QB hcf h1;have k2 := ih h2;exact k1.trans (Chg.trans ⟨k2.choose, k2.choose_spec.1, k2.choose_spec.2⟩ (jbF ih h))
             . cases h
           . cases h
         . cases h
       . cases h
     . cases h
   case lib p => cases h
   all_goals (simp only [zO, zP] at h; obtain ⟨-, rfl⟩ := h; exact .refl _)
end Go.Idl
namespace Go.Idl
variable [Globs]
def jb4 : Opd -> List Nat
 | .t i => [i]
 | .m i => [i]
 | .c _ => []
def Za : Option (Nat × Bool) -> List Nat
 | some (t, _) => [t]
 | none => []
def kY (o : IOper) : List Nat := (opdsOf o.op).flatMap jb4 ++ Za o.guard
theorem jd3 {x : Opd} {i : Nat} (h : i ∈ jaj x) : i ∈ jb4 x := by cases x <;> simp_all [jaj, jb4]
theorem zj {o : IOper} {i : Nat} (h : i ∈ qD o) : i ∈ kY o := by
 simp only [qD, List.mem_flatMap] at h;obtain ⟨x, hx, hi⟩ := h;exact tC _ (List.mem_flatMap.2 ⟨x, hx, jd3 hi⟩)
theorem Ts.get?_set_ne {ts : Ts} {i k : Nat} {v : IVal} (h : ts.slot i ≠ ts.slot k) : (ts.set i v).get? k = ts.get? k := by
 have h2 : (ts.set i v).slot k = ts.slot k := rfl;unfold Ts.get?;rw [h2];simp only [Ts.set, Tm.get_ne _ _ _ _ h]
theorem Ts.set_comm {ts : Ts} {i k : Nat} {v u : IVal} (h : ts.slot i ≠ ts.slot k) : (ts.set i v).set k u = (ts.set k u).set i v := by
 have h1 : (ts.set i v).slot k = ts.slot k := rfl;have h2 : (ts.set k u).slot i = ts.slot i := rfl;simp only [Ts.set] at *;rw [h1, h2, Tm.set_comm _ _ _ _ _ h]
def mv1 (ts : Ts) (i : Nat) : Ts := match ts.get? i with
 | some v => ts.set i (un3 v)
 | none => ts
def jZ (ms : List Nat) (ts : Ts) : Ts := ms.foldl mv1 ts
theorem vO {ts : Ts} {i : Nat} {v : IVal} (h : ts.get? i = some v) : mv1 ts i = ts.set i (un3 v) := by unfold mv1; rw [h]
theorem zI {ts : Ts} {i : Nat} (h : ts.get? i = none) : mv1 ts i = ts := by unfold mv1; rw [h]
theorem zJ (ts : Ts) (i : Nat) : SameSh ts (mv1 ts i) := by unfold mv1; split <;> exact ⟨rfl, rfl, rfl⟩
theorem SameSh.slot {ts ts' : Ts} (h : SameSh ts ts') (k : Nat) : ts'.slot k = ts.slot k := by simp only [Ts.slot, h.1, h.2.1]
theorem kS (ms : List Nat) : ∀ (ts : Ts), SameSh ts (jZ ms ts) := by
 induction ms with
 | nil => intro ts; exact .refl _
 | cons m ms ih => intro ts; exact (zJ _ _).trans (ih _)
theorem jfd {ts : Ts} {i k : Nat} (h : ts.slot i ≠ ts.slot k) : (mv1 ts i).get? k = ts.get? k := by
 unfold mv1; split
 . exact Ts.get?_set_ne h
 . rfl
theorem jfc {ts : Ts} {i : Nat} : (mv1 ts i).get? i = (ts.get? i).map un3 := by
 cases hv : ts.get? i with
 | none => rw [zI hv, hv]; rfl
 | some v => rw [vO hv, Ts.get?_set hv]; rfl
theorem jdX {ms : List Nat} : ∀ {ts : Ts} {k : Nat}, (∀ m ∈ ms, ts.slot m ≠ ts.slot k) -> (jZ ms ts).get? k = ts.get? k := by
 induction ms with
 | nil => intro ts k _; rfl
 | cons m ms ih =>
   intro ts k h;refine (ih (ts := mv1 ts m) fun m' hm => ?_).trans (jfd (h m (by simp)));rw [(zJ ts m).slot, (zJ ts m).slot]; exact h m' (by simp [hm])
theorem jbS {ts : Ts} {i m : Nat} {v : IVal} (h : ts.slot i ≠ ts.slot m) : mv1 (ts.set i v) m = (mv1 ts m).set i v := by
 unfold mv1;rw [Ts.get?_set_ne h];split
 . rw [Ts.set_comm h]
 . rfl
theorem V7 {ms : List Nat} : ∀ {ts : Ts} {i : Nat} {v : IVal}, (∀ m ∈ ms, ts.slot i ≠ ts.slot m) -> jZ ms (ts.set i v) = (jZ ms ts).set i v := by
 induction ms with
 | nil => intro ts i v _; rfl
 | cons m ms ih =>
   intro ts i v h;simp only [jZ, List.foldl_cons];rw [jbS (h m (by simp))];refine ih (ts := mv1 ts m) fun m' hm => ?_;rw [(zJ ts m).slot, (zJ ts m).slot]; exact h m' (by simp [hm])
theorem jgC {ts : Ts} {i m : Nat} (h : ts.slot i ≠ ts.slot m) : mv1 (mv1 ts i) m = mv1 (mv1 ts m) i := by
 have h1 : (mv1 ts m).get? i = ts.get? i := jfd (tR h)
 cases hv : ts.get? i with
 | none =>
   rw [zI hv, zI (h1.trans hv)]
 | some v => rw [vO hv, vO (h1.trans hv), jbS h]
theorem jbT {ms : List Nat} : ∀ {ts : Ts} {i : Nat}, (∀ m ∈ ms, ts.slot i ≠ ts.slot m) -> jZ ms (mv1 ts i) = mv1 (jZ ms ts) i := by
 induction ms with
 | nil => intro ts i _; rfl
 | cons m ms ih =>
   intro ts i h;simp only [jZ, List.foldl_cons];rw [jgC (h m (by simp))];refine ih (ts := mv1 ts m) fun m' hm => ?_;rw [(zJ ts m).slot, (zJ ts m).slot]; exact h m' (by simp [hm])
theorem Yg {ks : List Nat} : ∀ {ms : List Nat} {ts : Ts}, (∀ k ∈ ks, ∀ m ∈ ms, ts.slot k ≠ ts.slot m) -> jZ ms (jZ ks ts) = jZ ks (jZ ms ts) := by
 induction ks with
 | nil => intro ms ts _; rfl
 | cons k ks ih =>
   intro ms ts h;simp only [jZ, List.foldl_cons];have h1 := ih (ms := ms) (ts := mv1 ts k) (fun k' hk m hm => by rw [(zJ ts k).slot, (zJ ts k).slot]; exact h k' (by simp [hk]) m hm);have h2 := jbT (ts := ts) (h k (by simp));simp only [jZ] at h1 h2;rw [h1, h2]
def Off (U : List Nat) (ts ts2 : Ts) : Prop := ∀ k ∈ U, ts.get? k = ts2.get? k
theorem Off.symm {U : List Nat} {ts ts2 : Ts} (h : Off U ts ts2) : Off U ts2 ts := fun k hk => (h k hk).symm
theorem Ts.get?_set_iff {ts : Ts} {i k : Nat} {v : IVal} (h : ts.get? i = some v) (y : IVal) (hk : k ≠ i) : (ts.set i y).get? k = ts.get? k := by
 by_cases hs : ts.slot i = ts.slot k
 . have h1 := Ts.get?_spec h;have h2 : (ts.set i y).slot k = ts.slot k := rfl;unfold Ts.get?;rw [h2, <- hs, h1];simp only [Ts.set, Tm.get_set, XU h1, cond_true];have : Nat.beq i k = false := by
     cases hb : Nat.beq i k with
     | false => rfl
     | true => exact absurd (zN hb).symm hk
   rw [this]; rfl
 . exact Ts.get?_set_ne hs
theorem Off.mv1 {U : List Nat} {ts ts2 : Ts} (h : Off U ts ts2) (i : Nat) (hi : i ∈ U) : Off U (mv1 ts i) (mv1 ts2 i) := by
 intro k hk
 by_cases e : k = i
 . subst e; rw [jfc, jfc, h k hi]
 . cases hv : ts.get? i with
   | none => rw [zI hv, zI ((h i hi).symm.trans hv)]; exact h k hk
   | some v =>
     have hv2 := (h i hi).symm.trans hv;rw [vO hv, vO hv2, Ts.get?_set_iff hv _ e, Ts.get?_set_iff hv2 _ e];exact h k hk
theorem yn {U : List Nat} {x : Opd} (hx : ∀ i ∈ jb4 x, i ∈ U) {ts ts2 ts' : Ts} {v : IVal} (h : Off U ts ts2) (hg : x.get ts = some (v, ts')) :
   ts' = jZ (jaj x) ts /\ x.get ts2 = some (v, jZ (jaj x) ts2) /\ Off U ts' (jZ (jaj x) ts2) := by
 cases x with
 | t i =>
   have hi := h i (hx i (by simp [jb4]));simp only [Opd.get, jaj, jZ, List.foldl_nil] at hg ⊢;rw [<- hi];split at hg
   . simp only [zO, zP] at hg; obtain ⟨rfl, rfl⟩ := hg;exact ⟨rfl, rfl, h⟩
   . cases hg
 | m i =>
   have hiU := hx i (by simp [jb4]);have hi := h i hiU;simp only [Opd.get, jaj, jZ, List.foldl_cons, List.foldl_nil] at hg ⊢;rw [<- hi];split at hg
   . rename_i v0 hv;simp only [zO, zP] at hg; obtain ⟨rfl, rfl⟩ := hg;have e1 := vO hv;have e2 := vO (hi.symm.trans hv);rw [e1, e2];refine ⟨rfl, rfl, ?_⟩;rw [<- e1, <- e2];exact h.mv1 i hiU
   . cases hg
 | c c =>
   simp only [Opd.get, zO, zP] at hg;obtain ⟨rfl, rfl⟩ := hg;exact ⟨rfl, rfl, h⟩
theorem Jo {U : List Nat} {xs : List Opd} : ∀ {ts ts2 ts' : Ts} {vs : List IVal}, (∀ i ∈ xs.flatMap jb4, i ∈ U) -> Off U ts ts2 -> getAll xs ts = some (vs, ts') ->
   ts' = jZ (xs.flatMap jaj) ts /\ getAll xs ts2 = some (vs, jZ (xs.flatMap jaj) ts2) := by
 induction xs with
 | nil =>
   intro ts ts2 ts' vs _ _ h;rw [jf] at h;obtain ⟨rfl, rfl⟩ := h;exact ⟨rfl, rfl⟩
 | cons x xs ih =>
   intro ts ts2 ts' vs hU ho h;rw [jb] at h;obtain ⟨v, t1, ws, h1, h2, rfl⟩ := h;obtain ⟨e1, e2, e3⟩ := yn (fun i hi => hU i (by simp [hi])) ho h1;obtain ⟨f1, f2⟩ := ih (fun i hi => hU i (by simp at hi ⊢; exact .inr hi)) e3 h2;have happ : ∀ t, jZ ((x :: xs).flatMap jaj) t = jZ (xs.flatMap jaj) (jZ (jaj x) t) := by
     intro t; simp [jZ, List.foldl_append]
   refine ⟨by rw [happ, <- e1, f1], ?_⟩;rw [jb];exact ⟨v, _, ws, e2, by rw [happ]; exact f2, rfl⟩
theorem zr {U : List Nat} {gd : Option (Nat × Bool)} (hU : ∀ i ∈ Za gd, i ∈ U) {ts ts2 : Ts} (h : Off U ts ts2) : wantedI gd ts2 = wantedI gd ts := by
 cases gd with
 | none => rfl
 | some p => obtain ⟨t, b⟩ := p; simp only [wantedI]; rw [h t (hU t (by simp [Za]))]
theorem J5 {U : List Nat} {o : IOp} (hU : ∀ i ∈ (opdsOf o).flatMap jb4, i ∈ U) {s : St} {ts2 : Ts} {σ2 : List IObj} {wr2 : List (Nat × Bool)} (h : Off U s.ts ts2) {vs : List IVal} {ts' : Ts} (hg : getAll (opdsOf o) s.ts = some (vs, ts')) :
   rdOf o { ts := ts2, σ := σ2, wr := wr2 } = rdOf o s := by
 cases o <;> simp only [rdOf]
 case load mvf n x | lookup kk z ok x k | lenM x | store n x y =>
   simp only [opdsOf, jb] at hg hU;obtain ⟨v, t1, ws, h1, h2, rfl⟩ := hg;obtain ⟨e1, e2, e3⟩ := yn (fun i hi => hU i (by simp [hi])) h h1;rw [h1, e2]; cases v <;> rfl
theorem Ve {U : List Nat} {o : IOp} (hU : ∀ i ∈ (opdsOf o).flatMap jb4, i ∈ U) {s : St} {ts2 : Ts} {σ2 : List IObj} {wr2 : List (Nat × Bool)} (h : Off U s.ts ts2) {vs : List IVal} {ts' : Ts} (hg : getAll (opdsOf o) s.ts = some (vs, ts')) :
   noRs o { ts := ts2, σ := σ2, wr := wr2 } = noRs o s := by
 cases o <;> simp only [noRs]
 case append br str esz bytes sv x =>
   simp only [opdsOf, jb] at hg hU;obtain ⟨v, t1, ws, h1, ⟨v2, t2, ws2, h2, h3, rfl⟩, rfl⟩ := hg;obtain ⟨e1, e2, e3⟩ := yn (fun i hi => hU i (by simp [hi])) h h1;obtain ⟨f1, f2, f3⟩ := yn (fun i hi => hU i (by simp [hi])) e3 h2
   cases br with
   | true => rfl
   | false => simp only [h1, e2, h2, f2]; cases v2 <;> rfl
 case conv c x =>
   simp only [opdsOf, jb] at hg hU;obtain ⟨v, t1, ws, h1, h2, rfl⟩ := hg;obtain ⟨e1, e2, e3⟩ := yn (fun i hi => hU i (by simp [hi])) h h1;rw [h1, e2]; cases v <;> rfl
end Go.Idl
namespace Go.Idl
variable [Globs]
theorem Off.refl (U : List Nat) (ts : Ts) : Off U ts ts := fun _ _ => rfl
theorem Xw {cf : jD} {o : IOper} {s s1 : St} {q : Option IVal} {l : DLog} (h : stepD cf o s = some (q, s1, l)) : l.len <= s.σ.length := by
 simp only [stepD] at h
 repeat' split at h
 all_goals first | (cases h; done) | skip
 all_goals
   simp only [zO, zP] at h;obtain ⟨-, -, rfl⟩ := h;simp
def putP (q : Option IVal) (ts : Ts) (d : Option Nat) (v : IVal) : Ts := match q with
 | none => putT ts d v
 | some _ => ts
theorem yM {cf : jD} {o : IOper} (hd : j6 o.op = true) {s s1 : St} {q : Option IVal} {l : DLog} (h : stepD cf o s = some (q, s1, l)) :
   ∃ v ms, (∀ m ∈ ms, m ∈ qD o) /\ s1.ts = putP q (jZ ms s.ts) o.dst v /\ s1.wr = l.wr ++ s.wr /\
     ∀ ts2 wr2, Off (kY o) s.ts ts2 -> stepD cf o ⟨ts2, s.σ, wr2⟩ = some (q, ⟨putP q (jZ ms ts2) o.dst v, s1.σ, l.wr ++ wr2⟩, l) := by
 have hU1 : ∀ i ∈ (opdsOf o.op).flatMap jb4, i ∈ kY o := fun i hi => tC _ hi;have hU2 : ∀ i ∈ Za o.guard, i ∈ kY o := fun i hi => rZ _ hi;simp only [stepD] at h;split at h
 . rename_i hw;split at h
   . rename_i hn;split at h
     . rename_i p hg;obtain ⟨vs, t'⟩ := p;obtain ⟨e1, -⟩ := Jo hU1 (Off.refl _ s.ts) hg;split at h
       . rename_i v s' hs;simp only [zO, zP] at h;obtain ⟨rfl, rfl, rfl⟩ := h;obtain ⟨d1, -⟩ := yN hd (s := { s with wr := [] }) (ts2 := s.ts) hg hg hs;refine ⟨v, qD o, fun m hm => hm, ?_, rfl, fun ts2 wr2 ho => ?_⟩
         . simp only [putP] at d1 ⊢; rw [d1, e1]; rfl
         . obtain ⟨-, e2⟩ := Jo hU1 ho hg;obtain ⟨-, d2⟩ := yN hd (s := { s with wr := [] }) (ts2 := ts2) hg e2 hs;simp only [stepD, zr hU2 ho, hw, Ve hU1 ho hg, J5 hU1 ho hg, hn, if_true, e2];simp only at d2;rw [d2];rfl
       . rename_i v s' hs;simp only [zO, zP] at h;obtain ⟨rfl, rfl, rfl⟩ := h;obtain ⟨d1, -⟩ := yN hd (s := { s with wr := [] }) (ts2 := s.ts) hg hg hs;refine ⟨v, qD o, fun m hm => hm, ?_, rfl, fun ts2 wr2 ho => ?_⟩
         . simp only [putP] at d1 ⊢; rw [d1, e1]; rfl
         . obtain ⟨-, e2⟩ := Jo hU1 ho hg;obtain ⟨-, d2⟩ := yN hd (s := { s with wr := [] }) (ts2 := ts2) hg e2 hs;simp only [stepD, zr hU2 ho, hw, Ve hU1 ho hg, J5 hU1 ho hg, hn, if_true, e2];simp only at d2;rw [d2];rfl
       . cases h
     . cases h
   . cases h
 . rename_i hw;simp only [zO, zP] at h;obtain ⟨rfl, rfl, rfl⟩ := h;refine ⟨undefI, [], fun m hm => (by cases hm), rfl, rfl, fun ts2 wr2 ho => ?_⟩;simp only [stepD, zr hU2 ho, hw];rfl
 . cases h
def qQ : IOp -> Bool
 | .call _ _ => true
 | .callv _ _ => true
 | .inv _ _ _ => true
 | .panic _ => true
 | _ => false
theorem Xb {o : IOp} (h : quiet o = true) : qQ o = false := by cases o <;> first | rfl | cases h
theorem QH {cf : jD} {o : IOp} {s : St} {r : Res} (hs : stepOp cf o s = some r) (hp : r.pan = true) : qQ o = true := by
 cases o
 case call f xs => rfl
 case callv f xs => rfl
 case inv tab x xs => rfl
 case panic x => rfl
 all_goals
   exfalso
   simp only [stepOp, rv] at hs
   repeat' split at hs
   all_goals first
     | (cases hs; done)
     | (simp only [zO] at hs; subst hs; cases hp; done)
theorem KU {cf : jD} {o : IOper} {s s1 : St} {v : IVal} {l : DLog} (h : stepD cf o s = some (some v, s1, l)) : qQ o.op = true := by
 simp only [stepD] at h;split at h
 . split at h
   . split at h
     . split at h
       . cases h
       . rename_i hs; exact QH hs rfl
       . cases h
     . cases h
   . cases h
 . cases h
 . cases h
theorem qo {cf : jD} {o : IOper} (hq : quiet o.op = true) {s s1 : St} {q : Option IVal} {l : DLog} (h : stepD cf o s = some (q, s1, l)) :
   q = none /\ s1.σ = s.σ /\ l.wr = [] /\ ∀ σ2, (∀ id, l.rd = some id -> σ2[id]? = s.σ[id]?) -> stepD cf o { s with σ := σ2 } = some (none, { s1 with σ := σ2 }, l) := by
 have hU1 : ∀ i ∈ (opdsOf o.op).flatMap jb4, i ∈ kY o := fun i hi => tC _ hi;simp only [stepD] at h;split at h
 . rename_i hw;split at h
   . rename_i hn;split at h
     . rename_i p hg;obtain ⟨vs, t'⟩ := p;split at h
       . rename_i v s' hs;simp only [zO, zP] at h;obtain ⟨rfl, rfl, rfl⟩ := h;have hrd : ∀ σ2 wr2, rdOf o.op { ts := s.ts, σ := σ2, wr := wr2 } = rdOf o.op s := fun σ2 wr2 => J5 hU1 (Off.refl _ s.ts) hg;have hnr : ∀ σ2 wr2, noRs o.op { ts := s.ts, σ := σ2, wr := wr2 } = noRs o.op s := fun σ2 wr2 => Ve hU1 (Off.refl _ s.ts) hg;obtain ⟨q1, q2, q3⟩ := jam hq (s := { s with wr := [] }) ((hnr s.σ []).trans hn) hs;simp only at q1 q2;refine ⟨rfl, q1, q2, fun σ2 hσ => ?_⟩;have q4 := q3 σ2 (fun id hid => hσ id (by rw [<- hid]; exact (hrd s.σ []).symm));simp only at q4;simp only [stepD, hw, hnr, hrd, hn, if_true, hg, q4, hq]
       . rename_i v s' hs;have h1 := QH hs rfl;rw [Xb hq] at h1; cases h1
       . cases h
     . cases h
   . cases h
 . rename_i hw;simp only [zO, zP] at h;obtain ⟨rfl, rfl, rfl⟩ := h;refine ⟨rfl, rfl, rfl, fun σ2 hσ => ?_⟩;simp only [stepD, hw, hq, if_true]
 . cases h
def K4 : IOp -> Bool
 | .store _ _ _ => true
 | _ => false
theorem JN {cf : jD} {n : Nat} {x v : Opd} {s : St} {r : Res} (hs : stepOp cf (.store n x v) s = some r) :
   ∃ id ob b, rdOf (.store n x v) s = some id /\ id < s.σ.length /\ r.s.σ = s.σ.set id ob /\ r.s.wr = (id, b) :: s.wr /\ r.pan = false /\
     ∀ σ2 : List IObj, σ2[id]? = s.σ[id]? -> stepOp cf (.store n x v) { s with σ := σ2 } = some { r with s := { r.s with σ := σ2.set id ob } } := by
 simp only [stepOp, markW] at hs;split at hs
 . rename_i id off ts hx;split at hs
   . rename_i u ts2 hv;split at hs
     . rename_i cs hc;split at hs
       . rename_i hif;simp only [zO] at hs;subst hs;have hlt : id < s.σ.length := by
           unfold loadCell at hc;split at hc
           . rename_i h1; exact ja h1
           . cases hc
         refine ⟨id, _, _, by simp only [rdOf, hx], hlt, rfl, rfl, rfl, fun σ2 h2 => ?_⟩;have hc2 : loadCell σ2 id = some cs := by unfold loadCell at hc ⊢; rw [h2]; exact hc
         simp only [stepOp, hx, hv, hc2, markW];rw [if_pos hif]
       . cases hs
     . cases hs
   . cases hs
 . cases hs
theorem KV {cf : jD} {o : IOper} (ho : K4 o.op = true) {s s1 : St} {q : Option IVal} {l : DLog} (h : stepD cf o s = some (q, s1, l)) :
   q = none /\ ((s1.σ = s.σ /\ ∀ σ2 : List IObj, σ2.length = s.σ.length -> stepD cf o { s with σ := σ2 } = some (none, { s1 with σ := σ2 }, l)) \/
     ∃ id ob b, l.rd = some id /\ id < s.σ.length /\ s1.σ = s.σ.set id ob /\ l.wr = [(id, b)] /\
       ∀ σ2 : List IObj, σ2.length = s.σ.length -> σ2[id]? = s.σ[id]? -> stepD cf o { s with σ := σ2 } = some (none, { s1 with σ := σ2.set id ob }, l)) := by
 obtain ⟨dst, op, gd⟩ := o;cases op <;> simp only [K4, tF] at ho;rename_i n x v;simp only [stepD] at h;split at h
 . rename_i hw;split at h
   . rename_i hn;split at h
     . rename_i p hg;have hrd : ∀ σ2 wr2, rdOf (.store n x v) { ts := s.ts, σ := σ2, wr := wr2 } = rdOf (.store n x v) s := fun σ2 wr2 => J5 (fun i hi => tC _ hi) (Off.refl (kY ⟨dst, .store n x v, gd⟩) s.ts) hg;split at h
       . rename_i u s' hs;simp only [zO, zP] at h;obtain ⟨rfl, rfl, rfl⟩ := h;obtain ⟨id, ob, b, k1, k2, k3, k4, -, k6⟩ := JN hs;have k1 := (hrd s.σ []).symm.trans k1;simp only at k2 k3 k4 k6;refine ⟨rfl, .inr ⟨id, ob, b, k1, k2, k3, k4, fun σ2 hl h2 => ?_⟩⟩;have k7 := k6 σ2 h2;have hnr : noRs (.store n x v) ⟨s.ts, σ2, s.wr⟩ = true := rfl;simp only [stepD, hw, hnr, if_true, hg];rw [k7];simp only [hrd, hl]
       . rename_i u s' hs;obtain ⟨id, ob, b, k1, k2, k3, k4, k5, k6⟩ := JN hs;cases k5
       . cases h
     . cases h
   . cases h
 . rename_i hw;simp only [zO, zP] at h;obtain ⟨rfl, rfl, rfl⟩ := h;refine ⟨rfl, .inl ⟨rfl, fun σ2 hl => ?_⟩⟩;simp only [stepD, hw, hl]
 . cases h
def vN : IOp -> Bool
 | .load _ _ _ => true
 | .lookup _ _ _ _ _ => true
 | .lenM _ => true
 | .store _ _ _ => true
 | _ => false
theorem ZF {cf : jD} {o : IOper} (hr : vN o.op = false) {s s1 : St} {q : Option IVal} {l : DLog} (h : stepD cf o s = some (q, s1, l)) : l.rd = none := by
 have hrd : rdOf o.op s = none := by cases ho : o.op <;> simp [ho, vN] at hr <;> rfl
 simp only [stepD] at h
 repeat' split at h
 all_goals first | (cases h; done) | skip
 all_goals
   simp only [zO, zP] at h;obtain ⟨-, -, rfl⟩ := h
   first | rfl | exact hrd
def Qr (sl : Nat -> Nat) (d : Option Nat) (U : List Nat) : Bool := match d with
 | some k => U.all fun u => !(Nat.beq (sl k) (sl u))
 | none => true
def jfP (sl : Nat -> Nat) (d e : Option Nat) : Bool := match d, e with
 | some a, some b => !(Nat.beq (sl a) (sl b))
 | _, _ => true
def K8 (sl : Nat -> Nat) (i j : IOper) : Bool :=
 (j6 i.op && j6 j.op) && (((quiet i.op || quiet j.op) || (K4 i.op && K4 j.op)) && (jfP sl i.dst j.dst && ((Qr sl i.dst (kY j) && Qr sl j.dst (kY i)) &&
   ((qD i).all (fun k => Qr sl (some k) (kY j)) && (qD j).all (fun k => Qr sl (some k) (kY i))))))
theorem jbV {a b : Nat} (h : (!(Nat.beq a b)) = true) : a ≠ b := by
 intro e; subst e; simp at h
theorem vq {sl : Nat -> Nat} {k u : Nat} {U : List Nat} (h : Qr sl (some k) U = true) (hu : u ∈ U) : sl k ≠ sl u := jbV (List.all_eq_true.1 h u hu)
theorem jdm {sl : Nat -> Nat} {a b : Nat} (h : jfP sl (some a) (some b) = true) : sl a ≠ sl b := jbV h
theorem Yj {U : List Nat} {ts : Ts} {ms : List Nat} {d : Option Nat} {v : IVal} (h1 : Qr ts.slot d U = true) (h2 : ∀ m ∈ ms, ∀ u ∈ U, ts.slot m ≠ ts.slot u) : Off U ts (putT (jZ ms ts) d v) := by
 intro k hk;have h3 : (jZ ms ts).get? k = ts.get? k := jdX fun m hm => h2 m hm k hk
 cases d with
 | none => exact h3.symm
 | some d =>
   have : (jZ ms ts).slot d ≠ (jZ ms ts).slot k := by
     rw [(kS ms ts).slot, (kS ms ts).slot]; exact vq h1 hk
   simp only [putT];rw [Ts.get?_set_ne this, h3]
theorem jeb {ts : Ts} {mi mj : List Nat} {di dj : Option Nat} {vi vj : IVal} (h0 : jfP ts.slot di dj = true) (h1 : ∀ k, di = some k -> ∀ m ∈ mj, ts.slot k ≠ ts.slot m) (h2 : ∀ k, dj = some k -> ∀ m ∈ mi, ts.slot k ≠ ts.slot m)
   (h3 : ∀ k ∈ mi, ∀ m ∈ mj, ts.slot k ≠ ts.slot m) :
   putT (jZ mi (putT (jZ mj ts) dj vj)) di vi = putT (jZ mj (putT (jZ mi ts) di vi)) dj vj := by
 have e1 : jZ mi (putT (jZ mj ts) dj vj) = putT (jZ mi (jZ mj ts)) dj vj := by
   cases dj with
   | none => rfl
   | some k => exact V7 fun m hm => by rw [(kS mj ts).slot, (kS mj ts).slot]; exact h2 k rfl m hm
 have e2 : jZ mj (putT (jZ mi ts) di vi) = putT (jZ mj (jZ mi ts)) di vi := by
   cases di with
   | none => rfl
   | some k => exact V7 fun m hm => by rw [(kS mi ts).slot, (kS mi ts).slot]; exact h1 k rfl m hm
 rw [e1, e2, Yg h3]
 cases di with
 | none => rfl
 | some a => cases dj with
   | none => rfl
   | some b =>
     simp only [putT];refine Ts.set_comm ?_;rw [(kS mi _).slot, (kS mi _).slot, (kS mj _).slot, (kS mj _).slot];exact tR (jdm h0)
theorem KD {x y : DLog} {σ σ' : List IObj} (h : okPair x y = true) (hl : y.len <= σ.length) (hs : Same σ σ' y.wr) : ∀ id, x.rd = some id -> σ'[id]? = σ[id]? := by
 intro id hid;unfold okPair at h;rw [hid] at h;simp only [zA, decide_eq_true_eq, rG] at h;refine hs id (by omega) fun p hp e => ?_;have := h.2 p hp;simp [e] at this
theorem SameSh.putP {q : Option IVal} {ts : Ts} {d : Option Nat} {v : IVal} : SameSh ts (putP q ts d v) := by cases q with
 | none => exact .put
 | some _ => exact .refl _
theorem jez {cf : jD} {o : IOper} (hd : j6 o.op = true) {s s1 : St} {q : Option IVal} {l : DLog} (h : stepD cf o s = some (q, s1, l)) : SameSh s.ts s1.ts := by
 obtain ⟨v, ms, -, e, -⟩ := yM hd h;rw [e];exact (kS _ _).trans .putP
theorem jaA {cf : jD} (hcf : yh cf) {i j : IOper} {s s1 s2 : St} (hi : K8 s.ts.slot i j = true) {li lj : DLog} (h1 : stepD cf i s = some (none, s1, li)) (h2 : stepD cf j s1 = some (none, s2, lj))
   (hp1 : quiet i.op = true -> quiet j.op = false -> okPair li lj = true) (hp2 : quiet j.op = true -> quiet i.op = false -> okPair lj li = true) (hp3 : K4 i.op = true -> K4 j.op = true -> okPair li lj = true) :
   ∃ t1 t2, stepD cf j s = some (none, t1, lj) /\ stepD cf i t1 = some (none, t2, li) /\ t2.ts = s2.ts /\ t2.σ = s2.σ := by
 simp only [K8, zA, rG] at hi;obtain ⟨⟨di, dj⟩, hq, hne, ⟨hdi, hdj⟩, hmi, hmj⟩ := hi;obtain ⟨vi, mi, ki, ei, wi, Ti⟩ := yM di h1;obtain ⟨vj, mj, kj, ej, wj, Tj⟩ := yM dj h2;simp only [putP] at ei ej Ti Tj;have hmi' : ∀ m ∈ mi, ∀ u ∈ kY j, s.ts.slot m ≠ s.ts.slot u := fun m hm u hu => vq (hmi m (ki m hm)) hu;have hmj' : ∀ m ∈ mj, ∀ u ∈ kY i, s.ts.slot m ≠ s.ts.slot u := fun m hm u hu => vq (hmj m (kj m hm)) hu;have offj : Off (kY j) s1.ts s.ts := by rw [ei]; exact (Yj hdi hmi').symm
 have offi : Off (kY i) s.ts (putT (jZ mj s.ts) j.dst vj) := Yj hdj hmj';have hts : putT (jZ mi (putT (jZ mj s.ts) j.dst vj)) i.dst vi = s2.ts := by
   rw [ej, ei];refine jeb hne (fun k hk m hm => ?_) (fun k hk m hm => ?_) (fun k hk m hm => hmi' k hk m (zj (kj m hm)))
   . rw [hk] at hdi; exact vq hdi (zj (kj m hm))
   . rw [hk] at hdj; exact vq hdj (zj (ki m hm))
 have hj := Tj s.ts s.wr offj
 by_cases qi : quiet i.op = true
 . obtain ⟨-, a1, a2, a3⟩ := qo qi h1;rw [a1] at hj;have hi2 := Ti _ (lj.wr ++ s.wr) offi;have hrd : ∀ id, li.rd = some id -> s2.σ[id]? = s.σ[id]? := by
     by_cases qj : quiet j.op = true
     . intro id _; rw [(qo qj h2).2.1, a1]
     . have := KD (σ := s1.σ) (σ' := s2.σ) (hp1 qi (by simpa using qj)) (Xw h2) (kV hcf h2).2;intro id hid; rw [this id hid, a1]
   obtain ⟨-, -, -, b3⟩ := qo qi hi2;have hi3 := b3 s2.σ hrd;exact ⟨_, _, hj, hi3, hts, rfl⟩
 . by_cases qj : quiet j.op = true
   . obtain ⟨-, a1, a2, a3⟩ := qo qj hj;have hrd := KD (σ := s.σ) (σ' := s1.σ) (hp2 qj (by simpa using qi)) (Xw h1) (kV hcf h1).2;have hj2 := a3 s.σ (fun id hid => (hrd id hid).symm);have hi2 := Ti _ (lj.wr ++ s.wr) offi;refine ⟨_, _, hj2, hi2, hts, ?_⟩;exact ((qo qj h2).2.1).symm
   . -- two stores
     have hss : K4 i.op = true /\ K4 j.op = true := by simpa [qi, qj] using hq
     obtain ⟨si, sj⟩ := hss;have hok := hp3 si sj;have hi2 := Ti _ (lj.wr ++ s.wr) offi;obtain ⟨-, hI⟩ := KV si hi2;obtain ⟨-, hJ⟩ := KV sj hj
     rcases hI with ⟨a1, a2⟩ | ⟨idi, obi, bi, a1, a2, a3, a4, a5⟩
     . simp only at a1;rw [a1] at hj;have hl2 : s2.σ.length = s.σ.length := by
         rcases hJ with ⟨b1, _⟩ | ⟨_, _, _, _, _, b3, _⟩
         . simp only at b1; rw [b1, a1]
         . simp only at b3; rw [b3, a1]; simp
       exact ⟨_, _, hj, a2 s2.σ hl2, hts, rfl⟩
     . simp only at a2 a3 a5
       rcases hJ with ⟨b1, b2⟩ | ⟨idj, obj, bj, b1, b2, b3, b4, b5⟩
       . simp only at b1;exact ⟨_, _, b2 s.σ (by rw [a3]; simp), hi2, hts, b1.symm⟩
       . simp only at b2 b3 b5;have hne2 : idi ≠ idj := by
           intro e;unfold okPair at hok;rw [a1] at hok;simp [b4, e] at hok
         have hj2 := b5 s.σ (by rw [a3]; simp) (by rw [a3, rD hne2]);refine ⟨_, _, hj2, a5 _ (by simp) (by rw [rD (tR hne2)]), hts, ?_⟩;simp only;rw [b3, a3, List.set_comm _ _ hne2]
theorem YP {cf : jD} {i j : IOper} {s s1 s2 : St} (hi : K8 s.ts.slot i j = true) {v : IVal} {li lj : DLog} (h1 : stepD cf i s = some (none, s1, li)) (h2 : stepD cf j s1 = some (some v, s2, lj)) :
   ∃ t1, stepD cf j s = some (some v, t1, lj) /\ t1.σ = s2.σ := by
 simp only [K8, zA, rG] at hi;obtain ⟨⟨di, dj⟩, hq, hne, ⟨hdi, hdj⟩, hmi, hmj⟩ := hi;obtain ⟨vi, mi, ki, ei, wi, Ti⟩ := yM di h1;obtain ⟨vj, mj, kj, ej, wj, Tj⟩ := yM dj h2;simp only [putP] at ei ej Ti Tj;have hmi' : ∀ m ∈ mi, ∀ u ∈ kY j, s.ts.slot m ≠ s.ts.slot u := fun m hm u hu => vq (hmi m (ki m hm)) hu;have offj : Off (kY j) s1.ts s.ts := by rw [ei]; exact (Yj hdi hmi').symm
 have hj := Tj s.ts s.wr offj;have hp := KU h2;have qj : quiet j.op = false := by
   cases hq2 : quiet j.op with
   | false => rfl
   | true => rw [Xb hq2] at hp; cases hp
 have sj : K4 j.op = false := by
   cases ho : j.op <;> simp [ho, qQ, K4] at hp ⊢
 have qi : quiet i.op = true := by simpa [qj, sj] using hq
 obtain ⟨-, a1, -, -⟩ := qo qi h1;rw [a1] at hj;exact ⟨_, hj, rfl⟩
theorem ZG {cf : jD} {o : IOper} {s s1 t : St} {q : Option IVal} {l : DLog} (h : stepD cf o s = some (q, s1, l)) (h1 : t.ts = s.ts) (h2 : t.σ = s.σ) : ∃ t1, stepD cf o t = some (q, t1, l) /\ t1.ts = s1.ts /\ t1.σ = s1.σ := by
 have hrd : rdOf o.op t = rdOf o.op s := by cases ho : o.op <;> simp [rdOf, h1]
 have hnr : noRs o.op t = noRs o.op s := by cases ho : o.op <;> simp [noRs, h1]
 have hst : ({ t with wr := [] } : St) = { s with wr := [] } := by cases t; cases s; simp_all
 have hd : stepD cf o t = match stepD cf o s with
     | some (q, s1, l) => some (q, { s1 with wr := l.wr ++ t.wr }, l)
     | none => none := by
   simp only [stepD, hrd, hnr, hst, h1, h2]
   rcases wantedI o.guard s.ts with _ | _ | _
   . rfl
   . rfl
   ·
     cases noRs o.op s with
     | false => rfl
     | true =>
       cases getAll (opdsOf o.op) s.ts with
       | none => rfl
       | some p =>
         simp only [if_true]
         cases stepOp cf o.op { s with wr := [] } with
         | none => rfl
         | some r =>
           obtain ⟨pan, v, s'⟩ := r;cases pan <;> rfl
 rw [h] at hd;exact ⟨_, hd, rfl, rfl⟩
abbrev Pan := Option (IVal × List (Nat × Bool))
theorem runDraw_cons {cf : jD} {o : Nat × IOper} {os : List (Nat × IOper)} {s s' : St} {q : Pan} {ls : List (Nat × DLog)} : runDraw cf (o :: os) s = some (q, s', ls) ↔
   (∃ s1 l ls1, stepD cf o.2 s = some (none, s1, l) /\ runDraw cf os s1 = some (q, s', ls1) /\ ls = (o.1, l) :: ls1) \/ (∃ v l, stepD cf o.2 s = some (some v, s', l) /\ q = some (v, l.wr) /\ ls = []) := by
 constructor
 . intro h;simp only [runDraw] at h;split at h
   . rename_i s1 lg e1;split at h
     . rename_i s2 ls2 e2;simp only [zO, zP] at h;obtain ⟨rfl, rfl, rfl⟩ := h;exact .inl ⟨s1, lg, _, e1, e2, rfl⟩
     . cases h
   . rename_i v s1 l e1;simp only [zO, zP] at h;obtain ⟨rfl, rfl, rfl⟩ := h;exact .inr ⟨v, l, e1, rfl, rfl⟩
   . cases h
 . rintro (⟨s1, l, ls1, h1, h2, rfl⟩ | ⟨v, l, h1, rfl, rfl⟩)
   . simp [runDraw, h1, h2]
   . simp [runDraw, h1]
theorem jar {cf : jD} : ∀ {l : List (Nat × IOper)} {s s' t : St} {q : Pan} {ls : List (Nat × DLog)}, runDraw cf l s = some (q, s', ls) -> t.ts = s.ts -> t.σ = s.σ -> ∃ t', runDraw cf l t = some (q, t', ls) /\ t'.ts = s'.ts /\ t'.σ = s'.σ := by
 intro l
 induction l with
 | nil => intro s s' t q ls h h1 h2; simp [runDraw] at h; obtain ⟨rfl, rfl, rfl⟩ := h; exact ⟨t, rfl, h1, h2⟩
 | cons o os ih =>
   intro s s' t q ls h h1 h2
   rcases runDraw_cons.1 h with ⟨s1, lg, ls2, e1, e2, rfl⟩ | ⟨v, lg, e1, rfl, rfl⟩
   . obtain ⟨t1, f1, f2, f3⟩ := ZG e1 h1 h2;obtain ⟨t2, g1, g2, g3⟩ := ih e2 f2 f3;exact ⟨t2, runDraw_cons.2 (.inl ⟨t1, lg, ls2, f1, g1, rfl⟩), g2, g3⟩
   . obtain ⟨t1, f1, f2, f3⟩ := ZG e1 h1 h2;exact ⟨t1, runDraw_cons.2 (.inr ⟨v, lg, f1, rfl, rfl⟩), f2, f3⟩
def Qm (pairs : List (Nat × Nat)) (ls : List (Nat × DLog)) : Prop := ∀ x ∈ ls, ∀ y ∈ ls, (x.1, y.1) ∈ pairs -> okPair x.2 y.2 = true
theorem jca {pairs : List (Nat × Nat)} {ls : List (Nat × DLog)} (h : pairsOK pairs ls = true) : Qm pairs ls := by
 intro x hx y hy hp;simp only [pairsOK, rG] at h;have h1 := h _ hp x hx;simp only [bne_self_eq_false, Bool.false_or, rG] at h1;have h2 := h1 y hy;simpa using h2
def qr (sl : Nat -> Nat) (pairs : List (Nat × Nat)) (p q : Nat × IOper) : Bool :=
 K8 sl p.2 q.2 && (((!(quiet p.2.op && vN p.2.op) || (quiet q.2.op || pairs.contains (p.1, q.1))) && (!(quiet q.2.op && vN q.2.op) || (quiet p.2.op || pairs.contains (q.1, p.1)))) &&
   (!(K4 p.2.op && K4 q.2.op) || pairs.contains (p.1, q.1)))
theorem VR {cf : jD} {pairs : List (Nat × Nat)} {sl : Nat -> Nat} {p q : Nat × IOper} (h : qr sl pairs p q = true) {s1 s2 t1 t2 : St} {lp lq : DLog} (hp : stepD cf p.2 s1 = some (none, t1, lp)) (hq : stepD cf q.2 s2 = some (none, t2, lq))
   {ls : List (Nat × DLog)} (hP : Qm pairs ls) (mp : (p.1, lp) ∈ ls) (mq : (q.1, lq) ∈ ls) :
   (quiet p.2.op = true -> quiet q.2.op = false -> okPair lp lq = true) /\ (quiet q.2.op = true -> quiet p.2.op = false -> okPair lq lp = true) /\ (K4 p.2.op = true -> K4 q.2.op = true -> okPair lp lq = true) := by
 simp only [qr, zA] at h;obtain ⟨-, ⟨h1, h2⟩, h3⟩ := h;refine ⟨?_, ?_, ?_⟩
 . intro a b
   by_cases hr : vN p.2.op = true
   . simp [a, b, hr] at h1; exact hP _ mp _ mq h1
   . have := ZF (by simpa using hr) hp; simp [okPair, this]
 . intro a b
   by_cases hr : vN q.2.op = true
   . simp [a, b, hr] at h2; exact hP _ mq _ mp h2
   . have := ZF (by simpa using hr) hq; simp [okPair, this]
 . intro a b;simp [a, b] at h3; exact hP _ mp _ mq h3
theorem Vj {cf : jD} (hcf : yh cf) {pairs : List (Nat × Nat)} {i : Nat × IOper} {post : List (Nat × IOper)} : ∀ {pre : List (Nat × IOper)} {s s' : St} {q : Pan} {ls : List (Nat × DLog)}, (∀ p ∈ pre, qr s.ts.slot pairs p i = true /\ qQ p.2.op = false) -> Qm pairs ls ->
   runDraw cf (pre ++ i :: post) s = some (q, s', ls) -> ∃ s'' ls', runDraw cf (i :: (pre ++ post)) s = some (q, s'', ls') /\ (q = none -> s''.ts = s'.ts) /\ s''.σ = s'.σ /\ ∀ x ∈ ls', x ∈ ls := by
 intro pre
 induction pre with
 | nil => intro s s' q ls _ _ h; exact ⟨s', ls, h, fun _ => rfl, rfl, fun _ hx => hx⟩
 | cons p pre ih =>
   intro s s' q ls hf hP h;simp only [tP] at h;have hfp := (hf p (by simp)).1;have hind : K8 s.ts.slot p.2 i.2 = true := by
     have := hfp;simp only [qr, zA] at this;exact this.1
   rcases runDraw_cons.1 h with ⟨s1, lp, ls1, e1, e2, rfl⟩ | ⟨v, lp, e1, -, -⟩
   . have hP1 : Qm pairs ls1 := fun x hx y hy => hP x (by simp [hx]) y (by simp [hy]);have hdp : j6 p.2.op = true := by
       simp only [K8, zA] at hind;exact hind.1.1
     have hsl : s1.ts.slot = s.ts.slot := funext fun k => (jez hdp e1).slot k;obtain ⟨s2, ls2, f1, f2, f3, f4⟩ := ih (fun q hq => by rw [hsl]; exact hf q (by simp [hq])) hP1 e2
     rcases runDraw_cons.1 f1 with ⟨s3, li, ls3, g1, g2, rfl⟩ | ⟨v, li, g1, rfl, rfl⟩
     . have mi : (i.1, li) ∈ (p.1, lp) :: ls1 := rN _ (f4 _ (by simp));obtain ⟨d1, d2, d3⟩ := VR hfp e1 g1 hP (by simp) mi;obtain ⟨t1, t2, k1, k2, k3, k4⟩ := jaA hcf hind e1 g1 d1 d2 d3;obtain ⟨t3, m1, m2, m3⟩ := jar (t := t2) g2 k3 k4;refine ⟨t3, (i.1, li) :: (p.1, lp) :: ls3, ?_, fun hq => m2.trans (f2 hq), m3.trans f3, fun x hx => ?_⟩
       . refine runDraw_cons.2 (.inl ⟨t1, li, (p.1, lp) :: ls3, k1, ?_, rfl⟩);exact runDraw_cons.2 (.inl ⟨t2, lp, ls3, k2, m1, rfl⟩)
       . simp only [List.mem_cons] at hx ⊢
         rcases hx with hx | hx | hx
         . exact .inr (f4 x (by simp [hx]))
         . exact .inl hx
         . exact .inr (f4 x (by simp [hx]))
     . obtain ⟨t1, k1, k2⟩ := YP hind e1 g1;refine ⟨t1, [], runDraw_cons.2 (.inr ⟨v, li, k1, rfl, rfl⟩), fun h => (by cases h), k2.trans f3, fun x hx => (by cases hx)⟩
   . have h1 := KU e1;rw [(hf p (by simp)).2] at h1; cases h1
theorem Tm.set_set (x y : Option (Nat × IVal)) : ∀ (t : Tm) (k : Nat), (t.set x k).set y k = t.set y k := by
 intro t
 induction t with
 | leaf => intro k; rfl
 | node l c r ihl ihr =>
   intro k
   cases h0 : Nat.beq k 0 with
   | true => simp [Tm.set, h0]
   | false => cases h1 : Nat.beq (k % 2) 1 <;> simp [Tm.set, h0, h1, ihl, ihr]
theorem ZY {ts : Ts} {i j : Nat} {v : IVal} (h : ts.slot i = ts.slot j) : (ts.set j v).clr i = ts.clr i := by
 have h1 : (ts.set j v).slot i = ts.slot i := rfl;simp only [Ts.clr, h1, h];simp only [Ts.set, Tm.set_set]
theorem ZZ {ts : Ts} {i j : Nat} {v : IVal} (h : ts.slot i ≠ ts.slot j) : (ts.set j v).clr i = (ts.clr i).set j v := by
 have h1 : (ts.set j v).slot i = ts.slot i := rfl;have h2 : (ts.clr i).slot j = ts.slot j := rfl;simp only [Ts.clr, h1];simp only [Ts.clr] at h2;simp only [Ts.set, h2];rw [Tm.set_comm _ _ _ _ _ (tR h)]
theorem Y3 : ∀ {X : List Nat} {ts : Ts} {j : Nat} {v : IVal}, j ∈ X -> (ts.set j v).clrs X = ts.clrs X := by
 intro X
 induction X with
 | nil => intro ts j v h; cases h
 | cons x X ih =>
   intro ts j v h;show ((ts.set j v).clr x).clrs X = (ts.clr x).clrs X
   by_cases hs : ts.slot x = ts.slot j
   . rw [ZY hs]
   . rw [ZZ hs]
     rcases List.mem_cons.1 h with rfl | h
     . exact absurd rfl hs
     . exact ih h
theorem jdd {X : List Nat} {ts : Ts} {j : Nat} (h : j ∈ X) : (mv1 ts j).clrs X = ts.clrs X := by
 unfold mv1;split
 . exact Y3 h
 . rfl
theorem Z0 {X : List Nat} : ∀ {ms : List Nat} {ts : Ts}, (∀ m ∈ ms, m ∈ X) -> (jZ ms ts).clrs X = ts.clrs X := by
 intro ms
 induction ms with
 | nil => intro ts _; rfl
 | cons m ms ih =>
   intro ts h;exact (ih (ts := mv1 ts m) fun k hk => h k (by simp [hk])).trans (jdd (h m (by simp)))
theorem ja3 {X : List Nat} {q : Option IVal} {ts : Ts} {d : Option Nat} {v : IVal} (h : ∀ k, d = some k -> k ∈ X) : (putP q ts d v).clrs X = ts.clrs X := by
 cases q with
 | some _ => rfl
 | none => cases d with
   | none => rfl
   | some k => exact Y3 (h k rfl)
def jaO (X : List Nat) (o : IOper) : Prop := (∀ m ∈ qD o, m ∈ X) /\ ∀ k, o.dst = some k -> k ∈ X
theorem Jd {cf : jD} {o : IOper} (hd : j6 o.op = true) {s s1 : St} {q : Option IVal} {l : DLog} {X : List Nat} (hX : jaO X o) (h : stepD cf o s = some (q, s1, l)) : s1.ts.clrs X = s.ts.clrs X := by
 obtain ⟨v, ms, h1, e, -⟩ := yM hd h;rw [e, ja3 hX.2, Z0 fun m hm => hX.1 m (h1 m hm)]
theorem Jf {l : List (Nat × IOper)} {p : Nat × IOper} (h : p ∈ l) : jaO (zd l) p.2 := by
 refine ⟨fun m hm => ?_, fun k hk => ?_⟩
 . exact List.mem_flatMap.2 ⟨p, h, rZ _ hm⟩
 . exact List.mem_flatMap.2 ⟨p, h, tC _ (by simp [hk])⟩
end Go.Idl
namespace Go.Idl
variable [Globs]
variable {P : Program} {g : Gh} {O : List Nat} {w : World}
structure GrowB (n : Nat) (O : List Nat) (g : Gh) (w : World) (O' : List Nat) (g' : Gh) (w' : World) : Prop where
 size : w.heap.size <= w'.heap.size
 same : ∀ b, b < w.heap.size -> b ∉ O -> w'.heap[b]? = w.heap[b]? /\ g'.T b = g.T b /\ ∀ o, g'.M b o = g.M b o
 mono : ∀ b o v, g.M b o = some v -> g'.M b o = some v
 preo : ∀ (id : Nat) b, id < n -> g.ι[id]? = some b -> g'.ι[id]? = some b
 fresh : ∀ b ∈ O', b ∈ O \/ w.heap.size <= b
 code : g'.C = g.C
 os : w'.os = w.os
 tape : w'.tape = w.tape
 output : w'.output = w.output
 zm : ∀ b, g.Z b <= g'.Z b
theorem GrowB.of {n : Nat} {O O' : List Nat} {g g' : Gh} {w w' : World} (h : Grow O g w O' g' w') : GrowB n O g w O' g' w' :=
 ⟨h.size, h.same, h.mono, fun id b _ hb => h.preo id b hb, h.fresh, h.code, h.os, h.tape, h.output, h.zm⟩
theorem GrowB.all {n : Nat} {O O' : List Nat} {g g' : Gh} {w w' : World} (h : GrowB n O g w O' g' w') (hn : g.ι.length <= n) : Grow O g w O' g' w' :=
 ⟨h.size, h.same, h.mono, fun id b hb => h.preo id b (Nat.lt_of_lt_of_le (ja hb) hn) hb, h.fresh, h.code, h.os, h.tape, h.output, h.zm⟩
theorem GrowB.trans {n : Nat} {O O' O'' : List Nat} {g g' g'' : Gh} {w w' w'' : World} (h : GrowB n O g w O' g' w') (k : GrowB n O' g' w' O'' g'' w'') : GrowB n O g w O'' g'' w'' := by
 refine ⟨Nat.le_trans h.size k.size, fun b hb hO => ?_, fun b o v hm => k.mono b o v (h.mono b o v hm), fun id b hid hb => k.preo id b hid (h.preo id b hid hb), fun b hb => ?_, k.code.trans h.code, k.os.trans h.os, k.tape.trans h.tape, k.output.trans h.output, fun b => Nat.le_trans (h.zm b) (k.zm b)⟩
 . have h1 := h.same b hb hO;have hO' : b ∉ O' := fun hm => by
     rcases h.fresh b hm with h2 | h2
     . exact hO h2
     . omega
   have h2 := k.same b (Nat.lt_of_lt_of_le hb h.size) hO';exact ⟨h2.1.trans h1.1, h2.2.1.trans h1.2.1, fun o => (h2.2.2 o).trans (h1.2.2 o)⟩
 . rcases k.fresh b hb with h1 | h1
   . exact h.fresh b h1
   . exact .inr (Nat.le_trans h.size h1)
def Gh.addUn (g : Gh) (zs : List IVal) : Gh := { g with ι := g.ι ++ [.un zs] }
theorem R.pushUn {l : jG} {σ : List IObj} {zs : List IVal} (h : R g O l σ w) (hz : ∀ x ∈ zs, RL 0 x) : R (g.addUn zs) O l (σ ++ [.cells zs]) w := by
 have hιm : ∀ (id b : Nat), g.ι[id]? = some (Blk.bk b) -> (g.addUn zs).ι[id]? = some (Blk.bk b) := fun id b hb => by
   simp only [Gh.addUn]; rw [zL (ja hb)]; exact hb
 have hS : kt w (g.addUn zs).ι (σ ++ [.cells zs]) = kt w g.ι σ := by
   simp only [kt, Gh.addUn];rw [List.zipWith_append h.len];simp [qh]
 refine ⟨by simp [Gh.addUn, h.len], fun p hp => (h.vals p hp).mono hιm (fun _ _ _ h => h) (fun _ _ => rfl), fun id b x h1 h2 => ?_, by rw [hS]; exact h.nodup, by rw [hS]; exact h.sub, h.lt, h.claim, fun id b x h1 h2 hm => ?_, h.spare, h.glob, h.zs⟩
 . rcases zB h1 with h1' | ⟨h1', rfl⟩
   . have hid : id < σ.length := by rw [<- h.len]; exact ja h1'
     rw [zL hid] at h2
     cases b with
     | un ys => exact h.objo id (.un ys) x h1' h2
     | bk b => exact (h.objs id b x h1' h2).mono rfl hιm (fun _ _ _ h => h) rfl (fun _ _ => rfl)
   . rw [h1', h.len] at h2;simp at h2;subst h2;exact ⟨rfl, hz⟩
 . rcases zB h1 with h1' | ⟨h1', hbk⟩
   . have hid : id < σ.length := by rw [<- h.len]; exact ja h1'
     rw [zL hid] at h2;exact h.apart id b x h1' h2 hm
   . cases hbk
theorem GrowB.addUn (n : Nat) (O : List Nat) (g : Gh) (w : World) (zs : List IVal) : GrowB n O g w O (g.addUn zs) w :=
 ⟨rS _, fun _ _ _ => ⟨rfl, rfl, fun _ => rfl⟩, fun _ _ _ h => h, fun id b _ hb => by simp only [Gh.addUn]; rw [zL (ja hb)]; exact hb, fun _ h => .inl h, rfl, rfl, rfl, rfl, fun _ => rS _⟩
def Gh.bear (g : Gh) (id b : Nat) : Gh := { g with ι := g.ι.set id (.bk b) }
theorem YZ {id b : Nat} {zs : List IVal} (hι : g.ι[id]? = some (.un zs)) (j : Nat) (x : Blk) (hj : j ≠ id) (h : g.ι[j]? = some x) : (g.bear id b).ι[j]? = some x := by
 simp only [Gh.bear]; rw [rD (tR hj)]; exact h
theorem VC {id b : Nat} {zs : List IVal} (hι : g.ι[id]? = some (.un zs)) (j k : Nat) (h : g.ι[j]? = some (.bk k)) : (g.bear id b).ι[j]? = some (.bk k) :=
 YZ hι j _ (fun e => by subst e; rw [hι] at h; cases h) h
theorem R.bear {l : jG} {σ : List IObj} {id b : Nat} {zs : List IVal} (h : R g O l σ w) (hb : b ∉ O) (hlt : b < w.heap.size) (hM : ∀ o, g.M b o = none) (hT : g.T b = none) (hι : g.ι[id]? = some (.un zs))
   (hob : OBJ (g.bear id b) w b (.cells zs)) (ho : ky w b (.cells zs) = [b]) : R (g.bear id b) (b :: O) l σ w := by
 have hidl : id < σ.length := by rw [<- h.len]; exact ja hι
 have hσ : σ[id]? = some (.cells zs) := by
   have h1 := h.objo id (.un zs) (σ[id]) hι (by simp [hidl]);rw [rJ hidl, h1.1]
 have hιm := fun (j k : Nat) (hj : g.ι[j]? = some (Blk.bk k)) => VC (b := b) hι j k hj;have hget : (List.zipWith (qh w) g.ι σ)[id]? = some [] := by simp [tT, hι, hσ, qh]
 have hzip : List.zipWith (qh w) (g.ι.set id (.bk b)) σ = (List.zipWith (qh w) g.ι σ).set id [b] := by
   apply List.ext_getElem?;intro j
   by_cases hj : j = id
   . subst hj;rw [rK (by have := ja hι; simp; omega)];simp only [tT];rw [rK (ja hι), hσ];simp [qh, ho]
   . rw [rD (tR hj)];simp only [tT];rw [rD (tR hj)]
 obtain ⟨r, hr1, hr2⟩ := vd (d := [b]) hget;have hp : (jN l ++ kt w (g.bear id b).ι σ).Perm (b :: (jN l ++ kt w g.ι σ)) := by
   have e1 : (kt w (g.bear id b).ι σ).Perm (b :: kt w g.ι σ) := by
     show ((List.zipWith (qh w) (g.ι.set id (.bk b)) σ).flatten).Perm (b :: (List.zipWith (qh w) g.ι σ).flatten);rw [hzip];exact hr2.trans (by simpa using (hr1.symm.cons b))
   exact (e1.append_left _).trans XC
 refine ⟨by simp [Gh.bear, h.len], fun p hp' => (h.vals p hp').mono hιm (fun _ _ _ h => h) (fun _ _ => rfl), fun j k y h1 h2 => ?_, ?_, fun k hk => ?_, fun k hk => ?_, h.claim, fun j k y h1 h2 hm => ?_, fun k hk => ?_, h.glob, h.zs⟩
 . by_cases hj : j = id
   . subst hj;simp only [Gh.bear] at h1;rw [rK (ja hι)] at h1;cases h1;rw [hσ] at h2; cases h2;exact hob
   . simp only [Gh.bear] at h1;rw [rD (tR hj)] at h1
     cases k with
     | un ys => exact h.objo j (.un ys) y h1 h2
     | bk k => exact (h.objs j k y h1 h2).mono rfl hιm (fun _ _ _ h => h) rfl (fun _ _ => rfl)
 . rw [hp.nodup_iff, List.nodup_cons];exact ⟨fun hm => hb (h.sub b hm), h.nodup⟩
 . rcases List.mem_cons.1 (hp.mem_iff.1 hk) with rfl | hk
   . simp
   . exact rN _ (h.sub k hk)
 . rcases List.mem_cons.1 hk with rfl | hk
   . exact hlt
   . exact h.lt k hk
 . by_cases hj : j = id
   . subst hj;simp only [Gh.bear] at h1;rw [rK (ja hι)] at h1;cases h1;exact hM
   . simp only [Gh.bear] at h1;rw [rD (tR hj)] at h1;exact h.apart j k y h1 h2 hm
 . rcases List.mem_cons.1 hk with rfl | hk
   . intro ext top ht; simp [Gh.bear, hT] at ht
   . exact h.spare k hk
def Gh.born (g : Gh) (id k : Nat) : Gh := { g with ι := g.ι.set id (.bk k), T := fun b => if b = k then none else g.T b }
theorem R.born {l : jG} {σ : List IObj} {id : Nat} {zs : List IVal} {c : Array Value} {T : TypeId} (h : R g O l σ w) (hι : g.ι[id]? = some (.un zs)) (hc : K2 zs c.toList = true) :
   R (g.born id w.heap.size) (w.heap.size :: O) ((.ptr id 0, .pointer (some ⟨w.heap.size, 0, none⟩)) :: l) σ (w.alloc (.cells c T)) /\ ∀ n, n <= id -> GrowB n O g w (w.heap.size :: O) (g.born id w.heap.size) (w.alloc (.cells c T)) := by
 have h1 := h.allocW (.cells c T);have hk := h.notO;have h2 : R { g with T := fun b => if b = w.heap.size then none else g.T b } O l σ (w.alloc (.cells c T)) := by
   refine h1.ghost hk rfl rfl (fun _ _ _ => rfl) (fun _ _ h => h) (fun b hb => by simp [hb]) (fun o v hm => ?_);rw [h.noClaim o] at hm; cases hm
 have h3 : R (g.born id w.heap.size) (w.heap.size :: O) l σ (w.alloc (.cells c T)) := by
   refine h2.bear (id := id) (b := w.heap.size) (zs := zs) hk (by simp) h.noClaim (by simp) hι ?_ ?_
   . obtain ⟨q1, q2⟩ := vn (Gh.bear { g with T := fun b => if b = w.heap.size then none else g.T b } id w.heap.size) hc;exact ⟨c, T, (0, 0), jy w _, .inl rfl, by have := q1; simp at this ⊢; omega, fun i x v hx hv => by
       obtain ⟨r1, _, r3⟩ := q2 i x v hx (by simpa using hv);exact ⟨r1, r3⟩⟩
   . simp only [ky, jQ];rw [flatten_nil];intro d hd;obtain ⟨i, x, y, r1, r2, rfl⟩ := jJ hd;exact ((vn g hc).2 i x y r1 r2).2.1
 refine ⟨h3.push (.ptr _ 0 _ ?_) rfl, fun n hn => ⟨by simp, fun b hb _ => ⟨yB w _ b hb, by simp [Gh.born]; omega, fun _ => rfl⟩, fun _ _ _ h => h, fun j b hj hb => ?_, fun b hb => ?_, rfl, rfl, rfl, rfl, fun _ => rS _⟩⟩
 . simp only [Gh.born]; rw [rK (ja hι)]
 . simp only [Gh.born]; rw [rD (by omega)]; exact hb
 . rcases List.mem_cons.1 hb with rfl | hb
   . exact .inr (rS _)
   . exact .inl hb
theorem jfI {zs : List IVal} {vs : List Value} (h : K2 zs vs = true) : ∀ x ∈ zs, RL 0 x := by
 intro x hx;obtain ⟨i, hi⟩ := ju hx;obtain ⟨h1, h2⟩ := vn (⟨[], fun _ _ => none, fun _ => none, fun _ _ _ _ _ => True, fun _ => 0⟩ : Gh) h;obtain ⟨v, hv⟩ := jH h1 hi;exact (h2 i x v hi hv).1.rl
def va (p : Nat × IOper) : Option (List IVal) := match p.2.op, p.2.guard with
 | .alloc zs, none => some zs
 | _, _ => none
theorem vJ {p : Nat × IOper} {zs : List IVal} (h : va p = some zs) : p = (p.1, ⟨p.2.dst, .alloc zs, none⟩) := by
 obtain ⟨i, d, op, gd⟩ := p;unfold va at h;simp only at h;split at h
 . cases h; rfl
 . cases h
def Ql : Nat -> List (Nat × IOper) -> List (Nat × IOper)
 | _, [] => []
 | b, p :: l => match va p with
   | some _ => (p.1, ⟨p.2.dst, .mv (.c (.ptr b 0)), none⟩) :: Ql (b + 1) l
   | none => p :: l
def kW : Nat -> List (Nat × IOper) -> List (Nat × Nat × List IVal)
 | _, [] => []
 | b, p :: l => match va p with
   | some zs => (p.1, b, zs) :: kW (b + 1) l
   | none => []
def qe (p : Nat × IOper) : Nat × IOper := match p with
 | (i, ⟨d, .mv (.c _), g⟩) => (i, ⟨d, .mv (.c (.bool true)), g⟩)
 | p => p
theorem XT (sl : Nat -> Nat) (p q : Nat × IOper) : K8 sl (qe p).2 (qe q).2 = K8 sl p.2 q.2 := by
 have h : ∀ p : Nat × IOper, j6 (qe p).2.op = j6 p.2.op /\ quiet (qe p).2.op = quiet p.2.op /\ K4 (qe p).2.op = K4 p.2.op /\ (qe p).2.dst = p.2.dst /\ kY (qe p).2 = kY p.2 /\ qD (qe p).2 = qD p.2 := by
   intro p;unfold qe;split
   . exact ⟨rfl, rfl, rfl, rfl, rfl, rfl⟩
   . exact ⟨rfl, rfl, rfl, rfl, rfl, rfl⟩
 obtain ⟨a1, a2, a3, a4, a5, a6⟩ := h p;obtain ⟨b1, b2, b3, b4, b5, b6⟩ := h q;simp only [K8, a1, a2, a3, a4, a5, a6, b1, b2, b3, b4, b5, b6]
theorem Qt (sl : Nat -> Nat) (pairs : List (Nat × Nat)) (p q : Nat × IOper) : qr sl pairs (qe p) (qe q) = qr sl pairs p q /\ qQ (qe p).2.op = qQ p.2.op := by
 have h : ∀ p : Nat × IOper, (qe p).1 = p.1 /\ quiet (qe p).2.op = quiet p.2.op /\ K4 (qe p).2.op = K4 p.2.op /\ vN (qe p).2.op = vN p.2.op /\ qQ (qe p).2.op = qQ p.2.op := by
   intro p;unfold qe;split
   . exact ⟨rfl, rfl, rfl, rfl, rfl⟩
   . exact ⟨rfl, rfl, rfl, rfl, rfl⟩
 obtain ⟨a1, a2, a3, a4, a5⟩ := h p;obtain ⟨b1, b2, b3, b4, b5⟩ := h q;refine ⟨?_, a5⟩;simp only [qr, XT, a1, a2, a3, a4, b1, b2, b3, b4]
theorem Z6 : ∀ (l : List (Nat × IOper)) (b c : Nat), (Ql b l).map qe = (Ql c l).map qe := by
 intro l
 induction l with
 | nil => intro b c; rfl
 | cons p l ih =>
   intro b c;simp only [Ql]
   cases va p with
   | some zs => simp only [rU]; rw [ih (b + 1) (c + 1)]; rfl
   | none => rfl
theorem VI (p : Nat × IOper) : (qe p).1 = p.1 := by unfold qe; split <;> rfl
theorem Qe {r : Nat × IOper -> Nat × IOper -> Prop} (hr : ∀ p q, r (qe p) (qe q) ↔ r p q) {l l' : List (Nat × IOper)} (he : l.map qe = l'.map qe) (h : l.Pairwise r) : l'.Pairwise r := by
 have h1 : (l.map qe).Pairwise r := List.pairwise_map.2 (h.imp fun {p q} hpq => (hr p q).2 hpq);rw [he] at h1;exact (List.pairwise_map.1 h1).imp fun {p q} hpq => (hr p q).1 hpq
theorem jeG : ∀ (l : List (Nat × IOper)) (b : Nat), (Ql b l).map (·.1) = l.map (·.1) /\ (Ql b l).map (·.2.dst) = l.map (·.2.dst) := by
 intro l
 induction l with
 | nil => intro b; exact ⟨rfl, rfl⟩
 | cons p l ih =>
   intro b;simp only [Ql]
   cases va p with
   | some zs =>
     simp only [rU];rw [(ih (b + 1)).1, (ih (b + 1)).2];exact ⟨rfl, rfl⟩
   | none => exact ⟨rfl, rfl⟩
theorem jaE : ∀ (l : List (Nat × IOper)) (b : Nat), zd (Ql b l) = zd l := by
 intro l
 induction l with
 | nil => intro b; rfl
 | cons p l ih =>
   intro b;simp only [Ql]
   cases hh : va p with
   | some zs =>
     have h1 := ih (b + 1);have e := vJ hh;have h2 : qD p.2 = [] := by rw [e]; rfl
     simp only [zd] at h1 ⊢;simp only [rR, h1, h2];rfl
   | none => rfl
theorem ZL : ∀ {l : List (Nat × IOper)} {b : Nat} {p : Nat × IOper}, p ∈ Ql b l -> p ∈ l \/ ∃ d id zs, (p.1, id, zs) ∈ kW b l /\ p = (p.1, ⟨d, .mv (.c (.ptr id 0)), none⟩) /\ (p.1, (⟨d, .alloc zs, none⟩ : IOper)) ∈ l := by
 intro l
 induction l with
 | nil => intro b p hp; cases hp
 | cons q l ih =>
   intro b p hp;simp only [Ql, kW] at hp ⊢
   cases hh : va q with
   | some zs =>
     rw [hh] at hp;simp only at hp ⊢;have e := vJ hh
     rcases List.mem_cons.1 hp with rfl | hp
     . refine .inr ⟨q.2.dst, b, zs, by simp, rfl, ?_⟩;simp only;rw [<- e]; simp
     . rcases ih hp with h | ⟨d', id, zs', h1, h2, h3⟩
       . exact .inl (rN _ h)
       . exact .inr ⟨d', id, zs', rN _ h1, h2, rN _ h3⟩
   | none => rw [hh] at hp; exact .inl hp
theorem zC : ∀ {l : List (Nat × IOper)} {b : Nat} {h : Nat × Nat × List IVal}, h ∈ kW b l -> (∃ d, (h.1, (⟨d, .alloc h.2.2, none⟩ : IOper)) ∈ l) /\ b <= h.2.1 := by
 intro l
 induction l with
 | nil => intro b h hm; cases hm
 | cons q l ih =>
   intro b h hm;simp only [kW] at hm
   cases hh : va q with
   | some zs =>
     rw [hh] at hm;have e := vJ hh
     rcases List.mem_cons.1 hm with rfl | hm
     . refine ⟨⟨q.2.dst, ?_⟩, rS _⟩;simp only;rw [<- e]; simp
     . obtain ⟨⟨d', h1⟩, h2⟩ := ih hm;exact ⟨⟨d', rN _ h1⟩, by omega⟩
   | none => rw [hh] at hm; cases hm
theorem jbq : ∀ {l : List (Nat × IOper)} {b : Nat} {h k : Nat × Nat × List IVal}, h ∈ kW b l -> k ∈ kW b l -> h.2.1 = k.2.1 -> h = k := by
 intro l
 induction l with
 | nil => intro b h k hm; cases hm
 | cons q l ih =>
   intro b h k hm km e;simp only [kW] at hm km
   cases hh : va q with
   | some zs =>
     rw [hh] at hm km
     rcases List.mem_cons.1 hm with rfl | hm
     . rcases List.mem_cons.1 km with rfl | km
       . rfl
       . have := (zC km).2;simp only at e; omega
     . rcases List.mem_cons.1 km with rfl | km
       . have := (zC hm).2;simp only at e; omega
       . exact ih hm km e
   | none => rw [hh] at hm; cases hm
theorem jbp : ∀ (l : List (Nat × IOper)) (b c : Nat), (kW b l).map (·.1) = (kW c l).map (·.1) := by
 intro l
 induction l with
 | nil => intro b c; rfl
 | cons p l ih =>
   intro b c;simp only [kW]
   cases va p with
   | some zs => simp only [rU]; rw [ih (b + 1) (c + 1)]
   | none => rfl
theorem Xg {cf : jD} : ∀ {l : List (Nat × IOper)} {s s' : St} {q : Pan} {ls : List (Nat × DLog)}, runDraw cf l s = some (q, s', ls) ->
   ∃ ls0, runDraw cf (Ql s.σ.length l) { s with σ := s.σ ++ (kW s.σ.length l).map fun h => .cells h.2.2 } = some (q, s', ls0) /\ ∀ x ∈ ls0, x ∈ ls \/ (x.2 = ⟨none, [], 0⟩ /\ ∃ h ∈ kW s.σ.length l, x.1 = h.1) := by
 intro l
 induction l with
 | nil =>
   intro s s' q ls h;refine ⟨ls, ?_, fun x hx => .inl hx⟩;simpa [Ql, kW] using h
 | cons p l ih =>
   intro s s' q ls h;simp only [Ql, kW]
   cases hh : va p with
   | some zs =>
     have e := vJ hh;have hst : stepD cf ⟨p.2.dst, .alloc zs, none⟩ s = some (none, { ts := putT s.ts p.2.dst (.ptr s.σ.length 0), σ := s.σ ++ [.cells zs], wr := s.wr }, ⟨none, [], s.σ.length⟩) := by
       simp [stepD, wantedI, noRs, opdsOf, getAll, stepOp, rdOf, quiet]
     have e2 : p.2 = ⟨p.2.dst, .alloc zs, none⟩ := congrArg Prod.snd e
     rcases runDraw_cons.1 h with ⟨s1, li, ls1, h1, h2, rfl⟩ | ⟨v, li, h1, -, -⟩
     . rw [e2, hst] at h1;cases h1;obtain ⟨ls0, k1, k2⟩ := ih h2;simp only [rI, List.length_singleton] at k1 k2;refine ⟨(p.1, ⟨none, [], 0⟩) :: ls0, ?_, fun x hx => ?_⟩
       . refine runDraw_cons.2 (.inl ⟨_, ⟨none, [], 0⟩, ls0, ?_, k1, rfl⟩);simp [stepD, wantedI, noRs, opdsOf, getAll, Opd.get, stepOp, rv, rdOf, quiet]
       . rcases List.mem_cons.1 hx with rfl | hx
         . exact .inr ⟨rfl, _, rT, rfl⟩
         . rcases k2 x hx with h3 | ⟨h3, hh, h4, h5⟩
           . exact .inl (rN _ h3)
           . exact .inr ⟨h3, hh, rN _ h4, h5⟩
     . rw [e2, hst] at h1; cases h1
   | none => exact ⟨ls, by simpa using h, fun x hx => .inl hx⟩
end Go.Idl
namespace Go.Idl
variable [Globs] [Base]
variable {C0 : XH} {P : Program} {a : Act} {g : Gh} {O : List Nat} {w : World} {s : St} {cf : jD}
def jdi (o : Oper) : List Nat := (o.after.toList.filter (Region.binds .any)).map (·.on)
def kX (ops : Array Oper) (k : Nat) : List Nat := match ops[k]? with
 | some o => jdi o
 | none => []
def jfF : List Oper -> List (List Nat) -> List (List Nat)
 | [], A => A
 | o :: os, A => jfF os (A ++ [(jdi o ++ (jdi o).flatMap fun d => A.getD d []).eraseDups])
def DC (ops : Array Oper) (L : Nat -> Prop) : Prop := ∀ k, L k -> ∀ d ∈ kX ops k, L d
def Anc (ops : Array Oper) (A : List (List Nat)) : Prop := ∀ q as, A[q]? = some as -> ∀ L : Nat -> Prop, DC ops L -> (∀ d ∈ kX ops q, L d) -> ∀ p ∈ as, L p
theorem Vb {l : List Nat} {x : Nat} (h : x ∈ l.eraseDups) : x ∈ l := by
 simpa using h
theorem jc8 {ops : Array Oper} : ∀ {os pre : List Oper} {A : List (List Nat)}, ops.toList = pre ++ os -> A.length = pre.length -> Anc ops A -> Anc ops (jfF os A) := by
 intro os
 induction os with
 | nil => intro pre A _ _ h; exact h
 | cons o os ih =>
   intro pre A ho hl hA;refine ih (pre := pre ++ [o]) (by rw [ho]; simp) (by simp [hl]) ?_;intro q as hq L hL hd p hp
   by_cases hlt : q < A.length
   . rw [zL hlt] at hq;exact hA q as hq L hL hd p hp
   . have hqe : q = A.length := by
       have h1 := ja hq;simp at h1; omega
     subst hqe;simp only [List.getElem?_concat_length, zO] at hq;subst hq;have hat : kX ops A.length = jdi o := by
       have : ops[A.length]? = some o := by rw [<- Array.getElem?_toList, ho, hl]; simp
       simp [kX, this]
     rw [hat] at hd;have hp := Vb hp
     rcases List.mem_append.1 hp with hp | hp
     . exact hd p hp
     . obtain ⟨d, hdm, hpd⟩ := List.mem_flatMap.1 hp;rw [List.getD_eq_getElem?_getD] at hpd
       cases hAd : A[d]? with
       | none => rw [hAd] at hpd; cases hpd
       | some bs =>
         rw [hAd] at hpd;exact hA d bs hAd L hL (fun e he => hL d (hd d hdm) e he) p hpd
def pwB {α : Type} (r : α -> α -> Bool) : List α -> Bool
 | [] => true
 | x :: xs => xs.all (r x) && pwB r xs
theorem Zu {α : Type} {r : α -> α -> Bool} : ∀ {l : List α}, pwB r l = true -> l.Pairwise (fun x y => r x y = true) := by
 intro l
 induction l with
 | nil => intro _; exact .nil
 | cons x xs ih =>
   intro h;simp only [pwB, zA, rG] at h;exact .cons h.1 (ih h.2)
def JH (P : Program) (z : Shape) (ops : Array Oper) (l : List (Nat × IOper)) (pairs : List (Nat × Nat)) : Bool :=
 (Nat.beq l.length ops.size && (List.range ops.size).all fun k => (l.map (·.1)).contains k) && ((l.all fun p => match ops[p.1]? with
   | some o => zQ P ops o p.2 && (jdi o).all (fun d => decide (d < ops.size) && !(Nat.beq d p.1))
   | none => false) && ((pwB (fun p q => !(Nat.beq p.1 q.1) && !((kX ops p.1).contains q.1)) l && (yW z.n (l.map (·.2)) && l.all fun p => j6 p.2.op)) &&
     (pwB (fun p q => ((jfF ops.toList []).getD q.1 []).contains p.1 || (!(qQ p.2.op) && qr z.slot pairs p q)) (Ql 0 l) && (kW 0 l).all fun h => pairs.all fun p => !(Nat.beq p.2 h.1))))
theorem Xx {ρ : Option Nat} {n i : Nat} {z : Shape} {ops : Array Oper} {Q : Exit -> Act -> World -> Prop} {K : Act -> World -> Prop} (hcf : CallOK P C0 cf) {o : Oper} {io : IOper} {s1 : St} {q : Option IVal} {l : DLog} (ho : ops[i]? = some o) (hok : zQ P ops o io = true)
   (hds : ∀ d, io.dst = some d -> d < z.n) (hrun : stepD cf io s = some (q, s1, l)) (hst : Stand C0 z g O s a w)
   (hK : q = none -> ∀ g' O' a' w', Goes g O s w g' O' s1 w' -> Stand C0 z g' O' s1 a' w' -> K a' w')
   (hP : ∀ v, q = some v -> ∀ g' O' w' v', Goes g O s w g' O' s1 w' -> R g' O' ((v, v') :: s1.ts.roots a.tmps) s1.σ w' -> DefsR g' s1.ts.ds a.defers -> WT s1.ts a.tmps -> Q (.panic [{ v := v', recovered := false }]) a w') : wpOpIn (WF ρ) n P ops Q i K a w := by
 obtain ⟨iod, iop, iog⟩ := io;simp only [zQ, zA] at hok;obtain ⟨⟨hop, hdst⟩, hgd⟩ := hok;have hdst := eq_of_beq hdst;subst hdst;simp only [wpOpIn, ho];simp only [stepD] at hrun;split at hrun
 . rename_i hwi;rw [if_pos (yQ (o := o) (io := ⟨o.dst, iop, iog⟩) hgd hst hwi)];split at hrun
   . split at hrun
     . split at hrun
       . rename_i v s' hstep;simp only [zO, zP] at hrun;obtain ⟨rfl, rfl, rfl⟩ := hrun;refine Zr hcf hst.code hop (s := { s with wr := [] }) hstep hst.len hst.rel ρ n _ Q (fun _ v' w' hp => ?_) (fun h => by cases h);obtain ⟨g1, O1, wn, hg, hR, hl, hwr, hk⟩ := hp;have hsh := SameSh.step hstep;have hst1 := vx (N := z) (d := o.dst) (s := s') hR hl (by rw [hsh.2.2]; exact hst.defs.mono hg.pre) hst.size ⟨hsh.1.trans hst.sh.1, hsh.2.1.trans hst.sh.2⟩ (hg.code.trans hst.code) hds;simp only [rP] at hwr;exact hK rfl g1 O1 _ w' ⟨hg, ⟨s'.wr, rfl, by rw [hwr]; exact hk⟩⟩ ⟨hst1.rel, hst1.len, hst1.defs, hst1.size, hst1.sh, hst1.code⟩
       . rename_i v s' hstep;simp only [zO, zP] at hrun;obtain ⟨rfl, rfl, rfl⟩ := hrun;refine Zr hcf hst.code hop (s := { s with wr := [] }) hstep hst.len hst.rel ρ n _ Q (fun h => by cases h) (fun _ v' w' hp => ?_);obtain ⟨g1, O1, wn, hg, hR, hl, hwr, hk⟩ := hp;have hsh := SameSh.step hstep;simp only [rP] at hwr;exact hP v rfl g1 O1 w' v' ⟨hg, ⟨s'.wr, rfl, by rw [hwr]; exact hk⟩⟩ hR (by rw [hsh.2.2]; exact hst.defs.mono hg.pre) hl
       . cases hrun
     . cases hrun
   . cases hrun
 . rename_i hwi;rw [if_neg (by rw [yQ (o := o) (io := ⟨o.dst, iop, iog⟩) hgd hst hwi]; simp)];simp only [zO, zP] at hrun;obtain ⟨rfl, rfl, rfl⟩ := hrun;have hR : R g O ((undefI, undef) :: s.ts.roots a.tmps) s.σ w := hst.rel.push (j5 g) rfl;have hst1 := vx (N := z) (d := o.dst) (s := s) hR hst.len hst.defs hst.size hst.sh hst.code hds;exact ⟨fun _ _ => trivial, hK rfl g O _ w ⟨.refl O g w, ⟨[], rfl, .refl _⟩⟩ hst1⟩
 . cases hrun
structure GoesB (n : Nat) (g : Gh) (O : List Nat) (s : St) (w : World) (g' : Gh) (O' : List Nat) (s' : St) (w' : World) : Prop where
 grow : GrowB n O g w O' g' w'
 keep : ∃ wn, s'.wr = wn ++ s.wr /\ Keep s.σ s'.σ wn
theorem GoesB.of {n : Nat} {g' : Gh} {O' : List Nat} {s' : St} {w' : World} (h : Goes g O s w g' O' s' w') : GoesB n g O s w g' O' s' w' := ⟨.of h.grow, h.keep⟩
theorem GoesB.trans {n : Nat} {g1 g2 g3 : Gh} {O1 O2 O3 : List Nat} {s1 s2 s3 : St} {w1 w2 w3 : World} (h : GoesB n g1 O1 s1 w1 g2 O2 s2 w2) (k : GoesB n g2 O2 s2 w2 g3 O3 s3 w3) : GoesB n g1 O1 s1 w1 g3 O3 s3 w3 := by
 obtain ⟨wn, h1, h2⟩ := h.keep;obtain ⟨wn', k1, k2⟩ := k.keep;exact ⟨h.grow.trans k.grow, ⟨wn' ++ wn, by rw [k1, h1, zS], h2.trans k2⟩⟩
def jaX (P : Program) (o : Oper) (d : Option Nat) (zs : List IVal) : Prop :=
 o.dst = d /\ o.guard = none /\ ∃ T i z, o.op = .alloc T /\ P.info? T = some i /\ i.zero = some z /\ K2 zs z.cells.toList = true
theorem VB {ops : Array Oper} {o : Oper} {d : Option Nat} {zs : List IVal} (h : zQ P ops o ⟨d, .alloc zs, none⟩ = true) : jaX P o d zs := by
 simp only [zQ, zA] at h;obtain ⟨⟨hop, hdst⟩, hgd⟩ := h;have hg : o.guard = none := by
   unfold QY at hgd;split at hgd
   . assumption
   . rename_i h1 h2; cases h2
   . cases hgd
 refine ⟨eq_of_beq hdst, hg, ?_⟩
 cases ho : o.op with
 | alloc T =>
   rw [ho] at hop;simp only [jiT] at hop;split at hop
   . rename_i i z hz;obtain ⟨z1, z2⟩ := ko hz;exact ⟨T, i, z, rfl, z1, z2, hop⟩
   . cases hop
 | _ => rw [ho] at hop; simp only [jiT] at hop; cases hop
theorem jc9 {ρ : Option Nat} {n i k b : Nat} {z : Shape} {ops : Array Oper} {Q : Exit -> Act -> World -> Prop} {K : Act -> World -> Prop} {o : Oper} {d : Option Nat} {zs : List IVal} {s1 : St} {q : Option IVal} {l : DLog} (ho : ops[i]? = some o) (hh : jaX P o d zs)
   (hds : ∀ k, d = some k -> k < z.n) (hrun : stepD cf ⟨d, .mv (.c (.ptr k 0)), none⟩ s = some (q, s1, l)) (hst : Stand C0 z g O s a w) (hι : g.ι[k]? = some (.un zs)) (hb : b <= k)
   (hK : ∀ O' a' w', GoesB b g O s w (g.born k w.heap.size) O' s1 w' -> Stand C0 z (g.born k w.heap.size) O' s1 a' w' -> K a' w') : q = none /\ wpOpIn (WF ρ) n P ops Q i K a w := by
 obtain ⟨hdst, hgd, T, ti, zv, hop, hi, hz, hc⟩ := hh;subst hdst;simp [stepD, wantedI, noRs, opdsOf, getAll, Opd.get, stepOp, rv, rdOf, quiet] at hrun;obtain ⟨rfl, rfl, -⟩ := hrun;refine ⟨rfl, ?_⟩;simp only [wpOpIn, ho];rw [if_pos (by simp [Region.wanted, hgd])];refine ⟨fun _ _ => trivial, ?_⟩;have hr : (execOp a.eval o).run P w = .ok (.value (.pointer (some ⟨w.heap.size, 0, none⟩))) (w.alloc (.cells zv.cells T)) := by
   simp [execOp, hop, Instr.alloc, zeroValue, typeInfo, hi, hz, vz]
 rw [Oper.semAt_eq _ _ _ (fun c h => by rw [hop] at h; cases h), hr];obtain ⟨hR, hG⟩ := hst.rel.born hι hc (T := T);have hpre : ∀ (id b' : Nat), g.ι[id]? = some (Blk.bk b') -> (g.born k w.heap.size).ι[id]? = some (Blk.bk b') := fun id b' h => VC hι id b' h;have hst1 := vx (N := z) (d := o.dst) (s := s) (a := a) hR hst.len (hst.defs.mono hpre) hst.size hst.sh hst.code hds;exact hK _ _ _ ⟨hG b hb, ⟨[], rfl, .refl _⟩⟩ hst1
structure Reg (P : Program) (z : Shape) (ops : Array Oper) (hs : List (Nat × Nat × List IVal)) (l : List (Nat × IOper)) (pairs : List (Nat × Nat)) : Prop where
 len : l.length = ops.size
 cov : ∀ k, k < ops.size -> k ∈ l.map (·.1)
 ok : ∀ p ∈ l, ∃ o, ops[p.1]? = some o /\ (zQ P ops o p.2 = true \/ ∃ d id zs, (p.1, id, zs) ∈ hs /\ p.2 = ⟨d, .mv (.c (.ptr id 0)), none⟩ /\ jaX P o d zs) /\ ∀ d ∈ jdi o, d < ops.size /\ d ≠ p.1
 ord : l.Pairwise fun p q => p.1 ≠ q.1 /\ q.1 ∉ kX ops p.1
 free : l.Pairwise fun p q => (∀ L : Nat -> Prop, DC ops L -> (∀ d ∈ kX ops q.1, L d) -> L p.1) \/ (qr z.slot pairs p q = true /\ qQ p.2.op = false)
theorem ji1 {n : Shape} {ops : Array Oper} {l : List (Nat × IOper)} {pairs : List (Nat × Nat)} (h : JH P n ops l pairs = true) (b : Nat) : Reg P n ops (kW b l) (Ql b l) pairs /\ yW n.n ((Ql b l).map (·.2)) = true /\ (∀ p ∈ Ql b l, j6 p.2.op = true) /\ (∀ h ∈ kW b l, ∀ p ∈ pairs, p.2 ≠ h.1) /\ ∀ h ∈ kW b l, ∀ x ∈ h.2.2, RL 0 x := by
 simp only [JH, zA] at h;obtain ⟨⟨h0, h1⟩, h2, ⟨h5, h3, h7⟩, h4, h8⟩ := h;have hok : ∀ p ∈ l, ∃ o, ops[p.1]? = some o /\ zQ P ops o p.2 = true /\ ∀ d ∈ jdi o, d < ops.size /\ d ≠ p.1 := by
   intro p hp;have := List.all_eq_true.1 h2 p hp;split at this
   . rename_i o ho;simp only [zA, rG, decide_eq_true_eq] at this;refine ⟨o, ho, this.1, fun d hd => ⟨(this.2 d hd).1, fun e => ?_⟩⟩;have h6 := (this.2 d hd).2;subst e;simp at h6
   . cases this
 obtain ⟨v1, v2⟩ := jeG l b;have vlen : (Ql b l).length = l.length := by have := congrArg List.length v1; simpa using this
 refine ⟨⟨by rw [vlen]; exact zN h0, fun k hk => ?_, fun p hp => ?_, ?_, ?_⟩, ?_, fun p hp => ?_, fun hd hm p hp e => ?_, fun hd hm x hx => ?_⟩
 . rw [v1];have := List.all_eq_true.1 h1 k (List.mem_range.2 hk);simpa using this
 . rcases ZL hp with hp | ⟨d, id, zs, q1, q2, q3⟩
   . obtain ⟨o, k1, k2, k3⟩ := hok p hp;exact ⟨o, k1, .inl k2, k3⟩
   . obtain ⟨o, k1, k2, k3⟩ := hok _ q3;exact ⟨o, k1, .inr ⟨d, id, zs, q1, congrArg Prod.snd q2, VB k2⟩, k3⟩
 . have h6 : l.Pairwise fun p q => p.1 ≠ q.1 /\ q.1 ∉ kX ops p.1 := (Zu h5).imp fun {p q} hpq => by
     simp only [zA] at hpq;refine ⟨fun e => ?_, fun hm => ?_⟩
     . have h6 := hpq.1;rw [e] at h6;simp at h6
     . have h6 := hpq.2;rw [List.contains_iff_mem.2 hm] at h6;cases h6
   have h9 : (l.map (·.1)).Pairwise fun i j => i ≠ j /\ j ∉ kX ops i := List.pairwise_map.2 h6;rw [<- v1] at h9;exact List.pairwise_map.1 h9
 . refine Qe (fun p q => ?_) (Z6 l 0 b) ((Zu h4).imp fun {p q} hpq => ?_)
   . rw [VI, VI, (Qt _ _ p q).1, (Qt n.slot pairs p q).2]
   . simp only [Bool.or_eq_true] at hpq
     rcases hpq with hpq | hpq
     . left
       intro L hL hd;have hA : Anc ops (jfF ops.toList []) := jc8 (pre := []) (by simp) rfl (fun q as hq => by simp at hq)
       cases hAq : (jfF ops.toList [])[q.1]? with
       | none => simp [List.getD_eq_getElem?_getD, hAq] at hpq
       | some as =>
         simp only [List.getD_eq_getElem?_getD, hAq, Option.getD_some, List.contains_iff_mem] at hpq;exact hA q.1 as hAq L hL hd p.1 hpq
     . rw [zA] at hpq;exact .inr ⟨hpq.2, by simpa using hpq.1⟩
 . simp only [yW, rG] at h3 ⊢;intro io hio;obtain ⟨p, hp, rfl⟩ := List.mem_map.1 hio;have h6 : p.2.dst ∈ l.map (·.2.dst) := by rw [<- v2]; exact List.mem_map_of_mem hp
   obtain ⟨p', hp', e⟩ := List.mem_map.1 h6;rw [<- e];exact h3 p'.2 (List.mem_map_of_mem hp')
 . rcases ZL hp with hp | ⟨d, id, zs, q1, q2, q3⟩
   . exact List.all_eq_true.1 h7 p hp
   . rw [q2]; rfl
 . have h9 : hd.1 ∈ (kW 0 l).map (·.1) := by rw [jbp l 0 b]; exact List.mem_map_of_mem hm
   obtain ⟨h', h10, h11⟩ := List.mem_map.1 h9;have h12 := List.all_eq_true.1 (List.all_eq_true.1 h8 h' h10) p hp;rw [h11, e] at h12;simp at h12
 . obtain ⟨⟨d, q1⟩, _⟩ := zC hm;obtain ⟨o, _, k2, _⟩ := hok _ q1;obtain ⟨_, _, T, i, z, _, _, _, hc⟩ := VB k2;exact jfI hc x hx
theorem jfH {ρ : Option Nat} {n : Nat} {z : Shape} {ops : Array Oper} {l : List (Nat × IOper)} {hs : List (Nat × Nat × List IVal)} {b : Nat} {pairs : List (Nat × Nat)} {Q : Exit -> Act -> World -> Prop} (hcf : CallOK P C0 cf) (hcs : yh cf) (hreg : Reg P z ops hs l pairs) (hdr : ∀ p ∈ l, j6 p.2.op = true)
   (hsb : ∀ h ∈ hs, b <= h.2.1) (hsi : ∀ h ∈ hs, ∀ k ∈ hs, h.2.1 = k.2.1 -> h = k) :
   ∀ (fuel : Nat) (rem : List (Nat × IOper)) (listed : Array Bool) (g : Gh) (O : List Nat) (s s' : St) (q : Pan) (ls : List (Nat × DLog)) (a : Act) (w : World),
     rem.Sublist l -> listed.size = ops.size -> (∀ k, k < ops.size -> (listed.getD k true = false ↔ k ∈ rem.map (·.1))) -> DC ops (fun k => listed.getD k false = true) -> rem.length <= fuel ->
     yW z.n (l.map (·.2)) = true -> runDraw cf rem s = some (q, s', ls) -> Qm pairs ls -> Stand C0 z g O s a w -> (∀ h ∈ hs, h.1 ∈ rem.map (·.1) -> g.ι[h.2.1]? = some (.un h.2.2)) ->
     (q = none -> ∀ g' O' t' a' w', t'.ts = s'.ts -> t'.σ = s'.σ -> (∃ wn, t'.wr = wn ++ s.wr /\ ∀ p ∈ wn, ∃ x ∈ ls, p ∈ x.2.wr) -> GoesB b g O s w g' O' t' w' -> Stand C0 z g' O' t' a' w' -> Q .normal a' w') ->
     (∀ v lw, q = some (v, lw) -> ∀ g' O' t' a' w' v', t'.ts.clrs (zd l) = s.ts.clrs (zd l) -> t'.σ = s'.σ -> (∃ wn, t'.wr = wn ++ s.wr /\ ∀ p ∈ wn, p ∈ lw \/ ∃ x ∈ ls, p ∈ x.2.wr) -> GoesB b g O s w g' O' t' w' ->
       R g' O' ((v, v') :: t'.ts.roots a'.tmps) t'.σ w' -> DefsR g' t'.ts.ds a'.defers -> WT t'.ts a'.tmps -> Q (.panic [{ v := v', recovered := false }]) a' w') ->
     wpAnyIn (WF ρ) n P .any ops Q fuel listed a w := by
 have hlt : ∀ p ∈ l, p.1 < ops.size := fun p hp => by
   obtain ⟨o, ho, -⟩ := hreg.ok p hp;exact (Array.getElem?_eq_some_iff.1 ho).1
 have hunl : ∀ {rem : List (Nat × IOper)} {listed : Array Bool} {k : Nat}, listed.size = ops.size -> (∀ k, k < ops.size -> (listed.getD k true = false ↔ k ∈ rem.map (·.1))) -> k ∈ Region.ready .any ops listed -> k ∈ rem.map (·.1) := by
   intro rem listed k hsz hlist hk;obtain ⟨h1, o, h2, -⟩ := mem_ready.1 hk;exact (hlist k (Array.getElem?_eq_some_iff.1 h2).1).1 h1
 have hnil : ∀ {listed : Array Bool} {fuel : Nat} {a : Act} {w : World}, listed.size = ops.size -> (∀ k, k < ops.size -> (listed.getD k true = false ↔ k ∈ ([] : List (Nat × IOper)).map (·.1))) -> Q .normal a w -> wpAnyIn (WF ρ) n P .any ops Q fuel listed a w := by
   intro listed fuel a w hsz hlist hq;refine wpAnyIn_done ?_ hq fuel;exact List.eq_nil_iff_forall_not_mem.2 fun k hk => by have := hunl hsz hlist hk; cases this
 intro fuel
 induction fuel with
 | zero =>
   intro rem listed g O s s' q ls a w hsub hsz hlist hdc hlen hds hrun hP hst _ hQ _;have : rem = [] := List.eq_nil_of_length_eq_zero (by omega);subst this;simp [runDraw] at hrun;obtain ⟨rfl, rfl, rfl⟩ := hrun;exact hnil hsz hlist (hQ rfl g O s a w rfl rfl ⟨[], rfl, fun p hp => by cases hp⟩ (.of (.refl _ _ _ _)) hst)
 | succ fuel ih =>
   intro rem listed g O s s' q ls a w hsub hsz hlist hdc hlen hds hrun hP hst hpn hQ hQP
   cases rem with
   | nil =>
     simp [runDraw] at hrun;obtain ⟨rfl, rfl, rfl⟩ := hrun;exact hnil hsz hlist (hQ rfl g O s a w rfl rfl ⟨[], rfl, fun p hp => by cases hp⟩ (.of (.refl _ _ _ _)) hst)
   | cons hd tl =>
     generalize hrem : hd :: tl = rem at *;have hord : rem.Pairwise fun p q => p.1 ≠ q.1 /\ q.1 ∉ kX ops p.1 := List.Pairwise.sublist hsub hreg.ord;have hnd : (rem.map (·.1)).Nodup := List.pairwise_map.2 (hord.imp fun h => h.1);refine ⟨fun hr => ?_, fun i hi => ?_⟩
     . -- the first one is ready
       exfalso
       have hmem : hd ∈ rem := by rw [<- hrem]; simp
       have hml := hsub.subset hmem;obtain ⟨o, ho, -, hdeps⟩ := hreg.ok hd hml;have hready : hd.1 ∈ Region.ready .any ops listed := by
         rw [mem_ready];refine ⟨(hlist hd.1 (hlt hd hml)).2 (List.mem_map_of_mem hmem), o, ho, fun e he hb => ?_⟩;have hde : e.on ∈ jdi o := List.mem_map.2 ⟨e, List.mem_filter.2 ⟨by simpa using he, hb⟩, rfl⟩;have h1 := hdeps _ hde;have h2 : e.on < ops.size := h1.1;have h3 : e.on ∉ rem.map (·.1) := by
           intro hm;rw [<- hrem] at hm hord;simp only [rU, List.mem_cons] at hm
           rcases hm with hm | hm
           . exact h1.2 hm
           . obtain ⟨q, hq, e1⟩ := List.mem_map.1 hm;have h6 := ((List.pairwise_cons.1 hord).1 q hq).2;rw [e1] at h6;simp only [kX, ho] at h6;exact h6 hde
         have h4 : ¬ (listed.getD e.on true = false) := fun h => h3 ((hlist _ h2).1 h);have h5 : e.on < listed.size := by omega
         simp [h5] at h4 ⊢;exact h4
       rw [hr] at hready;cases hready
     . have him := hunl hsz hlist hi;obtain ⟨⟨i0, io⟩, hio, hie⟩ := List.mem_map.1 him;simp only at hie;subst hie;obtain ⟨pre, post, hsplit⟩ := List.append_of_mem hio;obtain ⟨-, o', ho', hafter⟩ := mem_ready.1 hi;obtain ⟨o, ho, hok, hdeps⟩ := hreg.ok _ (hsub.subset hio);simp only at ho;have : o' = o := by rw [ho] at ho'; exact (tB ho').symm
       subst this;have hL : ∀ d ∈ kX ops i0, listed.getD d false = true := by
         intro d hd0;simp only [kX, ho, jdi, tW, List.mem_filter] at hd0;obtain ⟨e, ⟨he, hb⟩, rfl⟩ := hd0;exact hafter e (by simpa using he) hb
       have hfree : ∀ p ∈ pre, qr s.ts.slot pairs p (i0, io) = true /\ qQ p.2.op = false := by
         intro p hp;have hsl : s.ts.slot = z.slot := funext fun k => by simp only [Ts.slot, Shape.slot, hst.sh.1, hst.sh.2]
         rw [hsl];have hpw : rem.Pairwise _ := List.Pairwise.sublist hsub hreg.free;rw [hsplit, List.pairwise_append] at hpw
         rcases hpw.2.2 p hp (i0, io) (by simp) with h1 | h1
         . have h2 := h1 (fun k => listed.getD k false = true) hdc hL;have hpm : p.1 ∈ rem.map (·.1) := by rw [hsplit]; simp; exact .inl ⟨_, hp⟩
           have hpl : p ∈ l := hsub.subset (by rw [hsplit]; simp [hp]);have h3 := (hlist p.1 (hlt p hpl)).2 hpm;have h4 : p.1 < listed.size := by rw [hsz]; exact hlt p hpl
           simp [h4] at h2 h3;rw [h2] at h3; cases h3
         . exact h1
       rw [hsplit] at hrun;obtain ⟨s'', ls', hrun', e1, e2, hperm⟩ := Vj hcs hfree hP hrun;have hio_l := hsub.subset hio;have hds0 : ∀ d, io.dst = some d -> d < z.n := by
         intro d hd0;have := List.all_eq_true.1 hds io (List.mem_map.2 ⟨_, hio_l, rfl⟩);rw [hd0] at this;simpa using this
       have hilt : i0 < listed.size := by rw [hsz]; exact hlt _ hio_l
       rw [hsplit] at hnd;simp only [List.map_append, rU] at hnd;have hni : i0 ∉ (pre ++ post).map (·.1) := by
         have := (XC (a := i0) (l₁ := pre.map (·.1)) (l₂ := post.map (·.1))).nodup_iff.1 hnd;simpa using (List.nodup_cons.1 this).1
       have hsubi : ∀ k, k ∈ (pre ++ post).map (·.1) -> k ∈ rem.map (·.1) := by
         intro k hk;rw [hsplit];simp only [List.map_append, rU, List.mem_append, List.mem_cons] at hk ⊢
         rcases hk with h | h
         . exact .inl h
         . exact .inr (.inr h)
       -- behind one that ended
       have next : ∀ {s1 : St} {li : DLog} {ls1 : List (Nat × DLog)}, stepD cf io s = some (none, s1, li) -> runDraw cf (pre ++ post) s1 = some (q, s'', ls1) -> ls' = (i0, li) :: ls1 ->
           ∀ g1 O1 a1 w1, GoesB b g O s w g1 O1 s1 w1 -> Stand C0 z g1 O1 s1 a1 w1 -> (∀ h ∈ hs, h.1 ∈ (pre ++ post).map (·.1) -> g1.ι[h.2.1]? = some (.un h.2.2)) ->
           wpAnyIn (WF ρ) n P .any ops Q fuel (listed.setIfInBounds i0 true) a1 w1 := by
         intro s1 li ls1 hstep hrest hls g1 O1 a1 w1 hgo hst1 hpn1;subst hls;refine ih (pre ++ post) _ g1 O1 s1 s'' q ls1 a1 w1 ?_ (by simp [hsz]) ?_ ?_ ?_ ?_ hrest ?_ hst1 hpn1 ?_ ?_
         . refine List.Sublist.trans ?_ hsub;rw [hsplit]; exact List.Sublist.append_left (List.sublist_cons_self _ _) _
         . intro k hk
           by_cases hki : i0 = k
           . subst hki;simp only [hni, iff_false];simp [hilt]
           . rw [getD_set_ne true hki, hlist k hk, hsplit];simp only [List.map_append, rU, List.mem_append, List.mem_cons]
             constructor
             . rintro (h | h | h)
               . exact .inl h
               . exact absurd h.symm hki
               . exact .inr h
             . rintro (h | h)
               . exact .inl h
               . exact .inr (.inr h)
         . intro k hk d hd0
           by_cases hki : i0 = k
           . subst hki; exact getD_set_true (hL d hd0)
           . simp only [getD_set_ne false hki] at hk;exact getD_set_true (hdc k hk d hd0)
         . have : rem.length = (pre ++ post).length + 1 := by rw [hsplit]; simp; omega
           omega
         . exact hds
         . intro x hx y hy;exact hP x (hperm x (by simp [hx])) y (hperm y (by simp [hy]))
         . intro hq g' O' t' a' w' q1 q2 ⟨wn, q3, q4⟩ q5 q6;refine hQ hq g' O' t' a' w' (q1.trans (e1 hq)) (q2.trans e2) ⟨wn ++ li.wr, ?_, fun p hp => ?_⟩ (hgo.trans q5) q6
           . rw [q3, (kV hcs hstep).1, zS]
           . rcases List.mem_append.1 hp with hp | hp
             . obtain ⟨x, hx, hpx⟩ := q4 p hp;exact ⟨x, hperm x (by simp [hx]), hpx⟩
             . exact ⟨(i0, li), hperm _ (by simp), hp⟩
         . intro v lw hq g' O' t' a' w' v' q1 q2 ⟨wn, q3, q4⟩ q5 q6 q7 q8;refine hQP v lw hq g' O' t' a' w' v' (q1.trans (Jd (hdr _ hio_l) (Jf hio_l) hstep)) (q2.trans e2) ⟨wn ++ li.wr, ?_, fun p hp => ?_⟩ (hgo.trans q5) q6 q7 q8
           . rw [q3, (kV hcs hstep).1, zS]
           . rcases List.mem_append.1 hp with hp | hp
             . rcases q4 p hp with hp | ⟨x, hx, hpx⟩
               . exact .inl hp
               . exact .inr ⟨x, hperm x (by simp [hx]), hpx⟩
             . exact .inr ⟨(i0, li), hperm _ (by simp), hp⟩
       rcases hok with hok | ⟨d, id, zs, hh1, hh2, hh3⟩
       . rcases runDraw_cons.1 hrun' with ⟨s1, li, ls1, hstep, hrest, hls⟩ | ⟨v, li, hstep, rfl, rfl⟩
         . refine Xx hcf ho hok hds0 hstep hst (fun _ g1 O1 a1 w1 hgo hst1 => ?_) (fun v h => by cases h);exact next hstep hrest hls g1 O1 a1 w1 (.of hgo) hst1 (fun h hm hk => hgo.grow.preo _ _ (hpn h hm (hsubi _ hk)))
         . refine Xx hcf ho hok hds0 hstep hst (fun h => by cases h) (fun v0 h g1 O1 w1 v' hgo hR hD hW => ?_);cases h;exact hQP v li.wr rfl g1 O1 s'' a w1 v' (Jd (hdr _ hio_l) (Jf hio_l) hstep) e2 ⟨li.wr, (kV hcs hstep).1, fun p hp => .inl hp⟩ (.of hgo) hR hD hW
       . simp only at hh1 hh2;subst hh2;have hι := hpn _ hh1 (by rw [hsplit]; simp)
         rcases runDraw_cons.1 hrun' with ⟨s1, li, ls1, hstep, hrest, hls⟩ | ⟨v, li, hstep, _, _⟩
         . refine (jc9 (K := wpAnyIn (WF ρ) n P .any ops Q fuel (listed.setIfInBounds i0 true)) ho hh3 hds0 hstep hst hι (hsb _ hh1) fun O1 a1 w1 hgo hst1 => ?_).2;refine next hstep hrest hls _ O1 a1 w1 hgo hst1 (fun h hm hk => ?_);refine YZ hι _ _ (fun e => ?_) (hpn h hm (hsubi _ hk));have := hsi h hm _ hh1 e;subst this;exact hni hk
         . exfalso
           have := KU hstep;cases this
theorem Yy (hcs : yh cf) : ∀ {l : List (Nat × IOper)} {s s' : St} {q : Pan} {ls : List (Nat × DLog)}, runDraw cf l s = some (q, s', ls) -> ∃ wn, s'.wr = wn ++ s.wr /\ (∀ x ∈ ls, ∀ p ∈ x.2.wr, p ∈ wn) /\ ∀ v lw, q = some (v, lw) -> ∀ p ∈ lw, p ∈ wn := by
 intro l
 induction l with
 | nil => intro s s' q ls h; simp [runDraw] at h; obtain ⟨rfl, rfl, rfl⟩ := h; exact ⟨[], rfl, fun x hx => (by cases hx), fun v lw h => (by cases h)⟩
 | cons o os ih =>
   intro s s' q ls h
   rcases runDraw_cons.1 h with ⟨s1, li, ls1, h1, h2, rfl⟩ | ⟨v, li, h1, rfl, rfl⟩
   . obtain ⟨wn, h3, h4, h5⟩ := ih h2;refine ⟨wn ++ li.wr, by rw [h3, (kV hcs h1).1, zS], fun x hx p hp => ?_, fun v lw hq p hp => tC _ (h5 v lw hq p hp)⟩
     rcases List.mem_cons.1 hx with rfl | hx
     . exact rZ _ hp
     . exact tC _ (h4 x hx p hp)
   . refine ⟨li.wr, (kV hcs h1).1, fun x hx => (by cases hx), fun v' lw h p hp => ?_⟩;cases h; exact hp
theorem Yx : ∀ {l l0 : List (Nat × IOper)} {s s' : St} {q : Pan} {ls : List (Nat × DLog)}, (∀ p ∈ l, p ∈ l0) -> (∀ p ∈ l0, j6 p.2.op = true) -> runDraw cf l s = some (q, s', ls) -> s'.ts.clrs (zd l0) = s.ts.clrs (zd l0) := by
 intro l
 induction l with
 | nil => intro l0 s s' q ls _ _ h; simp [runDraw] at h; obtain ⟨rfl, rfl, rfl⟩ := h; rfl
 | cons o os ih =>
   intro l0 s s' q ls hl hd h;have ho := hl o (by simp)
   rcases runDraw_cons.1 h with ⟨s1, li, ls1, h1, h2, rfl⟩ | ⟨v, li, h1, rfl, rfl⟩
   . exact (ih (fun p hp => hl p (by simp [hp])) hd h2).trans (Jd (hd o ho) (Jf ho) h1)
   . exact Jd (hd o ho) (Jf ho) h1
theorem jfM (X : List Nat) : ∀ (ts : Ts), (ts.clrs X).ds = ts.ds := by
 induction X with
 | nil => intro ts; rfl
 | cons x X ih => intro ts; exact ih (ts.clr x)
theorem WT.clrs {tmps : Array Value} (X : List Nat) : ∀ {ts : Ts}, WT ts tmps -> WT (ts.clrs X) tmps := by
 induction X with
 | nil => intro ts h; exact h
 | cons x X ih =>
   intro ts h;refine ih (ts := ts.clr x) ?_;intro k p hp
   by_cases hk : ts.slot x = k
   . subst hk;simp only [Ts.clr, Tm.get_set] at hp;cases hb : ts.t.has (ts.slot x) <;> rw [hb] at hp <;> cases hp
   . simp only [Ts.clr] at hp;rw [Tm.get_ne _ _ _ _ hk] at hp;exact h k p hp
theorem R.clrs {tmps : Array Value} {p : IVal × Value} {σ : List IObj} (X : List Nat) : ∀ {ts : Ts}, R g O (p :: ts.roots tmps) σ w -> R g O (p :: (ts.clrs X).roots tmps) σ w := by
 induction X with
 | nil => intro ts h; exact h
 | cons x X ih =>
   intro ts h;refine ih (ts := ts.clr x) ?_;have h1 := (Tm.list_get ts.t (ts.slot x)).map fun p => (p.2, tmps.getD p.1 undef);simp only [List.map_append] at h1;have h2 : R g O (((ts.t.get (ts.slot x)).toList.map fun p => (p.2, tmps.getD p.1 undef)) ++ (p :: (ts.clr x).roots tmps)) σ w := by
     refine h.perm ((h1.cons p).trans ?_);exact (XC (a := p)).symm
   exact R.drops h2
theorem R.drawn {l : jG} {σ : List IObj} (h : R g O l σ w) (k : Nat) : R g O l σ { w with drawn := k } :=
 ⟨h.len, h.vals, h.objo, h.nodup, h.sub, h.lt, h.claim, h.apart, h.spare, h.glob, h.zs⟩
theorem Grow.drawn {g' : Gh} {O' : List Nat} {w' : World} {k : Nat} (h : Grow O g { w with drawn := k } O' g' w') : Grow O g w O' g' w' :=
 ⟨h.size, h.same, h.mono, h.preo, h.fresh, h.code, h.os, h.tape, h.output, h.zm⟩
def Gh.addUns (g : Gh) : List (List IVal) -> Gh
 | [] => g
 | zs :: zss => (g.addUn zs).addUns zss
theorem ZT {n : Nat} : ∀ {zss : List (List IVal)} {g : Gh} {s : St} {a : Act} {z : Shape}, (∀ zs ∈ zss, ∀ x ∈ zs, RL 0 x) -> Stand C0 z g O s a w ->
   Stand C0 z (g.addUns zss) O { s with σ := s.σ ++ zss.map .cells } a w /\ GoesB n g O s w (g.addUns zss) O { s with σ := s.σ ++ zss.map .cells } w /\ ∀ (j : Nat) zs, zss[j]? = some zs -> (g.addUns zss).ι[s.σ.length + j]? = some (.un zs) := by
 intro zss
 induction zss with
 | nil =>
   intro g s a z _ hst;refine ⟨by simpa [Gh.addUns] using hst, ?_, fun j zs h => by simp at h⟩;have := GoesB.of (n := n) (Goes.refl g O s w);simpa [Gh.addUns] using this
 | cons zs zss ih =>
   intro g s a z hz hst;have hR := hst.rel.pushUn (hz zs (by simp));have hpre : ∀ (id b : Nat), g.ι[id]? = some (Blk.bk b) -> (g.addUn zs).ι[id]? = some (Blk.bk b) := fun id b hb => by
     simp only [Gh.addUn]; rw [zL (ja hb)]; exact hb
   have hst1 : Stand C0 z (g.addUn zs) O { s with σ := s.σ ++ [.cells zs] } a w := ⟨hR, hst.len, hst.defs.mono hpre, hst.size, hst.sh, hst.code⟩;obtain ⟨k1, k2, k3⟩ := ih (fun ys hy => hz ys (by simp [hy])) hst1;have e : s.σ ++ [IObj.cells zs] ++ zss.map .cells = s.σ ++ (zs :: zss).map .cells := by simp
   simp only [e] at k1 k2;have hgo : GoesB n g O s w (g.addUn zs) O { s with σ := s.σ ++ [.cells zs] } w := ⟨.addUn n O g w zs, ⟨[], rfl, Keep.snoc _ _⟩⟩;refine ⟨k1, hgo.trans k2, fun j ys hj => ?_⟩
   cases j with
   | zero =>
     simp only [List.getElem?_cons_zero, zO] at hj;subst hj;have h1 : (g.addUn zs).ι[s.σ.length]? = some (.un zs) := by
       simp only [Gh.addUn, <- hst.rel.len]; simp
     have h2 : ∀ (zss : List (List IVal)) (g : Gh) (i : Nat) x, g.ι[i]? = some x -> (g.addUns zss).ι[i]? = some x := by
       intro zss
       induction zss with
       | nil => intro g i x h; exact h
       | cons a l ih => intro g i x h; exact ih _ _ _ (by simp only [Gh.addUn]; rw [zL (ja h)]; exact h)
     exact h2 zss _ _ _ h1
   | succ j =>
     simp only [List.getElem?_cons_succ] at hj;have := k3 j ys hj;simp only [rI, List.length_singleton] at this;rw [show s.σ.length + (j + 1) = s.σ.length + 1 + j by omega];exact this
theorem jbo : ∀ {l : List (Nat × IOper)} {b : Nat} {h : Nat × Nat × List IVal}, h ∈ kW b l -> ∃ j, h.2.1 = b + j /\ ((kW b l).map (·.2.2))[j]? = some h.2.2 := by
 intro l
 induction l with
 | nil => intro b h hm; cases hm
 | cons q l ih =>
   intro b h hm;simp only [kW] at hm ⊢
   cases hh : va q with
   | some zs =>
     rw [hh] at hm
     rcases List.mem_cons.1 hm with rfl | hm
     . exact ⟨0, rfl, rfl⟩
     . obtain ⟨j, h1, h2⟩ := ih hm;exact ⟨j + 1, by omega, by simpa using h2⟩
   | none => rw [hh] at hm; cases hm
theorem jdl {ρ : Option Nat} {n id : Nat} {m : Shape} {ops : Array Oper} {l : List (Nat × IOper)} {pairs : List (Nat × Nat)} {Q : Exit -> Act -> World -> Prop} {s1 s' : St} {x : IExit} {q : Pan} {ls : List (Nat × DLog)} (hmx : P.follows .mixedOrders = true) (hcf : CallOK P C0 cf) (hcs : yh cf)
   (hok : JH P m ops l pairs = true) (hrun : runDraw cf l s = some (q, s1, ls)) (hP : pairsOK pairs ls = true) (hend : drawEnd l q s1 = some (x, s')) (hst : Stand C0 m g O s a w) (haft : After C0 m g O s w x s' Q) :
   (Code.region id ops true).wpIn (WF ρ) n P Q a w := by
 obtain ⟨hreg, hds, hdr, hpr, hrl⟩ := ji1 hok s.σ.length;obtain ⟨ls0, hrun0, hls0⟩ := Xg hrun;have hP0 : Qm pairs ls0 := by
   intro x hx y hy hp;have hy1 : y ∈ ls := by
     rcases hls0 y hy with h | ⟨_, hh, h1, h2⟩
     . exact h
     . exact absurd h2 (fun e => hpr hh h1 _ hp e)
   rcases hls0 x hx with h | ⟨h, _⟩
   . exact jca hP x h y hy1 hp
   . rw [h]; rfl
 obtain ⟨hstU, hgoU, hunU⟩ := ZT (n := s.σ.length) (zss := (kW s.σ.length l).map (·.2.2)) (fun zs hz => by
   obtain ⟨h, hm, rfl⟩ := List.mem_map.1 hz;exact hrl h hm) hst
 have eσ : s.σ ++ ((kW s.σ.length l).map (·.2.2)).map IObj.cells = s.σ ++ (kW s.σ.length l).map fun h => IObj.cells h.2.2 := by simp
 rw [eσ] at hstU hgoU;generalize hgU : g.addUns ((kW s.σ.length l).map (·.2.2)) = gU at hstU hgoU hunU;generalize hsU : ({ s with σ := s.σ ++ (kW s.σ.length l).map fun h => IObj.cells h.2.2 } : St) = sU at hstU hgoU hrun0;have hwU : sU.wr = s.wr := by subst hsU; rfl
 have htU : sU.ts = s.ts := by subst hsU; rfl
 have hlen : (Ql s.σ.length l).length = ops.size := hreg.len;have hgl : g.ι.length <= s.σ.length := Nat.le_of_eq hst.rel.len;have keepOf : ∀ {wn : List (Nat × Bool)} {t' : St} {g' : Gh} {O' : List Nat} {w' : World} {k : Nat} {sE : St}, t'.σ = sE.σ -> t'.wr = wn ++ sU.wr -> sE.wr = s1.wr -> (∀ p ∈ wn, (∃ v lw, q = some (v, lw) /\ p ∈ lw) \/ ∃ x ∈ ls0, p ∈ x.2.wr) -> GoesB s.σ.length gU O sU { w with drawn := k } g' O' t' w' -> Goes g O s w g' O' sE w' := by
   intro wn t' g' O' w' k sE q2 q3 q0 q4 q5;obtain ⟨wt, r1, r2, r3⟩ := Yy hcs hrun0;have q6 := hgoU.trans (⟨⟨q5.grow.size, q5.grow.same, q5.grow.mono, q5.grow.preo, q5.grow.fresh, q5.grow.code, q5.grow.os, q5.grow.tape, q5.grow.output, q5.grow.zm⟩, q5.keep⟩ : GoesB s.σ.length gU O sU w g' O' t' w');obtain ⟨wk, k1, k2⟩ := q6.keep;have e : wk = wn := by
     have := k1.symm.trans q3;rw [hwU] at this;exact List.append_cancel_right this
   subst e;refine ⟨q6.grow.all hgl, ⟨wt, (q0.trans r1).trans (by rw [hwU]), ?_⟩⟩;rw [<- q2];refine ⟨k2.1, fun n hn hw ho => k2.2 n hn (fun p hp hp2 => ?_) ho⟩
   rcases q4 p hp with ⟨v, lw, hq, hpl⟩ | ⟨x, hx, hpx⟩
   . exact hw p (r3 v lw hq p hpl) hp2
   . exact hw p (r2 x hx p hpx) hp2
 refine wpIn_region_any hmx (jfH hcf hcs hreg hdr (b := s.σ.length) (fun h hm => (zC hm).2) (fun h hm k km e => jbq hm km e) ops.size _ _ gU O sU s1 q ls0 a _ (.refl _) (by simp) ?_ ?_ (by omega) ?_ hrun0 hP0 ?_ ?_ ?_ ?_)
 . intro k hk;exact ⟨fun _ => hreg.cov k hk, fun _ => by simp [hk]⟩
 . intro k hk
   exfalso
   simp only [Array.getD_eq_getD_getElem?, Array.getElem?_replicate] at hk;split at hk <;> simp at hk
 . exact hds
 . exact ⟨hstU.rel.drawn _, hstU.len, hstU.defs, hstU.size, hstU.sh, hstU.code⟩
 . intro h hm _;obtain ⟨j, h1, h2⟩ := jbo hm;rw [h1];exact hunU j _ h2
 . intro hq g' O' t' a' w' q1 q2 ⟨wn, q3, q4⟩ q5 q6;subst hq;simp only [drawEnd, zO, zP] at hend;obtain ⟨rfl, rfl⟩ := hend;refine haft.1 _ g' O' a' w' rfl (keepOf q2 q3 rfl (fun p hp => .inr (q4 p hp)) q5) ⟨by rw [<- q1, <- q2]; exact q6.rel, by rw [<- q1]; exact q6.len, by rw [<- q1]; exact q6.defs, q6.size, by rw [<- q1]; exact q6.sh, q6.code⟩
 . intro v lw hq g' O' t' a' w' v' q1 q2 ⟨wn, q3, q4⟩ q5 q6 q7 q8;subst hq;simp only [drawEnd, zO, zP] at hend;obtain ⟨rfl, rfl⟩ := hend;have hc := Yx (fun p hp => hp) hdr hrun0;rw [jaE] at q1 hc;have e : t'.ts.clrs (zd l) = (jjm l s1).ts := q1.trans hc.symm;have hds2 : t'.ts.ds = (jjm l s1).ts.ds := by rw [<- e, jfM]
   refine haft.2 v g' O' a' w' v' rfl (keepOf (sE := jjm l s1) q2 q3 rfl (fun p hp => ?_) q5) ?_ ?_ ?_
   . rcases q4 p hp with h | h
     . exact .inl ⟨v, lw, rfl, h⟩
     . exact .inr h
   . rw [<- e];show R g' O' _ s1.σ w';rw [<- q2];exact R.clrs _ q6
   . rw [<- hds2]; exact q7
   . rw [<- e]; exact WT.clrs _ q8
end Go.Idl
namespace Go.Idl
variable [Globs]
variable {C0 : XH} {P : Program} {a : Act} {g : Gh} {O : List Nat} {w : World} {s : St} {cf : jD}
theorem qp {b : Frame} {k : List Item} {cs : List Frame} {c : Code} : step P (lone (b.atR a (.code (.scope c) :: k)) cs w) = .next (lone (b.atR a (.code c :: .inScope c :: k)) cs w) :=
 step_lone_go (by simp [stepG, stepG.exec, Frame.atR])
theorem Vr {b : Frame} {k : List Item} {cs : List Frame} {c : Code} : step P (lone (b.atR a (.inScope c :: k)) cs w) = .next (lone (b.atR a k) cs w) :=
 step_lone_go (by simp [stepG, stepG.exec, Frame.atR])
theorem zt {F : Fence} {n : Nat} {Q : Exit -> Act -> World -> Prop} {c : Code} (h : c.wpIn F n P (Exit.noGoto Q) a w) : (Code.scope c).wpIn F n P Q a w := by
 intro b k cs hro hb hr;have h0 : (lone (b.atR a (.code (.scope c) :: k)) cs w).fenced P F := fenced_calm hb hr rfl;obtain ⟨e, a₁, w₁, hq, harr⟩ := h b (.inScope c :: k) cs hro hb hr
 cases e with
 | normal => exact ⟨.normal, a₁, w₁, hq, .head h0 qp (StepsIn.trans harr (.one (fenced_calm hb hr rfl) Vr))⟩
 | exit id =>
   have hx : exitTo id (.inScope c :: k) = exitTo id k := by simp [exitTo]
   exact ⟨.exit id, a₁, w₁, hq, fun k' hk => .head h0 qp (harr.1 k' (by rw [hx]; exact hk)),
       fun hr' hk => let ⟨k₁, h1, h2⟩ := harr.2 hr' (by rw [hx]; exact hk); ⟨k₁, h1, .head h0 qp h2⟩⟩
 | goto l => exact hq.elim
 | ret => exact ⟨_, a₁, w₁, hq, .of_steps (.one h0 qp) harr⟩
 | panic ch => exact ⟨_, a₁, w₁, hq, .of_steps (.one h0 qp) harr⟩
 | outgrown => exact ⟨_, a₁, w₁, hq, .of_steps (.one h0 qp) harr⟩
def jT (P : Program) (n : Shape) (top : Bool) : Code -> ICode -> Bool
 | .skip, .skip => true
 | .region _ ops false, .ops l => vR P ops ops.toList l && yW n.n l
 | .region _ ops true, .draw l pairs => JH P n ops l pairs
 | .seq a b, .seq x y => jT P n top a x && jT P n top b y
 | .cond c a b, .cond z x y => jg z c && (jT P n top a x && jT P n top b y)
 | .block id c, .block id' b => id == id' && jT P n top c b
 | .loop c, .loop b => jT P n top c b
 | .exit id, .exit id' => id == id'
 | .scope c, .scope b => jT P n top c b
 | .label _, .label _ => true
 | .goto l, .goto l' => l == l'
 | .ret, .ret => true
 | .rangeFunc g ps ca cb, .rangeF x ps' a b => top && (jg x g && (ps.toList == ps' && ((ps'.all fun p => decide (p < n.n)) && (jT P n false ca a && jT P n false cb b))))
 | _, .stuck => true
 | _, _ => false
def KA (o : Oper) (t : Nat) : Bool := match o.op with
 | .call c => (match c.callee with | .builtin .recover => c.args.isEmpty && (o.dst == some t && o.guard.isNone) | _ => false)
 | _ => false
def jfO (P : Program) (d : DInfo) (c : ICode) : Bool := match P.funcs[d.g]? with
 | some gfn => gfn.name != "runtime.NumGoroutine" && (gfn.results.isEmpty && (d.nt == gfn.ntmps && (match gfn.body with
   | some body => (match d.slot with
     | none => jT P ⟨d.nt, d.nv, d.m⟩ true body c
     | some t => (match body with
       | .seq (.region _ ops false) b => (match ops.toList with | [o] => KA o t | _ => false) && (decide (t < d.nt) && jT P ⟨d.nt, d.nv, d.m⟩ true b c)
       | _ => false))
   | none => false)))
 | none => false
def jby (o : Oper) (x : Opd) (xs : List Opd) : Bool := match o.op with
 | .defer k => (match k.callee with | .value r => jg x r && jA xs k.args.toList | _ => false) && (o.dst.isNone && o.guard.isNone)
 | _ => false
def jdk (P : Program) (n : Shape) (ops : Array Oper) (l : List IOper) (x : Opd) (xs : List Opd) (d : DInfo) (c : ICode) : Bool :=
 match ops.toList.reverse with
 | o :: pre => jby o x xs && (vR P ops pre.reverse l && (yW n.n l && jfO P d c))
 | [] => false
def qW (P : Program) (n : Shape) : Code -> ICode -> Bool
 | .seq a b, .seq x y => jT P n true a x && qW P n b y
 | .seq a b, .dfr l x xs d c y => (match a with | .region _ ops false => jdk P n ops l x xs d c | _ => false) && qW P n b y
 | .cond z a b, .cond w x y => jg w z && (qW P n a x && qW P n b y)
 | c, ic => jT P n true c ic
def CR (P : Program) : XH := fun n nv m c ic => jT P ⟨n, nv, m⟩ false c ic = true
def IFunc.sh (fn : IFunc) : Shape := ⟨fn.nt, fn.nv, fn.m⟩
structure FunOK (P : Program) (gfn : Func) (fn : IFunc) : Prop where
 name : gfn.name ≠ "runtime.NumGoroutine"
 code : ∃ c, gfn.body = some c /\ qW P fn.sh c fn.body = true
 res : KK P gfn.results.toList fn.res = true
 nt : fn.nt = gfn.ntmps
def ZQ (P : Program) (f : FuncId) (p : jeN) : Prop := ∀ σ args v, p (jkn σ) (jko σ) args = some v -> vF P f /\
 ∀ (g : Gh) (O : List Nat) (rargs : Array Value) (w : World), g.C = CR P -> args.length = rargs.toList.length -> R g O (args.zip rargs.toList) σ w ->
   CallsIn Fence.wide 0 P f rargs w fun e w' => ∃ v' g' O', e = .returned v' /\ Grow O g w O' g' w' /\ R g' O' [(v, v')] σ w'
def FOK (P : Program) (F : jn) : Prop := ∀ f fn, F f = some fn -> (∃ gfn, P.funcs[f]? = some gfn /\ FunOK P gfn fn) \/ ∃ p, fn.body = .lib p /\ ZQ P f p
def ve (P : Program) (F : jn) (n : Nat) : Prop :=
 ∀ [Base] (c : Code) (ic : ICode) (m : Shape) (top : Bool) (s : St) (x : IExit) (s' : St), jT P m top c ic = true -> eval F n ic s = some (x, s') ->
   ∀ (ρ : Option Nat), (top = true -> ρ = none) -> ∀ (k : Nat) (Q : Exit -> Act -> World -> Prop) (a : Act) (w : World) (g : Gh) (O : List Nat), Stand (CR P) m g O s a w -> After (CR P) m g O s w x s' Q -> c.wpIn (WF ρ) k P Q a w
theorem After.imp [Base] {m : Shape} {x : IExit} {s' : St} {Q Q' : Exit -> Act -> World -> Prop} (h : After C0 m g O s w x s' Q) (hq : ∀ e a' w', (∀ x', x = .panic x' -> ∃ ch, e = .panic ch) -> (∀ e', qt x = some e' -> e = e') -> Q e a' w' -> Q' e a' w') : After C0 m g O s w x s' Q' := by
 refine ⟨fun e g' O' a' w' he k st => hq e a' w' (fun x' hx => by subst hx; cases he) (fun e' he' => by rw [he] at he'; cases he'; rfl) (h.1 e g' O' a' w' he k st), fun v g' O' a' w' v' hx k r d wt => hq _ a' w' (fun _ _ => ⟨_, rfl⟩) (fun e' he' => by subst hx; cases he') (h.2 v g' O' a' w' v' hx k r d wt)⟩
theorem Z4 : ∀ n, (Tm.empty n).list = [] := by
 intro n
 induction n with
 | zero => rfl
 | succ n ih => simp [Tm.empty, Tm.list, ih]
theorem jba : ∀ n k, (Tm.empty n).get k = none := by
 intro n
 induction n with
 | zero => intro k; rfl
 | succ n ih => intro k; simp only [Tm.empty, Tm.get, ih]; cases Nat.beq k 0 <;> cases Nat.beq (k % 2) 1 <;> rfl
theorem jh9 {tmps : Array Value} {σ : List IObj} : ∀ {vs : List IVal} {us : List Value} {ts : Ts} {j : Nat}, WT ts tmps -> vs.length = us.length -> (∀ (i : Nat) u, us[i]? = some u -> tmps[j + i]? = some u) ->
   R g O (vs.zip us ++ ts.roots tmps) σ w -> R g O ((ts.fill j vs).roots tmps) σ w /\ WT (ts.fill j vs) tmps := by
 intro vs
 induction vs with
 | nil => intro us ts j hW _ _ hR; exact ⟨by simpa [Ts.fill] using hR, hW⟩
 | cons v vs ih =>
   intro us ts j hW hl hu hR
   cases us with
   | nil => simp at hl
   | cons u us =>
     have h0 : tmps[j]? = some u := by simpa using hu 0 u rfl
     have hj : j < tmps.size := (Array.getElem?_eq_some_iff.1 h0).1;have hset : tmps.setIfInBounds j u = tmps := by
       apply Array.ext_getElem?;intro k;rw [Array.getElem?_setIfInBounds];split
       . rename_i e; subst e; exact h0.symm
       . rfl
     obtain ⟨rest, ev, h1, h2⟩ := Ts.roots_put hW hj v u;rw [hset] at h2;refine ih (ts := ts.set j v) (j := j + 1) (hW.set hj v) (by simpa using hl) (fun i u' hi => ?_) ?_
     . have := hu (i + 1) u' (by simpa using hi);rw [show j + 1 + i = j + (i + 1) by omega]; exact this
     . simp only [tJ, tP] at hR;have h3 : R g O ((v, u) :: (ev ++ (vs.zip us ++ rest))) σ w := by
         refine hR.perm (.cons _ ?_);refine (h1.append_left _).trans ?_;rw [<- zS, <- zS];exact List.perm_append_comm.append_right _
       cases hb : ts.t.has (ts.slot j) with
       | true =>
         rw [hb] at h2;have h4 : R g O (ev ++ ((v, u) :: (vs.zip us ++ rest))) σ w := h3.perm List.perm_middle.symm;refine (R.drops (l := ev) h4).perm ?_;refine List.Perm.trans ?_ (h2.symm.append_left _);exact List.perm_middle.symm
       | false =>
         rw [hb] at h2;exact (R.drops (l := ev) h3.drop).perm (h2.symm.append_left _)
theorem KL {gfn : Func} {tmps : Array Value} {us : List Value} {w' : World} (h : (jaK tmps gfn.results.toList).run P w = .ok us w') :
   (results gfn tmps).run P w = .ok (if hh : us.toArray.size = 1 then us.toArray[0] else .tuple us.toArray) w' := by
 have e : ∀ f : ResultVar -> Sem Value, gfn.results.mapM f = Functor.map List.toArray (gfn.results.toList.mapM f) := fun f => by
   rw [<- List.mapM_toArray]
 unfold results;rw [e];unfold jaK at h;simp only [map_eq_pure_bind, Sem.run_bind]
 erw [h]
 simp [Sem.run_pure, Result.andThen_ok]
def Ka (P : Program) (F : jn) (n : Nat) : Prop :=
 ∀ [Base] (c : Code) (ic : ICode) (m : Shape) (s : St) (x : IExit) (s' : St), qW P m c ic = true -> eval F n ic s = some (x, s') -> (Ju x).isSome = true ->
   ∀ (gfn : Func) (Rp : Ending -> World -> Prop) (a : Act) (w : World) (g : Gh) (O : List Nat), Stand (CR P) m g O s a w ->
   (Ju x = some none -> ∀ g' O' tmps' ms w', Goes g O s w g' O' s' w' -> R g' O' (s'.ts.roots tmps') s'.σ w' -> WT s'.ts tmps' -> MarksR g' s'.ts.ds ms -> LeavesInM (WF none) 0 P gfn tmps' Rp (ms ++ Base.B) .returning w') ->
   (∀ v, Ju x = some (some v) -> ∀ g' O' tmps' ms w' v', Goes g O s w g' O' s' w' -> R g' O' ((v, v') :: s'.ts.roots tmps') s'.σ w' -> WT s'.ts tmps' -> MarksR g' s'.ts.ds ms -> LeavesInM (WF none) 0 P gfn tmps' Rp (ms ++ Base.B) (.panicking [{ v := v', recovered := false }]) w') ->
   c.wpIn (WF none) 0 P (bodyPostM (WF none) 0 P gfn Rp) a w
def jaN (l : jG) : Option IVal -> FrameMode -> Prop
 | none, u => u = .returning
 | some v, u => ∃ v', u = .panicking [{ v := v', recovered := false }] /\ (v, v') ∈ l
theorem zx {gfn : Func} {tmps : Array Value} (h : gfn.results.isEmpty = true) : ∃ v, (results gfn tmps).run P w = .ok v w := by
 have e : gfn.results.toList = [] := by simpa using h
 have h1 : (jaK tmps gfn.results.toList).run P w = .ok [] w := by rw [e, Zv, Sem.run_pure]
 exact ⟨_, KL h1⟩
theorem zg [Base] {gfn : Func} {args : List IVal} {σ : List IObj} {rargs : Array Value} {nv m dep nt : Nat} (hb : Base.B = []) (hnt : nt = gfn.ntmps) (hC : g.C = CR P) (hlen : args.length = rargs.toList.length) (hR : R g O (args.zip rargs.toList) σ w) :
   Stand (CR P) ⟨nt, nv, m⟩ g O { ts := (Ts.mk nv m (Tm.empty dep) []).fill 0 args, σ := σ, wr := [] } { tmps := rargs ++ Array.replicate (gfn.ntmps - rargs.size) undef, defers := [] } w := by
 have hf := jh9 (g := g) (O := O) (w := w) (σ := σ) (tmps := rargs ++ Array.replicate (gfn.ntmps - rargs.size) undef) (vs := args) (us := rargs.toList) (ts := Ts.mk nv m (Tm.empty dep) []) (j := 0)
   (fun k p hp => by rw [jba] at hp; cases hp) hlen (fun i u hu => by
     rw [t7, Array.getElem?_append_left (by have := ja hu; simpa using this)]; simpa using hu) (by simpa [Ts.roots, Z4] using hR)
 have hsh := SameSh.fill (vs := args) (ts := Ts.mk nv m (Tm.empty dep) []) (j := 0);refine ⟨hf.1, hf.2, by rw [hsh.2.2]; have := DefsR.nil g; rw [hb] at this; exact this, ?_, ⟨hsh.1, hsh.2.1⟩, hC⟩;simp [hnt]; omega
def jjo : Option IVal -> IVal
 | some v => un3 v
 | none => jhu
theorem jdf {d : DInfo} {args : List IVal} {m : Option IVal} {t : Nat} (h : d.slot = some t) : dTs d args m = ((Ts.mk d.nv d.m (Tm.empty d.dep) []).fill 0 args).set t (jjo m) := by
 simp only [dTs, h];cases m <;> rfl
theorem jh1 {F : jn} {n : Nat} (hS : ve P F n) {d : DInfo} {c : ICode} (hd : jfO P d c = true) {args : List IVal} {m : Option IVal} {s s' : St} {x : IExit} (h : Qq (eval F n) d c args m s = some (x, s')) :
   ∃ m', x = jh7 m' /\ s'.ts = s.ts /\ (m' = none \/ m' = m) /\ ∃ gfn, P.funcs[d.g]? = some gfn /\ gfn.name ≠ "runtime.NumGoroutine" /\ gfn.body ≠ none /\
     ∀ (g : Gh) (O : List Nat) (rargs : Array Value) (w : World) (u : FrameMode) (l : jG), g.C = CR P -> args.length = rargs.toList.length -> jaN l m u -> R g O (args.zip rargs.toList ++ l) s.σ w ->
       CallsDIn Fence.wide 0 P d.g rargs u w fun e u' w' => (∃ v0, e = .returned v0) /\ ∃ g' O' wn, Grow O g w O' g' w' /\ R g' O' l s'.σ w' /\ s'.wr = wn ++ s.wr /\ Keep s.σ s'.σ wn /\ (match m' with | none => settle u' = .returning | some _ => settle u' = u) := by
 unfold Qq at h;split at h
 . rename_i x1 s1 hev;split at h
   . cases h
   . rename_i hnp;split at h
     . rename_i mm hmm hds;simp only [zO, zP] at h;obtain ⟨rfl, rfl⟩ := h;refine ⟨_, rfl, rfl, by cases d.slot <;> simp, ?_⟩;unfold jfO at hd;split at hd
       . rename_i gfn hgf;simp only [zA, bne_iff_ne, ne_eq, beq_iff_eq] at hd;obtain ⟨hname, hres, hnt, hd⟩ := hd;split at hd
         . rename_i body hbody;refine ⟨gfn, hgf, hname, by simp [hbody], ?_⟩;intro g O rargs w u l hC hlen hm hR;have hR0 := hR.sub_own
           -- what is left behind
           have hfin : ∀ {g' : Gh} {O' : List Nat} {w' : World} {s0 : St}, Goes g (jN (args.zip rargs.toList) ++ kt w g.ι s.σ) s0 w g' O' s1 w' -> s0.σ = s.σ -> s0.wr = [] -> (∃ tmps', R g' O' (s1.ts.roots tmps') s1.σ w') ->
               ∃ O'' wn, Grow O g w O'' g' w' /\ R g' O'' l s1.σ w' /\ s1.wr ++ s.wr = wn ++ s.wr /\ Keep s.σ s1.σ wn := by
             intro g' O' w' s0 hgo e1 e2 ⟨tmps', hr⟩;obtain ⟨wn, k1, k2⟩ := hgo.keep;have hr0 : R g' O' [] s1.σ w' := R.drops (l := s1.ts.roots tmps') (by rw [rP]; exact hr);obtain ⟨O'', q1, q2⟩ := hR.frame hgo.grow hr0;refine ⟨O'', wn, q2, by simpa using q1, by rw [k1, e2, rP], by rw [<- e1]; exact k2⟩
           letI : Base := ⟨[]⟩
           cases hslot : d.slot with
           | none =>
             rw [hslot] at hd;simp only at hd;have hst := zg (P := P) (gfn := gfn) (nv := d.nv) (m := d.m) (dep := d.dep) (nt := d.nt) rfl hnt hC hlen hR0;have hts : dTs d args m = (Ts.mk d.nv d.m (Tm.empty d.dep) []).fill 0 args := by simp only [dTs, hslot]
             rw [hts] at hev;refine CallsDIn.mono (callsDIn_of_wp (F := Fence.wide) (u := u) (R := fun e w' => (∃ v0, e = .returned v0) /\ ∃ g' O' wn, Grow O g w O' g' w' /\ R g' O' l s1.σ w' /\ s1.wr ++ s.wr = wn ++ s.wr /\ Keep s.σ s1.σ wn) hgf hbody trivial ?_) ?_
             . refine hS body c _ true _ x1 s1 hd hev none (fun _ => rfl) 0 _ _ w g _ hst ⟨fun e g' O' a' w' he k st => ?_, fun v g' O' a' w' v' hx => absurd hx (hnp v)⟩;have hdef : a'.defers = [] := by have := st.defs; rw [hds] at this; exact this.nil_iff
               obtain ⟨v0, hv0⟩ := zx (P := P) (w := w') (tmps := a'.tmps) hres;obtain ⟨O'', wn, q1, q2, q3, q4⟩ := hfin k rfl rfl ⟨a'.tmps, st.rel⟩;have hpost : (∃ v0', Ending.returned v0 = .returned v0') /\ ∃ g' O' wn, Grow O g w O' g' w' /\ R g' O' l s1.σ w' /\ s1.wr ++ s.wr = wn ++ s.wr /\ Keep s.σ s1.σ wn := ⟨⟨v0, rfl⟩, g', O'', wn, q1, q2, q3, q4⟩
               cases x1 with
               | normal => simp only [qt, zO] at he; subst he; exact ⟨hdef, v0, hv0, hpost⟩
               | ret => simp only [qt, zO] at he; subst he; exact ⟨hdef, v0, hv0, hpost⟩
               | panic v => exact absurd rfl (hnp v)
               | exit i => simp [Ju] at hmm
               | goto i => simp [Ju] at hmm
             . rintro e u' w' ⟨rfl, h1, g', O', wn, q1, q2, q3, q4⟩;refine ⟨h1, g', O', wn, q1, q2, q3, q4, ?_⟩;simp only [hslot]
               cases m with
               | none => simp only [jaN] at hm; subst hm; rfl
               | some v => obtain ⟨v', rfl, -⟩ := hm; rfl
           | some t =>
             rw [hslot] at hd;simp only at hd;split at hd
             . rename_i id ops b;simp only [zA, decide_eq_true_eq] at hd;obtain ⟨hrec, htlt, hcode⟩ := hd;split at hrec
               . rename_i o hops;have hop0 : ops[0]? = some o := by rw [<- Array.getElem?_toList, hops]; rfl
                 have hsz : ops.size = 1 := by rw [<- Array.length_toList, hops]; rfl
                 unfold KA at hrec;split at hrec
                 . rename_i k hk;split at hrec
                   . rename_i hcal;simp only [zA, beq_iff_eq, Option.isNone_iff_eq_none] at hrec;obtain ⟨hargs, hdst, hguard⟩ := hrec;have hargs : k.args = #[] := by simpa using hargs
                     -- the value that comes of it
                     obtain ⟨mv, hV, hmode⟩ : ∃ mv : Value, (V g (jjo m) mv /\ jC (jjo m) mv = []) /\
                         ∀ (c₀ : Frame) (cs : List Frame), c₀.mode = u -> ∃ u', settle u' = .returning /\ ((recoverD (c₀ :: cs) = some (mv, { c₀ with mode := u' } :: cs)) \/ (recoverD (c₀ :: cs) = none /\ mv = .nilIface /\ u' = u)) := by
                       cases m with
                       | none =>
                         simp only [jaN] at hm; subst hm;refine ⟨.nilIface, ⟨.prim _ rfl, rfl⟩, fun c₀ cs hc => ⟨.returning, rfl, .inr ⟨?_, rfl, rfl⟩⟩⟩;simp [recoverD, hc]
                       | some v =>
                         obtain ⟨v', rfl, hvl⟩ := hm;have hVv := hR.vals (v, v') (rZ _ hvl);refine ⟨v', ⟨hVv.un3, vb _ _⟩, fun c₀ cs hc => ⟨.panicking [{ v := v', recovered := true }], rfl, .inl ?_⟩⟩;simp [recoverD, hc]
                     have hst := zg (P := P) (gfn := gfn) (nv := d.nv) (m := d.m) (dep := d.dep) (nt := d.nt) rfl hnt hC hlen hR0;have hst1 := vx (d := some t) (s := { ts := (Ts.mk d.nv d.m (Tm.empty d.dep) []).fill 0 args, σ := s.σ, wr := [] }) (hst.rel.push hV.1 hV.2) hst.len hst.defs hst.size hst.sh hst.code (fun t' ht => by cases ht; exact htlt);have hts : dTs d args m = putT ((Ts.mk d.nv d.m (Tm.empty d.dep) []).fill 0 args) (some t) (jjo m) := jdf hslot;rw [hts] at hev;refine callsDIn_of_wpSIn (F := Fence.wide) hgf hbody trivial fun c₀ cs hc₀ => ?_;refine wpSIn_seq (wpSIn_region ?_);have hr : List.range ops.size = [0] := by rw [hsz]; rfl
                     have hw0 : ∀ ys, Region.wanted o ys = true := by intro ys; simp [Region.wanted, hguard]
                     have hrun : ∀ ρ, (execOp ρ o).run P w = .ok .recover w := by
                       intro ρ;simp [execOp, hk, resolve, hcal, hargs, invoke, builtin]
                     obtain ⟨u', hset, hrc⟩ := hmode c₀ cs hc₀
                     -- behind the recovery
                     have hrest : ∀ cs', cs' = { c₀ with mode := u' } :: cs -> b.wpSIn Fence.wide 0 P (bodyPostS P gfn c₀ cs fun e u' w' => (∃ v0, e = .returned v0) /\ ∃ g' O' wn, Grow O g w O' g' w' /\ R g' O' l s1.σ w' /\ s1.wr ++ s.wr = wn ++ s.wr /\ Keep s.σ s1.σ wn /\ settle u' = .returning) (({ tmps := rargs ++ Array.replicate (gfn.ntmps - rargs.size) undef, defers := [] } : Act).put o.dst mv) cs' w := by
                       intro cs' hcs';subst hcs';refine wpSIn_of_wpIn rfl ?_;rw [hdst];refine hS b c _ true _ x1 s1 hcode hev none (fun _ => rfl) 0 _ _ w g _ hst1 ⟨fun e g' O' a' w' he k st => ?_, fun v g' O' a' w' v' hx => absurd hx (hnp v)⟩;have hdef : a'.defers = [] := by have := st.defs; rw [hds] at this; exact this.nil_iff
                       obtain ⟨v0, hv0⟩ := zx (P := P) (w := w') (tmps := a'.tmps) hres;obtain ⟨O'', wn, q1, q2, q3, q4⟩ := hfin k rfl rfl ⟨a'.tmps, st.rel⟩
                       cases x1 with
                       | normal => simp only [qt, zO] at he; subst he; exact ⟨hdef, u', rfl, v0, hv0, ⟨v0, rfl⟩, g', O'', wn, q1, q2, q3, q4, hset⟩
                       | ret => simp only [qt, zO] at he; subst he; exact ⟨hdef, u', rfl, v0, hv0, ⟨v0, rfl⟩, g', O'', wn, q1, q2, q3, q4, hset⟩
                       | panic v => exact absurd rfl (hnp v)
                       | exit i => simp [Ju] at hmm
                       | goto i => simp [Ju] at hmm
                     rw [hr];simp only [wpOpsSIn, hop0];refine ⟨fun _ _ => trivial, ?_⟩;rw [if_pos (hw0 _), hrun];simp only
                     rcases hrc with hrc | ⟨hrc, rfl, rfl⟩
                     . rw [hrc];exact hrest _ rfl
                     . rw [hrc];simp only;have e0 : c₀ = { c₀ with mode := u' } := by rw [<- hc₀]
                       exact hrest _ (by rw [<- e0])
                   . cases hrec
                 . cases hrec
               . cases hrec
             . cases hd
         . cases hd
       . cases hd
     . cases h
 . cases h
theorem jhU {F : jn} {n : Nat} (hF : FOK P F) (hT : Ka P F n) (f : FuncId) (args : List IVal) (σ : List IObj) (out : Out) (hout : vo F n (.f f) args σ = some out) : vF P f /\
   ∀ g O (rargs : Array Value) w, g.C = CR P -> args.length = rargs.toList.length -> R g O (args.zip rargs.toList) σ w -> CallsIn Fence.wide 0 P f rargs w (yz g O w σ out) := by
 simp only [vo] at hout;split at hout
 . rename_i fn hfn;unfold callI at hout
   rcases hF f fn hfn with ⟨gfn, hgf, hok⟩ | ⟨p, hbody, hlib⟩
   . obtain ⟨c, hbody, hcode⟩ := hok.code;have hnl : libOf fn.body = none \/ eval F n fn.body = fun _ => none := by
       cases n with
       | zero => right; funext s; simp [eval]
       | succ n => cases hb : fn.body <;> first | (left; rfl) | (right; funext s; simp [eval])
     split at hout
     . rename_i p hp
       exfalso
       have hb : fn.body = .lib p := by
         cases hb : fn.body <;> rw [hb] at hp <;> simp [libOf] at hp;rw [hp]
       rw [hb] at hcode;cases c <;> simp [qW, jT] at hcode
     . refine ⟨⟨gfn, hgf, hok.name, by simp [hbody]⟩, fun g O rargs w hC hlen hR => ?_⟩;refine callsIn_of_wp_marks (F := Fence.wide) hgf hbody trivial ?_;letI : Base := ⟨[]⟩;have hst := zg (P := P) (gfn := gfn) (nv := fn.nv) (m := fn.m) (dep := fn.dep) (nt := fn.nt) rfl hok.nt hC hlen hR;have hwide : (WF none) = Fence.wide := rfl;rw [<- hwide]
       -- what is handed back
       have hret : ∀ {s1 : St}, retI σ.length fn.res s1 = some out ->
           ∀ g' O' tmps' ms w', Goes g O { ts := (Ts.mk fn.nv fn.m (Tm.empty fn.dep) []).fill 0 args, σ := σ, wr := [] } w g' O' s1 w' -> R g' O' (s1.ts.roots tmps') s1.σ w' -> WT s1.ts tmps' -> MarksR g' s1.ts.ds ms ->
           LeavesInM (WF none) 0 P gfn tmps' (yz g O w σ out) (ms ++ Base.B) .returning w' := by
         intro s1 hri g' O' tmps' ms w' hgo hrel hwt hms;unfold retI at hri;split at hri
         . rename_i σ1 hsh;split at hri
           . rename_i vs s2 hrd;split at hri
             . rename_i hnt;simp only [zO] at hri;refine ZC (l := s1.ts.roots tmps') (by simp) s1.ts.ds s1.σ σ1 ms w' hsh hms hrel (fun w'' hR'' hG'' => ?_);obtain ⟨us, h1, h2, h3, h4, wn, h5, h6, h7⟩ := Yt (l := []) hok.res hrd hwt (by simpa using hR'');have h8 := (R.merge h4 h2 (List.all_eq_true.1 hnt));obtain ⟨wn', k1, k2⟩ := hgo.keep;have hkeep : Keep σ s2.σ s2.wr := by
                 rw [h5];simp only;rw [k1];simp only [rP];exact (k2.trans (Xo _ _ _ hsh)).trans h6
               have hR1 : R g' O' [(tupV vs, if hh : us.toArray.size = 1 then us.toArray[0] else .tuple us.toArray)] s2.σ w'' :=
                 R.drops (l := s2.ts.roots tmps') (h8.perm (List.perm_append_comm (l₁ := [_])))
               obtain ⟨g'', k3, k4, k5, k6⟩ := Jn (v := tupV vs) (pan := false) hR (hgo.grow.trans hG'') hR1 hkeep;rw [hri] at k4 k5 k6;exact ⟨(if hh : us.toArray.size = 1 then us.toArray[0] else .tuple us.toArray), KL h1, ⟨g'', O', _, by rw [k6]; rfl, k3, k4, k5⟩⟩
             . cases hri
           . cases hri
         . cases hri
       split at hout
       . rename_i s1 hev;refine hT c fn.body fn.sh _ .normal s1 hcode hev rfl gfn _ _ w g O hst (fun _ g' O' tmps' ms w' k r wt mr => hret hout g' O' tmps' ms w' k r wt mr) (fun v hv => by cases hv)
       . rename_i s1 hev;refine hT c fn.body fn.sh _ .ret s1 hcode hev rfl gfn _ _ w g O hst (fun _ g' O' tmps' ms w' k r wt mr => hret hout g' O' tmps' ms w' k r wt mr) (fun v hv => by cases hv)
       . rename_i v s1 hev;split at hout
         . rename_i hds;simp only [zO] at hout;subst hout;refine hT c fn.body fn.sh _ (.panic v) s1 hcode hev rfl gfn _ _ w g O hst (fun hn => by cases hn) (fun v0 hv g' O' tmps' ms w' v' k r wt mr => ?_);simp only [Ju, zO] at hv;subst hv;obtain ⟨wn', k1, k2⟩ := k.keep;have hkeep : Keep σ s1.σ s1.wr := by rw [k1, rP]; exact k2
           have hR1 : R g' O' [(v, v')] s1.σ w' := R.drops (l := s1.ts.roots tmps') (R.perm r (List.perm_append_comm (l₁ := [_])));obtain ⟨g'', k3, k4, k5, k6⟩ := Jn (v := v) (pan := true) hR k.grow hR1 hkeep;have hnil : ms = [] := by have := mr.1; rw [hds] at this; exact List.eq_nil_of_length_eq_zero (by simpa using this)
           subst hnil;exact ⟨g'', O', v', by rw [k6]; rfl, k3, k4, k5⟩
         . cases hout
       . cases hout
   . rw [hbody] at hout;simp only [libOf] at hout;split at hout
     . rename_i v hv;simp only [zO] at hout;subst hout;obtain ⟨hc, hl⟩ := hlib σ args v hv;refine ⟨hc, fun g O rargs w hC hlen hR => (hl g O rargs w hC hlen hR).mono ?_⟩;rintro e w' ⟨v', g', O', rfl, h1, h2⟩;exact ⟨g', O', v', rfl, h1, h2, .refl _⟩
     . cases hout
 . cases hout
theorem jhi (x : IVal) : un3 (un3 x) = un3 x := by
 cases x with
 | tup xs => simp [un3]; intro a _; exact YV a
 | agg xs => simp [un3, un2, un1]; intro a _; exact vk a
 | _ => rfl
theorem jhj : ∀ (t : Tm), t.un.list = t.list.map fun p => (p.1, un3 p.2) := by
 intro t
 induction t with
 | leaf => rfl
 | node l c r ihl ihr =>
   simp only [Tm.un, Tm.list, List.map_append, ihl, ihr]
   cases c with
   | none => rfl
   | some p => rfl
theorem jjh : ∀ (t : Tm) (k : Nat), t.un.get k = (t.get k).map fun p => (p.1, un3 p.2) := by
 intro t
 induction t with
 | leaf => intro k; rfl
 | node l c r ihl ihr =>
   intro k;simp only [Tm.un, Tm.get, ihl, ihr];cases Nat.beq k 0 <;> cases Nat.beq (k % 2) 1 <;> simp
   all_goals (cases c <;> rfl)
theorem Yo {l : jG} {σ : List IObj} : ∀ {ps : jG}, (∀ p ∈ ps, V g p.1 p.2 /\ jC p.1 p.2 = []) -> R g O l σ w -> R g O (ps ++ l) σ w := by
 intro ps
 induction ps with
 | nil => intro _ h; exact h
 | cons p ps ih =>
   intro hp h;exact (ih (fun q hq => hp q (by simp [hq])) h).push (hp p (by simp)).1 (hp p (by simp)).2
theorem jel {σ : List IObj} : ∀ {ps : List Nat} {vs : List IVal} {us : List Value} {ts ts' : Ts} {tmps : Array Value}, ts.setAll ps vs = some ts' -> vs.length = us.length -> WT ts tmps -> (∀ p ∈ ps, p < tmps.size) -> R g O (vs.zip us ++ ts.roots tmps) σ w ->
   R g O (ts'.roots ((ps.zip us).foldl (fun t p => t.setIfInBounds p.1 p.2) tmps)) σ w /\ WT ts' ((ps.zip us).foldl (fun t p => t.setIfInBounds p.1 p.2) tmps) /\ SameSh ts ts' /\ ((ps.zip us).foldl (fun t p => t.setIfInBounds p.1 p.2) tmps).size = tmps.size := by
 intro ps
 induction ps with
 | nil =>
   intro vs us ts ts' tmps h hl hW _ hR
   cases vs with
   | nil => simp [Ts.setAll] at h; subst h; exact ⟨by simpa using hR, by simpa using hW, .refl _, by simp⟩
   | cons v vs => simp [Ts.setAll] at h
 | cons p ps ih =>
   intro vs us ts ts' tmps h hl hW hp hR
   cases vs with
   | nil => simp [Ts.setAll] at h
   | cons v vs =>
   cases us with
   | nil => simp at hl
   | cons u us =>
     simp only [Ts.setAll] at h;have hj : p < tmps.size := hp p (by simp);obtain ⟨rest, ev, h1, h2⟩ := Ts.roots_put hW hj v u;have hW' : WT (ts.set p v) (tmps.setIfInBounds p u) := fun k q hq => by have := hW.set hj v k q hq; simpa using this
     simp only [tJ, tP] at hR;have h3 : R g O ((v, u) :: (ev ++ (vs.zip us ++ rest))) σ w := by
       refine hR.perm (.cons _ ?_);refine (h1.append_left _).trans ?_;rw [<- zS, <- zS];exact List.perm_append_comm.append_right _
     have hR' : R g O (vs.zip us ++ (ts.set p v).roots (tmps.setIfInBounds p u)) σ w := by
       cases hb : ts.t.has (ts.slot p) with
       | true =>
         rw [hb] at h2;have h4 : R g O (ev ++ ((v, u) :: (vs.zip us ++ rest))) σ w := h3.perm List.perm_middle.symm;refine (R.drops (l := ev) h4).perm ?_;refine List.Perm.trans ?_ (h2.symm.append_left _);exact List.perm_middle.symm
       | false =>
         rw [hb] at h2;exact (R.drops (l := ev) h3.drop).perm (h2.symm.append_left _)
     obtain ⟨k1, k2, k3, k4⟩ := ih h (by simpa using hl) hW' (fun q hq => by simpa using hp q (by simp [hq])) hR';simp only [tJ, List.foldl_cons];exact ⟨k1, k2, SameSh.trans ⟨rfl, rfl, rfl⟩ k3, by rw [k4]; simp⟩
theorem Xm (r : Loop) (rargs : Array Value) : qz r rargs = (r.params.toList.zip rargs.toList).foldl (fun t p => t.setIfInBounds p.1 p.2) r.tmps := by
 unfold qz;rw [<- Array.foldl_toList, Array.toList_zip]
theorem Q9 {σ : List IObj} {l : jG} {id b : Nat} {L : ILoop} (hR : R g O l σ w) (hι : g.ι[id]? = some (Blk.bk b)) (hσ : σ[id]? = some (.loop L)) : ∃ r : Loop, w.heap[b]? = some (.loop r) /\ LoopR g L r /\ b < w.heap.size := by
 obtain ⟨r, h1, h2⟩ := hR.objs id b _ hι hσ;exact ⟨r, h1, h2, (Array.getElem?_eq_some_iff.1 h1).1⟩
theorem R.setLoop {σ : List IObj} {l : jG} {id b : Nat} {L L' : ILoop} {r r' : Loop} (hR : R g O l σ w) (hι : g.ι[id]? = some (Blk.bk b)) (hσ : σ[id]? = some (.loop L)) (hw : w.heap[b]? = some (.loop r)) (hL : LoopR g L' r') :
   R g O l (σ.set id (.loop L')) (w.putObj b (.loop r')) /\ Grow O g w O g (w.putObj b (.loop r')) := by
 have hlt : b < w.heap.size := (Array.getElem?_eq_some_iff.1 hw).1;exact hR.putObj hι hσ (by simp) hlt (by rw [hw]; simp) ⟨r', World.putObj_heap_same hlt, hL⟩ (.inl rfl) rfl
theorem Keep.setLoop {σ : List IObj} {id : Nat} {L L' : ILoop} (hσ : σ[id]? = some (.loop L)) (ht : L'.ts = L.ts) : Keep σ (σ.set id (.loop L')) [(id, false)] :=
 Keep.set fun n _ _ ho => by
   have := ho _ hσ;simpa [RLO, ht] using this
theorem Kd {x : IExit} (h : V0 x = true) : ∃ e c, qt x = some e /\ jcc (some x) = some c /\ (∀ (b : Nat) (Rp : Ending -> World -> Prop) (a' : Act) (w' : World), (∃ v w'', (Instr.endRound b (some c)).run P w' = .ok v w'' /\ Rp (.returned v) w'') -> roundPost P b Rp e a' w') /\
   (∀ (F : Fence) (n : Nat) (Q : Exit -> Act -> World -> Prop) (a' : Act) (w' : World), Q e a' w' -> c.wpIn F n P Q a' w') := by
 cases x with
 | exit id => exact ⟨.exit id, .exit id, rfl, rfl, fun _ _ _ _ h => h, fun _ _ _ _ _ h => wpIn_exit h⟩
 | goto l => exact ⟨.goto l, .goto l, rfl, rfl, fun _ _ _ _ h => h, fun _ _ _ _ _ h => wpIn_goto h⟩
 | ret => exact ⟨.ret, .ret, rfl, rfl, fun _ _ _ _ h => h, fun _ _ _ _ _ h => wpIn_ret h⟩
 | normal => cases h
 | panic v => cases h
theorem jh0 {F : jn} {n : Nat} (hS : ve P F n) (id : Nat) (args : List IVal) (σ : List IObj) (out : Out) (hout : vo F n (.y id) args σ = some out) (g : Gh) (O : List Nat) (rargs : Array Value) (w : World) (b : Nat) (hC : g.C = CR P) (hι : g.ι[id]? = some (Blk.bk b)) (hlen : args.length = rargs.toList.length)
   (hR : R g O (args.zip rargs.toList) σ w) : ∃ r : Loop, w.heap[b]? = some (.loop r) /\ rargs.size = r.params.size /\ RoundIn Fence.wide 0 P b r.fn (qz r rargs) r.assign r.body w (yz g O w σ out) := by
 simp only [vo] at hout;unfold JL at hout;split at hout
 . rename_i L hσ;split at hout
   . rename_i ts hst0 hset;obtain ⟨r, hw, hL, hlt⟩ := Q9 hR hι hσ;obtain ⟨m, hm, hpm, hca, hcb⟩ := hL.code;rw [hC] at hca hcb;have hsetlen : ∀ {ps : List Nat} {vs : List IVal} {t t' : Ts}, t.setAll ps vs = some t' -> ps.length = vs.length := by
       intro ps
       induction ps with
       | nil => intro vs t t' h; cases vs <;> simp [Ts.setAll] at h ⊢
       | cons p ps ih => intro vs t t' h; cases vs <;> simp [Ts.setAll] at h ⊢; exact ih h
     have hpl := hsetlen hset;have hsz : rargs.size = r.params.size := by
       have := hL.ps;have e1 : r.params.size = L.ps.length := by rw [<- this]; simp
       rw [e1, hpl, hlen]; simp
     refine ⟨r, hw, hsz, ?_⟩;have hroots : R g O (args.zip rargs.toList ++ L.ts.roots r.tmps) σ w := by
       have h1 := Yo (ps := L.ts.roots r.tmps) (fun p hp => by
         simp only [Ts.roots, tW] at hp;obtain ⟨q, hq, rfl⟩ := hp;obtain ⟨k1, k2⟩ := hL.vals q hq;exact ⟨k1, by rw [<- k2]; exact vb _ _⟩) hR
       exact h1.perm List.perm_append_comm
     obtain ⟨k1, k2, k3, k4⟩ := jel hset hlen hL.wt (fun p hp => Nat.lt_of_lt_of_le (hpm p hp) hm) hroots;rw [<- hL.ps, <- Xm] at k1 k2 k4;letI : Base := ⟨[]⟩;have hstand : Stand (CR P) ⟨m, L.ts.nv, L.ts.m⟩ g O { ts := ts, σ := σ, wr := [] } { tmps := qz r rargs, defers := [] } w := by
       refine ⟨k1, k2, by rw [k3.2.2, hL.ds]; exact .nil g, by rw [k4]; exact hm, ⟨k3.1, k3.2.1⟩, hC⟩
     refine roundIn_of_wpIn (F := Fence.wide) trivial ?_;have hF : Fence.wide.inRound b = WF (some b) := rfl;rw [hF];split at hout
     . rename_i s1 h1;split at hout
       . rename_i L1 hσ1;split at hout
         . rename_i hst1;split at hout
           . rename_i x s2 h2;split at hout
             . rename_i L2 hσ2
               -- the assignments
               refine hS r.assign L.a ⟨m, L.ts.nv, L.ts.m⟩ false _ .normal s1 hca h1 (some b) (fun h => by cases h) 0 _ _ w g O hstand ⟨fun e g1 O1 a1 w1 he hgo1 hs1 => ?_, fun v _ _ _ _ _ hx => by cases hx⟩;simp only [qt, zO] at he;subst he;have hι1 := hgo1.grow.pre id b hι;obtain ⟨r1, hw1, hL1, -⟩ := Q9 hs1.rel hι1 hσ1;refine ⟨_, run_beginRound hw1 (by rw [hL1.st, hst1]; rfl), ?_⟩;have hLb : LoopR g1 { L1 with st := 1 } { r1 with state := .busy } := ⟨rfl, hL1.ps, hL1.pend, hL1.wt, hL1.ds, hL1.vals, hL1.code⟩;obtain ⟨hRb, hGb⟩ := hs1.rel.setLoop hι1 hσ1 hw1 hLb;have hsb : Stand (CR P) ⟨m, L.ts.nv, L.ts.m⟩ g1 O1 { s1 with σ := s1.σ.set id (.loop { L1 with st := 1 }), wr := (id, false) :: s1.wr } a1 (w1.putObj b (.loop { r1 with state := .busy })) :=
                 ⟨hRb, hs1.len, hs1.defs, hs1.size, hs1.sh, hs1.code⟩
               -- what is behind the body
               have hend : ∀ (g2 : Gh) (O2 : List Nat) (a2 : Act) (w2 : World), Goes g1 O1 { s1 with σ := s1.σ.set id (.loop { L1 with st := 1 }), wr := (id, false) :: s1.wr } (w1.putObj b (.loop { r1 with state := .busy })) g2 O2 s2 w2 -> R g2 O2 (s2.ts.roots a2.tmps) s2.σ w2 ->
                   ∀ (jump : Option Code) (L3 : ILoop), L3.st = (if jump.isNone then 0 else 2) -> L3.ts = L2.ts -> L3.ps = L2.ps -> L3.a = L2.a -> L3.b = L2.b -> jump = jcc L3.pend ->
                   out = finish σ.length false (.bool jump.isNone) { s2 with σ := s2.σ.set id (.loop L3), wr := (id, false) :: s2.wr } ->
                   ∃ v w', (Instr.endRound b jump).run P w2 = .ok v w' /\ yz g O w σ out (.returned v) w' := by
                 intro g2 O2 a2 w2 hgo2 hR2 jump L3 e1 e2 e3 e4 e5 e6 e7;have hι2 := hgo2.grow.pre id b hι1;obtain ⟨r2, hw2, hL2, -⟩ := Q9 hR2 hι2 hσ2;have hLe : LoopR g2 L3 { r2 with state := if jump.isNone then .ready else .done, pending := jump } := by
                   refine ⟨?_, by rw [e3]; exact hL2.ps, e6, by rw [e2]; exact hL2.wt, by rw [e2]; exact hL2.ds, by rw [e2]; exact hL2.vals, by rw [e2, e3, e4, e5]; exact hL2.code⟩;rw [e1]; cases jump <;> rfl
                 obtain ⟨hRe, hGe⟩ := hR2.setLoop hι2 hσ2 hw2 hLe;refine ⟨_, _, run_endRound jump hw2, ?_⟩;have hRf := (R.drops (l := s2.ts.roots a2.tmps) (l' := []) (by rw [rP]; exact hRe)).push (.bool jump.isNone) rfl;have hgr : Grow O g w O2 g2 _ := ((hgo1.grow.trans hGb).trans hgo2.grow).trans hGe;obtain ⟨wn1, q1, q2⟩ := hgo1.keep;obtain ⟨wn2, q3, q4⟩ := hgo2.keep;have hkeep : Keep σ (s2.σ.set id (.loop L3)) ((id, false) :: s2.wr) := by
                   rw [q3]; simp only; rw [q1]; simp only [rP];have := ((q2.trans (Keep.setLoop hσ1 (L' := { L1 with st := 1 }) rfl)).trans q4).trans (Keep.setLoop hσ2 (L' := L3) e2);simpa using this
                 obtain ⟨g'', k3, k4, k5, k6⟩ := Jn (s' := { s2 with σ := s2.σ.set id (.loop L3), wr := (id, false) :: s2.wr }) (v := .bool jump.isNone) (pan := false) hR hgr hRf hkeep;rw [<- e7] at k4 k5 k6;exact ⟨g'', O2, _, by rw [k6]; rfl, k3, k4, k5⟩
               refine hS r.body L.b ⟨m, L.ts.nv, L.ts.m⟩ false _ x s2 hcb h2 (some b) (fun h => by cases h) 0 _ _ _ g1 O1 hsb ⟨fun e g2 O2 a2 w2 he hgo2 hs2 => ?_, fun v g2 O2 a2 w2 v' hx hgo2 hr2 hd2 _ => ?_⟩
               . split at hout
                 . simp only [qt, zO] at he;subst he;simp only [zO] at hout;exact hend g2 O2 a2 w2 hgo2 hs2.rel none { L2 with st := 0, pend := none } rfl rfl rfl rfl rfl rfl hout.symm
                 . split at hout
                   . rename_i hj;simp only [zO] at hout;obtain ⟨e', c', j1, j2, j3, j4⟩ := Kd (P := P) hj;rw [j1] at he;cases he;refine j3 _ _ _ _ (hend g2 O2 a2 w2 hgo2 hs2.rel (some c') { L2 with st := 2, pend := some x } rfl rfl rfl rfl rfl j2.symm hout.symm)
                   . cases hout
               . subst hx;simp only [V0, tF, if_false] at hout;cases hout
             . cases hout
           . cases hout
         . cases hout
       . cases hout
     . cases hout
   . cases hout
 . cases hout
theorem ja1 {F : jn} {n : Nat} (hF : FOK P F) (hS : ve P F n) (hT : Ka P F n) : CallOK P (CR P) (vo F n) :=
 ⟨fun f args σ out h => jhU hF hT f args σ out h, fun id args σ out h g O rargs w b hC hι hlen hR => jh0 hS id args σ out h g O rargs w b hC hι hlen hR⟩
def J8 (P : Program) (F : jn) (n : Nat) : Prop :=
 ∀ [Base] (c : Code) (ic : ICode) (m : Shape) (top : Bool) (s : St) (x : IExit) (s' : St), jT P m top c ic = true -> eval F n (.loop ic) s = some (x, s') ->
   ∀ (ρ : Option Nat), (top = true -> ρ = none) -> ∀ (k : Nat) (Q : Exit -> Act -> World -> Prop) (a : Act) (w : World) (g : Gh) (O : List Nat), Stand (CR P) m g O s a w -> After (CR P) m g O s w x s' Q -> Code.roundsIn (WF ρ) k P c Q n a w
theorem jdQ {F : jn} {n : Nat} (ih : ve P F n) (il : J8 P F n) : J8 P F (n + 1) := by
 intro _ c ic m top s x s' hok hev ρ hρ k Q a w g O hst haft;simp only [eval] at hev;rw [roundsIn_succ];split at hev
 . rename_i s1 h1;refine ih c ic m top s .normal s1 hok h1 ρ hρ k _ a w g O hst ⟨fun e g' O' a' w' he hk st => ?_, fun v g' O' a' w' v' hx => by cases hx⟩;simp only [qt, zO] at he;subst he;exact il c ic m top s1 x s' hok hev ρ hρ k Q a' w' g' O' st (haft.of_goes hk)
 . rename_i hne;refine ih c ic m top s x s' hok hev ρ hρ k _ a w g O hst (haft.imp fun e a' w' hp hx hq => ?_)
   cases x with
   | normal => exact absurd hev (by intro h; exact hne _ h)
   | panic v => obtain ⟨ch, rfl⟩ := hp v rfl; exact hq
   | exit id => have := hx _ rfl; subst this; exact hq
   | goto id => have := hx _ rfl; subst this; exact hq
   | ret => have := hx _ rfl; subst this; exact hq
theorem ja4 {F : jn} (hmx : P.follows .mixedOrders = true) {n : Nat} (ih : ve P F n) (il' : J8 P F (n + 1)) (hcf : CallOK P (CR P) (vo F n)) : ve P F (n + 1) := by
   intro _ c ic m top s x s' hok hev ρ hρ k Q a w g O hst haft;have hns : ic ≠ .stuck := fun e => by subst e; simp [eval] at hev
   cases c <;> cases ic <;> (try exact absurd rfl hns) <;> try (simp only [jT, tF] at hok)
   case skip.skip => simp only [eval, zO, zP] at hev; obtain ⟨rfl, rfl⟩ := hev; exact wpIn_skip (haft.1 _ g O a w rfl (.refl _ _ _ _) hst)
   case label.label => simp only [eval, zO, zP] at hev; obtain ⟨rfl, rfl⟩ := hev; exact wpIn_label (haft.1 _ g O a w rfl (.refl _ _ _ _) hst)
   case exit.exit id id' =>
     have := eq_of_beq hok; subst this;simp only [eval, zO, zP] at hev; obtain ⟨rfl, rfl⟩ := hev; exact wpIn_exit (haft.1 _ g O a w rfl (.refl _ _ _ _) hst)
   case goto.goto id id' =>
     have := eq_of_beq hok; subst this;simp only [eval, zO, zP] at hev; obtain ⟨rfl, rfl⟩ := hev; exact wpIn_goto (haft.1 _ g O a w rfl (.refl _ _ _ _) hst)
   case ret.ret => simp only [eval, zO, zP] at hev; obtain ⟨rfl, rfl⟩ := hev; exact wpIn_ret (haft.1 _ g O a w rfl (.refl _ _ _ _) hst)
   case region.ops id ops d l =>
     cases d <;> simp only [jT, tF] at hok;simp only [zA] at hok;refine wpIn_region ?_;have := jgH (ρ := ρ) (n := k) (ops := ops) (Q := Q) (pre := []) (os := ops.toList) hcf (by simp) hok.1 hok.2 hev hst haft;simpa [List.range_eq_range'] using this
   case region.draw id ops d l pairs =>
     cases d <;> simp only [jT, tF] at hok;simp only [eval] at hev;split at hev
     . rename_i q s1 ls h1;split at hev
       . rename_i hp;exact jdl hmx hcf (jdt n).1 hok h1 hp hev hst haft
       . cases hev
     . cases hev
   case seq.seq c1 c2 i1 i2 =>
     simp only [zA] at hok;simp only [eval] at hev;refine wpIn_seq ?_;split at hev
     . rename_i s1 h1;refine ih c1 i1 m top s .normal s1 hok.1 h1 ρ hρ k _ a w g O hst ⟨fun e g' O' a' w' he hk st => ?_, fun v g' O' a' w' v' hx => by cases hx⟩;simp only [qt, zO] at he;subst he;exact ih c2 i2 m top s1 x s' hok.2 hev ρ hρ k Q a' w' g' O' st (haft.of_goes hk)
     . rename_i hne;refine ih c1 i1 m top s x s' hok.1 hev ρ hρ k _ a w g O hst (haft.imp fun e a' w' hp hx hq => ?_)
       cases x with
       | normal => exact absurd hev (by intro h; exact hne _ h)
       | panic v => obtain ⟨ch, rfl⟩ := hp v rfl; exact hq
       | exit id => have := hx _ rfl; subst this; exact hq
       | goto id => have := hx _ rfl; subst this; exact hq
       | ret => have := hx _ rfl; subst this; exact hq
   case cond.cond cx c1 c2 ix i1 i2 =>
     simp only [zA] at hok;obtain ⟨hx, h1, h2⟩ := hok;simp only [eval] at hev;have hb : ∀ b ts', ix.get s.ts = some (.bool b, ts') -> a.eval cx = .bool b := by
       intro b ts' hg;have h3 := (je (l := []) hx hg hst.len (by simpa using hst.rel)).1;exact ((h3.vals (.bool b, a.eval cx) (by simp)).bool_iff b).2 rfl
     split at hev
     . rename_i ts' hg; exact wpIn_cond_true (hb true ts' hg) (ih c1 i1 m top s x s' h1 hev ρ hρ k Q a w g O hst haft)
     . rename_i ts' hg; exact wpIn_cond_false (hb false ts' hg) (ih c2 i2 m top s x s' h2 hev ρ hρ k Q a w g O hst haft)
     . cases hev
   case block.block id c1 id' i1 =>
     simp only [zA] at hok;have := eq_of_beq hok.1; subst this;simp only [eval] at hev;refine wpIn_block ?_;split at hev
     . rename_i i s1 h1;split at hev
       . rename_i hi;subst hi;simp only [zO, zP] at hev;obtain ⟨rfl, rfl⟩ := hev;refine ih c1 i1 m top s (.exit i) s1 hok.2 h1 ρ hρ k _ a w g O hst ⟨fun e g' O' a' w' he hk st => ?_, fun v g' O' a' w' v' hx => by cases hx⟩;simp only [qt, zO] at he;subst he;simp only [Exit.inBlock, if_true];exact haft.1 _ g' O' a' w' rfl hk st
       . rename_i hi;simp only [zO, zP] at hev;obtain ⟨rfl, rfl⟩ := hev;refine ih c1 i1 m top s (.exit i) s1 hok.2 h1 ρ hρ k _ a w g O hst ⟨fun e g' O' a' w' he hk st => ?_, fun v g' O' a' w' v' hx => by cases hx⟩;simp only [qt, zO] at he;subst he;simp only [Exit.inBlock, hi, if_false];exact haft.1 _ g' O' a' w' rfl hk st
     . rename_i hne;refine ih c1 i1 m top s x s' hok.2 hev ρ hρ k _ a w g O hst (haft.imp fun e a' w' hp hx hq => ?_)
       cases x with
       | exit i => exact absurd hev (by intro h; exact hne _ _ h)
       | panic v => obtain ⟨ch, rfl⟩ := hp v rfl; exact hq
       | normal => have := hx _ rfl; subst this; exact hq
       | goto i => have := hx _ rfl; subst this; exact hq
       | ret => have := hx _ rfl; subst this; exact hq
   case scope.scope c1 i1 =>
     simp only [eval] at hev;refine zt ?_;split at hev
     . cases hev
     . rename_i hne;refine ih c1 i1 m top s x s' hok hev ρ hρ k _ a w g O hst (haft.imp fun e a' w' hp hx hq => ?_)
       cases x with
       | goto i => exact absurd hev (by intro h; exact hne _ _ h)
       | panic v => obtain ⟨ch, rfl⟩ := hp v rfl; exact hq
       | normal => have := hx _ rfl; subst this; exact hq
       | exit i => have := hx _ rfl; subst this; exact hq
       | ret => have := hx _ rfl; subst this; exact hq
   case rangeFunc.rangeF g0 ps ca cb x0 ps' ia ib =>
     simp only [zA] at hok;obtain ⟨htop, hx, hps, hall, hca, hcb⟩ := hok;have hρ0 := hρ htop;subst hρ0;have hps := eq_of_beq hps;simp only [rG, decide_eq_true_eq] at hall;simp only [eval] at hev;split at hev
     . rename_i gf us ws ts' hget;split at hev
       . rename_i v σ1 wr1 hc;split at hev
         . rename_i L hσL;split at hev
           . cases hev
           . rename_i hst1;have hR0 := hst.rel;have h1 := (je (l := []) hx hget hst.len (by simpa using hst.rel)).1;have hV0 : V g (.fn (.func gf) us ws) (a.eval g0) := h1.vals (.fn (.func gf) us ws, a.eval g0) (by simp);generalize hrv : a.eval g0 = rv at hV0
             cases hV0 with
             | fn _ _ _ firsts caps hl1 hv1 hf1 hl2 hv2 hf2 =>
             -- the two blocks
             let L0 : ILoop := ⟨0, { s.ts with t := s.ts.t.un, ds := [] }, ps', ia, ib, none, .none⟩
             let gA : Gh := g.fresh w.heap.size
             let wA : World := w.alloc (.deferred (some []))
             have hRA : R gA (w.heap.size :: O) (s.ts.roots a.tmps) (s.σ ++ [.defr]) wA :=
               (hR0.push (j5 g) rfl).new (obr := .deferred (some [])) (ob := .defr) (fun _ => jy w _) ⟨[], rfl, by simp⟩
             have hGA : Grow O g w (w.heap.size :: O) gA wA := kc hR0 _;have hszA : wA.heap.size = w.heap.size + 1 := by simp [wA]
             let gB : Gh := gA.fresh wA.heap.size
             have hιA : ∀ (id b : Nat), g.ι[id]? = some (Blk.bk b) -> gB.ι[id]? = some (Blk.bk b) := by
               intro id b hb;have h2 := hGA.pre id b hb;simp only [gB, Gh.fresh];rw [zL (ja h2)]; exact h2
             have hVB : ∀ {y : IVal} {u : Value}, V g y u -> jC y u = [] -> V gB y u := fun hv ho => hv.mono hιA (fun _ _ _ h => h) (by rw [ho]; simp);have hgBC : gB.C = CR P := hst.code;have hwp : ∀ fn : FuncId, ∃ (l : Nat) (mark : List Deferred) (w₁ : World) (d : Deferred) (w₁' : World) (f : FuncId) (args : Array Value) (w₂ : World),
                 (Instr.enterLoop fn a.tmps ps ca cb (WF none).round).run P w = .ok (l, mark) w₁ /\ (resolve a.eval (rangeCall g0 l) 0).run P w₁ = .ok d w₁' /\ (∀ f', Target.leads P w₁' d.target d.args = some f' -> (WF none).fn f') /\
                 (invoke d.target d.args).run P w₁' = .ok (.enter f args) w₂ /\ ((WF none).depth.isSome = true -> 1 <= k) /\ CallsIn (WF none) (k - 1) P f args w₂ (rangePost (WF none) k P l Q { a with defers := mark ++ a.defers }) := by
               intro fn
               let r0 : Loop := { state := .ready, pending := none, fn := fn, tmps := a.tmps, params := ps, assign := ca, body := cb, defers := w.heap.size }
               let wB : World := wA.alloc (.loop r0)
               have hL0 : LoopR gB L0 r0 := by
                 refine ⟨rfl, by rw [hps], rfl, fun j p hp => ?_, rfl, fun p hp => ?_, m.n, hst.size, hall, ?_, ?_⟩
                 . simp only [L0, jjh, rW] at hp;obtain ⟨q, hq, rfl⟩ := hp;exact hst.len j q hq
                 . simp only [L0, jhj, tW] at hp;obtain ⟨q, hq, rfl⟩ := hp;refine ⟨hVB (V.un3 (hR0.vals (q.2, a.tmps.getD q.1 undef) ?_)) (vb _ _), jhi _⟩;simp only [Ts.roots, tW]; exact ⟨q, hq, rfl⟩
                 . rw [hgBC]; show jT P ⟨m.n, s.ts.nv, s.ts.m⟩ false ca ia = true;rw [hst.sh.1, hst.sh.2]; exact hca
                 . rw [hgBC]; show jT P ⟨m.n, s.ts.nv, s.ts.m⟩ false cb ib = true;rw [hst.sh.1, hst.sh.2]; exact hcb
               have hRB : R gB (wA.heap.size :: w.heap.size :: O) (s.ts.roots a.tmps) ((s.σ ++ [.defr]) ++ [.loop L0]) wB :=
                 (hRA.push (j5 gA) rfl).new (obr := .loop r0) (ob := .loop L0) (fun _ => ⟨r0, jy wA _, hL0⟩) ⟨[], rfl, by simp⟩
               have hGB : Grow O g w (wA.heap.size :: w.heap.size :: O) gB wB := hGA.trans (kc hRA _);have hlen : g.ι.length = s.σ.length := hR0.len;have hι0 : gB.ι[s.σ.length]? = some (Blk.bk w.heap.size) := by
                 simp only [gB, gA, Gh.fresh, <- hlen];rw [zS, zR (rS _)]; simp
               have hι1 : gB.ι[s.σ.length + 1]? = some (Blk.bk (w.heap.size + 1)) := by
                 simp only [gB, gA, Gh.fresh, <- hlen];rw [zS, zR (by omega)]; simp [hszA]
               have hσe : s.σ ++ [.defr, .loop L0] = (s.σ ++ [.defr]) ++ [.loop L0] := by simp
               obtain ⟨⟨gfn, q1, q2, q3⟩, hcalls⟩ := hcf.fn gf _ _ _ hc
               -- the arguments
               let rargs : Array Value := firsts ++ #[.func (.yield (w.heap.size + 1)) #[] #[]] ++ caps
               have hz : (us ++ [IVal.yl (s.σ.length + 1)] ++ ws).zip rargs.toList = us.zip firsts.toList ++ [(IVal.yl (s.σ.length + 1), Value.func (.yield (w.heap.size + 1)) #[] #[])] ++ ws.zip caps.toList := by
                 simp only [rargs, Array.toList_append];rw [List.zip_append (by simp; omega), List.zip_append (by simpa using hl1)];rfl
               have hRargs : R gB (wA.heap.size :: w.heap.size :: O) ((us ++ [IVal.yl (s.σ.length + 1)] ++ ws).zip rargs.toList ++ s.ts.roots a.tmps) (s.σ ++ [.defr, .loop L0]) wB := by
                 rw [hσe];refine Yo (fun p hp => ?_) hRB;rw [hz] at hp;have hfl : ∀ (xs : List IVal) (vs : Array Value), (∀ (i : Nat) x v, xs[i]? = some x -> vs[i]? = some v -> V g x v) -> (∀ x ∈ xs, qY x) -> p ∈ xs.zip vs.toList -> V gB p.1 p.2 /\ jC p.1 p.2 = [] := by
                   intro xs vs hv hf hp;obtain ⟨i, hi⟩ := ju hp;rw [List.getElem?_zip_eq_some] at hi;have hfx := hf p.1 (zM hi.1);have ho := jE hfx p.2;exact ⟨hVB (hv i p.1 p.2 hi.1 (by simpa using hi.2)) ho, ho⟩
                 rcases List.mem_append.1 hp with hp | hp
                 . rcases List.mem_append.1 hp with hp | hp
                   . exact hfl us firsts hv1 hf1 hp
                   . simp only [List.mem_singleton] at hp; subst hp;exact ⟨.yl _ _ hι1, rfl⟩
                 . exact hfl ws caps hv2 hf2 hp
               have hrl : (us ++ [IVal.yl (s.σ.length + 1)] ++ ws).length = rargs.toList.length := by
                 simp [rargs]; omega
               refine ⟨w.heap.size + 1, _, wB, { target := .fn (.func gf) caps, args := firsts ++ #[.func (.yield (w.heap.size + 1)) #[] #[]] }, wB, gf, rargs, wB, run_enterLoop_outer fn a.tmps ps ca cb, ?_, fun _ _ => trivial, ?_, fun h => by simp [WF, Fence.wide] at h, ?_⟩
               . simp [resolve, rangeCall, hrv, Deferred.ofValue]; rfl
               . simp [invoke, callFunc, q1, q2, q3, rargs]
               . refine Jl ((hcalls gB _ rargs wB hgBC hrl hRargs.sub_own).mono ?_);rintro e w' ⟨g', O', v', rfl, hg, hR', hk⟩;obtain ⟨O'', hR'', hg''⟩ := hRargs.frame hg hR';have hι1' := hg''.pre _ _ hι1;obtain ⟨r3, hw3, hL3, hlt3⟩ := Q9 hR'' hι1' hσL;have hR3 : R g' O'' (s.ts.roots a.tmps) σ1 w' := R.drops (l := [(v, v')]) hR'';obtain ⟨hRd, hGd⟩ := hR3.putObj (ob' := .dead) (x := .loop { r3 with state := .exhausted }) hι1' hσL (by simp) hlt3 (by rw [hw3]; simp) trivial (.inr rfl) rfl;have hbusy : r3.state ≠ .busy := by
                   rw [hL3.st]
                   match hh : L.st with
                   | 0 => simp [jjp]
                   | 1 => exact absurd hh hst1
                   | 2 => simp [jjp]
                   | (j + 3) => simp [jjp]
                 have hgr : Grow O g w O'' g' (w'.putObj (w.heap.size + 1) (.loop { r3 with state := .exhausted })) := (hGB.trans hg'').trans hGd;have hgoes : Goes g O s w g' O'' { ts := { s.ts with ds := s.σ.length :: s.ts.ds }, σ := σ1.set (s.σ.length + 1) .dead, wr := (s.σ.length + 1, false) :: (wr1 ++ s.wr) } (w'.putObj (w.heap.size + 1) (.loop { r3 with state := .exhausted })) := by
                   refine ⟨hgr, (s.σ.length + 1, false) :: wr1, by simp, ?_⟩;have := (((Keep.snoc s.σ .defr).trans (Keep.snoc _ (.loop L0))).trans (by rw [<- hσe]; exact hk)).trans (Keep.set (σ := σ1) (id := s.σ.length + 1) (ob := .dead) (rf := false) fun n _ _ _ => trivial);simpa using this
                 have hstand : Stand (CR P) m g' O'' { ts := { s.ts with ds := s.σ.length :: s.ts.ds }, σ := σ1.set (s.σ.length + 1) .dead, wr := (s.σ.length + 1, false) :: (wr1 ++ s.wr) } { a with defers := [{ target := .collected w.heap.size, args := #[] }] ++ a.defers } (w'.putObj (w.heap.size + 1) (.loop { r3 with state := .exhausted })) := by
                   exact ⟨hRd, hst.len, (hst.defs.mono hgr.pre).mark (hg''.pre _ _ hι0), hst.size, hst.sh, hgr.code.trans hst.code⟩
                 refine ⟨_, _, run_endLoop hw3 hbusy, ?_⟩;have hpend := hL3.pend;generalize w'.putObj (w.heap.size + 1) (.loop { r3 with state := .exhausted }) = w4 at hgoes hstand ⊢;rw [hpend];split at hev
                 . rename_i hpn;simp only [zO, zP] at hev;obtain ⟨rfl, rfl⟩ := hev;rw [hpn];exact haft.1 _ g' O'' _ _ rfl hgoes hstand
                 . rename_i x1 hpn;split at hev
                   . rename_i hj;simp only [zO, zP] at hev;obtain ⟨rfl, rfl⟩ := hev;obtain ⟨e', c', j1, j2, j3, j4⟩ := Kd (P := P) hj;rw [hpn, j2];exact j4 _ _ _ _ _ (haft.1 _ g' O'' _ _ j1 hgoes hstand)
                   . cases hev
             exact wpIn_rangeFunc fun fn _ => hwp fn
         . cases hev
       . cases hev
     . cases hev
   case loop.loop c1 i1 => exact wpIn_loop_rounds (n + 1) (il' c1 i1 m top s x s' hok hev ρ hρ k Q a w g O hst haft)
theorem jaB [Base] {m : Shape} {gfn : Func} {Rp : Ending -> World -> Prop} {x : IExit} {s' : St} (hx : (Ju x).isSome = true)
   (hN : Ju x = some none -> ∀ g' O' tmps' ms w', Goes g O s w g' O' s' w' -> R g' O' (s'.ts.roots tmps') s'.σ w' -> WT s'.ts tmps' -> MarksR g' s'.ts.ds ms -> LeavesInM (WF none) 0 P gfn tmps' Rp (ms ++ Base.B) .returning w')
   (hP : ∀ v, Ju x = some (some v) -> ∀ g' O' tmps' ms w' v', Goes g O s w g' O' s' w' -> R g' O' ((v, v') :: s'.ts.roots tmps') s'.σ w' -> WT s'.ts tmps' -> MarksR g' s'.ts.ds ms -> LeavesInM (WF none) 0 P gfn tmps' Rp (ms ++ Base.B) (.panicking [{ v := v', recovered := false }]) w') :
   After C0 m g O s w x s' (bodyPostM (WF none) 0 P gfn Rp) := by
 refine ⟨fun e g' O' a' w' he k st => ?_, fun v g' O' a' w' v' hxv k r d wt => ?_⟩
 . obtain ⟨ms, e1, mr⟩ := st.defs
   cases x with
   | normal =>
     simp only [qt, zO] at he;subst he;show LeavesInM _ _ _ _ _ _ a'.defers _ _;rw [e1];exact hN rfl g' O' a'.tmps ms w' k st.rel st.len mr
   | ret =>
     simp only [qt, zO] at he;subst he;show LeavesInM _ _ _ _ _ _ a'.defers _ _;rw [e1];exact hN rfl g' O' a'.tmps ms w' k st.rel st.len mr
   | panic v => cases he
   | exit i => cases hx
   | goto i => cases hx
 . subst hxv;obtain ⟨ms, e1, mr⟩ := d;show LeavesInM _ _ _ _ _ _ a'.defers _ _;rw [e1];exact hP v rfl g' O' a'.tmps ms w' v' k r wt mr
theorem jjQ {us vs ws : List IVal} {firsts args caps : List Value} (hl1 : us.length = firsts.length) (hl2 : vs.length = args.length)
   (hv1 : ∀ (i : Nat) x v, us[i]? = some x -> firsts[i]? = some v -> V g x v) (hf1 : ∀ x ∈ us, qY x) (hv2 : ∀ (i : Nat) x v, vs[i]? = some x -> args[i]? = some v -> V g x v) (hn2 : ∀ x ∈ vs, nt x = true)
   (hv3 : ∀ (i : Nat) x v, ws[i]? = some x -> caps[i]? = some v -> V g x v) (hf3 : ∀ x ∈ ws, qY x) :
   ∀ p ∈ (us ++ vs.map un2 ++ ws).zip (firsts ++ args ++ caps), V g p.1 p.2 /\ jC p.1 p.2 = [] := by
 have hz : (us ++ vs.map un2 ++ ws).zip (firsts ++ args ++ caps) = us.zip firsts ++ (vs.map un2).zip args ++ ws.zip caps := by
   rw [List.zip_append (by simp; omega), List.zip_append hl1]
 intro p hp;rw [hz] at hp;have hfl : ∀ (xs : List IVal) (vs : List Value), (∀ (i : Nat) x v, xs[i]? = some x -> vs[i]? = some v -> V g x v) -> (∀ x ∈ xs, qY x) -> p ∈ xs.zip vs -> V g p.1 p.2 /\ jC p.1 p.2 = [] := by
   intro xs vs hv hf hp;obtain ⟨i, hi⟩ := ju hp;rw [List.getElem?_zip_eq_some] at hi;exact ⟨hv i p.1 p.2 hi.1 hi.2, jE (hf p.1 (zM hi.1)) p.2⟩
 rcases List.mem_append.1 hp with hp | hp
 . rcases List.mem_append.1 hp with hp | hp
   . exact hfl us firsts hv1 hf1 hp
   . refine hfl _ args (fun i x v hx hv => ?_) (fun x hx => ?_) hp
     . simp only [rM, rW] at hx;obtain ⟨y, hy, rfl⟩ := hx;exact (hv2 i y v hy hv).un2
     . simp only [tW] at hx;obtain ⟨y, hy, rfl⟩ := hx;exact ⟨YV y, by rw [Zo]; exact hn2 y hy⟩
 . exact hfl ws caps hv3 hf3 hp
theorem jcF {F : jn} {n : Nat} (ih : ve P F n) (it : Ka P F n) (ic' : ve P F (n + 1)) (hcf : CallOK P (CR P) (vo F n)) : Ka P F (n + 1) := by
 intro _ c ic m s x s' hok hev hx gfn Rp a w g O hst hN hP;have haft := jaB (C0 := CR P) (m := m) hx hN hP;unfold qW at hok;split at hok
 . rename_i c1 c2 i1 i2;simp only [zA] at hok;simp only [eval] at hev;refine wpIn_seq ?_;split at hev
   . rename_i s1 h1;refine ih c1 i1 m true s .normal s1 hok.1 h1 none (fun _ => rfl) 0 _ a w g O hst ⟨fun e g' O' a' w' he hk st => ?_, fun v g' O' a' w' v' hx => by cases hx⟩;simp only [qt, zO] at he;subst he;exact it c2 i2 m s1 x s' hok.2 hev hx gfn Rp a' w' g' O' st (fun hm g2 O2 t2 ms w2 k2 => hN hm g2 O2 t2 ms w2 (hk.trans k2)) (fun v hm g2 O2 t2 ms w2 v' k2 => hP v hm g2 O2 t2 ms w2 v' (hk.trans k2))
   . rename_i hne;refine ih c1 i1 m true s x s' hok.1 hev none (fun _ => rfl) 0 _ a w g O hst (haft.imp fun e a' w' hp hx hq => ?_)
     cases x with
     | normal => exact absurd hev (by intro h; exact hne _ h)
     | panic v => obtain ⟨ch, rfl⟩ := hp v rfl; exact hq
     | exit id => have := hx _ rfl; subst this; exact hq
     | goto id => have := hx _ rfl; subst this; exact hq
     | ret => have := hx _ rfl; subst this; exact hq
 . rename_i ca cb l xo xs d c b;simp only [zA] at hok;obtain ⟨hok1, hok2⟩ := hok;split at hok1
   . rename_i id ops;unfold jdk at hok1;split at hok1
     . rename_i o pre hrev;simp only [zA] at hok1;obtain ⟨hdf, hops, hdst, hdok⟩ := hok1;have hlist : ops.toList = pre.reverse ++ [o] := by rw [<- List.reverse_reverse ops.toList, hrev]; simp
       unfold jby at hdf;split at hdf
       . rename_i k hk;simp only [zA, Option.isNone_iff_eq_none] at hdf;obtain ⟨hcal, hd0, hg0⟩ := hdf;split at hcal
         . rename_i r hr;simp only [zA] at hcal;obtain ⟨hxo, hxs⟩ := hcal;simp only [eval] at hev;split at hev
           . rename_i s1 h1;split at hev
             . rename_i g0 us ws ts1 hgx;split at hev
               . rename_i vs ts2 hga;split at hev
                 . rename_i hcond;obtain ⟨rfl, hnt, hds⟩ := hcond;split at hev
                   . rename_i x2 s2 h2;refine wpIn_seq (wpIn_region ?_);have hrange : List.range ops.size = List.range' ([] : List Oper).length pre.reverse.length ++ [pre.reverse.length] := by
                       rw [<- Array.length_toList, hlist];simp [List.range_eq_range', List.range'_concat]
                     rw [hrange];refine Zs (ρ := none) (pre := []) (os := pre.reverse) (more := [o]) hcf (by rw [hlist]; rfl) hops hdst h1 hst ⟨fun e g1 O1 a1 w1 he hk1 st1 => ?_, fun v g' O' a' w' v' hx => by cases hx⟩;simp only [qt, zO] at he;subst he;have hget : ops[pre.reverse.length]? = some o := by rw [<- Array.getElem?_toList, hlist]; simp
                     -- what is read
                     obtain ⟨r1, t1⟩ := je (l := []) hxo hgx st1.len (by simpa using st1.rel);obtain ⟨r2, t2, hvl⟩ := jU (l := [(.fn (.func d.g) us ws, a1.eval r)]) hxs hga t1 r1;have hVf : V g1 (.fn (.func d.g) us ws) (a1.eval r) := r2.vals (.fn (.func d.g) us ws, a1.eval r) (by simp);generalize hrv : a1.eval r = rv at hVf r2
                     cases hVf with
                     | fn _ _ _ firsts caps hl1 hv1 hf1 hl2 hv2 hf2 =>
                     let rargs : Array Value := firsts ++ k.args.map a1.eval ++ caps
                     let dd : Deferred := { target := .fn (.func d.g) caps, args := firsts ++ k.args.map a1.eval }
                     have hAR : ∀ p ∈ (us ++ vs.map un2 ++ ws).zip rargs.toList, V g1 p.1 p.2 /\ jC p.1 p.2 = [] := by
                       have := jjQ (g := g1) (us := us) (vs := vs) (ws := ws) (firsts := firsts.toList) (args := k.args.toList.map a1.eval) (caps := caps.toList) (by simpa using hl1) (by simpa using hvl) (fun i x v hx hv => hv1 i x v hx (by simpa using hv)) hf1
                         (fun i x v hx hv => r2.vals (x, v) (tC _ (zM (List.getElem?_zip_eq_some.2 ⟨hx, hv⟩)))) (List.all_eq_true.1 hnt) (fun i x v hx hv => hv2 i x v hx (by simpa using hv)) hf2
                       simpa [rargs] using this
                     have hlen : (us ++ vs.map un2 ++ ws).length = rargs.toList.length := by
                       simp [rargs] at hvl ⊢; omega
                     have hrel2 : R g1 O1 (ts2.roots a1.tmps) s1.σ w1 := R.drops (l := [(IVal.fn (.func d.g) us ws, Value.func (.func d.g) firsts caps)]) (R.drops (l := vs.zip (k.args.toList.map a1.eval)) r2);have hsh : SameSh s1.ts ts2 := (SameSh.get hgx).trans (.getAll hga);have hds1 : s1.ts.ds = [] := by rw [<- hsh.2.2]; exact hds
                     have hbase : a1.defers = Base.B := by have := st1.defs; rw [hds1] at this; exact this.nil_iff
                     show wpOpsIn (WF none) 0 P ops _ [pre.reverse.length] a1 w1;have hexec : (execOp a1.eval o).run P w1 = .ok (.defer dd) w1 := by
                       simp only [execOp, hk, resolve, hr];show (Sem.run P (do let d' <- (do let dv <- Deferred.ofValue (a1.eval r) (k.args.map a1.eval); pure dv : Sem Deferred); pure (Next.defer d')) w1) = _;rw [hrv];simp [Deferred.ofValue, Result.andThen, dd]
                     simp only [wpOpsIn, hget];rw [if_pos (by simp [Region.wanted, hg0])];refine ⟨fun _ _ => trivial, ?_⟩;show Oper.uponIn _ _ _ _ _ _ _ ((Oper.semAt none a1.eval o).run P w1);rw [Oper.semAt_none, hexec, Oper.uponIn_defer, hd0];show cb.wpIn (WF none) 0 P (bodyPostM (WF none) 0 P gfn Rp) { a1 with defers := dd :: a1.defers } w1
                     -- the call that is owed
                     unfold yp at hev;split at hev
                     . rename_i mm σ1 hmm hshut;obtain ⟨m', rfl, hts', hm', gfd, q1, q2, q3, hdef⟩ := jh1 ih hdok hev;have key : ∀ (g2 : Gh) (O2 : List Nat) (tmps2 : Array Value) (ms : List Deferred) (w2 : World) (u : FrameMode) (l : jG), u ≠ .run -> jaN l mm u -> Goes g1 O1 { s1 with ts := ts2 } w1 g2 O2 s2 w2 -> R g2 O2 (l ++ s2.ts.roots tmps2) s2.σ w2 -> WT s2.ts tmps2 -> MarksR g2 s2.ts.ds ms ->
                           (∀ v v', (v, v') ∈ l -> mm = some v -> u = .panicking [{ v := v', recovered := false }] -> l = [(v, v')]) -> (mm = none -> l = []) -> LeavesInM (WF none) 0 P gfn tmps2 Rp (ms ++ dd :: Base.B) u w2 := by
                         intro g2 O2 tmps2 ms w2 u l hu hmode hk2 hR2 hwt2 hms hone hnil;refine ZC (l := l ++ s2.ts.roots tmps2) hu s2.ts.ds s2.σ σ1 ms w2 hshut hms hR2 (fun w3 hR3 hG3 => ?_);have hAR2 : ∀ p ∈ (us ++ vs.map un2 ++ ws).zip rargs.toList, V g2 p.1 p.2 /\ jC p.1 p.2 = [] := fun p hp => by
                           obtain ⟨p1, p2⟩ := hAR p hp;exact ⟨p1.mono hk2.grow.pre hk2.grow.mono (by rw [p2]; simp) hk2.grow.zm, p2⟩
                         have hRc := Yo hAR2 hR3;have hmode' : jaN (l ++ s2.ts.roots tmps2) mm u := by
                           cases mm with
                           | none => exact hmode
                           | some v => obtain ⟨v', e1, e2⟩ := hmode; exact ⟨v', e1, tC _ e2⟩
                         refine ⟨hu, .inr ⟨fun h => by simp [WF, Fence.wide] at h, .func d.g, caps, d.g, rargs, rfl, ?_, fun _ _ => trivial, ?_⟩⟩
                         . simp [invoke, callFunc, q1, q2, q3, dd, rargs]
                         . refine CallsDIn.mono (hdef g2 O2 rargs w3 u _ (hk2.grow.code.trans st1.code) hlen hmode' hRc) ?_;rintro e u' w4 ⟨⟨v0, rfl⟩, g4, O4, wn, p1, p2, p3, p4, p5⟩;show LeavesInM (WF none) 0 P gfn tmps2 Rp Base.B (settle u') w4;have hgo : Goes g O s w g4 O4 s' w4 := by
                             refine ⟨((hk1.grow.trans hk2.grow).trans hG3).trans p1, ?_⟩;obtain ⟨n1, b1, b2⟩ := hk1.keep;obtain ⟨n2, b3, b4⟩ := hk2.keep;refine ⟨wn ++ ((s2.ts.ds.map fun id => (id, false)) ++ (n2 ++ n1)), ?_, ?_⟩
                             . rw [p3]; simp only; rw [b3]; simp only; rw [b1]; simp
                             . exact ((b2.trans b4).trans (Xo _ _ _ hshut)).trans p4
                           have hwt4 : WT s'.ts tmps2 := by rw [hts']; exact hwt2
                           have hr4 : s'.ts.roots tmps2 = s2.ts.roots tmps2 := by rw [hts']; rfl
                           have hms4 : MarksR g4 s'.ts.ds [] := by rw [hts']; exact ⟨rfl, fun i id d h => by simp at h⟩
                           cases m' with
                           | none =>
                             simp only at p5;rw [p5];have hRl := R.drops (l := l) p2;exact hN rfl g4 O4 tmps2 [] w4 hgo (by rw [hr4]; exact hRl) hwt4 hms4
                           | some v =>
                             simp only at p5;rw [p5]
                             rcases hm' with hm' | hm'
                             . cases hm'
                             . subst hm';obtain ⟨v', rfl, e2⟩ := hmode;have := hone v v' e2 rfl rfl;subst this;exact hP v rfl g4 O4 tmps2 [] w4 v' hgo (by rw [hr4]; simpa using p2) hwt4 hms4
                       have hsz1 := st1.size;have hsh1 := st1.sh;have hco1 := st1.code;letI base' : Base := ⟨dd :: a1.defers⟩;have hst2 : Stand (CR P) m g1 O1 { s1 with ts := ts2 } { a1 with defers := dd :: a1.defers } w1 := by
                         refine ⟨hrel2, t2, ?_, hsz1, ⟨hsh.1.trans hsh1.1, hsh.2.1.trans hsh1.2⟩, hco1⟩;simp only [hds];exact DefsR.nil g1
                       refine it cb b m { s1 with ts := ts2 } x2 s2 hok2 h2 (by rw [hmm]; rfl) gfn Rp _ w1 g1 O1 hst2 (fun hm g2 O2 t2 ms w2 k2 rr wt mr => ?_) (fun v hm g2 O2 t2 ms w2 v' k2 rr hwt mr => ?_)
                       . rw [hmm] at hm;simp only [zO] at hm;subst hm;have := key g2 O2 t2 ms w2 .returning [] (by simp) rfl k2 (by simpa using rr) wt mr (fun v v' h => by cases h) (fun _ => rfl);show LeavesInM _ _ _ _ _ _ (ms ++ dd :: a1.defers) _ _;rw [hbase]; exact this
                       . rw [hmm] at hm;simp only [zO] at hm;subst hm;have := key g2 O2 t2 ms w2 (.panicking [{ v := v', recovered := false }]) [(v, v')] (by simp) ⟨v', rfl, by simp⟩ k2 (by simpa using rr) hwt mr (fun v0 v0' h _ _ => by simp at h; obtain ⟨rfl, rfl⟩ := h; rfl) (fun h => by cases h);show LeavesInM _ _ _ _ _ _ (ms ++ dd :: a1.defers) _ _;rw [hbase]; exact this
                     . cases hev
                   . cases hev
                 . cases hev
               . cases hev
             . cases hev
           . cases hev
         . cases hcal
       . cases hdf
     . cases hok1
   . cases hok1
 . rename_i cx c1 c2 ix i1 i2;simp only [zA] at hok;obtain ⟨hxo, h1, h2⟩ := hok;simp only [eval] at hev;have hb : ∀ b ts', ix.get s.ts = some (.bool b, ts') -> a.eval cx = .bool b := by
     intro b ts' hg;have h3 := (je (l := []) hxo hg hst.len (by simpa using hst.rel)).1;exact ((h3.vals (.bool b, a.eval cx) (by simp)).bool_iff b).2 rfl
   split at hev
   . rename_i ts' hg; exact wpIn_cond_true (hb true ts' hg) (it c1 i1 m s x s' h1 hev hx gfn Rp a w g O hst hN hP)
   . rename_i ts' hg; exact wpIn_cond_false (hb false ts' hg) (it c2 i2 m s x s' h2 hev hx gfn Rp a w g O hst hN hP)
   . cases hev
 . exact ic' _ _ m true s x s' hok hev none (fun _ => rfl) 0 _ a w g O hst haft
theorem jaU {F : jn} (hmx : P.follows .mixedOrders = true) (hF : FOK P F) : ∀ n, ve P F n /\ J8 P F n /\ Ka P F n := by
 intro n
 induction n with
 | zero => exact ⟨fun c ic m top s x s1 _ hev => (by simp [eval] at hev), fun c ic m top s x s1 _ hev => (by simp [eval] at hev), fun c ic m s x s1 _ hev => (by simp [eval] at hev)⟩
 | succ n ih =>
   obtain ⟨ih, il, it⟩ := ih;have hcf := ja1 hF @ih @it;have il' : J8 P F (n + 1) := jdQ @ih @il;have ic' : ve P F (n + 1) := ja4 hmx @ih @il' hcf;exact ⟨@ic', @il', jcF @ih @it @ic' hcf⟩
theorem Y0 {F : jn} (hmx : P.follows .mixedOrders = true) (hF : FOK P F) (n : Nat) : CallOK P (CR P) (vo F n) := ja1 hF @(jaU hmx hF n).1 @(jaU hmx hF n).2.2
end Go.Idl
