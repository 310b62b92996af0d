/- The ideal machine and its evaluators, part 10; no conditions. -/
import Derived.Lib.Bytealg
import Derived.Lib.Fields
import Derived.Lib.IndexMore
import Derived.Lib.Replace
import Derived.Lib.Repeat
import Derived.Lib.Space
import Derived.Lib.ReplaceLaws
import Derived.Deep.Draws
import Derived.Test.YtbhnokhofcgjmaaGreatDoorIdlI
set_option linter.unusedSectionVars false
set_option linter.unusedVariables false
set_option linter.unusedSimpArgs false
namespace Go.Idl
noncomputable section
set_option maxHeartbeats 100000
abbrev NK := Env -> U -> H -> Ans
abbrev XK := Nat -> U -> Env -> H -> Ans
abbrev CQ := FuncId -> U -> H -> KH -> KH -> Ans
abbrev YQ := Nat -> U -> H -> KH -> KH -> Ans
def DsR : U -> List Nat -> Prop
 | .nl, [] => True
 | .cn (.o 4 a _ _ _ _) r, id :: l => a = id /\ DsR r l
 | _, _ => False
structure QR (e : Env) (st : U) (h : H) (s : XS) : Prop where
 v : VarQ e s.vs
 st : StR st s.st
 ds : DsR (dsU e) s.ds
 h : HR h s.σ s.wr
theorem QR.nl {e : Env} {st : U} {h : H} {s : XS} (R : QR e st h s) : QR e .nl h s := ⟨R.v, trivial, R.ds, R.h⟩
def V6 : U := .o 18 0 0 0 0 .nl
theorem V7 : toI V6 = ju := rfl
def CallS (cf : jo) (c : Cal) (f : U -> H -> KH -> KH -> Ans) : Prop := ∀ l h K P σ wr, HR h σ wr -> f l h K P = true -> ∃ o r h', cf c (toL l) σ = some o /\ toI r = o.v /\ HR h' o.σ (o.wr ++ wr) /\ h'.tr = h.tr /\ (o.pan = false /\ K r h' = true \/ o.pan = true /\ P r h' = true)
structure CYS (cf : jo) (cq : CQ) (yq : YQ) : Prop where
 c : ∀ g, CallS cf (.f g) (cq g)
 y : ∀ id, CallS cf (.y id) (yq id)
def jmX (x : U) : U -> (U -> Ans) -> Ans := @U.rec (fun _ => U -> (U -> Ans) -> Ans) (fun _ _ _ _ => false) (fun _ _ _ => false) (fun _ _ _ _ => false) (fun _ _ _ _ _ _ _ _ _ => false) (fun y K => K y)
 (fun v _ _ ih y K => ih y fun r => K (.cn v r)) (fun _ _ _ _ _ _ _ _ => false) (fun _ _ _ => false) (fun _ _ _ _ _ _ _ _ _ => false) x
theorem Zb : ∀ {x y : U} {K : U -> Ans}, jmX x y K = true -> ∃ r, toL r = toL x ++ toL y /\ K r = true := by
 intro x
 induction x with
 | nl => intro y K h; exact ⟨y, rfl, h⟩
 | cn v vs _ ih => intro y K h; obtain ⟨r, h1, h2⟩ := ih (show jmX vs y (fun r => K (.cn v r)) = true from h); exact ⟨_, by rw [jn, jn, h1]; rfl, h2⟩
 | _ => intro y K h; cases h
def jcE (b : Nat) (x l : U) (K : U -> Ans) : Ans := jbG b x fun us => jaJ b x fun ws => jmX l ws fun r => jmX us r K
theorem KT {b : Nat} {x l : U} {K : U -> Ans} (h : jcE b x l K = true) : ∃ r, toL r = (toL x).take b ++ toL l ++ (toL x).drop b /\ K r = true := by
 obtain ⟨us, h1, _, h2⟩ := yR h;obtain ⟨ws, h3, _, h4⟩ := yE h2;obtain ⟨r1, h5, h6⟩ := Zb h4;obtain ⟨r, h7, h8⟩ := Zb h6;exact ⟨r, by rw [h7, h5, h1, h3, zS], h8⟩
def XE : H := ⟨0, ⟨0, .nl, 0, .nl, .nl⟩, 0, false, []⟩
theorem Zl : HR XE [] [] := ⟨rfl, fun i ob h => (by simp at h), fun _ p hp => (by cases hp), fun n0 => (by simp [XE])⟩
def jd7 (cq : CQ) (g : FuncId) (l : U) (h : H) (K : KH) : Ans := tst (zD jdL l) (cq g l XE (fun r _ => tst (joc r) (K r h)) (fun _ _ => false))
theorem jaG {cf : jo} {cq : CQ} {yq : YQ} (hc : CYS cf cq yq) {g : FuncId} {l : U} {h : H} {K : KH} (hk : jd7 cq g l h K = true) {xs : List Opd} {σ : List IObj} {wr : List (Nat × Bool)} :
   ∃ r, (∃ t, opV cf (.callp g xs) (toL l) σ wr = some ⟨false, toI r, ⟨t, σ, wr⟩⟩) /\ K r h = true := by
 letI : Globs := ⟨fun _ => none⟩;obtain ⟨h1, h2⟩ := jb hk;obtain ⟨o, r, h', h3, h4, _, _, h5⟩ := hc.c g l XE _ _ [] [] Zl h2
 rcases h5 with ⟨h6, h7⟩ | ⟨_, h7⟩
 . obtain ⟨h8, h9⟩ := jb h7;refine ⟨r, ⟨ts0, ?_⟩, h9⟩;obtain ⟨pan, v, σ', wr'⟩ := o;simp only at h4 h6;subst h4 h6;have hn : (toL l).all nr2 = true := by rw [<- zF Jd]; exact h1
   rw [ja2] at h8;simp only [opV, IOp.with, ja, jM, h3];rw [if_pos hn, if_pos h8]; rfl
 . cases h7
def Yo (tab : List (TypeId × FuncId × RecvK)) (t : Nat) (K : FuncId -> RecvK -> Ans) : Ans := @List.rec _ (fun _ => (FuncId -> RecvK -> Ans) -> Ans) (fun _ => false) (fun p _ ih K => @Bool.rec (fun _ => Ans) (ih K) (K p.2.1 p.2.2) (Nat.beq p.1 t)) tab K
theorem Zq {t : Nat} : ∀ {tab : List (TypeId × FuncId × RecvK)} {K : FuncId -> RecvK -> Ans}, Yo tab t K = true -> ∃ t' f rk, tab.find? (fun p => p.1 == t) = some (t', f, rk) /\ K f rk = true := by
 intro tab
 induction tab with
 | nil => intro K h; cases h
 | cons p tab ih =>
   intro K h;obtain ⟨a, f, rk⟩ := p
   rcases jf (show @Bool.rec (fun _ => Ans) (Yo tab t K) (K f rk) (Nat.beq a t) = true from h) with ⟨h1, h2⟩ | ⟨h1, h2⟩
   . have := zN h1; subst this;have e : (a == a) = true := beq_self_eq_true a;exact ⟨a, f, rk, by rw [List.find?_cons]; simp only [e], h2⟩
   . obtain ⟨t', f', rk', h3, h4⟩ := ih h2;have h1 := zE h1;have e : (a == t) = false := beq_eq_false_iff_ne.2 h1;exact ⟨t', f', rk', by rw [List.find?_cons]; simp only [e, h3], h4⟩
def jkQ (rk : RecvK) (u : U) (K : KU) : Ans := @RecvK.rec (fun _ => U -> KU -> Ans) (fun u K => K u) (fun off n u K => jb1 off n u K) rk u K
theorem jdh {rk : RecvK} {u : U} {K : KU} (h : jkQ rk u K = true) : ∃ r, ZW rk (toI u) = some (toI r) /\ K r = true := by
 cases rk with
 | same => exact ⟨u, rfl, h⟩
 | fld off n =>
   obtain ⟨r, h1, h2⟩ := Vn off n (.c (toI u)) u K ts0 ts0 h rfl;have h1 := h1 (fun _ _ _ => none) [] [];refine ⟨r, ?_, h2⟩;simp only [ja, Opd.get] at h1;split at h1
   . rename_i cs t heq;simp only [zO, zP] at heq;rw [heq.1];split at h1
     . rename_i w hw;simp only [rv, zO, Res.mk.injEq, true_and] at h1;simp only [ZW, hw, h1.1]
     . cases h1
   . cases h1
def Vc (cq : CQ) (yq : YQ) (q : QOp) (l : U) (h : H) (K : KH) (P : KH) : Ans := @QOp.rec (fun _ => CQ -> YQ -> U -> H -> KH -> KH -> Ans)
 (fun _ _ _ _ _ _ _ => false) (fun _ _ _ _ _ _ _ => false) (fun _ _ _ _ _ _ _ => false) (fun _ _ _ _ _ _ _ => false) (fun _ _ _ _ _ _ _ => false) (fun _ _ _ _ _ _ _ => false) (fun _ _ _ _ _ _ _ => false)
 (fun g cq _ l h K P => cq g l h K P)
 (fun g cq _ l h K _ => jd7 cq g l h K)
 (fun cq yq l h K P => uC l false fun u l => uO u fun t a b _ _ x => @Bool.rec (fun _ => Ans) (tst (Nat.beq t 4) (yq a l h K P)) (jcE b x l fun r => cq a r h K P) (Nat.beq t 7))
 (fun tab cq _ l h K P => uC l false fun u l => uO u fun t a _ _ _ x => tst (Nat.beq t 5) (Yo tab a fun f rk => jkQ rk x fun y => cq f (.cn y l) h K P))
 (fun _ _ _ _ _ _ _ => false)
 (fun _ _ l h _ P => uC l false fun u _ => uO u fun t _ _ _ _ _ => tst (Nat.beq t 5) (P u h))
 (fun _ _ _ _ _ _ => false) q cq yq l h K P
theorem jaF {cf : jo} {cq : CQ} {yq : YQ} (hc : CYS cf cq yq) {o : IOp} {q : QOp} (hq : QOK o q) {l : U} {h : H} {K P : KH} {σ : List IObj} {wr : List (Nat × Bool)} (hr : HR h σ wr) (hl : (toL l).length = (je o).length) (hk : Vc cq yq q l h K P = true) :
   ∃ p r h' t σ' wr', opV cf o (toL l) σ wr = some ⟨p, toI r, ⟨t, σ', wr'⟩⟩ /\ HR h' σ' wr' /\ h'.tr = h.tr /\ (p = false /\ K r h' = true \/ p = true /\ P r h' = true) := by
 letI : Globs := ⟨fun _ => none⟩
 cases q with
 | call g =>
   obtain ⟨xs, rfl⟩ := hq;obtain ⟨oo, r, h', h1, h2, h3, h4, h5⟩ := hc.c g l h K P σ wr hr hk;exact ⟨oo.pan, r, h', ts0, oo.σ, oo.wr ++ wr, by simp only [opV, IOp.with, ja, jM, stepCall, h1, jQ, h2], h3, h4, h5⟩
 | callp g =>
   obtain ⟨xs, rfl⟩ := hq;obtain ⟨r, ⟨t, h1⟩, h2⟩ := jaG hc (xs := xs) (σ := σ) (wr := wr) (show jd7 cq g l h K = true from hk);exact ⟨false, r, h, t, σ, wr, h1, hr, rfl, Or.inl ⟨rfl, h2⟩⟩
 | callv =>
   obtain ⟨f, xs, rfl⟩ := hq
   rcases jj (show uC l false (fun u l => uO u fun t a b _ _ x => @Bool.rec (fun _ => Ans) (tst (Nat.beq t 4) (yq a l h K P)) (jcE b x l fun r => cq a r h K P) (Nat.beq t 7)) = true from hk) with ⟨_, k1⟩ | ⟨u, l1, rfl, k1⟩
   . cases k1
   obtain ⟨t, a, b, c, d, x, rfl, k2⟩ := jq k1
   rcases jf k2 with ⟨k3, k4⟩ | ⟨_, k4⟩
   . have := zN k3; subst this;obtain ⟨r1, k5, k6⟩ := KT k4;obtain ⟨oo, r, h', h1, h2, h3, h4, h5⟩ := hc.c a r1 h K P σ wr hr k6;rw [k5] at h1;refine ⟨oo.pan, r, h', ts0, oo.σ, oo.wr ++ wr, ?_, h3, h4, h5⟩;rw [jn];simp only [opV, IOp.with, ja, kl, jct, jM, stepCall, h1, jQ, h2]
   . obtain ⟨k5, k6⟩ := jb k4;have := zN k5; subst this;obtain ⟨oo, r, h', h1, h2, h3, h4, h5⟩ := hc.y a l1 h K P σ wr hr k6;refine ⟨oo.pan, r, h', ts0, oo.σ, oo.wr ++ wr, ?_, h3, h4, h5⟩;rw [jn];simp only [opV, IOp.with, ja, kl, jmP, jM, stepCall, h1, jQ, h2]
 | inv tab =>
   obtain ⟨x, xs, rfl⟩ := hq
   rcases jj (show uC l false (fun u l => uO u fun t a _ _ _ x => tst (Nat.beq t 5) (Yo tab a fun f rk => jkQ rk x fun y => cq f (.cn y l) h K P)) = true from hk) with ⟨_, k1⟩ | ⟨u, l1, rfl, k1⟩
   . cases k1
   obtain ⟨t, a, b, c, d, y, rfl, k2⟩ := jq k1;obtain ⟨k3, k4⟩ := jb k2;have := zN k3; subst this;obtain ⟨t', f, rk, k5, k6⟩ := Zq k4;obtain ⟨z, k7, k8⟩ := jdh k6;obtain ⟨oo, r, h', h1, h2, h3, h4, h5⟩ := hc.c f (.cn z l1) h K P σ wr hr k8;rw [jn] at h1;refine ⟨oo.pan, r, h', ts0, oo.σ, oo.wr ++ wr, ?_, h3, h4, h5⟩;rw [jn];simp only [opV, IOp.with, ja, kl, KN, k5, k7, jM, stepCall, h1, jQ, h2]
 | pan =>
   obtain ⟨x, rfl⟩ := hq
   rcases jj (show uC l false (fun u _ => uO u fun t _ _ _ _ _ => tst (Nat.beq t 5) (P u h)) = true from hk) with ⟨_, k1⟩ | ⟨u, l1, rfl, k1⟩
   . cases k1
   obtain ⟨t, a, b, c, d, y, rfl, k1⟩ := jq k1;obtain ⟨k3, k1⟩ := jb k1;have := zN k3; subst this;have hl1 : toL l1 = [] := by
     rw [jn] at hl;exact List.length_eq_zero_iff.1 (by simpa [je] using hl)
   refine ⟨true, _, h, ts0, σ, wr, ?_, hr, rfl, Or.inr ⟨rfl, k1⟩⟩;rw [jn, hl1, KN];simp only [opV, IOp.with, ja, kl]
 | _ => cases hk
def jfW (i : Nat) (w x : U) (K : U -> Ans) : Ans := @Nat.rec (fun _ => U -> U -> (U -> Ans) -> Ans) (fun w x K => uC x false fun _ r => K (.cn w r)) (fun _ ih w x K => uC x false fun v r => ih w r fun r' => K (.cn v r')) i w x K
theorem jbs : ∀ {i : Nat} {w x : U} {K : U -> Ans}, jfW i w x K = true -> ∃ r, toL r = (toL x).set i (toI w) /\ K r = true := by
 intro i
 induction i with
 | zero =>
   intro w x K h
   rcases jj (show uC x false (fun _ r => K (.cn w r)) = true from h) with ⟨_, h2⟩ | ⟨v, r, rfl, h2⟩
   . cases h2
   . exact ⟨_, by rw [jn, jn]; rfl, h2⟩
 | succ i ih =>
   intro w x K h
   rcases jj (show uC x false (fun v r => jfW i w r fun r' => K (.cn v r')) = true from h) with ⟨_, h2⟩ | ⟨v, r, rfl, h2⟩
   . cases h2
   . obtain ⟨r', h3, h4⟩ := ih h2;exact ⟨_, by rw [jn, jn, h3]; rfl, h4⟩
def Vl (i : Nat) (u : U) (K : U -> U -> Ans) : Ans := uO u fun t a _ _ _ x => tst (Nat.beq t 18) (jkB i x fun w => @Bool.rec (fun _ => Ans) (frc (V4 w) fun w' => K w' (.o 18 a 0 0 0 x)) (frc w fun w => frc (V4 w) fun w' => jfW i w' x fun x' => K w (.o 18 0 0 0 0 x')) (Nat.beq a 0))
theorem yH {i : Nat} {u : U} {K : U -> U -> Ans} (h : Vl i u K = true) : ∃ us w l, toI u = .tup us /\ us[i]? = some (toI w) /\ toI l = .tup (us.set i (un2 (toI w))) /\ K w l = true := by
 obtain ⟨t, a, b, c, d, x, rfl, h2⟩ := jq h;obtain ⟨h3, h4⟩ := jb h2;have := zN h3; subst this;obtain ⟨w, h5, h6⟩ := Jk h4
 rcases jf h6 with ⟨h7, h8⟩ | ⟨h7, h8⟩
 . have := zN h7; subst this;rw [yb, yb] at h8;obtain ⟨x', h9, h10⟩ := jbs h8;refine ⟨toL x, w, _, by rw [Qh, if_pos rfl], h5, ?_, h10⟩;rw [Qh, if_pos rfl, h9, qc]
 . have ha : a ≠ 0 := zE h7;rw [yb] at h8;refine ⟨(toL x).map un2, V4 w, _, by rw [Qh, if_neg ha], by rw [List.getElem?_map, h5, qc]; rfl, ?_, h8⟩;rw [Qh, if_neg ha, qc, V5]
   congr 1
   apply List.ext_getElem?;intro k;rw [List.getElem?_set, List.getElem?_map]
   by_cases e : i = k
   . subst e;rw [if_pos rfl, h5];have hi : i < (List.map un2 (toL x)).length := by
       rw [List.length_map]
       rcases Nat.lt_or_ge i (toL x).length with h | h
       . exact h
       . rw [List.getElem?_eq_none h] at h5; cases h5
     rw [if_pos hi]; rfl
   . rw [if_neg e]
def jjX (i : Nat) (x : QOpd) (e : Env) (st : U) (K : U -> Env -> U -> Ans) : Ans := @QOpd.rec (fun _ => Nat -> Env -> U -> (U -> Env -> U -> Ans) -> Ans)
 (fun ix i e st K => KC (.v ix) e st fun u e => Vl i u fun w _ => K w e st)
 (fun ix i e st K => jaQ ix e fun u => Vl i u fun w l => Js ix e l fun e => K w e st)
 (fun d i e st K => stK d st fun u => Vl i u fun w l => jin d l st fun st => K w e st)
 (fun d i e st K => KC (.u d) e st fun u e => Vl i u fun w _ => K w e st)
 (fun _ _ _ _ _ => false)
 (fun u i e st K => Vl i u fun w _ => K w e st) x i e st K
theorem jcX {cf : jo} {i : Nat} {x : XOpd} {o : XOper} {y : Opd} (ho : o.op = .extract y i) (hx : o.xs = [x]) {e : Env} {st : U} {h : H} {s : XS} (R : QR e st h s) {K : U -> Env -> U -> Ans} (hk : jjX i (yB x) e st K = true) :
   ∃ r e' st' s', xop cf o s = some ⟨false, toI r, s'⟩ /\ QR e' st' h s' /\ K r e' st' = true := by
 obtain ⟨op, xs, p, d, g⟩ := o;simp only at ho hx;subst ho hx
 cases x with
 | v j =>
   obtain ⟨u, vs', e', h1, h2, h3, h4⟩ := kv (x := .v j) (show KC (yB (.v j)) e st (fun u e => Vl i u fun w _ => K w e st) = true from hk) R.v R.st;obtain ⟨us, w, l, h5, h6, _, h7⟩ := yH h4;rw [h5] at h1;exact ⟨w, e', st, { s with vs := vs' }, by simp only [xop, h1, h6], ⟨h2, R.st, by rw [h3]; exact R.ds, R.h⟩, h7⟩
 | m j =>
   have hk : jaQ (Vw j) e (fun u => Vl i u fun w l => Js (Vw j) e l fun e => K w e st) = true := hk;rw [Yq, zZ] at hk;obtain ⟨us, w, l, h5, h6, h7, h8⟩ := yH hk;rw [yj, zZ] at h8;have hne : Vf e j ≠ .nl := fun e1 => by rw [e1] at h5; cases h5; simp at h6
   have hv := R.v j hne;rw [h5] at hv;refine ⟨w, _, st, { s with vs := Zc j (.tup (us.set i (un2 (toI w)))) (Zc j (un3 (.tup us)) s.vs) }, by simp only [xop, XOpd.get, hv, h6], ⟨?_, R.st, by rw [vZ]; exact R.ds, R.h⟩, h8⟩;intro k hk;rw [Vg] at hk ⊢;simp only [Ko];split
   . rename_i ek; rw [h7]
   . rename_i ek; rw [if_neg ek] at hk; exact R.v k hk
 | s d =>
   obtain ⟨u, h1, h2⟩ := Q2 (show stK d st (fun u => Vl i u fun w l => jin d l st fun st => K w e st) = true from hk) R.st;obtain ⟨us, w, l, h5, h6, h7, h8⟩ := yH h2;obtain ⟨st', h9, h10⟩ := jdx h8 R.st;rw [h7] at h9;rw [h5] at h1;exact ⟨w, e, st', { s with st := s.st.set d (.tup (us.set i (un2 (toI w)))) }, by simp only [xop, XOpd.get, h1, h6], ⟨R.v, h9, R.ds, R.h⟩, h10⟩
 | u d =>
   obtain ⟨u, vs', e', h1, h2, h3, h4⟩ := kv (x := .u d) (show KC (yB (.u d)) e st (fun u e => Vl i u fun w _ => K w e st) = true from hk) R.v R.st;obtain ⟨us, w, l, h5, h6, _, h7⟩ := yH h4;rw [h5] at h1;exact ⟨w, e', st, { s with vs := vs' }, by simp only [xop, h1, h6], ⟨h2, R.st, by rw [h3]; exact R.ds, R.h⟩, h7⟩
 | n d => cases hk
 | c v =>
   obtain ⟨us, w, l, h5, h6, _, h7⟩ := yH (show Vl i (rep v) (fun w _ => K w e st) = true from hk);rw [zy] at h5;subst h5;exact ⟨w, e, st, s, by simp only [xop, XOpd.get, h6], R, h7⟩
def one (xs : List QOpd) (K : QOpd -> Ans) : Ans := @List.rec QOpd (fun _ => (QOpd -> Ans) -> Ans) (fun _ => false) (fun x r _ K => @List.rec QOpd (fun _ => QOpd -> (QOpd -> Ans) -> Ans) (fun x K => K x) (fun _ _ _ _ _ => false) r x K) xs K
theorem QX {xs : List XOpd} {K : QOpd -> Ans} (h : one (xs.map yB) K = true) : ∃ x, xs = [x] /\ K (yB x) = true := by
 match xs, h with
 | [], h => cases h
 | [x], h => exact ⟨x, rfl, h⟩
 | _ :: _ :: _, h => cases h
def two (xs : List QOpd) (K : QOpd -> QOpd -> Ans) : Ans := @List.rec QOpd (fun _ => (QOpd -> QOpd -> Ans) -> Ans) (fun _ => false) (fun x r _ K => one r fun y => K x y) xs K
theorem jcv {xs : List XOpd} {K : QOpd -> QOpd -> Ans} (h : two (xs.map yB) K = true) : ∃ x y, xs = [x, y] /\ K (yB x) (yB y) = true := by
 cases xs with
 | nil => cases h
 | cons x xs =>
   obtain ⟨y, rfl, h2⟩ := QX (show one (xs.map yB) (fun y => K (yB x) y) = true from h);exact ⟨x, y, rfl, h2⟩
abbrev NV := U -> Env -> U -> H -> Ans
abbrev PV := U -> Env -> H -> Ans
structure CC where
 c : CQ
 y : YQ
def jly (f : U -> H -> (U -> H -> Ans) -> (U -> H -> Ans) -> Ans) (xs : List QOpd) (e : Env) (st : U) (h : H) (N : NV) (P : PV) : Ans := K8 xs e st fun l e => f l h (fun r h => N r e st h) (fun r h => P r e h)
def opQ (q : QOp) (xs : List QOpd) (cq : CQ) (yq : YQ) (e : Env) (st : U) (h : H) (N : NV) (P : PV) : Ans := @QOp.rec (fun _ => List QOpd -> CQ -> YQ -> Env -> U -> H -> NV -> PV -> Ans)
 (fun f xs _ _ e st h N _ => one xs fun x => KC x e st fun u e => f u fun r => N r e st h)
 (fun f xs _ _ e st h N _ => two xs fun x y => KC x e st fun u e => KC y e st fun v e => f u v fun r => N r e st h)
 (fun f xs _ _ e st h N _ => K8 xs e st fun l e => f l fun r => N r e st h)
 (fun f xs _ _ e st h N _ => K8 xs e st fun l e => uC l (f h fun r h => N r e st h) fun _ _ => false)
 (fun f xs _ _ e st h N _ => one xs fun x => KC x e st fun u e => f u h fun r h => N r e st h)
 (fun f xs _ _ e st h N _ => two xs fun x y => KC x e st fun u e => KC y e st fun v e => f u v h fun r h => N r e st h)
 (fun f xs _ _ e st h N _ => K8 xs e st fun l e => f l h fun r h => N r e st h)
 (fun g xs cq yq e st h N P => jly (fun l h K P => Vc cq yq (.call g) l h K P) xs e st h N P)
 (fun g xs cq yq e st h N P => jly (fun l h K P => Vc cq yq (.callp g) l h K P) xs e st h N P)
 (fun xs cq yq e st h N P => jly (fun l h K P => Vc cq yq .callv l h K P) xs e st h N P)
 (fun tab xs cq yq e st h N P => jly (fun l h K P => Vc cq yq (.inv tab) l h K P) xs e st h N P)
 (fun i xs _ _ e st h N _ => one xs fun x => jjX i x e st fun w e st => N w e st h)
 (fun xs cq yq e st h N P => jly (fun l h K P => Vc cq yq .pan l h K P) xs e st h N P)
 (fun _ _ _ _ _ _ _ _ => false) q xs cq yq e st h N P
theorem QJ {cf : jo} {o : XOper} {s : XS} {vals : List IVal} {vs : AL} {r : Res} (he : ¬ ∃ x i, o.op = .extract x i) (hg : jO o.xs s.vs s.st = some (vals, vs)) (hr : opV cf o.op vals s.σ s.wr = some r) : xop cf o s = some ⟨r.pan, r.v, { s with vs := vs, σ := r.s.σ, wr := r.s.wr }⟩ := by
 rw [jau he]; simp only [hg, hr]
theorem zq : ∀ {xs : List XOpd} {vs vs' : AL} {st ws : List IVal}, jO xs vs st = some (ws, vs') -> ws.length = xs.length := by
 intro xs
 induction xs with
 | nil => intro vs vs' st ws h; cases h; rfl
 | cons x xs ih =>
   intro vs vs' st ws h;simp only [jO] at h;split at h
   . split at h
     . rename_i h2; cases h; simp [ih h2]
     . cases h
   . cases h
theorem jhI {cf : jo} {cq : CQ} {yq : YQ} (hc : CYS cf cq yq) {o : XOper} {q : QOp} (hq : QOK o.op q) (hex : (∃ x i, o.op = .extract x i) -> ∃ i, q = .extr i) (hl : o.xs.length = (je o.op).length) {e : Env} {st : U} {h : H} {s : XS} (R : QR e st h s) {N : NV} {P : PV}
   (hk : opQ q (o.xs.map yB) cq yq e st h N P = true) : ∃ r e' st' h' p s', xop cf o s = some ⟨p, toI r, s'⟩ /\ QR e' st' h' s' /\ h'.tr = h.tr /\ (p = false /\ N r e' st' h' = true \/ p = true /\ P r e' h' = true) := by
 have call : ∀ {q : QOp}, QOK o.op q -> (¬ ∃ x i, o.op = .extract x i) -> jly (fun l h K P => Vc cq yq q l h K P) (o.xs.map yB) e st h N P = true -> ∃ r e' st' h' p s', xop cf o s = some ⟨p, toI r, s'⟩ /\ QR e' st' h' s' /\ h'.tr = h.tr /\ (p = false /\ N r e' st' h' = true \/ p = true /\ P r e' h' = true) := by
   intro q hq hne hk;obtain ⟨l, vs', e', h1, h2, h3, h4⟩ := qR hk R.v R.st;have hlen := zq h1;obtain ⟨p, r, h', t, σ', wr', h5, h6, h7, h8⟩ := jaF hc hq R.h (by rw [hlen, hl]) h4;exact ⟨r, e', st, h', p, _, QJ hne h1 h5, ⟨h2, R.st, by rw [h3]; exact R.ds, h6⟩, h7, h8⟩
 cases q with
 | extr i =>
   obtain ⟨y, ho⟩ := hq;obtain ⟨x, hx, h1⟩ := QX (show one (o.xs.map yB) (fun x => jjX i x e st fun w e st => N w e st h) = true from hk);obtain ⟨r, e', st', s', h2, h3, h4⟩ := jcX (cf := cf) ho hx R h1;exact ⟨r, e', st', h, false, s', h2, h3, rfl, Or.inl ⟨rfl, h4⟩⟩
 | bad => cases hk
 | call g => exact call hq (fun h => by obtain ⟨i, e⟩ := hex h; cases e) hk
 | callp g => exact call hq (fun h => by obtain ⟨i, e⟩ := hex h; cases e) hk
 | callv => exact call hq (fun h => by obtain ⟨i, e⟩ := hex h; cases e) hk
 | inv tab => exact call hq (fun h => by obtain ⟨i, e⟩ := hex h; cases e) hk
 | pan => exact call hq (fun h => by obtain ⟨i, e⟩ := hex h; cases e) hk
 | p1 f =>
   have hne : ¬ ∃ x i, o.op = .extract x i := fun h => by obtain ⟨i, e⟩ := hex h; cases e
   obtain ⟨x, hx, h1⟩ := QX (show one (o.xs.map yB) (fun x => KC x e st fun u e => f u fun r => N r e st h) = true from hk);obtain ⟨u, vs', e', h2, h3, h4, h5⟩ := kv h1 R.v R.st;obtain ⟨r, h6, h7⟩ := hq u _ h5;obtain ⟨t, h6⟩ := h6 cf s.σ s.wr;have hg : jO o.xs s.vs s.st = some ([toI u], vs') := by rw [hx]; simp only [jO, h2]
   exact ⟨r, e', st, h, false, _, QJ hne hg h6, ⟨h3, R.st, by rw [h4]; exact R.ds, R.h⟩, rfl, Or.inl ⟨rfl, h7⟩⟩
 | p2 f =>
   have hne : ¬ ∃ x i, o.op = .extract x i := fun h => by obtain ⟨i, e⟩ := hex h; cases e
   obtain ⟨x, y, hx, h1⟩ := jcv (show two (o.xs.map yB) (fun x y => KC x e st fun u e => KC y e st fun v e => f u v fun r => N r e st h) = true from hk);obtain ⟨u, vs', e', h2, h3, h4, h5⟩ := kv h1 R.v R.st;obtain ⟨v, vs2, e2, h6, h7, h8, h9⟩ := kv h5 h3 R.st;obtain ⟨r, h10, h11⟩ := hq u v _ h9;obtain ⟨t, h10⟩ := h10 cf s.σ s.wr;have hg : jO o.xs s.vs s.st = some ([toI u, toI v], vs2) := by rw [hx]; simp only [jO, h2, h6]
   exact ⟨r, e2, st, h, false, _, QJ hne hg h10, ⟨h7, R.st, by rw [h8, h4]; exact R.ds, R.h⟩, rfl, Or.inl ⟨rfl, h11⟩⟩
 | pL f =>
   have hne : ¬ ∃ x i, o.op = .extract x i := fun h => by obtain ⟨i, e⟩ := hex h; cases e
   obtain ⟨l, vs', e', h1, h2, h3, h4⟩ := qR (show K8 (o.xs.map yB) e st (fun l e => f l fun r => N r e st h) = true from hk) R.v R.st;obtain ⟨r, h5, h6⟩ := hq l _ h4 (by rw [zq h1, hl]);obtain ⟨t, h5⟩ := h5 cf s.σ s.wr;exact ⟨r, e', st, h, false, _, QJ hne h1 h5, ⟨h2, R.st, by rw [h3]; exact R.ds, R.h⟩, rfl, Or.inl ⟨rfl, h6⟩⟩
 | h0 f =>
   have hne : ¬ ∃ x i, o.op = .extract x i := fun h => by obtain ⟨i, e⟩ := hex h; cases e
   obtain ⟨l, vs', e', h1, h2, h3, h4⟩ := qR (show K8 (o.xs.map yB) e st (fun l e => uC l (f h fun r h => N r e st h) fun _ _ => false) = true from hk) R.v R.st
   rcases jj h4 with ⟨rfl, h5⟩ | ⟨_, _, _, h5⟩
   . obtain ⟨r, h', σ', wr', h6, h7, h8, h9⟩ := hq h _ s.σ s.wr R.h h5;obtain ⟨t, h6⟩ := h6 cf;exact ⟨r, e', st, h', false, _, QJ hne h1 h6, ⟨h2, R.st, by rw [h3]; exact R.ds, h7⟩, h8, Or.inl ⟨rfl, h9⟩⟩
   . cases h5
 | h1 f =>
   have hne : ¬ ∃ x i, o.op = .extract x i := fun h => by obtain ⟨i, e⟩ := hex h; cases e
   obtain ⟨x, hx, h1⟩ := QX (show one (o.xs.map yB) (fun x => KC x e st fun u e => f u h fun r h => N r e st h) = true from hk);obtain ⟨u, vs', e', h2, h3, h4, h5⟩ := kv h1 R.v R.st;obtain ⟨r, h', σ', wr', h6, h7, h8, h9⟩ := hq u h _ s.σ s.wr R.h h5;obtain ⟨t, h6⟩ := h6 cf;have hg : jO o.xs s.vs s.st = some ([toI u], vs') := by rw [hx]; simp only [jO, h2]
   exact ⟨r, e', st, h', false, _, QJ hne hg h6, ⟨h3, R.st, by rw [h4]; exact R.ds, h7⟩, h8, Or.inl ⟨rfl, h9⟩⟩
 | h2 f =>
   have hne : ¬ ∃ x i, o.op = .extract x i := fun h => by obtain ⟨i, e⟩ := hex h; cases e
   obtain ⟨x, y, hx, h1⟩ := jcv (show two (o.xs.map yB) (fun x y => KC x e st fun u e => KC y e st fun v e => f u v h fun r h => N r e st h) = true from hk);obtain ⟨u, vs', e', h2, h3, h4, h5⟩ := kv h1 R.v R.st;obtain ⟨v, vs2, e2, h6, h7, h8, h9⟩ := kv h5 h3 R.st;obtain ⟨r, h', σ', wr', h10, h11, h12, h13⟩ := hq u v h _ s.σ s.wr R.h h9;obtain ⟨t, h10⟩ := h10 cf;have hg : jO o.xs s.vs s.st = some ([toI u, toI v], vs2) := by rw [hx]; simp only [jO, h2, h6]
   exact ⟨r, e2, st, h', false, _, QJ hne hg h10, ⟨h7, R.st, by rw [h8, h4]; exact R.ds, h11⟩, h12, Or.inl ⟨rfl, h13⟩⟩
 | hL f =>
   have hne : ¬ ∃ x i, o.op = .extract x i := fun h => by obtain ⟨i, e⟩ := hex h; cases e
   obtain ⟨l, vs', e', h1, h2, h3, h4⟩ := qR (show K8 (o.xs.map yB) e st (fun l e => f l h fun r h => N r e st h) = true from hk) R.v R.st;obtain ⟨r, h', σ', wr', h5, h6, h7, h8⟩ := hq l h _ s.σ s.wr R.h h4 (by rw [zq h1, hl]);obtain ⟨t, h5⟩ := h5 cf;exact ⟨r, e', st, h', false, _, QJ hne h1 h5, ⟨h2, R.st, by rw [h3]; exact R.ds, h6⟩, h7, Or.inl ⟨rfl, h8⟩⟩
end
end Go.Idl
namespace Go.Idl
noncomputable section
set_option maxHeartbeats 100000
inductive QDst where
 | push
 | var (ix : Ix)
 | drop
def jhV : XDst -> QDst
 | .push => .push
 | .var i => .var (Vw i)
 | .drop => .drop
inductive QOper where
 | mk (q : QOp) (xs : List QOpd) (pop : Nat) (dst : QDst) (g : Option (QOpd × Bool)) (nr qt : Bool) (rk : Nat)
def jlt : IOp -> Bool
 | .append br _ _ _ _ _ => !br
 | .conv _ _ => true
 | _ => false
def ZV : IOp -> Nat
 | .load _ _ _ => 1
 | .lookup _ _ _ _ _ => 2
 | .lenM _ => 3
 | .store _ _ _ => 1
 | _ => 0
def Xt (o : XOper) : QOp := @Bool.rec (fun _ => QOp) .bad (qop o.op) (Nat.beq o.xs.length (je o.op).length)
def qg (g : Option (XOpd × Bool)) : Option (QOpd × Bool) := match g with | none => none | some (x, b) => some (yB x, b)
def JZ (o : XOper) : QOper := .mk (Xt o) (o.xs.map yB) o.pop (jhV o.dst) (qg o.g) (jlt o.op) (jz o.op) (ZV o.op)
theorem jhW {o : IOp} (h : ∃ x i, o = .extract x i) : ∃ i, qop o = .extr i := by
 obtain ⟨x, i, rfl⟩ := h;exact ⟨i, rfl⟩
def jgx (pop : Nat) (dst : QDst) (r : U) (e : Env) (st : U) (h : H) (N : NK) : Ans := joe pop st fun st => @QDst.rec (fun _ => U -> Env -> U -> H -> NK -> Ans)
 (fun r e st h N => N e (.cn r st) h) (fun ix r e st h N => Js ix e r fun e => N e st h) (fun _ e st h N => N e st h) dst r e st h N
theorem Jp {o : XOper} {r : U} {e : Env} {st : U} {h : H} {N : NK} {s : XS} (hk : jgx o.pop (jhV o.dst) r e st h N = true) (R : QR e st h s) : ∃ e' st', QR e' st' h (jav o (toI r) s) /\ N e' st' h = true := by
 obtain ⟨st1, h1, h2⟩ := jfB hk R.st;unfold jav
 cases hd : o.dst with
 | push =>
   rw [hd] at h2;exact ⟨e, .cn r st1, ⟨R.v, (show toI r = toI r /\ StR st1 _ from ⟨rfl, h1⟩), R.ds, R.h⟩, h2⟩
 | var i =>
   rw [hd] at h2;have h2 : Js (Vw i) e r (fun e => N e st1 h) = true := h2;rw [yj, zZ] at h2;exact ⟨_, st1, ⟨R.v.set i r, h1, by rw [vZ]; exact R.ds, R.h⟩, h2⟩
 | drop =>
   rw [hd] at h2;exact ⟨e, st1, ⟨R.v, h1, R.ds, R.h⟩, h2⟩
theorem jiv {t a b c d : Nat} {x : U} {v : Bool} : toI (.o t a b c d x) ≠ .bool v := by
 simp only [toI, toT];unfold toO;split <;> (intro h; cases h)
theorem jge {t a b c d : Nat} {x : U} {id off : Nat} (h : toI (.o t a b c d x) = .ptr id off) : t = 1 /\ a = id := by
 simp only [toI, toT] at h;unfold toO at h;split at h <;> first | (cases h; exact ⟨rfl, rfl⟩) | cases h
theorem jgd {t a b c d : Nat} {x : U} {id : Nat} (h : toI (.o t a b c d x) = .map id) : t = 3 /\ a = id := by
 simp only [toI, toT] at h;unfold toO at h;split at h <;> first | (cases h; exact ⟨rfl, rfl⟩) | cases h
def jmZ (a b : Bool) : Bool := @Bool.rec (fun _ => Bool) (@Bool.rec (fun _ => Bool) true false b) b a
theorem jdZ (a b : Bool) : jmZ a b = (a == b) := by cases a <;> cases b <;> rfl
def Vs (g : Option (QOpd × Bool)) (e : Env) (st : U) (D S : Ans) : Ans := @Option.rec (QOpd × Bool) (fun _ => Env -> U -> Ans -> Ans -> Ans) (fun _ _ D _ => D)
 (fun p e st D S => KC p.1 e st fun v _ => (@U.rec (fun _ => Bool -> Ans -> Ans -> Ans) (fun _ _ => fun _ _ S => S) (fun x => fun b D S => @Bool.rec (fun _ => Ans) S D (jmZ x b)) (fun _ _ => fun _ _ S => S) (fun _ _ _ _ _ _ _ => fun _ _ S => S) (fun _ _ S => S) (fun _ _ _ _ => fun _ _ S => S) (fun _ _ _ _ _ _ => fun _ _ S => S) (fun v => fun _ _ _ => false) (fun _ _ _ _ _ _ _ => fun _ _ S => S) v) p.2 D S) g e st D S
theorem Kb {g : Option (XOpd × Bool)} {e : Env} {st : U} {D S : Ans} {vs : AL} {l : List IVal} (h : Vs (qg g) e st D S = true) (hv0 : VarQ e vs) (R : StR st l) : (Xh g vs l = some true /\ D = true) \/ (Xh g vs l = some false /\ S = true) := by
 cases g with
 | none => exact Or.inl ⟨rfl, h⟩
 | some p =>
   obtain ⟨d, b⟩ := p;obtain ⟨v, _, _, h1, _, _, h2⟩ := kv (show KC (yB d) e st (fun v _ => (@U.rec (fun _ => Bool -> Ans -> Ans -> Ans) (fun _ _ => fun _ _ S => S) (fun x => fun b D S => @Bool.rec (fun _ => Ans) S D (jmZ x b)) (fun _ _ => fun _ _ S => S) (fun _ _ _ _ _ _ _ => fun _ _ S => S) (fun _ _ S => S) (fun _ _ _ _ => fun _ _ S => S) (fun _ _ _ _ _ _ => fun _ _ S => S) (fun v => fun _ _ _ => false) (fun _ _ _ _ _ _ _ => fun _ _ S => S) v) b D S) = true from h) hv0 R
   cases v with
   | b x =>
     rcases jf (show @Bool.rec (fun _ => Ans) S D (jmZ x b) = true from h2) with ⟨h3, h4⟩ | ⟨h3, h4⟩
     . rw [jdZ] at h3;exact Or.inl ⟨by simp only [Xh, h1, Xx, h3], h4⟩
     . rw [jdZ] at h3;exact Or.inr ⟨by simp only [Xh, h1, Xx, h3], h4⟩
   | z v => cases h2
   | o t a b c d x =>
     refine Or.inr ⟨?_, h2⟩
     cases hv : toI (.o t a b c d x) with
     | bool q => exact absurd hv jiv
     | _ => simp only [Xh, h1, hv]
   | _ => exact Or.inr ⟨by simp only [Xh, h1]; rfl, h2⟩
theorem jhX (o : XOper) : QOK o.op (Xt o) /\ ((∃ x i, o.op = .extract x i) -> ∃ i, Xt o = .extr i) /\ o.xs.length = (je o.op).length \/ Xt o = .bad := by
 unfold Xt;rw [vV];split
 . rename_i h;exact Or.inl ⟨jmE o.op, jhW, zN h⟩
 . exact Or.inr rfl
theorem jbX {cf : jo} {cq : CQ} {yq : YQ} (hc : CYS cf cq yq) {o : XOper} {e : Env} {st : U} {h : H} {s : XS} (R : QR e st h s) {N : NV} {P : PV}
   (hk : opQ (Xt o) (o.xs.map yB) cq yq e st h N P = true) : ∃ r e' st' h' p s', xop cf o s = some ⟨p, toI r, s'⟩ /\ QR e' st' h' s' /\ h'.tr = h.tr /\ (p = false /\ N r e' st' h' = true \/ p = true /\ P r e' h' = true) := by
 rcases jhX o with ⟨h1, h2, h3⟩ | h1
 . exact jhI hc h1 h2 h3 R hk
 . rw [h1] at hk; cases hk
def jlw (l : List QOper) (cq : CQ) (yq : YQ) (e : Env) (st : U) (h : H) (N : NK) (P : PV) : Ans := @List.rec QOper (fun _ => CQ -> YQ -> Env -> U -> H -> NK -> PV -> Ans)
 (fun _ _ e st h N _ => N e st h)
 (fun o _ ih cq yq e st h N P => @QOper.rec (fun _ => (CQ -> YQ -> Env -> U -> H -> NK -> PV -> Ans) -> CQ -> YQ -> Env -> U -> H -> NK -> PV -> Ans) (fun q xs pop dst g _ _ _ ih cq yq e st h N P =>
   Vs g e st (opQ q xs cq yq e st h (fun r e st h => jgx pop dst r e st h fun e st h => ih cq yq e st h N P) P) (jgx pop dst V6 e st h fun e st h => ih cq yq e st h N P)) o ih cq yq e st h N P) l cq yq e st h N P
theorem Z2 {cf : jo} {cq : CQ} {yq : YQ} (hc : CYS cf cq yq) : ∀ {l : List XOper} {e : Env} {st : U} {h : H} {s : XS} {N : NK} {P : PV}, QR e st h s -> jlw (l.map JZ) cq yq e st h N P = true ->
   (∃ e' st' h' s', X9 cf l s = some (.normal, s') /\ QR e' st' h' s' /\ h'.tr = h.tr /\ N e' st' h' = true) \/ (∃ r e' st' h' s', X9 cf l s = some (.panic (toI r), s') /\ QR e' st' h' s' /\ h'.tr = h.tr /\ P r e' h' = true) := by
 intro l
 induction l with
 | nil => intro e st h s N P R hk; exact Or.inl ⟨e, st, h, s, rfl, R, rfl, hk⟩
 | cons o l ih =>
   intro e st h s N P R hk
   rcases Kb (show Vs (qg o.g) e st (opQ (Xt o) (o.xs.map yB) cq yq e st h (fun r e st h => jgx o.pop (jhV o.dst) r e st h fun e st h => jlw (l.map JZ) cq yq e st h N P) P) (jgx o.pop (jhV o.dst) V6 e st h fun e st h => jlw (l.map JZ) cq yq e st h N P) = true from hk) R.v R.st with ⟨h1, h2⟩ | ⟨h1, h2⟩
   . obtain ⟨r, e', st', h', p, s', h3, R1, h4, h5⟩ := jbX hc R h2
     rcases h5 with ⟨rfl, h6⟩ | ⟨rfl, h6⟩
     . obtain ⟨e2, st2, R2, h7⟩ := Jp h6 R1
       rcases ih R2 h7 with ⟨e3, st3, h3', s3, g1, g2, g3, g4⟩ | ⟨r3, e3, st3, h3', s3, g1, g2, g3, g4⟩
       . exact Or.inl ⟨e3, st3, h3', s3, by simp only [X9, h1, h3, g1], g2, g3.trans h4, g4⟩
       . exact Or.inr ⟨r3, e3, st3, h3', s3, by simp only [X9, h1, h3, g1], g2, g3.trans h4, g4⟩
     . exact Or.inr ⟨r, e', st', h', s', by simp only [X9, h1, h3], R1, h4, h6⟩
   . obtain ⟨e2, st2, R2, h7⟩ := Jp h2 R;rw [V7] at R2
     rcases ih R2 h7 with ⟨e3, st3, h3', s3, g1, g2, g3, g4⟩ | ⟨r3, e3, st3, h3', s3, g1, g2, g3, g4⟩
     . exact Or.inl ⟨e3, st3, h3', s3, by simp only [X9, h1, g1], g2, g3, g4⟩
     . exact Or.inr ⟨r3, e3, st3, h3', s3, by simp only [X9, h1, g1], g2, g3, g4⟩
def jek (a b : Nat) : Nat := @Bool.rec (fun _ => Nat) (@Bool.rec (fun _ => Nat) (@Bool.rec (fun _ => Nat) b a (Nat.blt a b)) a (Nat.beq b 0)) b (Nat.beq a 0)
theorem jel (a b n0 : Nat) : (jek a b = 0 \/ n0 < jek a b) ↔ ((a = 0 \/ n0 < a) /\ (b = 0 \/ n0 < b)) := by
 unfold jek;rw [vV, vV, vV];split
 . rename_i h; have := zN h; subst this; simp
 . rename_i h1;have h1 : a ≠ 0 := fun e => by subst e; exact h1 rfl
   split
   . rename_i h; have := zN h; subst this; simp
   . rename_i h2;have h2 : b ≠ 0 := fun e => by subst e; exact h2 rfl
     split
     . rename_i h; have := jy h; omega
     . rename_i h;have h : Nat.blt a b = false := by cases hh : Nat.blt a b with | false => rfl | true => exact absurd hh h
       have := vG h; omega
def QN (tr : Bool) (a b : List Nat) : List Nat := @Bool.rec (fun _ => List Nat) b (a ++ b) tr
theorem HR.fresh {h : H} {σ : List IObj} {wr : List (Nat × Bool)} (R : HR h σ wr) (tr : Bool) (ws : List Nat) : HR ⟨h.n, h.t, 0, tr, ws⟩ σ [] := ⟨R.len, R.obs, fun _ p hp => (by cases hp), fun n0 => (by simp)⟩
theorem HR.join {h h' : H} {σ σ' : List IObj} {wr wr' : List (Nat × Bool)} (R : HR h σ wr) (R' : HR h' σ' wr') (ht : h.tr = true -> h'.tr = true) : HR ⟨h'.n, h'.t, jek h'.mn h.mn, h.tr, QN h.tr h'.ws h.ws⟩ σ' (wr' ++ wr) := by
 refine ⟨R'.len, R'.obs, fun htr p hp => ?_, fun n0 => ?_⟩
 . have htr : h.tr = true := htr;show p.1 ∈ QN h.tr h'.ws h.ws;rw [htr]
   rcases List.mem_append.1 hp with hp | hp
   . exact List.mem_append_left _ (R'.hwr (ht htr) p hp)
   . exact List.mem_append_right _ (R.hwr htr p hp)
 . rw [List.all_append, zA, R'.hmn n0, R.hmn n0];exact (jel _ _ _).symm
def Qs (u : U) : Bool := (@U.rec (fun _ => Bool) (fun _ _ => true) (fun _ => true) (fun _ _ => true) (fun t a b c d x _ => jcb (Nat.beq t 2)) (true) (fun _ _ _ _ => true) (fun _ _ _ _ _ _ => true) (fun v => false) (fun _ _ _ _ _ _ _ => true) u)
theorem jfz {u : U} (h : Qs u = true) : ∀ e id off len, toI u ≠ .rs e id off len := by
 intro e id off len
 cases u with
 | o t a b c d x =>
   have h : jcb (Nat.beq t 2) = true := h;have h2 : t ≠ 2 := fun e => by subst e; cases h
   simp only [toI, toT];unfold toO;split <;> first | (exact absurd rfl h2) | (intro h; cases h)
 | z v => cases h
 | _ => intro h; cases h
theorem jca {op : IOp} {l : U} (h : zD Qs l = true) : YB op (toL l) = true := by
 have hall : ∀ v ∈ toL l, ∀ e id off len, v ≠ .rs e id off len := by
   intro v hv;have : ∀ {l : U}, zD Qs l = true -> ∀ v ∈ toL l, ∀ e id off len, v ≠ .rs e id off len := by
     intro l
     induction l with
     | cn u r _ ih =>
       intro h v hv;have h : @Bool.rec (fun _ => Bool) false (zD Qs r) (Qs u) = true := h;rw [vV] at h;split at h
       . rename_i hu;rw [jn] at hv
         rcases List.mem_cons.1 hv with rfl | hv
         . exact jfz hu
         . exact ih h v hv
       . cases h
     | _ => intro _ v hv; cases hv
   exact this h v hv
 unfold YB;split
 . rfl
 . rename_i e; exact absurd rfl (hall _ (by rw [e]; exact List.mem_cons_of_mem _ List.mem_cons_self) _ _ _ _)
 . rename_i e; exact absurd rfl (hall _ (by rw [e]; exact List.mem_cons_self) _ _ _ _)
 . rfl
theorem ZM {op : IOp} (h : jlt op = false) (vals : List IVal) : YB op vals = true := by
 cases op
 case append br _ _ _ _ _ => cases br <;> first | rfl | cases h
 all_goals first | rfl | cases h
structure QL where
 i : Nat
 rd : Option Nat
 ws : List Nat
 len : Nat
def rdQ (k : Nat) (l : U) (K : Option Nat -> Ans) : Ans := @Nat.rec (fun _ => U -> (Option Nat -> Ans) -> Ans) (fun _ K => K none)
 (fun k _ l K => uC l false fun u _ => (@U.rec (fun _ => Nat -> (Option Nat -> Ans) -> Ans) (fun _ _ => fun _ K => K none) (fun _ => fun _ K => K none) (fun _ _ => fun _ K => K none) (fun t a b c d x _ => fun k K => @Bool.rec (fun _ => Ans) (K none) (K (some a)) (Nat.beq t (@Bool.rec (fun _ => Nat) 3 1 (Nat.beq k 0)))) (fun _ K => K none) (fun _ _ _ _ => fun _ K => K none) (fun _ _ _ _ _ _ => fun _ K => K none) (fun v => fun _ _ => false) (fun _ _ _ _ _ _ _ => fun _ K => K none) u) k K) k l K
theorem jo5 {op : IOp} (h : ZV op = 0) (vals : List IVal) : rdV op vals = none := by
 cases op <;> first | rfl | cases h
theorem jh0 {m : Bool} {n : Option Nat} {x : Opd} {v : IVal} (h : ∀ id off, v ≠ .ptr id off) : rdV (.load m n x) [v] = none := by cases v <;> first | rfl | exact absurd rfl (h _ _)
theorem jdg {kk : Nat} {z : IVal} {ok : Bool} {x k : Opd} {v w : IVal} (h : ∀ id, v ≠ .map id) : rdV (.lookup kk z ok x k) [v, w] = none := by cases v <;> first | rfl | exact absurd rfl (h _)
theorem jfG {n : Nat} {x y : Opd} {v w : IVal} (h : ∀ id off, v ≠ .ptr id off) : rdV (.store n x y) [v, w] = none := by cases v <;> first | rfl | exact absurd rfl (h _ _)
theorem jhZ {x : Opd} {v : IVal} (h : ∀ id, v ≠ .map id) : rdV (.lenM x) [v] = none := by cases v <;> first | rfl | exact absurd rfl (h _)
theorem jhY {op : IOp} {l : U} {K : Option Nat -> Ans} (hl : (toL l).length = (je op).length) (h : rdQ (ZV op) l K = true) : K (rdV op (toL l)) = true := by
 by_cases h0 : ZV op = 0
 . rw [jo5 h0];rw [h0] at h;exact h
 . have hcases : (∃ m n x, op = .load m n x) \/ (∃ kk z ok x k, op = .lookup kk z ok x k) \/ (∃ x, op = .lenM x) \/ (∃ n x y, op = .store n x y) := by
     cases op <;> first | exact absurd rfl h0 | exact Or.inl ⟨_, _, _, rfl⟩ | exact Or.inr (Or.inl ⟨_, _, _, _, _, rfl⟩) | exact Or.inr (Or.inr (Or.inl ⟨_, rfl⟩)) | exact Or.inr (Or.inr (Or.inr ⟨_, _, _, rfl⟩))
   rcases hcases with ⟨m, n, x, rfl⟩ | ⟨kk, z, ok, x, k, rfl⟩ | ⟨x, rfl⟩ | ⟨n, x, x2, rfl⟩
   . rcases jj (show uC l false (fun u _ => (@U.rec (fun _ => Nat -> (Option Nat -> Ans) -> Ans) (fun _ _ => fun _ K => K none) (fun _ => fun _ K => K none) (fun _ _ => fun _ K => K none) (fun t a b c d x _ => fun k K => @Bool.rec (fun _ => Ans) (K none) (K (some a)) (Nat.beq t (@Bool.rec (fun _ => Nat) 3 1 (Nat.beq k 0)))) (fun _ K => K none) (fun _ _ _ _ => fun _ K => K none) (fun _ _ _ _ _ _ => fun _ K => K none) (fun v => fun _ _ => false) (fun _ _ _ _ _ _ _ => fun _ K => K none) u) 0 K) = true from h) with ⟨_, h2⟩ | ⟨u, r, rfl, h2⟩
     . cases h2
     have hr : toL r = [] := List.length_eq_zero_iff.1 (by rw [jn] at hl; simpa [je] using hl);rw [jn, hr]
     cases u with
     | o t a b c d y =>
       rcases jf (show @Bool.rec (fun _ => Ans) (K none) (K (some a)) (Nat.beq t 1) = true from h2) with ⟨h3, h4⟩ | ⟨h3, h4⟩
       . have := zN h3; subst this; exact h4
       . have h3 := zE h3;have e : rdV (.load m n x) [toI (.o t a b c d y)] = none := jh0 fun id off e => h3 (jge e).1;rw [e]; exact h4
     | z v => cases h2
     | _ => exact h2
   . rcases jj (show uC l false (fun u _ => (@U.rec (fun _ => Nat -> (Option Nat -> Ans) -> Ans) (fun _ _ => fun _ K => K none) (fun _ => fun _ K => K none) (fun _ _ => fun _ K => K none) (fun t a b c d x _ => fun k K => @Bool.rec (fun _ => Ans) (K none) (K (some a)) (Nat.beq t (@Bool.rec (fun _ => Nat) 3 1 (Nat.beq k 0)))) (fun _ K => K none) (fun _ _ _ _ => fun _ K => K none) (fun _ _ _ _ _ _ => fun _ K => K none) (fun v => fun _ _ => false) (fun _ _ _ _ _ _ _ => fun _ K => K none) u) 1 K) = true from h) with ⟨_, h2⟩ | ⟨u, r, rfl, h2⟩
     . cases h2
     obtain ⟨w, hr⟩ : ∃ w, toL r = [w] := List.length_eq_one_iff.1 (by rw [jn] at hl; simpa [je] using hl);rw [jn, hr]
     cases u with
     | o t a b c d y =>
       rcases jf (show @Bool.rec (fun _ => Ans) (K none) (K (some a)) (Nat.beq t 3) = true from h2) with ⟨h3, h4⟩ | ⟨h3, h4⟩
       . have := zN h3; subst this; exact h4
       . have h3 := zE h3;have e : rdV (.lookup kk z ok x k) [toI (.o t a b c d y), w] = none := jdg fun id e => h3 (jgd e).1;rw [e]; exact h4
     | z v => cases h2
     | _ => exact h2
   . rcases jj (show uC l false (fun u _ => (@U.rec (fun _ => Nat -> (Option Nat -> Ans) -> Ans) (fun _ _ => fun _ K => K none) (fun _ => fun _ K => K none) (fun _ _ => fun _ K => K none) (fun t a b c d x _ => fun k K => @Bool.rec (fun _ => Ans) (K none) (K (some a)) (Nat.beq t (@Bool.rec (fun _ => Nat) 3 1 (Nat.beq k 0)))) (fun _ K => K none) (fun _ _ _ _ => fun _ K => K none) (fun _ _ _ _ _ _ => fun _ K => K none) (fun v => fun _ _ => false) (fun _ _ _ _ _ _ _ => fun _ K => K none) u) 2 K) = true from h) with ⟨_, h2⟩ | ⟨u, r, rfl, h2⟩
     . cases h2
     have hr : toL r = [] := List.length_eq_zero_iff.1 (by rw [jn] at hl; simpa [je] using hl);rw [jn, hr]
     cases u with
     | o t a b c d y =>
       rcases jf (show @Bool.rec (fun _ => Ans) (K none) (K (some a)) (Nat.beq t 3) = true from h2) with ⟨h3, h4⟩ | ⟨h3, h4⟩
       . have := zN h3; subst this; exact h4
       . have h3 := zE h3;have e : rdV (.lenM x) [toI (.o t a b c d y)] = none := jhZ fun id e => h3 (jgd e).1;rw [e]; exact h4
     | z v => cases h2
     | _ => exact h2
   . rcases jj (show uC l false (fun u _ => (@U.rec (fun _ => Nat -> (Option Nat -> Ans) -> Ans) (fun _ _ => fun _ K => K none) (fun _ => fun _ K => K none) (fun _ _ => fun _ K => K none) (fun t a b c d x _ => fun k K => @Bool.rec (fun _ => Ans) (K none) (K (some a)) (Nat.beq t (@Bool.rec (fun _ => Nat) 3 1 (Nat.beq k 0)))) (fun _ K => K none) (fun _ _ _ _ => fun _ K => K none) (fun _ _ _ _ _ _ => fun _ K => K none) (fun v => fun _ _ => false) (fun _ _ _ _ _ _ _ => fun _ K => K none) u) 0 K) = true from h) with ⟨_, h2⟩ | ⟨u, r, rfl, h2⟩
     . cases h2
     obtain ⟨w, hr⟩ : ∃ w, toL r = [w] := List.length_eq_one_iff.1 (by rw [jn] at hl; simpa [je] using hl);rw [jn, hr]
     cases u with
     | o t a b c d y =>
       rcases jf (show @Bool.rec (fun _ => Ans) (K none) (K (some a)) (Nat.beq t 1) = true from h2) with ⟨h3, h4⟩ | ⟨h3, h4⟩
       . have := zN h3; subst this; exact h4
       . have h3 := zE h3;have e : rdV (.store n x x2) [toI (.o t a b c d y), w] = none := jfG fun id off e => h3 (jge e).1;rw [e]; exact h4
     | z v => cases h2
     | _ => exact h2
end
end Go.Idl
namespace Go.Idl
noncomputable section
set_option maxHeartbeats 100000
theorem jcy {cf : jo} {o : XOper} {s : XS} {r : XRes} (h : xop cf o s = some r) : ∃ vals vs, jO o.xs s.vs s.st = some (vals, vs) := by
 by_cases he : ∃ x i, o.op = .extract x i
 . obtain ⟨op, xs, p, d, g⟩ := o;obtain ⟨x, i, e⟩ := he;simp only at e;subst e;simp only [xop] at h;split at h
   . split at h
     . rename_i us vs hg;exact ⟨[.tup us], vs, by simp only [jO, hg]⟩
     . cases h
   . cases h
 . rw [jau he] at h;split at h
   . rename_i hg; exact ⟨_, _, hg⟩
   . cases h
def nrQ (nr : Bool) (xs : List QOpd) (e : Env) (st : U) (K : Ans) : Ans := @Bool.rec (fun _ => Ans) K (K8 xs e st fun l _ => tst (zD Qs l) K) nr
theorem jhE {o : XOper} {e : Env} {st : U} {h : H} {s : XS} {K : Ans} (hk : nrQ (jlt o.op) (o.xs.map yB) e st K = true) (R : QR e st h s) : K = true /\ ∀ vals vs, jO o.xs s.vs s.st = some (vals, vs) -> YB o.op vals = true := by
 rcases jf hk with ⟨h1, h2⟩ | ⟨h1, h2⟩
 . obtain ⟨l, vs', e', h3, _, _, h4⟩ := qR h2 R.v R.st;obtain ⟨h5, h6⟩ := jb h4;refine ⟨h6, fun vals vs hg => ?_⟩;rw [h3] at hg;cases hg;exact jca h5
 . exact ⟨h2, fun vals vs _ => ZM h1 vals⟩
def apart (tr' : Bool) (q : QOp) (xs : List QOpd) (pop : Nat) (dst : QDst) (cq : CQ) (yq : YQ) (e : Env) (st : U) (h : H) (N : Env -> U -> H -> List Nat -> Ans) (P : PV) : Ans :=
 hK h fun n t mn tr ws => opQ q xs cq yq e st ⟨n, t, 0, tr', []⟩ (fun r e st h' => hK h' fun n' t' mn' _ ws' => fN (jek mn' mn) fun m => jgx pop dst r e st ⟨n', t', m, tr, QN tr ws' ws⟩ fun e st h => N e st h ws')
   fun r e h' => hK h' fun n' t' mn' _ ws' => fN (jek mn' mn) fun m => P r e ⟨n', t', m, tr, QN tr ws' ws⟩
theorem XB {cf : jo} {cq : CQ} {yq : YQ} (hc : CYS cf cq yq) {o : XOper} {tr' : Bool} {e : Env} {st : U} {h : H} {s : XS} (R : QR e st h s) (htr : h.tr = true -> tr' = true) {N : Env -> U -> H -> List Nat -> Ans} {P : PV}
   (hk : apart tr' (Xt o) (o.xs.map yB) o.pop (jhV o.dst) cq yq e st h N P = true) :
   (∃ v s1 e' st' h' ws, xop cf o { s with wr := [] } = some ⟨false, v, s1⟩ /\ QR e' st' h' { jav o v s1 with wr := s1.wr ++ s.wr } /\ h'.tr = h.tr /\ (tr' = true -> ∀ p ∈ s1.wr, p.1 ∈ ws) /\ N e' st' h' ws = true) \/
   (∃ r s1 e' st' h', xop cf o { s with wr := [] } = some ⟨true, toI r, s1⟩ /\ QR e' st' h' { s1 with wr := s1.wr ++ s.wr } /\ h'.tr = h.tr /\ P r e' h' = true) := by
 unfold apart at hk;rw [K4] at hk;have R0 : QR e st ⟨h.n, h.t, 0, tr', []⟩ { s with wr := [] } := ⟨R.v, R.st, R.ds, R.h.fresh tr' []⟩;obtain ⟨r, e1, st1, h1, p, s1, h2, R1, h3, h4⟩ := jbX hc R0 hk;have ht1 : h1.tr = tr' := h3;have RJ : QR e1 st1 ⟨h1.n, h1.t, jek h1.mn h.mn, h.tr, QN h.tr h1.ws h.ws⟩ { s1 with wr := s1.wr ++ s.wr } := ⟨R1.v, R1.st, R1.ds, R.h.join R1.h (fun h => by rw [ht1]; exact htr h)⟩
 rcases h4 with ⟨rfl, h5⟩ | ⟨rfl, h5⟩
 . rw [K4, jr] at h5;obtain ⟨e', st', R2, h6⟩ := Jp h5 RJ;refine Or.inl ⟨toI r, s1, e', st', ⟨h1.n, h1.t, jek h1.mn h.mn, h.tr, QN h.tr h1.ws h.ws⟩, h1.ws, h2, ?_, rfl, fun ht => R1.h.hwr (by rw [ht1]; exact ht), h6⟩;have e0 : jav o (toI r) { s1 with wr := s1.wr ++ s.wr } = { jav o (toI r) s1 with wr := s1.wr ++ s.wr } := by
     unfold jav; cases o.dst <;> rfl
   rw [<- e0]; exact R2
 . rw [K4, jr] at h5;exact Or.inr ⟨r, s1, e1, st1, _, h2, RJ, rfl, h5⟩
def jjF (js : List Nat) (e : Env) (K : Env -> Ans) : Ans := @List.rec Nat (fun _ => Env -> (Env -> Ans) -> Ans) (fun e K => K e) (fun j _ ih e K => Js (Vw j) e .nl fun e => ih e K) js e K
theorem jcJ : ∀ {js : List Nat} {e : Env} {K : Env -> Ans}, jjF js e K = true -> ∃ e', (∀ k, Vf e' k ≠ .nl -> k ∉ js /\ Vf e' k = Vf e k) /\ dsU e' = dsU e /\ K e' = true := by
 intro js
 induction js with
 | nil => intro e K hk; exact ⟨e, fun k _ => ⟨by simp, rfl⟩, rfl, hk⟩
 | cons j js ih =>
   intro e K hk;have hk : Js (Vw j) e .nl (fun e => jjF js e K) = true := hk;rw [yj, zZ] at hk;obtain ⟨e', h1, h2, h3⟩ := ih hk;refine ⟨e', fun k hk => ?_, h2.trans (vZ _ _ _), h3⟩;obtain ⟨h4, h5⟩ := h1 k hk;rw [Vg] at h5;split at h5
   . exact absurd h5 hk
   . rename_i hne;refine ⟨fun hm => ?_, h5⟩
     rcases List.mem_cons.1 hm with rfl | hm
     . exact hne rfl
     . exact h4 hm
theorem Zi {js : List Nat} {e : Env} {K : Env -> Ans} {st : U} {h : H} {s : XS} (R : QR e st h s) (hk : jjF js e K = true) : ∃ e', QR e' .nl h { s with vs := jdT js s.vs, st := [] } /\ K e' = true := by
 obtain ⟨e', h1, h2, h3⟩ := jcJ hk;refine ⟨e', ⟨fun k hk => ?_, trivial, by rw [h2]; exact R.ds, R.h⟩, h3⟩;obtain ⟨h4, h5⟩ := h1 k hk;show Kn k (jdT js s.vs) = _;rw [Za, if_neg (fun hc => h4 (List.contains_iff_mem.1 hc)), h5];exact R.v k (by rw [<- h5]; exact hk)
def jmJ (l : List QOper) (cq : CQ) (yq : YQ) (e : Env) (st : U) (h : H) (N : NK) (P : PV) : Ans := @List.rec QOper (fun _ => CQ -> YQ -> Env -> U -> H -> NK -> PV -> Ans)
 (fun _ _ e st h N _ => N e st h)
 (fun o _ ih cq yq e st h N P => @QOper.rec (fun _ => (CQ -> YQ -> Env -> U -> H -> NK -> PV -> Ans) -> CQ -> YQ -> Env -> U -> H -> NK -> PV -> Ans) (fun q xs pop dst g nr _ _ ih cq yq e st h N P =>
   Vs g e st (nrQ nr xs e st (hK h fun _ _ _ tr _ => apart tr q xs pop dst cq yq e st h (fun e st h _ => ih cq yq e st h N P) P)) (jgx pop dst V6 e st h fun e st h => ih cq yq e st h N P)) o ih cq yq e st h N P) l cq yq e st h N P
theorem jfO {cf : jo} {cq : CQ} {yq : YQ} (hc : CYS cf cq yq) : ∀ {l : List (Nat × XOper)} {e : Env} {st : U} {h : H} {s : XS} {N : NK} {P : PV}, QR e st h s -> jmJ ((l.map (·.2)).map JZ) cq yq e st h N P = true ->
   (∃ e' st' h' s' log, jJ cf l s = some (none, s', log) /\ QR e' st' h' s' /\ h'.tr = h.tr /\ N e' st' h' = true) \/
   (∃ r lw e' st' h' s' log, jJ cf l s = some (some (toI r, lw), s', log) /\ QR e' st' h' s' /\ h'.tr = h.tr /\ P r e' h' = true) := by
 intro l
 induction l with
 | nil => intro e st h s N P R hk; exact Or.inl ⟨e, st, h, s, [], rfl, R, rfl, hk⟩
 | cons p l ih =>
   intro e st h s N P R hk;obtain ⟨i, o⟩ := p
   rcases Kb (show Vs (qg o.g) e st (nrQ (jlt o.op) (o.xs.map yB) e st (hK h fun _ _ _ tr _ => apart tr (Xt o) (o.xs.map yB) o.pop (jhV o.dst) cq yq e st h (fun e st h _ => jmJ ((l.map (·.2)).map JZ) cq yq e st h N P) P)) (jgx o.pop (jhV o.dst) V6 e st h fun e st h => jmJ ((l.map (·.2)).map JZ) cq yq e st h N P) = true from hk) R.v R.st with ⟨h1, h2⟩ | ⟨h1, h2⟩
   . obtain ⟨h3, h4⟩ := jhE h2 R;rw [K4] at h3
     rcases XB (cf := cf) hc R id h3 with ⟨v, s1, e', st', h', ws, h5, R1, h6, _, h7⟩ | ⟨r, s1, e', st', h', h5, R1, h6, h7⟩
     . obtain ⟨vals, vs, hg⟩ := jcy h5;have hno := h4 vals vs hg;have hg' : jO o.xs s.vs s.st = some (vals, vs) := hg;have hd : kL cf o s = some (none, { jav o v s1 with wr := s1.wr ++ s.wr }, ⟨rdV o.op vals, s1.wr, if jz o.op then 0 else s.σ.length⟩) := by
         unfold kL;rw [h1];simp only [hg'];rw [if_pos hno, h5]
       rcases ih R1 h7 with ⟨e2, st2, h2', s2, log, g1, g2, g3, g4⟩ | ⟨r, lw, e2, st2, h2', s2, log, g1, g2, g3, g4⟩
       . exact Or.inl ⟨e2, st2, h2', s2, _, by simp only [jJ, hd, g1]; rfl, g2, g3.trans h6, g4⟩
       . exact Or.inr ⟨r, lw, e2, st2, h2', s2, _, by simp only [jJ, hd, g1]; rfl, g2, g3.trans h6, g4⟩
     . obtain ⟨vals, vs, hg⟩ := jcy h5;have hno := h4 vals vs hg;have hg' : jO o.xs s.vs s.st = some (vals, vs) := hg;have hd : kL cf o s = some (some (toI r), { s1 with wr := s1.wr ++ s.wr }, ⟨rdV o.op vals, s1.wr, if jz o.op then 0 else s.σ.length⟩) := by
         unfold kL;rw [h1];simp only [hg'];rw [if_pos hno, h5]
       exact Or.inr ⟨r, _, e', st', h', _, _, by simp only [jJ, hd]; rfl, R1, h6, h7⟩
   . obtain ⟨e', st', R1, h7⟩ := Jp h2 R;rw [V7] at R1;have hd : kL cf o s = some (none, jav o ju s, ⟨none, [], if jz o.op then 0 else s.σ.length⟩) := by unfold kL; rw [h1]
     rcases ih R1 h7 with ⟨e2, st2, h2', s2, log, g1, g2, g3, g4⟩ | ⟨r, lw, e2, st2, h2', s2, log, g1, g2, g3, g4⟩
     . exact Or.inl ⟨e2, st2, h2', s2, _, by simp only [jJ, hd, g1]; rfl, g2, g3, g4⟩
     . exact Or.inr ⟨r, lw, e2, st2, h2', s2, _, by simp only [jJ, hd, g1]; rfl, g2, g3, g4⟩
def QLR (q : QL) (p : Nat × DLog) : Prop := q.i = p.1 /\ q.rd = p.2.rd /\ q.len = p.2.len /\ ∀ w ∈ p.2.wr, w.1 ∈ q.ws
def LogR : List QL -> List (Nat × DLog) -> Prop
 | [], [] => True
 | q :: qs, p :: ps => QLR q p /\ LogR qs ps
 | _, _ => False
def okQ (x y : QL) : Bool := match x.rd with
 | none => true
 | some id => decide (id < y.len) && y.ws.all fun w => w != id
def ZN (pairs : List (Nat × Nat)) (ls : List QL) : Bool := pairs.all fun p => ls.all fun x => x.i != p.1 || ls.all fun y => y.i != p.2 || okQ x y
theorem LogR.mem : ∀ {qs : List QL} {ps : List (Nat × DLog)}, LogR qs ps -> ∀ p ∈ ps, ∃ q ∈ qs, QLR q p := by
 intro qs
 induction qs with
 | nil => intro ps h p hp; cases ps with
   | nil => cases hp
   | cons _ _ => exact h.elim
 | cons q qs ih =>
   intro ps h p hp
   cases ps with
   | nil => cases hp
   | cons p' ps =>
     rcases List.mem_cons.1 hp with rfl | hp
     . exact ⟨q, List.mem_cons_self, h.1⟩
     . obtain ⟨q', h1, h2⟩ := ih h.2 p hp;exact ⟨q', List.mem_cons_of_mem _ h1, h2⟩
theorem ZO {pairs : List (Nat × Nat)} {qs : List QL} {ps : List (Nat × DLog)} (hR : LogR qs ps) (h : ZN pairs qs = true) : vw pairs ps = true := by
 unfold vw;rw [List.all_eq_true];intro p hp;rw [List.all_eq_true];intro x hx;obtain ⟨qx, hqx, hx1, hx2, hx3, hx4⟩ := hR.mem x hx;have h1 := List.all_eq_true.1 (List.all_eq_true.1 h p hp) qx hqx;rw [Bool.or_eq_true] at h1 ⊢
 rcases h1 with h1 | h1
 . exact Or.inl (by rw [<- hx1]; exact h1)
 . refine Or.inr ?_;rw [List.all_eq_true];intro y hy;obtain ⟨qy, hqy, hy1, hy2, hy3, hy4⟩ := hR.mem y hy;have h2 := List.all_eq_true.1 h1 qy hqy;rw [Bool.or_eq_true] at h2 ⊢
   rcases h2 with h2 | h2
   . exact Or.inl (by rw [<- hy1]; exact h2)
   . refine Or.inr ?_;unfold okQ at h2;unfold yg;rw [hx2] at h2
     cases hr : x.2.rd with
     | none => rfl
     | some id =>
       rw [hr] at h2;simp only [zA, decide_eq_true_eq] at h2 ⊢;refine ⟨by rw [<- hy3]; exact h2.1, ?_⟩;rw [List.all_eq_true];intro w hw;exact List.all_eq_true.1 h2.2 w.1 (hy4 w hw)
def jfN (l : List (Nat × QOper)) (cq : CQ) (yq : YQ) (e : Env) (st : U) (h : H) (N : Env -> U -> H -> List QL -> Ans) (P : U -> Env -> H -> List QL -> Ans) : Ans := @List.rec (Nat × QOper) (fun _ => CQ -> YQ -> Env -> U -> H -> (Env -> U -> H -> List QL -> Ans) -> (U -> Env -> H -> List QL -> Ans) -> Ans)
 (fun _ _ e st h N _ => N e st h [])
 (fun o _ ih cq yq e st h N P => @QOper.rec (fun _ => Nat -> (CQ -> YQ -> Env -> U -> H -> (Env -> U -> H -> List QL -> Ans) -> (U -> Env -> H -> List QL -> Ans) -> Ans) -> CQ -> YQ -> Env -> U -> H -> (Env -> U -> H -> List QL -> Ans) -> (U -> Env -> H -> List QL -> Ans) -> Ans) (fun q xs pop dst g nr qt rk i ih cq yq e st h N P =>
   Vs g e st (K8 xs e st fun l _ => tst (@Bool.rec (fun _ => Bool) true (zD Qs l) nr) (rdQ rk l fun rd => hK h fun n _ _ _ _ => apart true q xs pop dst cq yq e st h
       (fun e st h ws => ih cq yq e st h (fun e st h ls => N e st h (⟨i, rd, ws, @Bool.rec (fun _ => Nat) n 0 qt⟩ :: ls)) (fun r e h ls => P r e h (⟨i, rd, ws, @Bool.rec (fun _ => Nat) n 0 qt⟩ :: ls))) (fun r e h => P r e h [])))
     (hK h fun n _ _ _ _ => jgx pop dst V6 e st h fun e st h => ih cq yq e st h (fun e st h ls => N e st h (⟨i, none, [], @Bool.rec (fun _ => Nat) n 0 qt⟩ :: ls)) (fun r e h ls => P r e h (⟨i, none, [], @Bool.rec (fun _ => Nat) n 0 qt⟩ :: ls)))) o.2 o.1 ih cq yq e st h N P) l cq yq e st h N P
theorem jdl {cf : jo} {cq : CQ} {yq : YQ} (hc : CYS cf cq yq) : ∀ {l : List (Nat × XOper)} {e : Env} {st : U} {h : H} {s : XS} {N : Env -> U -> H -> List QL -> Ans} {P : U -> Env -> H -> List QL -> Ans}, (∀ p ∈ l, p.2.xs.length = (je p.2.op).length) -> QR e st h s -> jfN (l.map fun p => (p.1, JZ p.2)) cq yq e st h N P = true ->
   (∃ e' st' h' s' log ls, jJ cf l s = some (none, s', log) /\ LogR ls log /\ QR e' st' h' s' /\ h'.tr = h.tr /\ N e' st' h' ls = true) \/
   (∃ r lw e' st' h' s' log ls, jJ cf l s = some (some (toI r, lw), s', log) /\ LogR ls log /\ QR e' st' h' s' /\ h'.tr = h.tr /\ P r e' h' ls = true) := by
 intro l
 induction l with
 | nil => intro e st h s N P _ R hk; exact Or.inl ⟨e, st, h, s, [], [], rfl, trivial, R, rfl, hk⟩
 | cons p l ih =>
   intro e st h s N P hlen R hk;obtain ⟨i, o⟩ := p;have hlo : o.xs.length = (je o.op).length := hlen (i, o) List.mem_cons_self;have hll : ∀ p ∈ l, p.2.xs.length = (je p.2.op).length := fun p hp => hlen p (List.mem_cons_of_mem _ hp)
   rcases Kb (show Vs (qg o.g) e st (K8 (o.xs.map yB) e st fun l' _ => tst (@Bool.rec (fun _ => Bool) true (zD Qs l') (jlt o.op)) (rdQ (ZV o.op) l' fun rd => hK h fun n _ _ _ _ => apart true (Xt o) (o.xs.map yB) o.pop (jhV o.dst) cq yq e st h
       (fun e st h ws => jfN (l.map fun p => (p.1, JZ p.2)) cq yq e st h (fun e st h ls => N e st h (⟨i, rd, ws, @Bool.rec (fun _ => Nat) n 0 (jz o.op)⟩ :: ls)) (fun r e h ls => P r e h (⟨i, rd, ws, @Bool.rec (fun _ => Nat) n 0 (jz o.op)⟩ :: ls))) (fun r e h => P r e h [])))
     (hK h fun n _ _ _ _ => jgx o.pop (jhV o.dst) V6 e st h fun e st h => jfN (l.map fun p => (p.1, JZ p.2)) cq yq e st h (fun e st h ls => N e st h (⟨i, none, [], @Bool.rec (fun _ => Nat) n 0 (jz o.op)⟩ :: ls)) (fun r e h ls => P r e h (⟨i, none, [], @Bool.rec (fun _ => Nat) n 0 (jz o.op)⟩ :: ls))) = true from hk) R.v R.st with ⟨h1, h2⟩ | ⟨h1, h2⟩
   . obtain ⟨l', vs', e0, h3, _, _, h4⟩ := qR h2 R.v R.st;obtain ⟨h5, h6⟩ := jb h4;have h7 := jhY (by rw [zq h3, hlo]) h6;rw [K4] at h7;have hno : YB o.op (toL l') = true := by
       cases hnr : jlt o.op with
       | true => rw [hnr] at h5; exact jca h5
       | false => exact ZM hnr _
     rcases XB (cf := cf) hc R (fun _ => rfl) h7 with ⟨v, s1, e', st', h', ws, h8, R1, h9, h10, h11⟩ | ⟨r, s1, e', st', h', h8, R1, h9, h11⟩
     . have hd : kL cf o s = some (none, { jav o v s1 with wr := s1.wr ++ s.wr }, ⟨rdV o.op (toL l'), s1.wr, if jz o.op then 0 else s.σ.length⟩) := by
         unfold kL;rw [h1];simp only [h3];rw [if_pos hno, h8]
       have hQ : QLR ⟨i, rdV o.op (toL l'), ws, @Bool.rec (fun _ => Nat) h.n 0 (jz o.op)⟩ (i, ⟨rdV o.op (toL l'), s1.wr, if jz o.op then 0 else s.σ.length⟩) := by
         refine ⟨rfl, rfl, ?_, h10 rfl⟩;show @Bool.rec (fun _ => Nat) h.n 0 (jz o.op) = if jz o.op then 0 else s.σ.length
         rw [vV, R.h.len]
       rcases ih hll R1 h11 with ⟨e2, st2, h2', s2, log, ls, g1, g2, g3, g4, g5⟩ | ⟨r, lw, e2, st2, h2', s2, log, ls, g1, g2, g3, g4, g5⟩
       . exact Or.inl ⟨e2, st2, h2', s2, (i, ⟨rdV o.op (toL l'), s1.wr, if jz o.op then 0 else s.σ.length⟩) :: log, ⟨i, rdV o.op (toL l'), ws, @Bool.rec (fun _ => Nat) h.n 0 (jz o.op)⟩ :: ls, by simp only [jJ, hd, g1], And.intro hQ g2, g3, g4.trans h9, g5⟩
       . exact Or.inr ⟨r, lw, e2, st2, h2', s2, (i, ⟨rdV o.op (toL l'), s1.wr, if jz o.op then 0 else s.σ.length⟩) :: log, ⟨i, rdV o.op (toL l'), ws, @Bool.rec (fun _ => Nat) h.n 0 (jz o.op)⟩ :: ls, by simp only [jJ, hd, g1], And.intro hQ g2, g3, g4.trans h9, g5⟩
     . have hd : kL cf o s = some (some (toI r), { s1 with wr := s1.wr ++ s.wr }, ⟨rdV o.op (toL l'), s1.wr, if jz o.op then 0 else s.σ.length⟩) := by
         unfold kL;rw [h1];simp only [h3];rw [if_pos hno, h8]
       exact Or.inr ⟨r, _, e', st', h', _, [], [], by simp only [jJ, hd]; rfl, trivial, R1, h9, h11⟩
   . rw [K4] at h2;obtain ⟨e', st', R1, h7⟩ := Jp h2 R;rw [V7] at R1;have hd : kL cf o s = some (none, jav o ju s, ⟨none, [], if jz o.op then 0 else s.σ.length⟩) := by unfold kL; rw [h1]
     have hQ : QLR ⟨i, none, [], @Bool.rec (fun _ => Nat) h.n 0 (jz o.op)⟩ (i, ⟨none, [], if jz o.op then 0 else s.σ.length⟩) := ⟨rfl, rfl, by show @Bool.rec (fun _ => Nat) h.n 0 (jz o.op) = if jz o.op then 0 else s.σ.length; rw [vV, R.h.len], fun w hw => by cases hw⟩
     rcases ih hll R1 h7 with ⟨e2, st2, h2', s2, log, ls, g1, g2, g3, g4, g5⟩ | ⟨r, lw, e2, st2, h2', s2, log, ls, g1, g2, g3, g4, g5⟩
     . exact Or.inl ⟨e2, st2, h2', s2, (i, ⟨none, [], if jz o.op then 0 else s.σ.length⟩) :: log, ⟨i, none, [], @Bool.rec (fun _ => Nat) h.n 0 (jz o.op)⟩ :: ls, by simp only [jJ, hd, g1], And.intro hQ g2, g3, g4, g5⟩
     . exact Or.inr ⟨r, lw, e2, st2, h2', s2, (i, ⟨none, [], if jz o.op then 0 else s.σ.length⟩) :: log, ⟨i, none, [], @Bool.rec (fun _ => Nat) h.n 0 (jz o.op)⟩ :: ls, by simp only [jJ, hd, g1], And.intro hQ g2, g3, g4, g5⟩
end
end Go.Idl
namespace Go.Idl
noncomputable section
set_option maxHeartbeats 100000
theorem HR.congr {h : H} {σ : List IObj} {wr wr' : List (Nat × Bool)} (R : HR h σ wr) (hm : ∀ p, p ∈ wr' ↔ p ∈ wr) : HR h σ wr' := by
 refine ⟨R.len, R.obs, fun ht p hp => R.hwr ht p ((hm p).1 hp), fun n0 => ?_⟩;rw [<- R.hmn n0, List.all_eq_true, List.all_eq_true];exact ⟨fun h p hp => h p ((hm p).2 hp), fun h p hp => h p ((hm p).1 hp)⟩
def jl4 (n m : Nat) : Nat := @Bool.rec (fun _ => Nat) (@Bool.rec (fun _ => Nat) 0 m (Nat.blt (Nat.sub m 1) n)) 0 (Nat.beq m 0)
theorem jjZ {wr : List (Nat × Bool)} {m : Nat} (h : ∀ n0, (wr.all fun p => !p.2 || decide (n0 <= p.1)) = true ↔ (m = 0 \/ n0 < m)) (n n0 : Nat) :
   ((wr.filter fun p => decide (p.1 < n)).all fun p => !p.2 || decide (n0 <= p.1)) = true ↔ (jl4 n m = 0 \/ n0 < jl4 n m) := by
 have hall : ∀ n0, (m = 0 \/ n0 < m) -> ∀ p ∈ wr, p.2 = true -> n0 <= p.1 := by
   intro n0 h1 p hp h2;have := List.all_eq_true.1 ((h n0).2 h1) p hp;rw [h2] at this;simpa using this
 unfold jl4;rw [vV, vV, QO];split
 . rename_i hb;have hm := zN hb;subst hm;refine ⟨fun _ => Or.inl rfl, fun _ => ?_⟩;rw [List.all_eq_true];intro p hp;have hp := (List.mem_filter.1 hp).1
   cases h2 : p.2 with
   | false => rfl
   | true =>
     have := hall (p.1 + 1) (Or.inl rfl) p hp h2;omega
 . rename_i hb;have hm : m ≠ 0 := fun e => by subst e; exact hb rfl
   split
   . rename_i h1;have h1 := jy h1
     constructor
     . intro h2;refine Or.inr ?_
       -- one that is marked has the least number
       have h3 : ¬ (wr.all fun p => !p.2 || decide (m <= p.1)) = true := by rw [h m]; omega
       rw [List.all_eq_true] at h3;have h4 : ∃ p ∈ wr, p.2 = true /\ p.1 < m := by
         refine Classical.byContradiction fun hne => h3 fun p hp => ?_
         cases hp2 : p.2 with
         | false => rfl
         | true =>
           have : m <= p.1 := by
             rcases Nat.lt_or_ge p.1 m with hlt | hge
             . exact absurd ⟨p, hp, hp2, hlt⟩ hne
             . exact hge
           simpa using this
       obtain ⟨p, hp, hp2, hp3⟩ := h4;have := List.all_eq_true.1 h2 p (List.mem_filter.2 ⟨hp, by simp; omega⟩);rw [hp2] at this;simp at this;omega
     . intro h2;have h2 : n0 < m := by rcases h2 with h2 | h2; exact absurd h2 hm; exact h2
       rw [List.all_eq_true];intro p hp;have hp := (List.mem_filter.1 hp).1
       cases hp2 : p.2 with
       | false => rfl
       | true => have := hall n0 (Or.inr h2) p hp hp2; simpa using this
   . rename_i h1;have h1 : ¬ m - 1 < n := fun e => h1 (blt_iff.2 e);refine ⟨fun _ => Or.inl rfl, fun _ => ?_⟩;rw [List.all_eq_true];intro p hp;obtain ⟨hp, hpn⟩ := List.mem_filter.1 hp
     cases hp2 : p.2 with
     | false => rfl
     | true =>
       have := hall (m - 1) (Or.inr (by omega)) p hp hp2;simp at hpn;omega
def jg3 (n mn : Nat) (tr : Bool) (ws : List Nat) (v : U) (h : H) (K : KH) : Ans := hK h fun n' t' mn' _ ws' => tst (Nat.ble n n')
 (@Bool.rec (fun _ => Ans) (fN (jek (jl4 n mn') mn) fun m => K v ⟨n', t', m, tr, QN tr ws' ws⟩) (K v ⟨n, t', mn, tr, QN tr ws' ws⟩)
   (@Bool.rec (fun _ => Bool) false (@Bool.rec (fun _ => Bool) (Nat.blt n mn') true (Nat.beq mn' 0)) (joc v)))
theorem Vp {h h' : H} {σ σ' : List IObj} {wr wr' : List (Nat × Bool)} (R : HR h σ wr) (R' : HR h' σ' wr') (ht : h'.tr = h.tr) {v : U} {K : KH} (hk : jg3 h.n h.mn h.tr h.ws v h' K = true) (pan : Bool) :
   ∃ h2, HR h2 (jC σ.length pan (toI v) ⟨ts0, σ', wr'⟩).σ ((jC σ.length pan (toI v) ⟨ts0, σ', wr'⟩).wr ++ wr) /\ h2.tr = h.tr /\ K v h2 = true := by
 unfold jg3 at hk;rw [K4] at hk;obtain ⟨h1, h2⟩ := jb hk;have h1 := ble_iff.1 h1;have hws : ∀ {f : List (Nat × Bool)}, (∀ p ∈ f, p ∈ wr') -> h.tr = true -> ∀ p ∈ f ++ wr, p.1 ∈ QN h.tr h'.ws h.ws := by
   intro f hf htr p hp;rw [htr]
   rcases List.mem_append.1 hp with hp | hp
   . exact List.mem_append_left _ (R'.hwr (by rw [ht]; exact htr) p (hf p hp))
   . exact List.mem_append_right _ (R.hwr htr p hp)
 have hsub : ∀ p ∈ wr'.filter (fun p => decide (p.1 < σ.length)), p ∈ wr' := fun p hp => (List.mem_filter.1 hp).1;have hlen := R.len
 rcases jf h2 with ⟨h3, h4⟩ | ⟨h3, h4⟩
 . -- all that nobody sees any more goes
   have h5 : nr3 (toI v) = true /\ (h'.mn = 0 \/ h.n < h'.mn) := by
     rw [vV] at h3;split at h3
     . rename_i hn;refine ⟨by rw [<- ja2]; exact hn, ?_⟩;rw [vV] at h3;split at h3
       . rename_i hb; exact Or.inl (zN hb)
       . exact Or.inr (jy h3)
     . cases h3
   have hall := (R'.hmn h.n).2 h5.2;have hc : (nr3 (toI v) && wr'.all fun p => !p.2 || decide (σ.length <= p.1)) = true := by rw [h5.1, hlen, hall]; rfl
   have hf : jC σ.length pan (toI v) ⟨ts0, σ', wr'⟩ = ⟨pan, toI v, σ'.take σ.length, wr'.filter fun p => decide (p.1 < σ.length)⟩ := by
     unfold jC; simp only; rw [if_pos hc]
   rw [hf];refine ⟨⟨h.n, h'.t, h.mn, h.tr, QN h.tr h'.ws h.ws⟩, ⟨?_, ?_, hws hsub, fun n0 => ?_⟩, rfl, h4⟩
   . show (σ'.take σ.length).length = h.n;rw [List.length_take, hlen, R'.len]; omega
   . intro i ob hi;rw [List.getElem?_take] at hi;split at hi
     . exact R'.obs i ob hi
     . cases hi
   . rw [List.all_append, zA, R.hmn n0];refine ⟨fun h => h.2, fun h => ⟨?_, h⟩⟩;rw [List.all_eq_true];intro p hp;obtain ⟨hp1, hp2⟩ := List.mem_filter.1 hp;have := List.all_eq_true.1 hall p hp1
     cases hp3 : p.2 with
     | false => rfl
     | true =>
       rw [hp3] at this;simp at this hp2;omega
 . rw [jr] at h4;have hc : ¬ (nr3 (toI v) && wr'.all fun p => !p.2 || decide (σ.length <= p.1)) = true := by
     rw [zA, hlen, R'.hmn h.n];rintro ⟨h5, h6⟩;rw [ja2, h5] at h3;have h3 : @Bool.rec (fun _ => Bool) (Nat.blt h.n h'.mn) true (Nat.beq h'.mn 0) = false := h3;rw [vV] at h3;split at h3
     . cases h3
     . rename_i hb;have h3 := vG h3
       rcases h6 with h6 | h6
       . rw [h6] at hb; exact hb rfl
       . omega
   have hf : jC σ.length pan (toI v) ⟨ts0, σ', wr'⟩ = ⟨pan, toI v, σ', wr'.filter fun p => decide (p.1 < σ.length)⟩ := by
     unfold jC; simp only; rw [if_neg hc]
   rw [hf];refine ⟨⟨h'.n, h'.t, jek (jl4 h.n h'.mn) h.mn, h.tr, QN h.tr h'.ws h.ws⟩, ⟨R'.len, R'.obs, hws hsub, fun n0 => ?_⟩, rfl, h4⟩;rw [List.all_append, zA, R.hmn n0, jjZ R'.hmn, hlen];exact (jel _ _ _).symm
def jh9 (ds : U) : H -> (H -> Ans) -> Ans := @U.rec (fun _ => H -> (H -> Ans) -> Ans) (fun _ _ _ _ => false) (fun _ _ _ => false) (fun _ _ _ _ => false) (fun _ _ _ _ _ _ _ _ _ => false) (fun h K => K h)
 (fun v _ _ ih h K => uO v fun _ a _ _ _ _ => vU a h fun ob => uO ob fun t _ _ _ _ _ => tst (Nat.beq t 4) (vB a .nl false h fun h => ih h K)) (fun _ _ _ _ _ _ _ _ => false) (fun _ _ _ => false) (fun _ _ _ _ _ _ _ _ _ => false) ds
theorem X1 : ∀ {ds : U} {l : List Nat} {h : H} {K : H -> Ans} {σ : List IObj} {wr : List (Nat × Bool)}, jh9 ds h K = true -> DsR ds l -> HR h σ wr ->
   ∃ σ' h', shut σ l = some σ' /\ HR h' σ' ((l.map fun id => (id, false)) ++ wr) /\ h'.tr = h.tr /\ K h' = true := by
 intro ds
 induction ds with
 | nl =>
   intro l h K σ wr hk hd R
   cases l with
   | nil => exact ⟨σ, h, rfl, R, rfl, hk⟩
   | cons _ _ => exact hd.elim
 | cn v r _ ih =>
   intro l h K σ wr hk hd R;obtain ⟨t, a, b, c, d, x, rfl, h1⟩ := jq (show uO v (fun _ a _ _ _ _ => vU a h fun ob => uO ob fun t _ _ _ _ _ => tst (Nat.beq t 4) (vB a .nl false h fun h => jh9 r h K)) = true from hk)
   cases l with
   | nil => simp [DsR] at hd
   | cons id l =>
     have ht : t = 4 := by
       by_cases e : t = 4
       . exact e
       . exfalso
         unfold DsR at hd;split at hd
         . rename_i e1 _; cases e1
         . rename_i e1 _; cases e1; exact e rfl
         . exact hd
     subst ht;have hd1 : a = id /\ DsR r l := hd;obtain ⟨rfl, hd2⟩ := hd1;obtain ⟨ob, o, h2, h3, h4⟩ := jS R h1;obtain ⟨t', a', b', c', d', x', rfl, h5⟩ := jq h4;obtain ⟨h6, h7⟩ := jb h5;have := zN h6; subst this;have ho : o = .defr := h3.o;subst ho;obtain ⟨h', h8, _, h9, h10⟩ := ku R h7 (o := .dead) rfl;obtain ⟨σ', h'', g1, g2, g3, g4⟩ := ih h10 hd2 h8;refine ⟨σ', h'', by simp only [shut, h2]; exact g1, g2.congr fun p => ?_, g3.trans h9, g4⟩;simp only [List.map_cons, List.mem_append, List.mem_cons]
     constructor
     . rintro ((h | h) | h)
       . exact Or.inr (Or.inl h)
       . exact Or.inl h
       . exact Or.inr (Or.inr h)
     . rintro (h | h | h)
       . exact Or.inl (Or.inr h)
       . exact Or.inl (Or.inl h)
       . exact Or.inr h
 | _ => intro l h K σ wr hk; cases hk
def jjE (n : Option Nat) (u : U) (h : H) (K : U -> H -> Ans) : Ans := uO u fun t a b _ _ _ => tst (Nat.beq t 1) (vU a h fun ob => @Option.rec Nat (fun _ => Ans)
 (Zf ob b fun v => frc v fun v => frc (V4 v) fun w => tst (y4 v) (qq ob b (.cn w .nl) fun ob' => vB a ob' false h fun h => K v h))
 (fun n => Vd ob n b fun r => je2 jjh r fun r' => qq ob b r' fun ob' => vB a ob' false h fun h => K (.o 17 0 0 0 0 r) h) n)
theorem yA {v : IVal} {id off : Nat} (h : un3 v = .ptr id off) : v = .ptr id off := by
 cases v <;> simp only [un3, un2, un1] at h <;> first | exact h | cases h
theorem jcI {n : Option Nat} {u : U} {h : H} {K : U -> H -> Ans} {σ : List IObj} {wr : List (Nat × Bool)} (R : HR h σ wr) (hk : jjE n u h K = true) :
   ∃ id off cs v r h', toI u = .ptr id off /\ jt σ id = some cs /\ kx n cs off = some v /\ toI r = v /\ HR h' (σ.set id (.cells (ji cs off (un2 v).cells))) ((id, false) :: wr) /\ h'.tr = h.tr /\ K r h' = true := by
 obtain ⟨t, a, b, c, d, x, rfl, h1⟩ := jq hk;obtain ⟨h2, h3⟩ := jb h1;have := zN h2; subst this;obtain ⟨ob, o, h4, h5, h6⟩ := jS R h3
 cases n with
 | none =>
   obtain ⟨t', a', b', c', d', x', cs, w, rfl, h7, h8, h9⟩ := J7 (show Zf ob b (fun v => frc v fun v => frc (V4 v) fun w => tst (y4 v) (qq ob b (.cn w .nl) fun ob' => vB a ob' false h fun h => K v h)) = true from h6);rw [yb, yb] at h9;obtain ⟨h10, h11⟩ := jb h9;obtain ⟨_, _, _, _, _, _, cs2, t2, a2, b2, c2, d2, x2, e1, e2, h12, h13, h14⟩ := kC h11;rw [h7] at e2;cases e2;have ho : o = .cells cs := h5.o.trans h7;subst ho;have hcell := vE h10;obtain ⟨h', h15, _, h16, h17⟩ := ku R h14 (o := .cells (ji cs b (toL (.cn (V4 w) .nl)))) (vb h13);refine ⟨a, b, cs, toI w, w, h', rfl, ke h4, by simp only [kx, h8], rfl, ?_, h16, h17⟩;rw [Zh hcell];rw [jn, kT, qc] at h15;exact h15
 | some n =>
   obtain ⟨t', a', b', c', d', x', cs, r, rfl, h7, h8, h9, h10⟩ := zI (show Vd ob n b (fun r => je2 jjh r fun r' => qq ob b r' fun ob' => vB a ob' false h fun h => K (.o 17 0 0 0 0 r) h) = true from h6);obtain ⟨r', h11, h12⟩ := vI V3 h10;obtain ⟨_, _, _, _, _, _, cs2, t2, a2, b2, c2, d2, x2, e1, e2, h13, h14, h15⟩ := kC h12;rw [h7] at e2;cases e2;have ho : o = .cells cs := h5.o.trans h7;subst ho;obtain ⟨h', h16, _, h17, h18⟩ := ku R h15 (o := .cells (ji cs b (toL r'))) (vb h14);refine ⟨a, b, cs, .agg (toL r), .o 17 0 0 0 0 r, h', rfl, ke h4, by simp only [kx]; rw [if_pos h8, h9], ?_, ?_, h17, h18⟩
   . rw [zn, if_pos rfl]
   . rw [h11] at h16; exact h16
def jm6 (rs : List RV) (e : Env) (h : H) (K : U -> H -> Ans) : Ans := @List.rec RV (fun _ => Env -> H -> (U -> H -> Ans) -> Ans) (fun _ h K => K .nl h)
 (fun r _ ih e h K => @RV.rec (fun _ => (Env -> H -> (U -> H -> Ans) -> Ans) -> Env -> H -> (U -> H -> Ans) -> Ans) (fun i ih e h K => KC (.m (Vw i)) e .nl fun u e => ih e h fun l h => K (.cn u l) h)
   (fun i n ih e h K => KC (.v (Vw i)) e .nl fun u e => jjE n u h fun v h => ih e h fun l h => K (.cn v l) h) r ih e h K) rs e h K
theorem jfK : ∀ {rs : List RV} {e : Env} {h : H} {K : U -> H -> Ans} {vs : AL} {σ : List IObj} {wr : List (Nat × Bool)}, VarQ e vs -> HR h σ wr -> jm6 rs e h K = true ->
   ∃ l σ' wr' h', jgy rs vs σ wr = some (toL l, σ', wr') /\ HR h' σ' wr' /\ h'.tr = h.tr /\ K l h' = true := by
 intro rs
 induction rs with
 | nil => intro e h K vs σ wr hv R hk; exact ⟨.nl, σ, wr, h, rfl, R, rfl, hk⟩
 | cons r rs ih =>
   intro e h K vs σ wr hv R hk
   cases r with
   | t i =>
     obtain ⟨u, vs', e', h1, h2, _, h4⟩ := kv (x := .m i) (show KC (yB (.m i)) e .nl (fun u e => jm6 rs e h fun l h => K (.cn u l) h) = true from hk) hv (l := []) trivial;simp only [XOpd.get] at h1;split at h1
     . rename_i w hw;simp only [zO, zP] at h1;obtain ⟨rfl, rfl⟩ := h1;obtain ⟨l, σ', wr', h', g1, g2, g3, g4⟩ := ih h2 R h4;exact ⟨.cn u l, σ', wr', h', by simp only [jgy, hw, g1]; rfl, g2, g3, g4⟩
     . cases h1
   | cell i n =>
     obtain ⟨u, vs', e', h1, h2, _, h4⟩ := kv (x := .v i) (show KC (yB (.v i)) e .nl (fun u e => jjE n u h fun v h => jm6 rs e h fun l h => K (.cn v l) h) = true from hk) hv (l := []) trivial;simp only [XOpd.get] at h1;split at h1
     . rename_i w hw;simp only [zO, zP] at h1;obtain ⟨h1, rfl⟩ := h1;obtain ⟨id, off, cs, v, r, h', g1, g2, g3, g4, g5, g6, g7⟩ := jcI R h4;rw [g1] at h1;have := yA h1;subst this;obtain ⟨l, σ', wr', h'', k1, k2, k3, k4⟩ := ih h2 g5 g7;exact ⟨.cn r l, σ', wr', h'', by simp only [jgy, hw, g2, g3, k1]; rw [<- g4]; rfl, k2, k3.trans g6, k4⟩
     . cases h1
def jpz (l : U) (K : U -> Ans) : Ans := uC l (K (.o 18 0 0 0 0 .nl)) fun u r => uC r (K u) fun _ _ => K (.o 18 0 0 0 0 l)
theorem jgg {l : U} {K : U -> Ans} (h : jpz l K = true) : ∃ v, toI v = jdE (toL l) /\ K v = true := by
 rcases jj h with ⟨rfl, h2⟩ | ⟨u, r, rfl, h2⟩
 . exact ⟨_, rfl, h2⟩
 . rcases jj h2 with ⟨rfl, h3⟩ | ⟨v, r', rfl, h3⟩
   . exact ⟨u, rfl, h3⟩
   . exact ⟨_, by rw [Qh, if_pos rfl]; rfl, h3⟩
def jmI (n mn : Nat) (tr : Bool) (ws : List Nat) (res : List RV) (e : Env) (h : H) (K : KH) : Ans := jh9 (dsU e) h fun h => jm6 res e h fun l h => tst (zD ntU l) (jpz l fun v => jg3 n mn tr ws v h K)
theorem ZY {h h' : H} {e : Env} {s : XS} {σ : List IObj} {wr : List (Nat × Bool)} (R : HR h σ wr) (R' : QR e .nl h' s) (ht : h'.tr = h.tr) {res : List RV} {K : KH} (hk : jmI h.n h.mn h.tr h.ws res e h' K = true) :
   ∃ o r h2, jlA σ.length res s = some o /\ o.pan = false /\ toI r = o.v /\ HR h2 o.σ (o.wr ++ wr) /\ h2.tr = h.tr /\ K r h2 = true := by
 obtain ⟨σ1, h1, g1, g2, g3, g4⟩ := X1 hk R'.ds R'.h;obtain ⟨l, σ2, wr2, h2, g5, g6, g7, g8⟩ := jfK R'.v g2 g4;obtain ⟨g9, g10⟩ := jb g8;obtain ⟨v, g11, g12⟩ := jgg g10;obtain ⟨h3, k1, k2, k3⟩ := Vp R g6 (by rw [g7, g3, ht]) g12 false;have hnt := qp (fun {x} hx => Qr hx) g9;rw [g11] at k1;refine ⟨jC σ.length false (jdE (toL l)) ⟨ts0, σ2, wr2⟩, v, h3, ?_, ?_, ?_, k1, k2, k3⟩
 . simp only [jlA, g1, g5]; rw [if_pos hnt]
 . unfold jC; simp only; split <;> rfl
 . unfold jC; simp only; rw [g11]; split <;> rfl
def nilE : Env := ⟨⟨.nl, .nl, .nl, .nl, .nl, .nl, .nl, .nl⟩, ⟨.nl, .nl, .nl, .nl, .nl, .nl, .nl, .nl⟩, ⟨.nl, .nl, .nl, .nl, .nl, .nl, .nl, .nl⟩, ⟨.nl, .nl, .nl, .nl, .nl, .nl, .nl, .nl⟩, ⟨.nl, .nl, .nl, .nl, .nl, .nl, .nl, .nl⟩, ⟨.nl, .nl, .nl, .nl, .nl, .nl, .nl, .nl⟩, ⟨.nl, .nl, .nl, .nl, .nl, .nl, .nl, .nl⟩, ⟨.nl, .nl, .nl, .nl, .nl, .nl, .nl, .nl⟩⟩
theorem jk7 : ∀ (d k : Nat), Qw d .nl k = .nl := by
 intro d k; cases d <;> rfl
theorem jlK (j : Nat) : at' .nl j = .nl := jk7 _ _
theorem jb8 (j : Nat) : Vf nilE j = .nl := by
 unfold Vf;split
 . have hr : ∀ i, (nilE.get i) = ⟨.nl, .nl, .nl, .nl, .nl, .nl, .nl, .nl⟩ := by intro i; unfold E8.get nilE; split <;> rfl
   rw [hr];unfold E8.get; split <;> rfl
 . exact jlK j
def jeH (args : U) : Env -> Nat -> (Env -> Ans) -> Ans := @U.rec (fun _ => Env -> Nat -> (Env -> Ans) -> Ans) (fun _ _ _ _ _ => false) (fun _ _ _ _ => false) (fun _ _ _ _ _ => false) (fun _ _ _ _ _ _ _ _ _ _ => false) (fun e _ K => K e)
 (fun v _ _ ih e k K => Js (Vw k) e v fun e => ih e (Nat.succ k) K) (fun _ _ _ _ _ _ _ _ _ => false) (fun _ _ _ _ => false) (fun _ _ _ _ _ _ _ _ _ _ => false) args
theorem XH : ∀ {args : U} {e : Env} {k : Nat} {K : Env -> Ans} {vs : AL}, jeH args e k K = true -> VarQ e vs -> ∃ e', VarQ e' (Yd k (toL args) vs) /\ dsU e' = dsU e /\ K e' = true := by
 intro args
 induction args with
 | nl => intro e k K vs h hv; exact ⟨e, hv, rfl, h⟩
 | cn v r _ ih =>
   intro e k K vs h hv;have h : Js (Vw k) e v (fun e => jeH r e (Nat.succ k) K) = true := h;rw [yj, zZ] at h;obtain ⟨e', h1, h2, h3⟩ := ih h (hv.set k v);exact ⟨e', h1, by rw [h2, vZ], h3⟩
 | _ => intro e k K vs h; cases h
def jkX (ps : List Nat) (args : U) (e : Env) (K : Env -> Ans) : Ans := @List.rec Nat (fun _ => U -> Env -> (Env -> Ans) -> Ans) (fun l e K => uC l (K e) fun _ _ => false) (fun p _ ih l e K => uC l false fun v l => Js (Vw p) e v fun e => ih l e K) ps args e K
theorem jdp : ∀ {ps : List Nat} {args : U} {e : Env} {K : Env -> Ans} {vs : AL}, jkX ps args e K = true -> VarQ e vs -> ∃ e' vs', Xd vs ps (toL args) = some vs' /\ VarQ e' vs' /\ dsU e' = dsU e /\ K e' = true := by
 intro ps
 induction ps with
 | nil =>
   intro args e K vs h hv
   rcases jj h with ⟨rfl, h2⟩ | ⟨_, _, _, h2⟩
   . exact ⟨e, vs, rfl, hv, rfl, h2⟩
   . cases h2
 | cons p ps ih =>
   intro args e K vs h hv
   rcases jj (show uC args false (fun v l => Js (Vw p) e v fun e => jkX ps l e K) = true from h) with ⟨_, h2⟩ | ⟨v, l, rfl, h2⟩
   . cases h2
   . rw [yj, zZ] at h2;obtain ⟨e', vs', h3, h4, h5, h6⟩ := ih h2 (hv.set p v);exact ⟨e', vs', h3, h4, by rw [h5, vZ], h6⟩
def unS (v : U) (K : U -> Ans) : Ans := (@U.rec (fun _ => (U -> Ans) -> Ans) (fun k n => fun K => K (.i k n)) (fun x => fun K => K (.b x)) (fun l x => fun K => K (.s l x)) (fun t a b c d x _ => fun K => unK (.o t a b c d x) K) (fun K => K .nl) (fun _ _ _ _ => fun _ => false) (fun _ _ _ _ _ _ => fun _ => false) (fun v => fun K => unK (.z v) K) (fun _ _ _ _ _ _ _ => fun _ => false) v) K
def jlD (v w : U) : Prop := w ≠ .nl -> v ≠ .nl /\ toI w = un3 (toI v)
theorem yr {v : U} {K : U -> Ans} (h : unS v K = true) : ∃ w, jlD v w /\ K w = true := by
 cases v with
 | nl => exact ⟨.nl, fun h => absurd rfl h, h⟩
 | i k n => exact ⟨_, fun _ => ⟨by simp, rfl⟩, h⟩
 | b x => exact ⟨_, fun _ => ⟨by simp, rfl⟩, h⟩
 | s l x => exact ⟨_, fun _ => ⟨by simp, rfl⟩, h⟩
 | o t a b c d x => obtain ⟨_, w, h1, h2⟩ := KQ (show unK (.o t a b c d x) K = true from h); exact ⟨w, fun _ => ⟨by simp, h1⟩, h2⟩
 | z v => obtain ⟨_, w, h1, h2⟩ := KQ (show unK (.z v) K = true from h); exact ⟨w, fun _ => ⟨by simp, h1⟩, h2⟩
 | _ => cases h
def JG (r : E8 U) (K : E8 U -> Ans) : Ans := @E8.rec U (fun _ => (E8 U -> Ans) -> Ans) (fun a b c d e f g h K => unS a fun a => unS b fun b => unS c fun c => unS d fun d => unS e fun e => unS f fun f => unS g fun g => unS h fun h => K ⟨a, b, c, d, e, f, g, h⟩) r K
theorem qo {r : E8 U} {K : E8 U -> Ans} (h0 : JG r K = true) : ∃ r', (∀ i, jlD (r.get i) (r'.get i)) /\ K r' = true := by
 obtain ⟨a, b, c, d, e, f, g, h⟩ := r;obtain ⟨a', p0, h1⟩ := yr (show unS a (fun a => unS b fun b => unS c fun c => unS d fun d => unS e fun e => unS f fun f => unS g fun g => unS h fun h => K ⟨a, b, c, d, e, f, g, h⟩) = true from h0);obtain ⟨b', p1, h2⟩ := yr h1;obtain ⟨c', p2, h3⟩ := yr h2;obtain ⟨d', p3, h4⟩ := yr h3;obtain ⟨e', p4, h5⟩ := yr h4;obtain ⟨f', p5, h6⟩ := yr h5;obtain ⟨g', p6, h7⟩ := yr h6;obtain ⟨h', p7, h8⟩ := yr h7;refine ⟨⟨a', b', c', d', e', f', g', h'⟩, fun i => ?_, h8⟩;unfold E8.get;split <;> assumption
def nlK (u : U) (K : Ans) : Ans := (@U.rec (fun _ => Ans -> Ans) (fun _ _ => fun _ => false) (fun _ => fun _ => false) (fun _ _ => fun _ => false) (fun _ _ _ _ _ _ _ => fun _ => false) (fun K => K) (fun _ _ _ _ => fun _ => false) (fun _ _ _ _ _ _ => fun _ => false) (fun _ => fun _ => false) (fun _ _ _ _ _ _ _ => fun _ => false) u) K
theorem QW {u : U} {K : Ans} (h : nlK u K = true) : u = .nl /\ K = true := by cases u <;> first | exact ⟨rfl, h⟩ | cases h
def jjO (e : Env) (K : Env -> Ans) : Ans := @E8.rec (E8 U) (fun _ => (Env -> Ans) -> Ans) (fun r0 r1 r2 r3 r4 r5 r6 r7 K => JG r0 fun r0 => JG r1 fun r1 => JG r2 fun r2 => JG r3 fun r3 => JG r4 fun r4 => JG r5 fun r5 => JG r6 fun r6 =>
 @E8.rec U (fun _ => (Env -> Ans) -> Ans) (fun a b c d e f _ h K => nlK h (JG ⟨a, b, c, d, e, f, .nl, .nl⟩ fun r7 => @E8.rec U (fun _ => (Env -> Ans) -> Ans) (fun a b c d e f _ _ K => K ⟨r0, r1, r2, r3, r4, r5, r6, ⟨a, b, c, d, e, f, .nl, .nl⟩⟩) r7 K)) r7 K) e K
theorem jcT {e : Env} {K : Env -> Ans} (h0 : jjO e K = true) : ∃ e', (∀ j, jlD (Vf e j) (Vf e' j)) /\ dsU e' = .nl /\ K e' = true := by
 obtain ⟨r0, r1, r2, r3, r4, r5, r6, r7⟩ := e;obtain ⟨a, b, c, d, e, f, g, h⟩ := r7;obtain ⟨s0, p0, h1⟩ := qo (show JG r0 (fun r0 => JG r1 fun r1 => JG r2 fun r2 => JG r3 fun r3 => JG r4 fun r4 => JG r5 fun r5 => JG r6 fun r6 =>
   nlK h (JG ⟨a, b, c, d, e, f, .nl, .nl⟩ fun r7 => @E8.rec U (fun _ => (Env -> Ans) -> Ans) (fun a b c d e f _ _ K => K ⟨r0, r1, r2, r3, r4, r5, r6, ⟨a, b, c, d, e, f, .nl, .nl⟩⟩) r7 K)) = true from h0)
 obtain ⟨s1, p1, h2⟩ := qo h1;obtain ⟨s2, p2, h3⟩ := qo h2;obtain ⟨s3, p3, h4⟩ := qo h3;obtain ⟨s4, p4, h5⟩ := qo h4;obtain ⟨s5, p5, h6⟩ := qo h5;obtain ⟨s6, p6, h7⟩ := qo h6;obtain ⟨rfl, h8⟩ := QW h7;obtain ⟨s7, p7, h9⟩ := qo h8;obtain ⟨a', b', c', d', e', f', g', h'⟩ := s7;refine ⟨_, fun j => ?_, rfl, h9⟩;unfold Vf
 by_cases hj : j < 62
 . rw [if_pos hj, if_pos hj];have hrow : ∀ i, i < 7 -> ∀ k, jlD (((⟨r0, r1, r2, r3, r4, r5, r6, ⟨a, b, c, d, e, f, g, .nl⟩⟩ : Env).get i).get k) (((⟨s0, s1, s2, s3, s4, s5, s6, ⟨a', b', c', d', e', f', .nl, .nl⟩⟩ : Env).get i).get k) := by
     intro i hi k
     match i, hi with
     | 0, _ => exact p0 k
     | 1, _ => exact p1 k
     | 2, _ => exact p2 k
     | 3, _ => exact p3 k
     | 4, _ => exact p4 k
     | 5, _ => exact p5 k
     | 6, _ => exact p6 k
   by_cases h7 : j / 8 < 7
   . exact hrow _ h7 _
   . have e7 : j / 8 = 7 := by omega
     have hm : j % 8 < 6 := by omega
     rw [e7];have q := p7 (j % 8)
     match j % 8, hm, q with
     | 0, _, q => exact q
     | 1, _, q => exact q
     | 2, _, q => exact q
     | 3, _, q => exact q
     | 4, _, q => exact q
     | 5, _, q => exact q
 . rw [if_neg hj, if_neg hj];intro h;exact absurd (jlK j) h
theorem VarQ.un {e e' : Env} {vs : AL} (hv : VarQ e vs) (h : ∀ j, jlD (Vf e j) (Vf e' j)) : VarQ e' (aun vs) := by
 intro j hj;obtain ⟨h1, h2⟩ := h j hj;rw [jbO, hv j h1, h2]; rfl
end
end Go.Idl
namespace Go.Idl
noncomputable section
set_option maxHeartbeats 200000
abbrev RT := XCode -> Env -> U -> H -> NK -> XK -> Ans
def jlN (fn : XFunc) (ih : RT) (args : U) (h : H) (K P : KH) : Ans := @XFunc.rec (fun _ => RT -> U -> H -> KH -> KH -> Ans) (fun nv body res ih args h K P =>
 tst (Nat.ble (KR args) nv) (jeH args nilE 0 fun e => hK h fun n t mn tr ws => ih body e .nl ⟨n, t, 0, tr, []⟩ (fun e _ h' => jmI n mn tr ws res e h' K)
   (fun x u e h' => @Nat.rec (fun _ => U -> Env -> H -> KH -> KH -> Ans) (fun _ e h' K _ => jmI n mn tr ws res e h' K) (fun x _ u e h' _ P => tst (Nat.beq x 0) (nlK (dsU e) (jg3 n mn tr ws u h' P))) x u e h' K P))) fn ih args h K P
def lpK (ob : U) (K : Nat -> List Nat -> XCode -> XCode -> U -> Nat -> Ans) : Ans := (@U.rec (fun _ => (Nat -> List Nat -> XCode -> XCode -> U -> Nat -> Ans) -> Ans) (fun _ _ => fun _ => false) (fun _ => fun _ => false) (fun _ _ => fun _ => false) (fun _ _ _ _ _ _ _ => fun _ => false) (fun _ => false) (fun _ _ _ _ => fun _ => false) (fun _ _ _ _ _ _ => fun _ => false) (fun _ => fun _ => false) (fun st ps p q e pd _ => fun K => K st ps p q e pd) ob) K
theorem QV {ob : U} {K : Nat -> List Nat -> XCode -> XCode -> U -> Nat -> Ans} (h : lpK ob K = true) : ∃ st ps p q e pd, ob = .lp st ps p q e pd /\ K st ps p q e pd = true := by
 cases ob <;> first | exact ⟨_, _, _, _, _, _, rfl, h⟩ | cases h
def jpP (x : Nat) : Nat := @Bool.rec (fun _ => Nat) x 1 (Nat.beq x 0)
def jfM (ih : RT) (id : Nat) (args : U) (h : H) (K : KH) (_P : KH) : Ans := vU id h fun ob => lpK ob fun st ps p q e pd => tst (Nat.beq st 0) (jpg e fun E => jkX ps args E fun E => hK h fun n t mn tr ws =>
 ih p E .nl ⟨n, t, 0, tr, []⟩ (fun e1 _ h1 => vU id h1 fun ob1 => lpK ob1 fun st1 ps1 p1 q1 eu1 pd1 => tst (Nat.beq st1 0) (vB id (.lp 1 ps1 p1 q1 eu1 pd1) false h1 fun h2 =>
   ih q e1 .nl h2 (fun _ _ h3 => vU id h3 fun ob3 => lpK ob3 fun _ ps3 p3 q3 eu3 _ => vB id (.lp 0 ps3 p3 q3 eu3 0) false h3 fun h4 => jg3 n mn tr ws (.b true) h4 K)
     (fun x _ _ h3 => tst (jcb (Nat.beq x 1)) (vU id h3 fun ob3 => lpK ob3 fun _ ps3 p3 q3 eu3 _ => fN (jpP x) fun pd => vB id (.lp 2 ps3 p3 q3 eu3 pd) false h3 fun h4 => jg3 n mn tr ws (.b false) h4 K)))) (fun _ _ _ _ => false))
def jlB (tr : Bool) (N : NK) (X : XK) (x : IExit) (s : XS) : Prop := match x with
 | .normal => ∃ e st h, QR e st h s /\ h.tr = tr /\ N e st h = true
 | .ret => ∃ e h u, QR e .nl h s /\ h.tr = tr /\ X 0 u e h = true
 | .panic v => ∃ e h u, QR e .nl h s /\ h.tr = tr /\ toI u = v /\ X 1 u e h = true
 | .exit id => ∃ e h u, QR e .nl h s /\ h.tr = tr /\ X (id + 2) u e h = true
 | .goto _ => False
def Snd (F : XProg) (rt : RT) : Prop := ∀ c e st h N X s, QR e st h s -> rt c e st h N X = true -> ∃ x s', Xl F c s = some (x, s') /\ jlB h.tr N X x s'
theorem jd5 {F : XProg} {ih : RT} (hs : Snd F ih) {g : FuncId} {fn : XFunc} (hF : F g = some fn) : CallS (xcfw F) (.f g) (jlN fn ih) := by
 intro l h K P σ wr R hk;rw [jjm, hF];simp only
 . obtain ⟨nv, body, res⟩ := fn;obtain ⟨h1, h2⟩ := jb (show tst (Nat.ble (KR l) nv) (jeH l nilE 0 fun e => hK h fun n t mn tr ws => ih body e .nl ⟨n, t, 0, tr, []⟩ (fun e _ h' => jmI n mn tr ws res e h' K)
     (fun x u e h' => @Nat.rec (fun _ => U -> Env -> H -> KH -> KH -> Ans) (fun _ e h' K _ => jmI n mn tr ws res e h' K) (fun x _ u e h' _ P => tst (Nat.beq x 0) (nlK (dsU e) (jg3 n mn tr ws u h' P))) x u e h' K P)) = true from hk)
   have h1 := ble_iff.1 h1;rw [kw] at h1;obtain ⟨e, h3, h4, h5⟩ := XH h2 (vs := []) (fun j hj => absurd (jb8 j) hj);rw [K4] at h5;have R0 : QR e .nl ⟨h.n, h.t, 0, h.tr, []⟩ ⟨Yd 0 (toL l) [], [], [], σ, []⟩ := ⟨h3, trivial, by rw [h4]; exact trivial, R.fresh h.tr []⟩;obtain ⟨x, s', h6, h7⟩ := hs _ _ _ _ _ _ _ R0 h5;have hb : jcx body = none := by
     cases body with
     | lib p => rw [jgq] at h6; cases h6
     | _ => rfl
   simp only [zz, hb];rw [if_pos h1, h6]
   cases x with
   | normal =>
     obtain ⟨e1, st1, h8, R1, ht, h9⟩ := h7;obtain ⟨o, r, h10, g1, g2, g3, g4, g5, g6⟩ := ZY R R1.nl ht h9;exact ⟨o, r, h10, g1, g3, g4, g5, Or.inl ⟨g2, g6⟩⟩
   | ret =>
     obtain ⟨e1, h8, u, R1, ht, h9⟩ := h7;obtain ⟨o, r, h10, g1, g2, g3, g4, g5, g6⟩ := ZY R R1.nl ht h9;exact ⟨o, r, h10, g1, g3, g4, g5, Or.inl ⟨g2, g6⟩⟩
   | panic v =>
     obtain ⟨e1, h8, u, R1, ht, hu, h9⟩ := h7;obtain ⟨_, h10⟩ := jb (show tst (Nat.beq 0 0) (nlK (dsU e1) (jg3 h.n h.mn h.tr h.ws u h8 P)) = true from h9);obtain ⟨h11, h12⟩ := QW h10;have hds : s'.ds = [] := by
       have := R1.ds;rw [h11] at this
       cases hd : s'.ds with
       | nil => rfl
       | cons a b => rw [hd] at this; exact this.elim
     obtain ⟨h13, g1, g2, g3⟩ := Vp R R1.h ht h12 true;rw [hu] at g1;simp only [hds];refine ⟨_, u, h13, rfl, ?_, g1, g2, Or.inr ⟨?_, g3⟩⟩
     . unfold jC; simp only; split <;> exact hu
     . unfold jC; simp only; split <;> rfl
   | exit id =>
     obtain ⟨e1, h8, u, R1, ht, h9⟩ := h7;obtain ⟨h10, _⟩ := jb (show tst (Nat.beq (id + 1) 0) _ = true from h9);cases h10
   | goto l => exact h7.elim
theorem ObR.lp {st : Nat} {ps : List Nat} {p q : XCode} {e : U} {pd : Nat} {ob : IObj} (h : ObR (.lp st ps p q e pd) ob) : ∃ l E, ob = .loop l /\ e = jlZ E /\ l.st = st /\ l.ps = ps /\ l.x.a = p /\ l.x.b = q /\ l.pend = jkF pd /\ VarQ E l.x.vs /\ dsU E = .nl := h
theorem jh6 {F : XProg} {ih : RT} (hs : Snd F ih) (id : Nat) : CallS (xcfw F) (.y id) (jfM ih id) := by
 intro l h K P σ wr R hk;rw [jmV];unfold jfM at hk;obtain ⟨ob, o, h1, h2, h3⟩ := jS R hk;obtain ⟨st, ps, p, q, eu, pd, rfl, h4⟩ := QV h3;obtain ⟨l0, E, rfl, rfl, e1, e2, e3, e4, e5, hv, hd⟩ := h2.lp;obtain ⟨h5, h6⟩ := jb h4;have h5 := zN h5;have h7 := jey h6;obtain ⟨E1, vs1, g1, g2, g3, h8⟩ := jdp h7 hv;rw [K4] at h8;have R0 : QR E1 .nl ⟨h.n, h.t, 0, h.tr, []⟩ ⟨vs1, [], [], σ, []⟩ := ⟨g2, trivial, by rw [g3, hd]; exact trivial, R.fresh h.tr []⟩;obtain ⟨x, s1, h9, h10⟩ := hs _ _ _ _ _ _ _ R0 h8
 cases x with
 | normal =>
   obtain ⟨e6, st6, h11, R1, ht1, h12⟩ := h10;obtain ⟨ob1, o1, k1, k2, k3⟩ := jS R1.h h12;obtain ⟨st1, ps1, p1, q1, eu1, pd1, rfl, k4⟩ := QV k3;obtain ⟨l1, E2, rfl, rfl, f1, f2, f3, f4, f5, hv1, hd1⟩ := k2.lp;obtain ⟨k5, k6⟩ := jb k4;have k5 := zN k5;obtain ⟨h13, k7, _, k8, k9⟩ := ku R1.h k6 (o := .loop { l1 with st := 1 }) ⟨{ l1 with st := 1 }, E2, rfl, rfl, rfl, f2, f3, f4, f5, hv1, hd1⟩;have R2 : QR e6 .nl h13 { s1 with st := [], σ := s1.σ.set id (.loop { l1 with st := 1 }), wr := (id, false) :: s1.wr } := ⟨R1.v, trivial, R1.ds, k7⟩;obtain ⟨x2, s2, m1, m2⟩ := hs _ _ _ _ _ _ _ R2 k9;have hst0 : l0.st = 0 := by rw [e1]; exact h5
   have hst1 : l1.st = 0 := by rw [f1]; exact k5
   have g1' : Xd l0.x.vs l0.ps (toL l) = some vs1 := by rw [e2]; exact g1
   have h9' : Xl F l0.x.a ⟨vs1, [], [], σ, []⟩ = some (.normal, s1) := by rw [e3]; exact h9
   have m1' : Xl F l0.x.b { s1 with st := [], σ := s1.σ.set id (.loop { l1 with st := 1 }), wr := (id, false) :: s1.wr } = some (x2, s2) := by rw [e4]; exact m1
   have fin : ∀ {st2 : Nat} {pd2 : Nat} {pe : Option IExit} {v : Bool} {h14 : H}, HR h14 s2.σ s2.wr -> h14.tr = h.tr -> jkF pd2 = pe ->
       (vU id h14 fun ob3 => lpK ob3 fun _ ps3 p3 q3 eu3 _ => vB id (.lp st2 ps3 p3 q3 eu3 pd2) false h14 fun h4 => jg3 h.n h.mn h.tr h.ws (.b v) h4 K) = true ->
       ∃ l2, s2.σ[id]? = some (.loop l2) /\ ∃ h2, HR h2 (jC σ.length false (.bool v) ⟨ts0, s2.σ.set id (.loop { l2 with st := st2, pend := pe }), (id, false) :: s2.wr⟩).σ ((jC σ.length false (.bool v) ⟨ts0, s2.σ.set id (.loop { l2 with st := st2, pend := pe }), (id, false) :: s2.wr⟩).wr ++ wr) /\ h2.tr = h.tr /\ K (.b v) h2 = true := by
     intro st2 pd2 pe v h14 R3 ht3 hpe h15;obtain ⟨ob3, o3, n1, n2, n3⟩ := jS R3 h15;obtain ⟨st3, ps3, p3, q3, eu3, pd3, rfl, n4⟩ := QV n3;obtain ⟨l2, E3, rfl, rfl, w1, w2, w3, w4, w5, hv3, hd3⟩ := n2.lp;obtain ⟨h16, n5, _, n6, n7⟩ := ku R3 n4 (o := .loop { l2 with st := st2, pend := pe }) ⟨{ l2 with st := st2, pend := pe }, E3, rfl, rfl, rfl, w2, w3, w4, hpe.symm, hv3, hd3⟩;obtain ⟨h17, n8, n9, n10⟩ := Vp R n5 (n6.trans ht3) n7 false;exact ⟨l2, n1, h17, n8, n9, n10⟩
   have out : ∀ {o : Out} {v : Bool} {h2 : H}, vT (Xl F) id (toL l) σ = some o -> o.pan = false -> o.v = .bool v -> HR h2 o.σ (o.wr ++ wr) -> h2.tr = h.tr -> K (.b v) h2 = true ->
       ∃ o r h', vT (Xl F) id (toL l) σ = some o /\ toI r = o.v /\ HR h' o.σ (o.wr ++ wr) /\ h'.tr = h.tr /\ (o.pan = false /\ K r h' = true \/ o.pan = true /\ P r h' = true) :=
     fun a b c d e f => ⟨_, .b _, _, a, c.symm, d, e, Or.inl ⟨b, f⟩⟩
   have htr2 : h13.tr = h.tr := k8.trans ht1;have fv : ∀ {v : Bool} {σ0 : List IObj} {w0 : List (Nat × Bool)}, (jC σ.length false (.bool v) ⟨ts0, σ0, w0⟩).v = .bool v := by
     intro v σ0 w0; unfold jC; simp only; split <;> rfl
   have fp : ∀ {v : Bool} {σ0 : List IObj} {w0 : List (Nat × Bool)}, (jC σ.length false (.bool v) ⟨ts0, σ0, w0⟩).pan = false := by
     intro v σ0 w0; unfold jC; simp only; split <;> rfl
   cases x2 with
   | normal =>
     obtain ⟨e7, st7, h14, R3, ht3, h15⟩ := m2;obtain ⟨l2, n1, h17, n8, n9, n10⟩ := fin (st2 := 0) (pd2 := 0) (pe := none) R3.h (ht3.trans htr2) rfl h15;exact out (by unfold vT; simp only [h1, hst0, g1', h9', k1, hst1, m1', n1]) fp fv n8 n9 n10
   | ret =>
     obtain ⟨e7, h14, u, R3, ht3, h15⟩ := m2;obtain ⟨_, h16⟩ := jb h15;simp only [jr] at h16;obtain ⟨l2, n1, h17, n8, n9, n10⟩ := fin (st2 := 2) (pd2 := 1) (pe := some .ret) R3.h (ht3.trans htr2) rfl h16;exact out (by unfold vT; simp only [h1, hst0, g1', h9', k1, hst1, m1', n1, zX, if_true]) fp fv n8 n9 n10
   | exit i =>
     obtain ⟨e7, h14, u, R3, ht3, h15⟩ := m2;obtain ⟨_, h16⟩ := jb h15;simp only [jr] at h16;obtain ⟨l2, n1, h17, n8, n9, n10⟩ := fin (st2 := 2) (pd2 := i + 2) (pe := some (.exit i)) R3.h (ht3.trans htr2) rfl h16;exact out (by unfold vT; simp only [h1, hst0, g1', h9', k1, hst1, m1', n1, zX, if_true]) fp fv n8 n9 n10
   | panic v =>
     obtain ⟨e7, h14, u, R3, ht3, _, h15⟩ := m2;obtain ⟨h16, _⟩ := jb h15;cases h16
   | goto l => exact m2.elim
 | ret => obtain ⟨_, _, _, _, _, h12⟩ := h10; cases h12
 | panic v => obtain ⟨_, _, _, _, _, _, h12⟩ := h10; cases h12
 | exit i => obtain ⟨_, _, _, _, _, h12⟩ := h10; cases h12
 | goto l => exact h10.elim
end
end Go.Idl
namespace Go.Idl
noncomputable section
set_option maxHeartbeats 400000
def jhA : U := jhO .nilIface
theorem jhB : toI jhA = jkw := jcg _
def jpu (slot : Option Nat) (m : Option U) (e : Env) (K : Env -> Ans) : Ans := @Option.rec Nat (fun _ => Ans) (K e) (fun t => @Option.rec U (fun _ => Ans) (Js (Vw t) e jhA K) (fun u => unK u fun w => Js (Vw t) e w K) m) slot
theorem jfH {slot : Option Nat} {m : Option U} {e : Env} {K : Env -> Ans} {args : List IVal} (hv : VarQ e (Yd 0 args [])) (hk : jpu slot m e K = true) : ∃ e', VarQ e' (jlz slot args (m.map toI)) /\ dsU e' = dsU e /\ K e' = true := by
 cases slot with
 | none => exact ⟨e, hv, rfl, hk⟩
 | some t =>
   cases m with
   | none =>
     have hk : Js (Vw t) e jhA K = true := hk;rw [yj, zZ] at hk;refine ⟨_, ?_, vZ _ _ _, hk⟩;have := hv.set t jhA;rw [jhB] at this;exact this
   | some u =>
     obtain ⟨_, w, h1, h2⟩ := KQ (show unK u (fun w => Js (Vw t) e w K) = true from hk);rw [yj, zZ] at h2;refine ⟨_, ?_, vZ _ _ _, h2⟩;have := hv.set t w;rw [h1] at this;exact this
def jl1 (slot : Option Nat) (m : Option U) (e : Env) (h : H) (X : XK) : Ans := @Option.rec Nat (fun _ => Ans) (@Option.rec U (fun _ => Ans) (X 0 .nl e h) (fun u => X 1 u e h) m) (fun _ => X 0 .nl e h) slot
theorem jcW {slot : Option Nat} {m : Option U} {e : Env} {h : H} {N : NK} {X : XK} {s : XS} {tr : Bool} (R : QR e .nl h s) (ht : h.tr = tr) (hk : jl1 slot m e h X = true) : jlB tr N X (jcV (jil slot (m.map toI))) s := by
 cases slot with
 | none =>
   cases m with
   | none => exact ⟨e, h, .nl, R, ht, hk⟩
   | some u => exact ⟨e, h, u, R, ht, rfl, hk⟩
 | some t => exact ⟨e, h, .nl, R, ht, hk⟩
def jlq (mn : Nat) (tr : Bool) (ws : List Nat) (slot : Option Nat) (m : Option U) (e1 : Env) (X : XK) (e' : Env) (h2 : H) : Ans := nlK (dsU e') (hK h2 fun n' t' mn' _ ws' => fN (jek mn' mn) fun k => jl1 slot m (QK e1 .nl) ⟨n', t', k, tr, QN tr ws' ws⟩ X)
def XU (ih : RT) (nv : Nat) (slot : Option Nat) (c : XCode) (args : U) (m : Option U) (e1 : Env) (h : H) (X : XK) : Ans :=
 jh9 (dsU e1) h fun h1 => tst (Nat.ble (KR args) nv) (tst (jf5 slot nv) (jeH args nilE 0 fun ea => jpu slot m ea fun ea => hK h1 fun n t mn tr ws =>
   ih c ea .nl ⟨n, t, 0, tr, []⟩ (fun e' _ h2 => jlq mn tr ws slot m e1 X e' h2) (fun x _ e' h2 => tst (Nat.beq x 0) (jlq mn tr ws slot m e1 X e' h2))))
theorem Kc {F : XProg} {ih : RT} (hs : Snd F ih) {nv : Nat} {slot : Option Nat} {c : XCode} {args : U} {m : Option U} {e1 : Env} {h : H} {N : NK} {X : XK} {s : XS} {x : IExit} (R : QR e1 .nl h s) (hx : yz x = some (m.map toI))
   (hk : XU ih nv slot c args m e1 h X = true) : ∃ x' s', yW (Xl F) nv slot c (toL args) x s = some (x', s') /\ jlB h.tr N X x' s' := by
 obtain ⟨σ1, h1, g1, g2, g3, g4⟩ := X1 hk R.ds R.h;obtain ⟨g5, g6⟩ := jb g4;obtain ⟨g7, g8⟩ := jb g6;have g5 := ble_iff.1 g5;rw [kw] at g5;obtain ⟨ea, k1, k2, k3⟩ := XH g8 (vs := []) (fun j hj => absurd (jb8 j) hj);obtain ⟨eb, k4, k5, k6⟩ := jfH k1 k3;rw [K4] at k6;have R0 : QR eb .nl ⟨h1.n, h1.t, 0, h1.tr, []⟩ ⟨jlz slot (toL args) (m.map toI), [], [], σ1, []⟩ := ⟨k4, trivial, by rw [k5, k2]; exact trivial, g2.fresh h1.tr []⟩;obtain ⟨y, s', h6, h7⟩ := hs _ _ _ _ _ _ _ R0 k6;have fin : ∀ {e' : Env} {h2 : H}, QR e' .nl h2 s' -> h2.tr = h1.tr -> jlq h1.mn h1.tr h1.ws slot m e1 X e' h2 = true ->
     s'.ds = [] /\ jlB h.tr N X (jcV (jil slot (m.map toI))) { s with st := [], ds := [], σ := s'.σ, wr := s'.wr ++ ((s.ds.map fun id => (id, false)) ++ s.wr) } := by
   intro e' h2 R2 ht hf;obtain ⟨q1, q2⟩ := QW hf;rw [K4, jr] at q2;have hds : s'.ds = [] := by
     have := R2.ds;rw [q1] at this
     cases hd : s'.ds with
     | nil => rfl
     | cons a b => rw [hd] at this; exact this.elim
   refine ⟨hds, jcW ⟨R.v.ds _, trivial, ?_, g2.join R2.h (fun hh => by rw [ht]; exact hh)⟩ g3 q2⟩;rw [Zj];exact trivial
 have out : ∀ {mm : Option IVal}, yz y = some mm -> (∀ v, y ≠ .panic v) -> s'.ds = [] -> yW (Xl F) nv slot c (toL args) x s = some (jcV (jil slot (m.map toI)), { s with st := [], ds := [], σ := s'.σ, wr := s'.wr ++ ((s.ds.map fun id => (id, false)) ++ s.wr) }) := by
   intro mm hm hp hd;unfold yW;simp only [hx, g1];rw [if_pos ⟨g5, g7⟩, h6]
   cases y with
   | panic v => exact absurd rfl (hp v)
   | normal => simp only [yz, hd]
   | ret => simp only [yz, hd]
   | exit i => cases hm
   | goto l => cases hm
 cases y with
 | normal =>
   obtain ⟨e', st', h2, R2, ht, h8⟩ := h7;obtain ⟨hd, hD⟩ := fin R2.nl ht h8;exact ⟨_, _, out rfl (fun v h => by cases h) hd, hD⟩
 | ret =>
   obtain ⟨e', h2, u, R2, ht, h8⟩ := h7;obtain ⟨_, h9⟩ := jb (show tst (Nat.beq 0 0) (jlq h1.mn h1.tr h1.ws slot m e1 X e' h2) = true from h8);obtain ⟨hd, hD⟩ := fin R2 ht h9;exact ⟨_, _, out rfl (fun v h => by cases h) hd, hD⟩
 | panic v =>
   obtain ⟨e', h2, u, R2, ht, _, h8⟩ := h7;obtain ⟨h9, _⟩ := jb (show tst (Nat.beq 1 0) (jlq h1.mn h1.tr h1.ws slot m e1 X e' h2) = true from h8);cases h9
 | exit i =>
   obtain ⟨e', h2, u, R2, ht, h8⟩ := h7;obtain ⟨h9, _⟩ := jb (show tst (Nat.beq (i + 2) 0) (jlq h1.mn h1.tr h1.ws slot m e1 X e' h2) = true from h8);cases h9
 | goto l => exact h7.elim
def jnf (ih : RT) (cq : CQ) (yq : YQ) (l : List XOper) (x : XOpd) (xs : List XOpd) (g nv : Nat) (slot : Option Nat) (c b : XCode) (e : Env) (st : U) (h : H) (X : XK) : Ans :=
 jlw (l.map JZ) cq yq e st h (fun e st h => K8 ((x :: xs).map yB) e st fun la e => uC la false fun u vl => uO u fun t g' nb _ _ y => tst (Nat.beq t 7) (tst (Nat.beq g' g) (tst (zD ntU vl) (nlK (dsU e) (je2 V4 vl fun vl => jcE nb y vl fun args =>
   ih b e .nl h (fun e1 _ h1 => XU ih nv slot c args none e1 h1 X) (fun k u e1 h1 => @Nat.rec (fun _ => Ans) (XU ih nv slot c args none e1 h1 X) (fun k _ => tst (Nat.beq k 0) (XU ih nv slot c args (some u) e1 h1 X)) k)))))) (fun _ _ _ => false)
theorem jes {F : XProg} {cq : CQ} {yq : YQ} (hc : CYS (xcfw F) cq yq) {ih : RT} (hs : Snd F ih) {l : List XOper} {x : XOpd} {xs : List XOpd} {g nv : Nat} {slot : Option Nat} {c b : XCode} {e : Env} {st : U} {h : H} {N : NK} {X : XK} {s : XS}
   (R : QR e st h s) (hk : jnf ih cq yq l x xs g nv slot c b e st h X = true) : ∃ x' s', jdO (Xl F) (xcfw F) l x xs g nv slot c b s = some (x', s') /\ jlB h.tr N X x' s' := by
 rcases Z2 hc R hk with ⟨e', st', h', s', h1, R1, h2, h3⟩ | ⟨r, e', st', h', s', h1, R1, h2, h3⟩
 . obtain ⟨la, vs', e2, k1, k2, k3, k4⟩ := qR h3 R1.v R1.st
   rcases jj k4 with ⟨_, k5⟩ | ⟨u, vl, rfl, k5⟩
   . cases k5
   obtain ⟨t, g', nb, d1, d2, y, rfl, k6⟩ := jq k5;obtain ⟨k7, k8⟩ := jb k6;have := zN k7; subst this;obtain ⟨k9, k10⟩ := jb k8;have := zN k9; subst this;obtain ⟨k11, k12⟩ := jb k10;obtain ⟨k13, k14⟩ := QW k12;obtain ⟨vl2, k15, k16⟩ := vI qc k14;obtain ⟨args, k17, k18⟩ := KT k16;have hnt := qp (fun {x} hx => Qr hx) k11;have hds : s'.ds = [] := by
     have := R1.ds;rw [<- k3, k13] at this
     cases hd : s'.ds with
     | nil => rfl
     | cons a b => rw [hd] at this; exact this.elim
   have R2 : QR e2 .nl h' { s' with vs := vs', st := [] } := ⟨k2, trivial, by rw [k3]; exact R1.ds, R1.h⟩;rw [jn, jct] at k1;rw [k15] at k17;obtain ⟨x2, s2, q1, q2⟩ := hs _ _ _ _ _ _ _ R2 k18;have out : ∀ {x' : IExit} {s3 : XS}, yW (Xl F) nv slot c (toL args) x2 s2 = some (x', s3) -> jdO (Xl F) (xcfw F) l x xs g' nv slot c b s = some (x', s3) := by
     intro x' s3 hl;unfold jdO;simp only [h1, k1];rw [if_pos ⟨trivial, hnt, hds⟩, q1];simp only;rw [<- k17];exact hl
   cases x2 with
   | normal =>
     obtain ⟨e3, st3, h4, R3, ht, h5⟩ := q2;obtain ⟨x', s3, h6, h7⟩ := Kc (N := N) hs R3.nl (x := .normal) rfl h5;exact ⟨x', s3, out h6, by rw [<- h2, <- ht]; exact h7⟩
   | ret =>
     obtain ⟨e3, h4, u, R3, ht, h5⟩ := q2;obtain ⟨x', s3, h6, h7⟩ := Kc (N := N) hs R3 (x := .ret) (m := none) rfl h5;exact ⟨x', s3, out h6, by rw [<- h2, <- ht]; exact h7⟩
   | panic v =>
     obtain ⟨e3, h4, u, R3, ht, hu, h5⟩ := q2;obtain ⟨_, h6⟩ := jb (show tst (Nat.beq 0 0) (XU ih nv slot c args (some u) e3 h4 X) = true from h5);obtain ⟨x', s3, h7, h8⟩ := Kc (N := N) hs R3 (x := .panic v) (m := some u) (by rw [<- hu]; rfl) h6;exact ⟨x', s3, out h7, by rw [<- h2, <- ht]; exact h8⟩
   | exit i =>
     obtain ⟨e3, h4, u, R3, ht, h5⟩ := q2;obtain ⟨h6, _⟩ := jb (show tst (Nat.beq (i + 1) 0) (XU ih nv slot c args (some u) e3 h4 X) = true from h5);cases h6
   | goto l => exact q2.elim
 . cases h3
def stepG (cq : CQ) (yq : YQ) (ih : RT) (c : XCode) (e : Env) (st : U) (h : H) (N : NK) (X : XK) : Ans := @XCode.rec (fun _ => CQ -> YQ -> RT -> Env -> U -> H -> NK -> XK -> Ans)
 (fun _ _ _ e st h N _ => N e st h)
 (fun keep l cq yq ih e st h N X => jlw (l.map JZ) cq yq e st h (fun e st h => N e (@Bool.rec (fun _ => U) .nl st keep) h) (fun u e h => X 1 u e h))
 (fun keep l ps cq yq ih e st h N X => @List.rec (Nat × Nat) (fun _ => Ans)
   (jmJ ((l.map (·.2)).map JZ) cq yq e st h (fun e st h => N e (@Bool.rec (fun _ => U) .nl st keep) h) (fun r e h => jjF (J6 l) e fun e => X 1 r e h))
   (fun _ _ _ => tst (l.all fun p => Nat.beq p.2.xs.length (je p.2.op).length) (jfN (l.map fun p => (p.1, JZ p.2)) cq yq e st h (fun e st h ls => tst (ZN ps ls) (N e (@Bool.rec (fun _ => U) .nl st keep) h)) (fun r e h ls => tst (ZN ps ls) (jjF (J6 l) e fun e => X 1 r e h)))) ps)
 (fun a b _ _ _ _ ih e st h N X => ih a e st h (fun e st h => ih b e st h N X) X)
 (fun x a b _ _ _ _ ih e st h N X => KC (yB x) e st fun u _ => uB u fun t => @Bool.rec (fun _ => Ans) (ih b e .nl h N X) (ih a e .nl h N X) t)
 (fun id b _ _ _ ih e st h N X => ih b e st h N (fun x u e h => @Bool.rec (fun _ => Ans) (X x u e h) (N e .nl h) (Nat.beq x (Nat.add id 2))))
 (fun ks b _ _ _ ih e st h N X => @List.rec Nat (fun _ => Ans) (ih b e .nl h (fun e st h => ih (.loop [] b) e .nl h N X) X) (fun _ _ _ => false) ks)
 (fun id _ _ ih e st h N X => X (Nat.add id 2) .nl e h)
 (fun b _ _ _ ih e st h N X => ih b e st h N X)
 (fun _ _ ih e st h N X => X 0 .nl e h)
 (fun _ _ _ _ _ _ _ _ => false)
 (fun x ps a b _ _ cq yq ih e st h N X => KC (yB x) e st fun u _ => uO u fun t g nb _ _ x => tst (Nat.beq t 7) (jjO e fun e' => y0 (.o 4 0 0 0 0 .nl) h fun k h1 => y0 (.lp 0 ps a b (jlZ e') 0) h1 fun k1 h2 =>
   jcE nb x (.cn (.o 4 k1 0 0 0 .nl) .nl) fun args => cq g args h2 (fun _ h3 => vU k1 h3 fun ob => lpK ob fun st' _ _ _ _ pd => tst (jcb (Nat.beq st' 1)) (vB k1 .nl false h3 fun h4 =>
     @Nat.rec (fun _ => Ans) (N (QK e (.cn (.o 4 k 0 0 0 .nl) (dsU e))) .nl h4) (fun pd' _ => X (@Bool.rec (fun _ => Nat) (Nat.succ pd') 0 (Nat.beq pd' 0)) .nl (QK e (.cn (.o 4 k 0 0 0 .nl) (dsU e))) h4) pd)) (fun _ _ => false)))
 (fun l x xs g nv slot c b _ _ cq yq ih e st h _ X => jnf ih cq yq l x xs g nv slot c b e st h X)
 (fun _ _ _ _ _ _ _ _ _ => false)
 c cq yq ih e st h N X
theorem jip {F : XProg} {cq : CQ} {yq : YQ} (hc : CYS (xcfw F) cq yq) {ih : RT} (hs : Snd F ih) : Snd F (stepG cq yq ih) := by
 intro c e st h N X s R hk;rw [jgq]
 cases c with
 | skip => exact ⟨.normal, s, rfl, e, st, h, R, rfl, hk⟩
 | exit id => exact ⟨.exit id, s, rfl, e, h, .nl, R.nl, rfl, hk⟩
 | ret => exact ⟨.ret, s, rfl, e, h, .nl, R.nl, rfl, hk⟩
 | stuck => cases hk
 | ops keep l =>
   have kst : ∀ {e' : Env} {st' : U} {h' : H} {s' : XS}, QR e' st' h' s' -> QR e' (@Bool.rec (fun _ => U) .nl st' keep) h' (if keep then s' else { s' with st := [] }) := by
     intro e' st' h' s' R';cases keep
     . exact ⟨R'.v, trivial, R'.ds, R'.h⟩
     . exact R'
   rcases Z2 hc R (show jlw (l.map JZ) cq yq e st h (fun e st h => N e (@Bool.rec (fun _ => U) .nl st keep) h) (fun u e h => X 1 u e h) = true from hk) with ⟨e', st', h', s', h1, R1, h2, h3⟩ | ⟨r, e', st', h', s', h1, R1, h2, h3⟩
   . exact ⟨.normal, (if keep then s' else { s' with st := [] }), by simp only [jL, h1], e', _, h', kst R1, h2, h3⟩
   . refine ⟨.panic (toI r), (if keep then s' else { s' with st := [] }), by simp only [jL, h1], e', h', r, ?_, h2, rfl, h3⟩;exact (kst R1).nl
 | draw keep l ps =>
   have kst : ∀ {e' : Env} {st' : U} {h' : H} {s' : XS}, QR e' st' h' s' -> QR e' (@Bool.rec (fun _ => U) .nl st' keep) h' (if keep then s' else { s' with st := [] }) := by
     intro e' st' h' s' R';cases keep
     . exact ⟨R'.v, trivial, R'.ds, R'.h⟩
     . exact R'
   cases ps with
   | nil =>
     rcases jfO hc R (show jmJ ((l.map (·.2)).map JZ) cq yq e st h (fun e st h => N e (@Bool.rec (fun _ => U) .nl st keep) h) (fun r e h => jjF (J6 l) e fun e => X 1 r e h) = true from hk) with ⟨e', st', h', s', log, h1, R1, h2, h3⟩ | ⟨r, lw, e', st', h', s', log, h1, R1, h2, h3⟩
     . exact ⟨.normal, (if keep then s' else { s' with st := [] }), by simp only [jL, h1]; rw [if_pos (show vw [] log = true from rfl)]; rfl, e', _, h', kst R1, h2, h3⟩
     . obtain ⟨e2, R2, h4⟩ := Zi R1 h3;exact ⟨.panic (toI r), { s' with vs := jdT (J6 l) s'.vs, st := [] }, by simp only [jL, h1]; rw [if_pos (show vw [] log = true from rfl)]; rfl, e2, h', r, R2, h2, rfl, h4⟩
   | cons p ps =>
     obtain ⟨h0, h1⟩ := jb (show tst (l.all fun p => Nat.beq p.2.xs.length (je p.2.op).length) (jfN (l.map fun p => (p.1, JZ p.2)) cq yq e st h (fun e st h ls => tst (ZN (p :: ps) ls) (N e (@Bool.rec (fun _ => U) .nl st keep) h)) (fun r e h ls => tst (ZN (p :: ps) ls) (jjF (J6 l) e fun e => X 1 r e h))) = true from hk);have hlen : ∀ p ∈ l, p.2.xs.length = (je p.2.op).length := fun p hp => zN (List.all_eq_true.1 h0 p hp)
     rcases jdl hc hlen R h1 with ⟨e', st', h', s', log, ls, h2, h3, R1, h4, h5⟩ | ⟨r, lw, e', st', h', s', log, ls, h2, h3, R1, h4, h5⟩
     . obtain ⟨h6, h7⟩ := jb h5;exact ⟨.normal, (if keep then s' else { s' with st := [] }), by simp only [jL, h2]; rw [if_pos (ZO h3 h6)]; rfl, e', _, h', kst R1, h4, h7⟩
     . obtain ⟨h6, h7⟩ := jb h5;obtain ⟨e2, R2, h8⟩ := Zi R1 h7;exact ⟨.panic (toI r), { s' with vs := jdT (J6 l) s'.vs, st := [] }, by simp only [jL, h2]; rw [if_pos (ZO h3 h6)]; rfl, e2, h', r, R2, h4, rfl, h8⟩
 | seq a b =>
   obtain ⟨x, s1, h1, h2⟩ := hs _ _ _ _ _ _ _ R (show ih a e st h (fun e st h => ih b e st h N X) X = true from hk)
   cases x with
   | normal =>
     obtain ⟨e', st', h', R1, h3, h4⟩ := h2;obtain ⟨x2, s2, h5, h6⟩ := hs _ _ _ _ _ _ _ R1 h4;rw [h3] at h6;exact ⟨x2, s2, by simp only [jL, h1]; exact h5, h6⟩
   | ret => exact ⟨.ret, s1, by simp only [jL, h1], h2⟩
   | panic v => exact ⟨.panic v, s1, by simp only [jL, h1], h2⟩
   | exit i => exact ⟨.exit i, s1, by simp only [jL, h1], h2⟩
   | goto l => exact h2.elim
 | cond x a b =>
   obtain ⟨u, vs', e', h1, _, _, h4⟩ := kv (show KC (yB x) e st (fun u _ => uB u fun t => @Bool.rec (fun _ => Ans) (ih b e .nl h N X) (ih a e .nl h N X) t) = true from hk) R.v R.st;obtain ⟨t, rfl, h5⟩ := Kj h4;rw [Xx] at h1;have R1 : QR e .nl h { s with st := [] } := ⟨R.v, trivial, R.ds, R.h⟩
   cases t with
   | true =>
     obtain ⟨x2, s2, h6, h7⟩ := hs _ _ _ _ _ _ _ R1 (show ih a e .nl h N X = true from h5);exact ⟨x2, s2, by simp only [jL, h1]; exact h6, h7⟩
   | false =>
     obtain ⟨x2, s2, h6, h7⟩ := hs _ _ _ _ _ _ _ R1 (show ih b e .nl h N X = true from h5);exact ⟨x2, s2, by simp only [jL, h1]; exact h6, h7⟩
 | block id b =>
   obtain ⟨x, s1, h1, h2⟩ := hs _ _ _ _ _ _ _ R (show ih b e st h N (fun x u e h => @Bool.rec (fun _ => Ans) (X x u e h) (N e .nl h) (Nat.beq x (Nat.add id 2))) = true from hk)
   cases x with
   | normal => exact ⟨.normal, s1, by simp only [jL, h1], h2⟩
   | ret =>
     obtain ⟨e', h', u, R1, h3, h4⟩ := h2;exact ⟨.ret, s1, by simp only [jL, h1], e', h', u, R1, h3, h4⟩
   | panic v =>
     obtain ⟨e', h', u, R1, h3, hu, h4⟩ := h2;exact ⟨.panic v, s1, by simp only [jL, h1], e', h', u, R1, h3, hu, h4⟩
   | exit i =>
     obtain ⟨e', h', u, R1, h3, h4⟩ := h2
     rcases jf h4 with ⟨h5, h6⟩ | ⟨h5, h6⟩
     . have := zN h5;rw [K6] at this;exact ⟨.normal, s1, by simp only [jL, h1]; rw [if_pos (by omega)], e', .nl, h', R1, h3, h6⟩
     . have := zE h5;rw [K6] at this;exact ⟨.exit i, s1, by simp only [jL, h1]; rw [if_neg (by omega)], e', h', u, R1, h3, h6⟩
   | goto l => exact h2.elim
 | loop ks b =>
   cases ks with
   | cons k ks => cases hk
   | nil =>
     have R1 : QR e .nl h { s with st := [] } := ⟨R.v, trivial, R.ds, R.h⟩;obtain ⟨x, s1, h1, h2⟩ := hs _ _ _ _ _ _ _ R1 (show ih b e .nl h (fun e st h => ih (.loop [] b) e .nl h N X) X = true from hk)
     cases x with
     | normal =>
       obtain ⟨e', st', h', R2, h3, h4⟩ := h2;obtain ⟨x2, s2, h5, h6⟩ := hs _ _ _ _ _ _ _ R2.nl h4;rw [h3] at h6;refine ⟨x2, s2, ?_, h6⟩;simp only [jL, List.isEmpty_nil, if_true, h1];exact h5
     | ret => exact ⟨.ret, s1, by simp only [jL, List.isEmpty_nil, if_true, h1], h2⟩
     | panic v => exact ⟨.panic v, s1, by simp only [jL, List.isEmpty_nil, if_true, h1], h2⟩
     | exit i => exact ⟨.exit i, s1, by simp only [jL, List.isEmpty_nil, if_true, h1], h2⟩
     | goto l => exact h2.elim
 | scope b =>
   obtain ⟨x, s1, h1, h2⟩ := hs _ _ _ _ _ _ _ R (show ih b e st h N X = true from hk)
   cases x with
   | goto l => exact h2.elim
   | normal => exact ⟨.normal, s1, by simp only [jL, h1], h2⟩
   | ret => exact ⟨.ret, s1, by simp only [jL, h1], h2⟩
   | panic v => exact ⟨.panic v, s1, by simp only [jL, h1], h2⟩
   | exit i => exact ⟨.exit i, s1, by simp only [jL, h1], h2⟩
 | rangeF x ps a b =>
   obtain ⟨u, vs', e0, h1, _, _, h4⟩ := kv (show KC (yB x) e st (fun u _ => uO u fun t g nb _ _ x => tst (Nat.beq t 7) (jjO e fun e' => y0 (.o 4 0 0 0 0 .nl) h fun k h1 => y0 (.lp 0 ps a b (jlZ e') 0) h1 fun k1 h2 =>
     jcE nb x (.cn (.o 4 k1 0 0 0 .nl) .nl) fun args => cq g args h2 (fun _ h3 => vU k1 h3 fun ob => lpK ob fun st' _ _ _ _ pd => tst (jcb (Nat.beq st' 1)) (vB k1 .nl false h3 fun h4 =>
       @Nat.rec (fun _ => Ans) (N (QK e (.cn (.o 4 k 0 0 0 .nl) (dsU e))) .nl h4) (fun pd' _ => X (@Bool.rec (fun _ => Nat) (Nat.succ pd') 0 (Nat.beq pd' 0)) .nl (QK e (.cn (.o 4 k 0 0 0 .nl) (dsU e))) h4) pd)) (fun _ _ => false))) = true from hk) R.v R.st
   obtain ⟨t, g, nb, c, d, y, rfl, h5⟩ := jq h4;obtain ⟨h6, h7⟩ := jb h5;have := zN h6; subst this;obtain ⟨e', h8, h9, h10⟩ := jcT h7;obtain ⟨h11, k1, k2, k3⟩ := kp R.h h10 (o := .defr) rfl;obtain ⟨h12, k4, k5, k6⟩ := kp k1 k3 (o := .loop ⟨0, ts0, ps, .skip, .skip, none, ⟨aun s.vs, a, b⟩⟩) ⟨⟨0, ts0, ps, .skip, .skip, none, ⟨aun s.vs, a, b⟩⟩, e', rfl, rfl, rfl, rfl, rfl, rfl, rfl, R.v.un h8, h9⟩;obtain ⟨args, k7, k8⟩ := KT k6;obtain ⟨o, r, h13, m1, m2, m3, m4, m5⟩ := hc.c g args h12 _ _ _ _ k4 k8
   rcases m5 with ⟨m6, m7⟩ | ⟨_, m7⟩
   . obtain ⟨ob, ob', n1, n2, n3⟩ := jS m3 m7;obtain ⟨st1, ps1, p1, q1, eu1, pd1, rfl, n4⟩ := QV n3;obtain ⟨l1, E2, rfl, rfl, f1, f2, f3, f4, f5, _, _⟩ := n2.lp;obtain ⟨n5, n6⟩ := jb n4;obtain ⟨h14, n7, _, n8, n9⟩ := ku m3 n6 (o := .dead) rfl;have hst : ¬ l1.st = 1 := by
       rw [f1]; intro e; subst e; cases n5
     have hkk : (s.σ ++ [IObj.defr]).length = s.σ.length + 1 := by simp
     rw [hkk] at n1 n7 k7;have hargs : toL args = (toL y).take nb ++ [.yl (s.σ.length + 1)] ++ (toL y).drop nb := by rw [k7]; rfl
     have hσ : s.σ ++ [IObj.defr] ++ [IObj.loop ⟨0, ts0, ps, .skip, .skip, none, ⟨aun s.vs, a, b⟩⟩] = s.σ ++ [.defr, .loop ⟨0, ts0, ps, .skip, .skip, none, ⟨aun s.vs, a, b⟩⟩] := by simp
     rw [hσ, hargs] at m1;rw [jct] at h1;obtain ⟨pan, v, σ', wr'⟩ := o;simp only at m6 m3 n1 n7;subst m6;have RE : QR (QK e (.cn (.o 4 s.σ.length 0 0 0 .nl) (dsU e))) .nl h14 { s with ds := s.σ.length :: s.ds, σ := σ'.set (s.σ.length + 1) .dead, wr := (s.σ.length + 1, false) :: (wr' ++ s.wr) } :=
       ⟨R.v.ds _, trivial, by rw [Zj]; exact ⟨rfl, R.ds⟩, n7⟩
     have htr : h14.tr = h.tr := n8.trans (m4.trans (k5.trans k2))
     cases pd1 with
     | zero =>
       have hp : l1.pend = none := f5;refine ⟨.normal, _, ?_, _, .nl, h14, RE, htr, n9⟩;simp only [jL, h1, m1, n1];rw [if_neg hst];simp only [hp]
     | succ pd =>
       have n9 : X (@Bool.rec (fun _ => Nat) (Nat.succ pd) 0 (Nat.beq pd 0)) .nl (QK e (.cn (.o 4 s.σ.length 0 0 0 .nl) (dsU e))) h14 = true := n9
       cases pd with
       | zero =>
         have hp : l1.pend = some .ret := f5;refine ⟨.ret, _, ?_, _, h14, .nl, RE, htr, n9⟩;simp only [jL, h1, m1, n1];rw [if_neg hst];simp only [hp, zX, if_true]
       | succ pd =>
         have hp : l1.pend = some (.exit pd) := f5;refine ⟨.exit pd, _, ?_, _, h14, .nl, RE, htr, n9⟩;simp only [jL, h1, m1, n1];rw [if_neg hst];simp only [hp, zX, if_true]
   . cases m7
 | dfr l x xs g nv slot c b => exact jes (N := N) hc hs R (show jnf ih cq yq l x xs g nv slot c b e st h X = true from hk)
 | lib p => cases hk
def rqG (cq : CQ) (yq : YQ) (n : Nat) : RT := @Nat.rec (fun _ => RT) (fun _ _ _ _ _ _ => false) (fun _ ih c e st h N X => stepG cq yq ih c e st h N X) n
theorem jjb {F : XProg} {cq : CQ} {yq : YQ} (hc : CYS (xcfw F) cq yq) : ∀ n, Snd F (rqG cq yq n) := by
 intro n
 induction n with
 | zero => intro c e st h N X s R hk; cases hk
 | succ n ih => exact jip hc ih
def jej (n : Nat) (fn : XFunc) (cq : CQ) (yq : YQ) : U -> H -> KH -> KH -> Ans := jlN fn (rqG cq yq n)
theorem jgL {F : XProg} {cq : CQ} {yq : YQ} (hc : CYS (xcfw F) cq yq) (n : Nat) {g : FuncId} {fn : XFunc} (hF : F g = some fn) : CallS (xcfw F) (.f g) (jej n fn cq yq) := jd5 (jjb hc n) hF
def LibQ (p : LibP) (q : U -> H -> (U -> Ans) -> Ans) : Prop := ∀ l h σ wr K, HR h σ wr -> q l h K = true -> ∃ r, p (obCs σ) (obMs σ) (toL l) = some (toI r) /\ K r = true
def lp (p : List IVal -> Option IVal) : LibP := fun _ _ => p
def lq (q : U -> (U -> Ans) -> Ans) (l : U) (_ : H) (K : U -> Ans) : Ans := q l K
def jaA (p : List IVal -> Option IVal) (q : U -> (U -> Ans) -> Ans) : Prop := ∀ l K, q l K = true -> ∃ r, p (toL l) = some (toI r) /\ K r = true
theorem lq_ok {p : List IVal -> Option IVal} {q : U -> (U -> Ans) -> Ans} (h : jaA p q) : LibQ (lp p) (lq q) := fun l _ _ _ K _ hk => h l K hk
def libF (q : U -> H -> (U -> Ans) -> Ans) (_ : CQ) (_ : YQ) (l : U) (h : H) (K _P : KH) : Ans := q l h fun r => K r h
theorem libF_ok {F : XProg} {p : LibP} {q : U -> H -> (U -> Ans) -> Ans} (hq : LibQ p q) {cq : CQ} {yq : YQ} {g : FuncId} {nv : Nat} {res : List RV} (hF : F g = some ⟨nv, .lib p, res⟩) : CallS (xcfw F) (.f g) (libF q cq yq) := by
 intro l h K P σ wr R hk;obtain ⟨r, h1, h2⟩ := hq l h σ wr _ R hk;rw [jjm, hF];exact ⟨⟨false, toI r, σ, []⟩, r, h, by simp only [zz, jcx, h1], rfl, R, rfl, Or.inl ⟨rfl, h2⟩⟩
def yqN (n m : Nat) (cq : CQ) : YQ := @Nat.rec (fun _ => YQ) (fun _ _ _ _ _ => false) (fun _ ih id => jfM (rqG cq ih n) id) m
theorem jmW {F : XProg} {cq : CQ} (hc : ∀ g, CallS (xcfw F) (.f g) (cq g)) (n : Nat) : ∀ m id, CallS (xcfw F) (.y id) (yqN n m cq id) := by
 intro m
 induction m with
 | zero => intro id l h K P σ wr R hk; cases hk
 | succ m ih => intro id; exact jh6 (jjb ⟨hc, ih⟩ n) id
abbrev CF := CQ -> YQ -> U -> H -> KH -> KH -> Ans
inductive BT where
 | lf
 | nd (k : Nat) (f : CF) (l r : BT)
def BT.get (t : BT) (g : Nat) (cq : CQ) (yq : YQ) : U -> H -> KH -> KH -> Ans := @BT.rec (fun _ => U -> H -> KH -> KH -> Ans) (fun _ _ _ _ => false) (fun k f _ _ il ir a h K P => @Bool.rec (fun _ => Ans) (@Bool.rec (fun _ => Ans) (ir a h K P) (il a h K P) (Nat.blt g k)) (f cq yq a h K P) (Nat.beq g k)) t
def BT.OK (F : XProg) : BT -> Prop
 | .lf => True
 | .nd k f l r => (∀ cq yq, CYS (xcfw F) cq yq -> CallS (xcfw F) (.f k) (f cq yq)) /\ l.OK F /\ r.OK F
theorem BT.get_ok {F : XProg} {cq : CQ} {yq : YQ} (hc : CYS (xcfw F) cq yq) (g : Nat) : ∀ t : BT, t.OK F -> CallS (xcfw F) (.f g) (t.get g cq yq) := by
 intro t
 induction t with
 | lf => intro _ l h K P σ wr R hk; cases hk
 | nd k f l r il ir =>
   intro ho;intro a h K P σ wr R hk
   rcases jf (show @Bool.rec (fun _ => Ans) (@Bool.rec (fun _ => Ans) (r.get g cq yq a h K P) (l.get g cq yq a h K P) (Nat.blt g k)) (f cq yq a h K P) (Nat.beq g k) = true from hk) with ⟨h1, h2⟩ | ⟨h1, h2⟩
   . have := zN h1; subst this;exact ho.1 _ _ hc _ _ _ _ _ _ R h2
   . rcases jf h2 with ⟨h3, h4⟩ | ⟨h3, h4⟩
     . exact il ho.2.1 _ _ _ _ _ _ R h4
     . exact ir ho.2.2 _ _ _ _ _ _ R h4
def jpw (t : BT) (n m : Nat) (d : Nat) : CQ := @Nat.rec (fun _ => CQ) (fun _ _ _ _ _ => false) (fun _ ih g => t.get g ih (yqN n m ih)) d
theorem jk4 {F : XProg} {t : BT} (ht : t.OK F) (n m : Nat) : ∀ d g, CallS (xcfw F) (.f g) (jpw t n m d g) := by
 intro d
 induction d with
 | zero => intro g l h K P σ wr R hk; cases hk
 | succ d ih => intro g; exact BT.get_ok ⟨ih, jmW ih n m⟩ g t ht
def sysTrue (t : BT) (n m d : Nat) (g : FuncId) : Ans := jpw t n m d g .nl XE (fun r _ => uB r fun b => b) (fun _ _ => false)
theorem sysTrue_ok {F : XProg} {t : BT} (ht : t.OK F) {n m d : Nat} {g : FuncId} (h : sysTrue t n m d g = true) : ∃ o, xcfw F (.f g) [] [] = some o /\ o.pan = false /\ o.v = .bool true := by
 obtain ⟨o, r, h', h1, h2, _, _, h3⟩ := jk4 ht n m d g .nl XE _ _ [] [] Zl h
 rcases h3 with ⟨h4, h5⟩ | ⟨_, h5⟩
 . obtain ⟨b, rfl, rfl⟩ := Kj h5;exact ⟨o, h1, h4, h2.symm⟩
 . cases h5
end
end Go.Idl
namespace Go.Idl
noncomputable section
def jpt : List IVal -> Option IVal
 | [.str s, .str [c]] => some (.int .i64 (Lib.countByte s c))
 | _ => none
def pRepeat : List IVal -> Option IVal
 | [.str s, .int .i64 n] => if 2 <= n /\ 0 < s.length /\ s.length * n.toNat <= 140737488355328 then some (.str (Lib.repeatL s n.toNat)) else none
 | _ => none
def pReplace : List IVal -> Option IVal
 | [.str s, .str t, .str u, .int .i64 n] => if s.length < 4294967281 /\ 1 <= t.length /\ s.length + Lib.count s t * u.length <= 140737488355328 then some (.str (Lib.replace s t u n)) else none
 | _ => none
def slowQ (p : List IVal -> Option IVal) (l : U) (K : U -> Ans) : Ans := @Option.rec IVal (fun _ => Ans) false (fun v => frU (rep v) K) (p (toL l))
theorem slowQ_ok (p : List IVal -> Option IVal) : jaA p (slowQ p) := by
 intro l K h;unfold slowQ at h
 cases hp : p (toL l) with
 | none => rw [hp] at h; cases h
 | some v =>
   rw [hp] at h;have h : frU (rep v) K = true := h;rw [jiT] at h;exact ⟨rep v, by rw [zy], h⟩
def jne (c n : Nat) : Nat -> Nat -> (Nat -> Ans) -> Ans := @Nat.rec (fun _ => Nat -> Nat -> (Nat -> Ans) -> Ans) (fun _ a K => K a)
 (fun _ ih x a K => fN (Nat.div x 256) fun y => fN (@Bool.rec (fun _ => Nat) a (Nat.succ a) (Nat.beq (Nat.mod x 256) c)) fun a => ih y a K) n
theorem jeh {c : Nat} (hc : c < 256) : ∀ {n x a : Nat} {K : Nat -> Ans}, jne c n x a K = true -> K (a + (qG n x).count (UInt8.ofNat c)) = true := by
 intro n
 induction n with
 | zero => intro x a K h; exact h
 | succ n ih =>
   intro x a K h;have h : fN (Nat.div x 256) (fun y => fN (@Bool.rec (fun _ => Nat) a (Nat.succ a) (Nat.beq (Nat.mod x 256) c)) fun a => jne c n y a K) = true := h;rw [jr, jr] at h;have h := ih h;rw [qH, List.count_append];have e : List.count (UInt8.ofNat c) [UInt8.ofNat x] = if x % 256 = c then 1 else 0 := by
     rw [List.count_singleton]
     by_cases hx : x % 256 = c
     . rw [if_pos hx, if_pos];rw [beq_iff_eq];exact jan (by rw [hx, Nat.mod_eq_of_lt hc])
     . rw [if_neg hx, if_neg];rw [beq_iff_eq];intro e;have := congrArg UInt8.toNat e;simp only [UInt8.toNat_ofNat'] at this;omega
   rw [e];have e2 : @Bool.rec (fun _ => Nat) a (Nat.succ a) (Nat.beq (Nat.mod x 256) c) = a + if x % 256 = c then 1 else 0 := by
     cases hb : Nat.beq (Nat.mod x 256) c with
     | true => rw [if_pos (show x % 256 = c from zN hb)]
     | false => rw [if_neg (show ¬ x % 256 = c from zE hb)]; rfl
   rw [e2] at h;have e3 : a + ((qG n (x / 256)).count (UInt8.ofNat c) + if x % 256 = c then 1 else 0) = a + (if x % 256 = c then 1 else 0) + (qG n (Nat.div x 256)).count (UInt8.ofNat c) := by
     rw [jkt]; omega
   rw [e3]; exact h
def jm5 (b x n : Nat) : Nat -> (Nat -> Ans) -> Ans := @Nat.rec (fun _ => Nat -> (Nat -> Ans) -> Ans) (fun a K => K a) (fun _ ih a K => fN (Nat.add (Nat.mul a b) x) fun a => ih a K) n
theorem ZX (l : List UInt8) (c : Nat) : Lib.repeatL l (c + 1) = l ++ Lib.repeatL l c := rfl
theorem jfI {l x : Nat} (hx : x < 256 ^ l) : ∀ {n m a : Nat} {K : Nat -> Ans}, jm5 (256 ^ l) x n a K = true -> ∃ y, qG (m + l * n) y = qG m a ++ Lib.repeatL (qG l x) n /\ K y = true := by
 intro n
 induction n with
 | zero => intro m a K h; exact ⟨a, by simp [Lib.repeatL], h⟩
 | succ n ih =>
   intro m a K h;have h : fN (Nat.add (Nat.mul a (256 ^ l)) x) (fun a => jm5 (256 ^ l) x n a K) = true := h;rw [jr] at h;obtain ⟨y, h1, h2⟩ := ih (m := m + l) h;refine ⟨y, ?_, h2⟩;have e : m + l * (n + 1) = m + l + l * n := by rw [Nat.mul_succ]; omega
   rw [e, h1, ZX, <- zS, V8 m l a x, Nat.mod_eq_of_lt hx];rfl
def repQ (l : U) (K : U -> Ans) : Ans := uC l false fun u r => uC r false fun v r => Zm r (uS u fun n x => uI v fun k c => tst (Nat.beq k 3) (tst (Nat.ble 18446744073709551618 c) (fN (Nat.sub c 18446744073709551616) fun c => tst (Nat.blt 0 n) (tst (Nat.ble (Nat.mul n c) 140737488355328) (fN (Nat.pow 256 n) fun b => fN (Nat.mod x b) fun x =>
 jm5 b x c 0 fun y => fN (Nat.mul n c) fun m => K (.s m y))))))
theorem repQ_ok : jaA pRepeat repQ := by
 intro l K h
 rcases jj (show uC l false (fun u r => uC r false fun v r => Zm r (uS u fun n x => uI v fun k c => tst (Nat.beq k 3) (tst (Nat.ble 18446744073709551618 c) (fN (Nat.sub c 18446744073709551616) fun c => tst (Nat.blt 0 n) (tst (Nat.ble (Nat.mul n c) 140737488355328) (fN (Nat.pow 256 n) fun b => fN (Nat.mod x b) fun x =>
   jm5 b x c 0 fun y => fN (Nat.mul n c) fun m => K (.s m y))))))) = true from h) with ⟨_, h2⟩ | ⟨u, r, rfl, h2⟩
 . cases h2
 rcases jj h2 with ⟨_, h3⟩ | ⟨v, r, rfl, h3⟩
 . cases h3
 obtain ⟨rfl, h4⟩ := j9 h3;obtain ⟨n, x, rfl, h5⟩ := qb h4;obtain ⟨k, c, rfl, h6⟩ := jV h5;obtain ⟨h7, h8⟩ := jb h6;have := zN h7; subst this;obtain ⟨h9, h10⟩ := jb h8;have h9 := ble_iff.1 h9;rw [jr] at h10;obtain ⟨h11, h12⟩ := jb h10;have h11 := jy h11;obtain ⟨h13, h14⟩ := jb h12;have h13 := ble_iff.1 h13;rw [jr, jr] at h14;have hx : Nat.mod x (Nat.pow 256 n) < 256 ^ n := Nat.mod_lt _ (Nat.pow_pos (by omega));obtain ⟨y, h15, h16⟩ := jfI (m := 0) hx h14;rw [jr] at h16;refine ⟨_, ?_, h16⟩;have ek : kd 3 = .i64 := rfl;have hc : ((c : Int) - 18446744073709551616).toNat = Nat.sub c 18446744073709551616 := by rw [QO]; omega
 rw [jn, jn, kT, Ju, qJ, ek];simp only [pRepeat, jB, hc];rw [if_pos ⟨by omega, h11, h13⟩, Ju];rw [Nat.zero_add] at h15;have e0 : qG 0 0 = [] := rfl;rw [e0, List.nil_append] at h15;have e1 : Nat.mul n (Nat.sub c 18446744073709551616) = n * Nat.sub c 18446744073709551616 := rfl;rw [e1, h15];have e2 : Nat.mod x (Nat.pow 256 n) = x % 256 ^ n := rfl;rw [e2, Q4]
end
end Go.Idl
namespace Go.Idl
open Go.RowKit (Below)
variable [Globs] {P : Program}
theorem Vy {f : FuncId} {p : List IVal -> Option IVal} (hc : Callable P f)
   (h : ∀ args v, p args = some v -> ∀ (g : Gh) (rl : List Value) (w : World), args.length = rl.length -> (∀ q ∈ args.zip rl, V g q.1 q.2) -> (∀ k vs, Globs.vals k = some vs -> ∀ (i : Nat) c, vs[i]? = some c -> w.cell? ⟨k, i, none⟩ = some c) ->
     Calls P f rl.toArray w fun e w' => ∃ v', e = .returned v' /\ V g v v' /\ jA v v' = [] /\ Below w.heap.size w w') : LibOK P f (lp p) := by
 intro σ args v hp;have hp : p args = some v := hp;refine ⟨hc, fun g O rargs w _ hl hR => callsIn_wide.2 ?_⟩;have hG : ∀ k vs, Globs.vals k = some vs -> ∀ (i : Nat) c, vs[i]? = some c -> w.cell? ⟨k, i, none⟩ = some c := fun k vs hk i c hi => by
   have := hR.claim k (0 + i) c (hR.glob k vs hk i c hi)
   rwa [Nat.zero_add] at this
 have := h args v hp g rargs.toList w hl (fun q hq => hR.vals q hq) hG;rw [Array.toArray_toList] at this;refine this.mono ?_;rintro e w' ⟨v', rfl, hv, ho, hb⟩;have h0 : R g O [] σ w := R.drops (l' := []) (by simpa using hR);exact ⟨v', g, O, rfl, ⟨hb.size, fun b hb' _ => ⟨hb.block b hb', rfl, fun _ => rfl⟩, fun _ _ _ h => h, fun _ _ h => h, fun _ h => .inl h, rfl, hb.os, hb.tape, hb.output, fun _ => Nat.le_refl _⟩,
   (h0.world hb.size hb.block).push hv ho⟩
theorem szL (s : ByteArray) : s.size = s.data.toList.length := by rw [Array.length_toList]; rfl
theorem jcr {g : Gh} {l : List UInt8} {v : Value} (h : V g (.str l) v) : ∃ s : ByteArray, v = .string s /\ s.data.toList = l := by
 cases h with
 | str s => exact ⟨s, rfl, rfl⟩
theorem jiW {g : Gh} {k : IntKind} {n : Int} {v : Value} (h : V g (.int k n) v) : v = .int k n := by
 cases h; rfl
theorem V.strL {g : Gh} (l : List UInt8) : V g (.str l) (.string ⟨l.toArray⟩) := by
 have := V.str (g := g) ⟨l.toArray⟩;simpa using this
theorem repeat_ok {f : FuncId} (hc : Callable P f) (h : ∀ (s : ByteArray) (c : Nat) (w : World), c <= 9223372036854775807 -> s.size * c <= 140737488355328 ->
   Calls P f #[.string s, .int .i64 c] w fun e w' => e = .returned (.string ⟨(Lib.repeatL s.data.toList c).toArray⟩) /\ Below w.heap.size w w') : LibOK P f (lp pRepeat) := by
 refine Vy hc fun args v hp g rl w hl hV _ => ?_;unfold pRepeat at hp;split at hp
 . rename_i s n;split at hp
   . rename_i hcond;simp only [zO] at hp;subst hp
     match rl, hl with
     | [a, b], _ =>
       obtain ⟨s, rfl, rfl⟩ := jcr (hV (IVal.str s, a) (by simp));have hb := jiW (hV (IVal.int .i64 n, b) (by simp));subst hb;obtain ⟨h1, h2, h3⟩ := hcond;have hsz := szL s;have hn : ((n.toNat : Nat) : Int) = n := Int.toNat_of_nonneg (by omega);have hle : n.toNat <= s.data.toList.length * n.toNat := Nat.le_mul_of_pos_left _ h2;have := h s n.toNat w (by omega) (by rw [hsz]; exact h3);rw [hn] at this;refine this.mono ?_;rintro e w' ⟨rfl, hb⟩;exact ⟨_, rfl, V.strL _, rfl, hb⟩
   . cases hp
 . cases hp
theorem replace_ok {f : FuncId} {k : Nat} {m : Int} (hk : Globs.vals k = some [.int .i64 m]) (hc : Callable P f) (h : ∀ (s old new : ByteArray) (n : Int) (m : Int) (w : World), s.size < 4294967281 -> w.cell? ⟨k, 0, none⟩ = some (.int .i64 m) -> 1 <= old.size -> s.size + Lib.countB s old * new.size <= 140737488355328 ->
   Calls P f #[.string s, .string old, .string new, .int .i64 n] w fun e w' => e = .returned (.string ⟨(Lib.replace s.data.toList old.data.toList new.data.toList n).toArray⟩) /\ Below w.heap.size w w') : LibOK P f (lp pReplace) := by
 refine Vy hc fun args v hp g rl w hl hV hG => ?_;unfold pReplace at hp;split at hp
 . rename_i s t u n;split at hp
   . rename_i hcond;simp only [zO] at hp;subst hp
     match rl, hl with
     | [a, b, c, d], _ =>
       obtain ⟨s, rfl, rfl⟩ := jcr (hV (IVal.str s, a) (by simp));obtain ⟨t, rfl, rfl⟩ := jcr (hV (IVal.str t, b) (by simp));obtain ⟨u, rfl, rfl⟩ := jcr (hV (IVal.str u, c) (by simp));have hb := jiW (hV (IVal.int .i64 n, d) (by simp));subst hb;refine (h s t u n m w (by rw [szL]; exact hcond.1) (hG k _ hk 0 _ rfl) (by rw [szL]; exact hcond.2.1) (by rw [szL, szL]; exact hcond.2.2)).mono ?_;rintro e w' ⟨rfl, hb⟩;exact ⟨_, rfl, V.strL _, rfl, hb⟩
   . cases hp
 . cases hp
end Go.Idl
