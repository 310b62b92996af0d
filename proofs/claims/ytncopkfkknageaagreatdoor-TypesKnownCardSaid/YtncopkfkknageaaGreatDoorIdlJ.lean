/- The ideal machine and its evaluators, part 10; no conditions. -/
import Derived.Lib.Bytealg
import Derived.Lib.Fields
import Derived.Lib.IndexMore
import Derived.Lib.Replace
import Derived.Lib.Repeat
import Derived.Lib.Space
import Derived.Lib.ReplaceLaws
import Derived.Deep.Draws
import Derived.Test.YtncopkfkknageaaGreatDoorIdlI
set_option linter.unusedSectionVars false
set_option linter.unusedVariables false
set_option linter.unusedSimpArgs false
namespace Go.Idl
noncomputable section
set_option maxHeartbeats 100000
inductive QDst where
 | push
 | var (ix : Ix)
 | drop
def jgj : XDst -> QDst
 | .push => .push
 | .var i => .var (Qg i)
 | .drop => .drop
inductive QOper where
 | mk (q : QOp) (xs : List QOpd) (pop : Nat) (dst : QDst) (g : Option (QOpd × Bool)) (nr qt : Bool) (rk : Nat)
def jjK : IOp -> Bool
 | .append br _ _ _ _ _ => !br
 | .conv _ _ => true
 | _ => false
def Yu : IOp -> Nat
 | .load _ _ _ => 1
 | .lookup _ _ _ _ _ => 2
 | .lenM _ => 3
 | .store _ _ _ => 1
 | _ => 0
def Q7 (o : XOper) : QOp := @Bool.rec (fun _ => QOp) .bad (qop o.op) (Nat.beq o.xs.length (je o.op).length)
def qg (g : Option (XOpd × Bool)) : Option (QOpd × Bool) := match g with | none => none | some (x, b) => some (vQ x, b)
def zI (o : XOper) : QOper := .mk (Q7 o) (o.xs.map vQ) o.pop (jgj o.dst) (qg o.g) (jjK o.op) (jx o.op) (Yu o.op)
theorem jgk {o : IOp} (h : ∃ x i, o = .extract x i) : ∃ i, qop o = .extr i := by
 obtain ⟨x, i, rfl⟩ := h;exact ⟨i, rfl⟩
def jeX (pop : Nat) (dst : QDst) (r : U) (e : Env) (st : U) (h : H) (N : NK) : Ans := jmt pop st fun st => @QDst.rec (fun _ => U -> Env -> U -> H -> NK -> Ans)
 (fun r e st h N => N e (.cn r st) h) (fun ix r e st h N => zj ix e r fun e => N e st h) (fun _ e st h N => N e st h) dst r e st h N
theorem zg {o : XOper} {r : U} {e : Env} {st : U} {h : H} {N : NK} {s : XS} (hk : jeX o.pop (jgj o.dst) r e st h N = true) (R : QR e st h s) : ∃ e' st', QR e' st' h (Y3 o (toI r) s) /\ N e' st' h = true := by
 obtain ⟨st1, h1, h2⟩ := jd0 hk R.st;unfold Y3
 cases hd : o.dst with
 | push =>
   rw [hd] at h2;exact ⟨e, .cn r st1, ⟨R.v, (show toI r = toI r /\ StR st1 _ from ⟨rfl, h1⟩), R.ds, R.h⟩, h2⟩
 | var i =>
   rw [hd] at h2;have h2 : zj (Qg i) e r (fun e => N e st1 h) = true := h2;rw [vH, y7] at h2;exact ⟨_, st1, ⟨R.v.set i r, h1, by rw [vA]; exact R.ds, R.h⟩, h2⟩
 | drop =>
   rw [hd] at h2;exact ⟨e, st1, ⟨R.v, h1, R.ds, R.h⟩, h2⟩
theorem jgS {t a b c d : Nat} {x : U} {v : Bool} : toI (.o t a b c d x) ≠ .bool v := by
 simp only [toI, toT];unfold toO;split <;> (intro h; cases h)
theorem jeC {t a b c d : Nat} {x : U} {id off : Nat} (h : toI (.o t a b c d x) = .ptr id off) : t = 1 /\ a = id := by
 simp only [toI, toT] at h;unfold toO at h;split at h <;> first | (cases h; exact ⟨rfl, rfl⟩) | cases h
theorem jeB {t a b c d : Nat} {x : U} {id : Nat} (h : toI (.o t a b c d x) = .map id) : t = 3 /\ a = id := by
 simp only [toI, toT] at h;unfold toO at h;split at h <;> first | (cases h; exact ⟨rfl, rfl⟩) | cases h
def jlf (a b : Bool) : Bool := @Bool.rec (fun _ => Bool) (@Bool.rec (fun _ => Bool) true false b) b a
theorem jcs (a b : Bool) : jlf a b = (a == b) := by cases a <;> cases b <;> rfl
def Qc (g : Option (QOpd × Bool)) (e : Env) (st : U) (D S : Ans) : Ans := @Option.rec (QOpd × Bool) (fun _ => Env -> U -> Ans -> Ans -> Ans) (fun _ _ D _ => D)
 (fun p e st D S => JD p.1 e st fun v _ => (@U.rec (fun _ => Bool -> Ans -> Ans -> Ans) (fun _ _ => fun _ _ S => S) (fun x => fun b D S => @Bool.rec (fun _ => Ans) S D (jlf x b)) (fun _ _ => fun _ _ S => S) (fun _ _ _ _ _ _ _ => fun _ _ S => S) (fun _ _ S => S) (fun _ _ _ _ => fun _ _ S => S) (fun _ _ _ _ _ _ => fun _ _ S => S) (fun v => fun _ _ _ => false) (fun _ _ _ _ _ _ _ => fun _ _ S => S) v) p.2 D S) g e st D S
theorem Jc {g : Option (XOpd × Bool)} {e : Env} {st : U} {D S : Ans} {vs : AL} {l : List IVal} (h : Qc (qg g) e st D S = true) (hv0 : VarQ e vs) (R : StR st l) : (QV g vs l = some true /\ D = true) \/ (QV g vs l = some false /\ S = true) := by
 cases g with
 | none => exact Or.inl ⟨rfl, h⟩
 | some p =>
   obtain ⟨d, b⟩ := p;obtain ⟨v, _, _, h1, _, _, h2⟩ := kg (show JD (vQ d) e st (fun v _ => (@U.rec (fun _ => Bool -> Ans -> Ans -> Ans) (fun _ _ => fun _ _ S => S) (fun x => fun b D S => @Bool.rec (fun _ => Ans) S D (jlf x b)) (fun _ _ => fun _ _ S => S) (fun _ _ _ _ _ _ _ => fun _ _ S => S) (fun _ _ S => S) (fun _ _ _ _ => fun _ _ S => S) (fun _ _ _ _ _ _ => fun _ _ S => S) (fun v => fun _ _ _ => false) (fun _ _ _ _ _ _ _ => fun _ _ S => S) v) b D S) = true from h) hv0 R
   cases v with
   | b x =>
     rcases jf (show @Bool.rec (fun _ => Ans) S D (jlf x b) = true from h2) with ⟨h3, h4⟩ | ⟨h3, h4⟩
     . rw [jcs] at h3;exact Or.inl ⟨by simp only [QV, h1, Va, h3], h4⟩
     . rw [jcs] at h3;exact Or.inr ⟨by simp only [QV, h1, Va, h3], h4⟩
   | z v => cases h2
   | o t a b c d x =>
     refine Or.inr ⟨?_, h2⟩
     cases hv : toI (.o t a b c d x) with
     | bool q => exact absurd hv jgS
     | _ => simp only [QV, h1, hv]
   | _ => exact Or.inr ⟨by simp only [QV, h1]; rfl, h2⟩
theorem jgl (o : XOper) : QOK o.op (Q7 o) /\ ((∃ x i, o.op = .extract x i) -> ∃ i, Q7 o = .extr i) /\ o.xs.length = (je o.op).length \/ Q7 o = .bad := by
 unfold Q7;rw [vy];split
 . rename_i h;exact Or.inl ⟨jkU o.op, jgk, zN h⟩
 . exact Or.inr rfl
theorem jao {cf : jp} {cq : CQ} {yq : YQ} (hc : CYS cf cq yq) {o : XOper} {e : Env} {st : U} {h : H} {s : XS} (R : QR e st h s) {N : NV} {P : PV}
   (hk : opQ (Q7 o) (o.xs.map vQ) cq yq e st h N P = true) : ∃ r e' st' h' p s', xop cf o s = some ⟨p, toI r, s'⟩ /\ QR e' st' h' s' /\ h'.tr = h.tr /\ (p = false /\ N r e' st' h' = true \/ p = true /\ P r e' h' = true) := by
 rcases jgl o with ⟨h1, h2, h3⟩ | h1
 . exact jf7 hc h1 h2 h3 R hk
 . rw [h1] at hk; cases hk
def jjN (l : List QOper) (cq : CQ) (yq : YQ) (e : Env) (st : U) (h : H) (N : NK) (P : PV) : Ans := @List.rec QOper (fun _ => CQ -> YQ -> Env -> U -> H -> NK -> PV -> Ans)
 (fun _ _ e st h N _ => N e st h)
 (fun o _ ih cq yq e st h N P => @QOper.rec (fun _ => (CQ -> YQ -> Env -> U -> H -> NK -> PV -> Ans) -> CQ -> YQ -> Env -> U -> H -> NK -> PV -> Ans) (fun q xs pop dst g _ _ _ ih cq yq e st h N P =>
   Qc g e st (opQ q xs cq yq e st h (fun r e st h => jeX pop dst r e st h fun e st h => ih cq yq e st h N P) P) (jeX pop dst QJ e st h fun e st h => ih cq yq e st h N P)) o ih cq yq e st h N P) l cq yq e st h N P
theorem YA {cf : jp} {cq : CQ} {yq : YQ} (hc : CYS cf cq yq) : ∀ {l : List XOper} {e : Env} {st : U} {h : H} {s : XS} {N : NK} {P : PV}, QR e st h s -> jjN (l.map zI) cq yq e st h N P = true ->
   (∃ e' st' h' s', VI cf l s = some (.normal, s') /\ QR e' st' h' s' /\ h'.tr = h.tr /\ N e' st' h' = true) \/ (∃ r e' st' h' s', VI cf l s = some (.panic (toI r), s') /\ QR e' st' h' s' /\ h'.tr = h.tr /\ P r e' h' = true) := by
 intro l
 induction l with
 | nil => intro e st h s N P R hk; exact Or.inl ⟨e, st, h, s, rfl, R, rfl, hk⟩
 | cons o l ih =>
   intro e st h s N P R hk
   rcases Jc (show Qc (qg o.g) e st (opQ (Q7 o) (o.xs.map vQ) cq yq e st h (fun r e st h => jeX o.pop (jgj o.dst) r e st h fun e st h => jjN (l.map zI) cq yq e st h N P) P) (jeX o.pop (jgj o.dst) QJ e st h fun e st h => jjN (l.map zI) cq yq e st h N P) = true from hk) R.v R.st with ⟨h1, h2⟩ | ⟨h1, h2⟩
   . obtain ⟨r, e', st', h', p, s', h3, R1, h4, h5⟩ := jao hc R h2
     rcases h5 with ⟨rfl, h6⟩ | ⟨rfl, h6⟩
     . obtain ⟨e2, st2, R2, h7⟩ := zg h6 R1
       rcases ih R2 h7 with ⟨e3, st3, h3', s3, g1, g2, g3, g4⟩ | ⟨r3, e3, st3, h3', s3, g1, g2, g3, g4⟩
       . exact Or.inl ⟨e3, st3, h3', s3, by simp only [VI, h1, h3, g1], g2, g3.trans h4, g4⟩
       . exact Or.inr ⟨r3, e3, st3, h3', s3, by simp only [VI, h1, h3, g1], g2, g3.trans h4, g4⟩
     . exact Or.inr ⟨r, e', st', h', s', by simp only [VI, h1, h3], R1, h4, h6⟩
   . obtain ⟨e2, st2, R2, h7⟩ := zg h2 R;rw [QK] at R2
     rcases ih R2 h7 with ⟨e3, st3, h3', s3, g1, g2, g3, g4⟩ | ⟨r3, e3, st3, h3', s3, g1, g2, g3, g4⟩
     . exact Or.inl ⟨e3, st3, h3', s3, by simp only [VI, h1, g1], g2, g3, g4⟩
     . exact Or.inr ⟨r3, e3, st3, h3', s3, by simp only [VI, h1, g1], g2, g3, g4⟩
def jcM (a b : Nat) : Nat := @Bool.rec (fun _ => Nat) (@Bool.rec (fun _ => Nat) (@Bool.rec (fun _ => Nat) b a (Nat.blt a b)) a (Nat.beq b 0)) b (Nat.beq a 0)
theorem jcN (a b n0 : Nat) : (jcM a b = 0 \/ n0 < jcM a b) ↔ ((a = 0 \/ n0 < a) /\ (b = 0 \/ n0 < b)) := by
 unfold jcM;rw [vy, vy, vy];split
 . rename_i h; have := zN h; subst this; simp
 . rename_i h1;have h1 : a ≠ 0 := fun e => by subst e; exact h1 rfl
   split
   . rename_i h; have := zN h; subst this; simp
   . rename_i h2;have h2 : b ≠ 0 := fun e => by subst e; exact h2 rfl
     split
     . rename_i h; have := jO h; omega
     . rename_i h;have h : Nat.blt a b = false := by cases hh : Nat.blt a b with | false => rfl | true => exact absurd hh h
       have := vR h; omega
def Ks (tr : Bool) (a b : List Nat) : List Nat := @Bool.rec (fun _ => List Nat) b (a ++ b) tr
theorem HR.fresh {h : H} {σ : List IObj} {wr : List (Nat × Bool)} (R : HR h σ wr) (tr : Bool) (ws : List Nat) : HR ⟨h.n, h.t, 0, tr, ws⟩ σ [] := ⟨R.len, R.obs, fun _ p hp => (by cases hp), fun n0 => (by simp)⟩
theorem HR.join {h h' : H} {σ σ' : List IObj} {wr wr' : List (Nat × Bool)} (R : HR h σ wr) (R' : HR h' σ' wr') (ht : h.tr = true -> h'.tr = true) : HR ⟨h'.n, h'.t, jcM h'.mn h.mn, h.tr, Ks h.tr h'.ws h.ws⟩ σ' (wr' ++ wr) := by
 refine ⟨R'.len, R'.obs, fun htr p hp => ?_, fun n0 => ?_⟩
 . have htr : h.tr = true := htr;show p.1 ∈ Ks h.tr h'.ws h.ws;rw [htr]
   rcases List.mem_append.1 hp with hp | hp
   . exact List.mem_append_left _ (R'.hwr (ht htr) p hp)
   . exact List.mem_append_right _ (R.hwr htr p hp)
 . rw [List.all_append, zA, R'.hmn n0, R.hmn n0];exact (jcN _ _ _).symm
def Ki (u : U) : Bool := (@U.rec (fun _ => Bool) (fun _ _ => true) (fun _ => true) (fun _ _ => true) (fun t a b c d x _ => jaC (Nat.beq t 2)) (true) (fun _ _ _ _ => true) (fun _ _ _ _ _ _ => true) (fun v => false) (fun _ _ _ _ _ _ _ => true) u)
theorem jdY {u : U} (h : Ki u = true) : ∀ e id off len, toI u ≠ .rs e id off len := by
 intro e id off len
 cases u with
 | o t a b c d x =>
   have h : jaC (Nat.beq t 2) = true := h;have h2 : t ≠ 2 := fun e => by subst e; cases h
   simp only [toI, toT];unfold toO;split <;> first | (exact absurd rfl h2) | (intro h; cases h)
 | z v => cases h
 | _ => intro h; cases h
theorem jaB {op : IOp} {l : U} (h : yU Ki l = true) : Xd op (toL l) = true := by
 have hall : ∀ v ∈ toL l, ∀ e id off len, v ≠ .rs e id off len := by
   intro v hv;have : ∀ {l : U}, yU Ki l = true -> ∀ v ∈ toL l, ∀ e id off len, v ≠ .rs e id off len := by
     intro l
     induction l with
     | cn u r _ ih =>
       intro h v hv;have h : @Bool.rec (fun _ => Bool) false (yU Ki r) (Ki u) = true := h;rw [vy] at h;split at h
       . rename_i hu;rw [jn] at hv
         rcases List.mem_cons.1 hv with rfl | hv
         . exact jdY hu
         . exact ih h v hv
       . cases h
     | _ => intro _ v hv; cases hv
   exact this h v hv
 unfold Xd;split
 . rfl
 . rename_i e; exact absurd rfl (hall _ (by rw [e]; exact List.mem_cons_of_mem _ List.mem_cons_self) _ _ _ _)
 . rename_i e; exact absurd rfl (hall _ (by rw [e]; exact List.mem_cons_self) _ _ _ _)
 . rfl
theorem Yl {op : IOp} (h : jjK op = false) (vals : List IVal) : Xd op vals = true := by
 cases op
 case append br _ _ _ _ _ => cases br <;> first | rfl | cases h
 all_goals first | rfl | cases h
structure QL where
 i : Nat
 rd : Option Nat
 ws : List Nat
 len : Nat
def rdQ (k : Nat) (l : U) (K : Option Nat -> Ans) : Ans := @Nat.rec (fun _ => U -> (Option Nat -> Ans) -> Ans) (fun _ K => K none)
 (fun k _ l K => uC l false fun u _ => (@U.rec (fun _ => Nat -> (Option Nat -> Ans) -> Ans) (fun _ _ => fun _ K => K none) (fun _ => fun _ K => K none) (fun _ _ => fun _ K => K none) (fun t a b c d x _ => fun k K => @Bool.rec (fun _ => Ans) (K none) (K (some a)) (Nat.beq t (@Bool.rec (fun _ => Nat) 3 1 (Nat.beq k 0)))) (fun _ K => K none) (fun _ _ _ _ => fun _ K => K none) (fun _ _ _ _ _ _ => fun _ K => K none) (fun v => fun _ _ => false) (fun _ _ _ _ _ _ _ => fun _ K => K none) u) k K) k l K
theorem jnk {op : IOp} (h : Yu op = 0) (vals : List IVal) : rdV op vals = none := by
 cases op <;> first | rfl | cases h
theorem jgo {m : Bool} {n : Option Nat} {x : Opd} {v : IVal} (h : ∀ id off, v ≠ .ptr id off) : rdV (.load m n x) [v] = none := by cases v <;> first | rfl | exact absurd rfl (h _ _)
theorem jbJ {kk : Nat} {z : IVal} {ok : Bool} {x k : Opd} {v w : IVal} (h : ∀ id, v ≠ .map id) : rdV (.lookup kk z ok x k) [v, w] = none := by cases v <;> first | rfl | exact absurd rfl (h _)
theorem jd5 {n : Nat} {x y : Opd} {v w : IVal} (h : ∀ id off, v ≠ .ptr id off) : rdV (.store n x y) [v, w] = none := by cases v <;> first | rfl | exact absurd rfl (h _ _)
theorem jgn {x : Opd} {v : IVal} (h : ∀ id, v ≠ .map id) : rdV (.lenM x) [v] = none := by cases v <;> first | rfl | exact absurd rfl (h _)
theorem jgm {op : IOp} {l : U} {K : Option Nat -> Ans} (hl : (toL l).length = (je op).length) (h : rdQ (Yu op) l K = true) : K (rdV op (toL l)) = true := by
 by_cases h0 : Yu op = 0
 . rw [jnk h0];rw [h0] at h;exact h
 . have hcases : (∃ m n x, op = .load m n x) \/ (∃ kk z ok x k, op = .lookup kk z ok x k) \/ (∃ x, op = .lenM x) \/ (∃ n x y, op = .store n x y) := by
     cases op <;> first | exact absurd rfl h0 | exact Or.inl ⟨_, _, _, rfl⟩ | exact Or.inr (Or.inl ⟨_, _, _, _, _, rfl⟩) | exact Or.inr (Or.inr (Or.inl ⟨_, rfl⟩)) | exact Or.inr (Or.inr (Or.inr ⟨_, _, _, rfl⟩))
   rcases hcases with ⟨m, n, x, rfl⟩ | ⟨kk, z, ok, x, k, rfl⟩ | ⟨x, rfl⟩ | ⟨n, x, x2, rfl⟩
   . rcases jk (show uC l false (fun u _ => (@U.rec (fun _ => Nat -> (Option Nat -> Ans) -> Ans) (fun _ _ => fun _ K => K none) (fun _ => fun _ K => K none) (fun _ _ => fun _ K => K none) (fun t a b c d x _ => fun k K => @Bool.rec (fun _ => Ans) (K none) (K (some a)) (Nat.beq t (@Bool.rec (fun _ => Nat) 3 1 (Nat.beq k 0)))) (fun _ K => K none) (fun _ _ _ _ => fun _ K => K none) (fun _ _ _ _ _ _ => fun _ K => K none) (fun v => fun _ _ => false) (fun _ _ _ _ _ _ _ => fun _ K => K none) u) 0 K) = true from h) with ⟨_, h2⟩ | ⟨u, r, rfl, h2⟩
     . cases h2
     have hr : toL r = [] := List.length_eq_zero_iff.1 (by rw [jn] at hl; simpa [je] using hl);rw [jn, hr]
     cases u with
     | o t a b c d y =>
       rcases jf (show @Bool.rec (fun _ => Ans) (K none) (K (some a)) (Nat.beq t 1) = true from h2) with ⟨h3, h4⟩ | ⟨h3, h4⟩
       . have := zN h3; subst this; exact h4
       . have h3 := zE h3;have e : rdV (.load m n x) [toI (.o t a b c d y)] = none := jgo fun id off e => h3 (jeC e).1;rw [e]; exact h4
     | z v => cases h2
     | _ => exact h2
   . rcases jk (show uC l false (fun u _ => (@U.rec (fun _ => Nat -> (Option Nat -> Ans) -> Ans) (fun _ _ => fun _ K => K none) (fun _ => fun _ K => K none) (fun _ _ => fun _ K => K none) (fun t a b c d x _ => fun k K => @Bool.rec (fun _ => Ans) (K none) (K (some a)) (Nat.beq t (@Bool.rec (fun _ => Nat) 3 1 (Nat.beq k 0)))) (fun _ K => K none) (fun _ _ _ _ => fun _ K => K none) (fun _ _ _ _ _ _ => fun _ K => K none) (fun v => fun _ _ => false) (fun _ _ _ _ _ _ _ => fun _ K => K none) u) 1 K) = true from h) with ⟨_, h2⟩ | ⟨u, r, rfl, h2⟩
     . cases h2
     obtain ⟨w, hr⟩ : ∃ w, toL r = [w] := List.length_eq_one_iff.1 (by rw [jn] at hl; simpa [je] using hl);rw [jn, hr]
     cases u with
     | o t a b c d y =>
       rcases jf (show @Bool.rec (fun _ => Ans) (K none) (K (some a)) (Nat.beq t 3) = true from h2) with ⟨h3, h4⟩ | ⟨h3, h4⟩
       . have := zN h3; subst this; exact h4
       . have h3 := zE h3;have e : rdV (.lookup kk z ok x k) [toI (.o t a b c d y), w] = none := jbJ fun id e => h3 (jeB e).1;rw [e]; exact h4
     | z v => cases h2
     | _ => exact h2
   . rcases jk (show uC l false (fun u _ => (@U.rec (fun _ => Nat -> (Option Nat -> Ans) -> Ans) (fun _ _ => fun _ K => K none) (fun _ => fun _ K => K none) (fun _ _ => fun _ K => K none) (fun t a b c d x _ => fun k K => @Bool.rec (fun _ => Ans) (K none) (K (some a)) (Nat.beq t (@Bool.rec (fun _ => Nat) 3 1 (Nat.beq k 0)))) (fun _ K => K none) (fun _ _ _ _ => fun _ K => K none) (fun _ _ _ _ _ _ => fun _ K => K none) (fun v => fun _ _ => false) (fun _ _ _ _ _ _ _ => fun _ K => K none) u) 2 K) = true from h) with ⟨_, h2⟩ | ⟨u, r, rfl, h2⟩
     . cases h2
     have hr : toL r = [] := List.length_eq_zero_iff.1 (by rw [jn] at hl; simpa [je] using hl);rw [jn, hr]
     cases u with
     | o t a b c d y =>
       rcases jf (show @Bool.rec (fun _ => Ans) (K none) (K (some a)) (Nat.beq t 3) = true from h2) with ⟨h3, h4⟩ | ⟨h3, h4⟩
       . have := zN h3; subst this; exact h4
       . have h3 := zE h3;have e : rdV (.lenM x) [toI (.o t a b c d y)] = none := jgn fun id e => h3 (jeB e).1;rw [e]; exact h4
     | z v => cases h2
     | _ => exact h2
   . rcases jk (show uC l false (fun u _ => (@U.rec (fun _ => Nat -> (Option Nat -> Ans) -> Ans) (fun _ _ => fun _ K => K none) (fun _ => fun _ K => K none) (fun _ _ => fun _ K => K none) (fun t a b c d x _ => fun k K => @Bool.rec (fun _ => Ans) (K none) (K (some a)) (Nat.beq t (@Bool.rec (fun _ => Nat) 3 1 (Nat.beq k 0)))) (fun _ K => K none) (fun _ _ _ _ => fun _ K => K none) (fun _ _ _ _ _ _ => fun _ K => K none) (fun v => fun _ _ => false) (fun _ _ _ _ _ _ _ => fun _ K => K none) u) 0 K) = true from h) with ⟨_, h2⟩ | ⟨u, r, rfl, h2⟩
     . cases h2
     obtain ⟨w, hr⟩ : ∃ w, toL r = [w] := List.length_eq_one_iff.1 (by rw [jn] at hl; simpa [je] using hl);rw [jn, hr]
     cases u with
     | o t a b c d y =>
       rcases jf (show @Bool.rec (fun _ => Ans) (K none) (K (some a)) (Nat.beq t 1) = true from h2) with ⟨h3, h4⟩ | ⟨h3, h4⟩
       . have := zN h3; subst this; exact h4
       . have h3 := zE h3;have e : rdV (.store n x x2) [toI (.o t a b c d y), w] = none := jd5 fun id off e => h3 (jeC e).1;rw [e]; exact h4
     | z v => cases h2
     | _ => exact h2
end
end Go.Idl
namespace Go.Idl
noncomputable section
set_option maxHeartbeats 100000
theorem ja1 {cf : jp} {o : XOper} {s : XS} {r : XRes} (h : xop cf o s = some r) : ∃ vals vs, jL o.xs s.vs s.st = some (vals, vs) := by
 by_cases he : ∃ x i, o.op = .extract x i
 . obtain ⟨op, xs, p, d, g⟩ := o;obtain ⟨x, i, e⟩ := he;simp only at e;subst e;simp only [xop] at h;split at h
   . split at h
     . rename_i us vs hg;exact ⟨[.tup us], vs, by simp only [jL, hg]⟩
     . cases h
   . cases h
 . rw [Y2 he] at h;split at h
   . rename_i hg; exact ⟨_, _, hg⟩
   . cases h
def nrQ (nr : Bool) (xs : List QOpd) (e : Env) (st : U) (K : Ans) : Ans := @Bool.rec (fun _ => Ans) K (J5 xs e st fun l _ => tst (yU Ki l) K) nr
theorem jf3 {o : XOper} {e : Env} {st : U} {h : H} {s : XS} {K : Ans} (hk : nrQ (jjK o.op) (o.xs.map vQ) e st K = true) (R : QR e st h s) : K = true /\ ∀ vals vs, jL o.xs s.vs s.st = some (vals, vs) -> Xd o.op vals = true := by
 rcases jf hk with ⟨h1, h2⟩ | ⟨h1, h2⟩
 . obtain ⟨l, vs', e', h3, _, _, h4⟩ := qG h2 R.v R.st;obtain ⟨h5, h6⟩ := jb h4;refine ⟨h6, fun vals vs hg => ?_⟩;rw [h3] at hg;cases hg;exact jaB h5
 . exact ⟨h2, fun vals vs _ => Yl h1 vals⟩
def apart (tr' : Bool) (q : QOp) (xs : List QOpd) (pop : Nat) (dst : QDst) (cq : CQ) (yq : YQ) (e : Env) (st : U) (h : H) (N : Env -> U -> H -> List Nat -> Ans) (P : PV) : Ans :=
 hK h fun n t mn tr ws => opQ q xs cq yq e st ⟨n, t, 0, tr', []⟩ (fun r e st h' => hK h' fun n' t' mn' _ ws' => fN (jcM mn' mn) fun m => jeX pop dst r e st ⟨n', t', m, tr, Ks tr ws' ws⟩ fun e st h => N e st h ws')
   fun r e h' => hK h' fun n' t' mn' _ ws' => fN (jcM mn' mn) fun m => P r e ⟨n', t', m, tr, Ks tr ws' ws⟩
theorem Vd {cf : jp} {cq : CQ} {yq : YQ} (hc : CYS cf cq yq) {o : XOper} {tr' : Bool} {e : Env} {st : U} {h : H} {s : XS} (R : QR e st h s) (htr : h.tr = true -> tr' = true) {N : Env -> U -> H -> List Nat -> Ans} {P : PV}
   (hk : apart tr' (Q7 o) (o.xs.map vQ) o.pop (jgj o.dst) cq yq e st h N P = true) :
   (∃ v s1 e' st' h' ws, xop cf o { s with wr := [] } = some ⟨false, v, s1⟩ /\ QR e' st' h' { Y3 o v s1 with wr := s1.wr ++ s.wr } /\ h'.tr = h.tr /\ (tr' = true -> ∀ p ∈ s1.wr, p.1 ∈ ws) /\ N e' st' h' ws = true) \/
   (∃ r s1 e' st' h', xop cf o { s with wr := [] } = some ⟨true, toI r, s1⟩ /\ QR e' st' h' { s1 with wr := s1.wr ++ s.wr } /\ h'.tr = h.tr /\ P r e' h' = true) := by
 unfold apart at hk;rw [J1] at hk;have R0 : QR e st ⟨h.n, h.t, 0, tr', []⟩ { s with wr := [] } := ⟨R.v, R.st, R.ds, R.h.fresh tr' []⟩;obtain ⟨r, e1, st1, h1, p, s1, h2, R1, h3, h4⟩ := jao hc R0 hk;have ht1 : h1.tr = tr' := h3;have RJ : QR e1 st1 ⟨h1.n, h1.t, jcM h1.mn h.mn, h.tr, Ks h.tr h1.ws h.ws⟩ { s1 with wr := s1.wr ++ s.wr } := ⟨R1.v, R1.st, R1.ds, R.h.join R1.h (fun h => by rw [ht1]; exact htr h)⟩
 rcases h4 with ⟨rfl, h5⟩ | ⟨rfl, h5⟩
 . rw [J1, jw] at h5;obtain ⟨e', st', R2, h6⟩ := zg h5 RJ;refine Or.inl ⟨toI r, s1, e', st', ⟨h1.n, h1.t, jcM h1.mn h.mn, h.tr, Ks h.tr h1.ws h.ws⟩, h1.ws, h2, ?_, rfl, fun ht => R1.h.hwr (by rw [ht1]; exact ht), h6⟩;have e0 : Y3 o (toI r) { s1 with wr := s1.wr ++ s.wr } = { Y3 o (toI r) s1 with wr := s1.wr ++ s.wr } := by
     unfold Y3; cases o.dst <;> rfl
   rw [<- e0]; exact R2
 . rw [J1, jw] at h5;exact Or.inr ⟨r, s1, e1, st1, _, h2, RJ, rfl, h5⟩
def jhX (js : List Nat) (e : Env) (K : Env -> Ans) : Ans := @List.rec Nat (fun _ => Env -> (Env -> Ans) -> Ans) (fun e K => K e) (fun j _ ih e K => zj (Qg j) e .nl fun e => ih e K) js e K
theorem jbc : ∀ {js : List Nat} {e : Env} {K : Env -> Ans}, jhX js e K = true -> ∃ e', (∀ k, KX e' k ≠ .nl -> k ∉ js /\ KX e' k = KX e k) /\ dsU e' = dsU e /\ K e' = true := by
 intro js
 induction js with
 | nil => intro e K hk; exact ⟨e, fun k _ => ⟨by simp, rfl⟩, rfl, hk⟩
 | cons j js ih =>
   intro e K hk;have hk : zj (Qg j) e .nl (fun e => jhX js e K) = true := hk;rw [vH, y7] at hk;obtain ⟨e', h1, h2, h3⟩ := ih hk;refine ⟨e', fun k hk => ?_, h2.trans (vA _ _ _), h3⟩;obtain ⟨h4, h5⟩ := h1 k hk;rw [KY] at h5;split at h5
   . exact absurd h5 hk
   . rename_i hne;refine ⟨fun hm => ?_, h5⟩
     rcases List.mem_cons.1 hm with rfl | hm
     . exact hne rfl
     . exact h4 hm
theorem XU {js : List Nat} {e : Env} {K : Env -> Ans} {st : U} {h : H} {s : XS} (R : QR e st h s) (hk : jhX js e K = true) : ∃ e', QR e' .nl h { s with vs := jcm js s.vs, st := [] } /\ K e' = true := by
 obtain ⟨e', h1, h2, h3⟩ := jbc hk;refine ⟨e', ⟨fun k hk => ?_, trivial, by rw [h2]; exact R.ds, R.h⟩, h3⟩;obtain ⟨h4, h5⟩ := h1 k hk;show Jp k (jcm js s.vs) = _;rw [XI, if_neg (fun hc => h4 (List.contains_iff_mem.1 hc)), h5];exact R.v k (by rw [<- h5]; exact hk)
def jkZ (l : List QOper) (cq : CQ) (yq : YQ) (e : Env) (st : U) (h : H) (N : NK) (P : PV) : Ans := @List.rec QOper (fun _ => CQ -> YQ -> Env -> U -> H -> NK -> PV -> Ans)
 (fun _ _ e st h N _ => N e st h)
 (fun o _ ih cq yq e st h N P => @QOper.rec (fun _ => (CQ -> YQ -> Env -> U -> H -> NK -> PV -> Ans) -> CQ -> YQ -> Env -> U -> H -> NK -> PV -> Ans) (fun q xs pop dst g nr _ _ ih cq yq e st h N P =>
   Qc g e st (nrQ nr xs e st (hK h fun _ _ _ tr _ => apart tr q xs pop dst cq yq e st h (fun e st h _ => ih cq yq e st h N P) P)) (jeX pop dst QJ e st h fun e st h => ih cq yq e st h N P)) o ih cq yq e st h N P) l cq yq e st h N P
theorem jeb {cf : jp} {cq : CQ} {yq : YQ} (hc : CYS cf cq yq) : ∀ {l : List (Nat × XOper)} {e : Env} {st : U} {h : H} {s : XS} {N : NK} {P : PV}, QR e st h s -> jkZ ((l.map (·.2)).map zI) cq yq e st h N P = true ->
   (∃ e' st' h' s' log, jE cf l s = some (none, s', log) /\ QR e' st' h' s' /\ h'.tr = h.tr /\ N e' st' h' = true) \/
   (∃ r lw e' st' h' s' log, jE cf l s = some (some (toI r, lw), s', log) /\ QR e' st' h' s' /\ h'.tr = h.tr /\ P r e' h' = true) := by
 intro l
 induction l with
 | nil => intro e st h s N P R hk; exact Or.inl ⟨e, st, h, s, [], rfl, R, rfl, hk⟩
 | cons p l ih =>
   intro e st h s N P R hk;obtain ⟨i, o⟩ := p
   rcases Jc (show Qc (qg o.g) e st (nrQ (jjK o.op) (o.xs.map vQ) e st (hK h fun _ _ _ tr _ => apart tr (Q7 o) (o.xs.map vQ) o.pop (jgj o.dst) cq yq e st h (fun e st h _ => jkZ ((l.map (·.2)).map zI) cq yq e st h N P) P)) (jeX o.pop (jgj o.dst) QJ e st h fun e st h => jkZ ((l.map (·.2)).map zI) cq yq e st h N P) = true from hk) R.v R.st with ⟨h1, h2⟩ | ⟨h1, h2⟩
   . obtain ⟨h3, h4⟩ := jf3 h2 R;rw [J1] at h3
     rcases Vd (cf := cf) hc R id h3 with ⟨v, s1, e', st', h', ws, h5, R1, h6, _, h7⟩ | ⟨r, s1, e', st', h', h5, R1, h6, h7⟩
     . obtain ⟨vals, vs, hg⟩ := ja1 h5;have hno := h4 vals vs hg;have hg' : jL o.xs s.vs s.st = some (vals, vs) := hg;have hd : kH cf o s = some (none, { Y3 o v s1 with wr := s1.wr ++ s.wr }, ⟨rdV o.op vals, s1.wr, if jx o.op then 0 else s.σ.length⟩) := by
         unfold kH;rw [h1];simp only [hg'];rw [if_pos hno, h5]
       rcases ih R1 h7 with ⟨e2, st2, h2', s2, log, g1, g2, g3, g4⟩ | ⟨r, lw, e2, st2, h2', s2, log, g1, g2, g3, g4⟩
       . exact Or.inl ⟨e2, st2, h2', s2, _, by simp only [jE, hd, g1]; rfl, g2, g3.trans h6, g4⟩
       . exact Or.inr ⟨r, lw, e2, st2, h2', s2, _, by simp only [jE, hd, g1]; rfl, g2, g3.trans h6, g4⟩
     . obtain ⟨vals, vs, hg⟩ := ja1 h5;have hno := h4 vals vs hg;have hg' : jL o.xs s.vs s.st = some (vals, vs) := hg;have hd : kH cf o s = some (some (toI r), { s1 with wr := s1.wr ++ s.wr }, ⟨rdV o.op vals, s1.wr, if jx o.op then 0 else s.σ.length⟩) := by
         unfold kH;rw [h1];simp only [hg'];rw [if_pos hno, h5]
       exact Or.inr ⟨r, _, e', st', h', _, _, by simp only [jE, hd]; rfl, R1, h6, h7⟩
   . obtain ⟨e', st', R1, h7⟩ := zg h2 R;rw [QK] at R1;have hd : kH cf o s = some (none, Y3 o ju s, ⟨none, [], if jx o.op then 0 else s.σ.length⟩) := by unfold kH; rw [h1]
     rcases ih R1 h7 with ⟨e2, st2, h2', s2, log, g1, g2, g3, g4⟩ | ⟨r, lw, e2, st2, h2', s2, log, g1, g2, g3, g4⟩
     . exact Or.inl ⟨e2, st2, h2', s2, _, by simp only [jE, hd, g1]; rfl, g2, g3, g4⟩
     . exact Or.inr ⟨r, lw, e2, st2, h2', s2, _, by simp only [jE, hd, g1]; rfl, g2, g3, g4⟩
def QLR (q : QL) (p : Nat × DLog) : Prop := q.i = p.1 /\ q.rd = p.2.rd /\ q.len = p.2.len /\ ∀ w ∈ p.2.wr, w.1 ∈ q.ws
def LogR : List QL -> List (Nat × DLog) -> Prop
 | [], [] => True
 | q :: qs, p :: ps => QLR q p /\ LogR qs ps
 | _, _ => False
def okQ (x y : QL) : Bool := match x.rd with
 | none => true
 | some id => decide (id < y.len) && y.ws.all fun w => w != id
def Ym (pairs : List (Nat × Nat)) (ls : List QL) : Bool := pairs.all fun p => ls.all fun x => x.i != p.1 || ls.all fun y => y.i != p.2 || okQ x y
theorem LogR.mem : ∀ {qs : List QL} {ps : List (Nat × DLog)}, LogR qs ps -> ∀ p ∈ ps, ∃ q ∈ qs, QLR q p := by
 intro qs
 induction qs with
 | nil => intro ps h p hp; cases ps with
   | nil => cases hp
   | cons _ _ => exact h.elim
 | cons q qs ih =>
   intro ps h p hp
   cases ps with
   | nil => cases hp
   | cons p' ps =>
     rcases List.mem_cons.1 hp with rfl | hp
     . exact ⟨q, List.mem_cons_self, h.1⟩
     . obtain ⟨q', h1, h2⟩ := ih h.2 p hp;exact ⟨q', List.mem_cons_of_mem _ h1, h2⟩
theorem Yn {pairs : List (Nat × Nat)} {qs : List QL} {ps : List (Nat × DLog)} (hR : LogR qs ps) (h : Ym pairs qs = true) : qX pairs ps = true := by
 unfold qX;rw [List.all_eq_true];intro p hp;rw [List.all_eq_true];intro x hx;obtain ⟨qx, hqx, hx1, hx2, hx3, hx4⟩ := hR.mem x hx;have h1 := List.all_eq_true.1 (List.all_eq_true.1 h p hp) qx hqx;rw [Bool.or_eq_true] at h1 ⊢
 rcases h1 with h1 | h1
 . exact Or.inl (by rw [<- hx1]; exact h1)
 . refine Or.inr ?_;rw [List.all_eq_true];intro y hy;obtain ⟨qy, hqy, hy1, hy2, hy3, hy4⟩ := hR.mem y hy;have h2 := List.all_eq_true.1 h1 qy hqy;rw [Bool.or_eq_true] at h2 ⊢
   rcases h2 with h2 | h2
   . exact Or.inl (by rw [<- hy1]; exact h2)
   . refine Or.inr ?_;unfold okQ at h2;unfold vE;rw [hx2] at h2
     cases hr : x.2.rd with
     | none => rfl
     | some id =>
       rw [hr] at h2;simp only [zA, decide_eq_true_eq] at h2 ⊢;refine ⟨by rw [<- hy3]; exact h2.1, ?_⟩;rw [List.all_eq_true];intro w hw;exact List.all_eq_true.1 h2.2 w.1 (hy4 w hw)
def jea (l : List (Nat × QOper)) (cq : CQ) (yq : YQ) (e : Env) (st : U) (h : H) (N : Env -> U -> H -> List QL -> Ans) (P : U -> Env -> H -> List QL -> Ans) : Ans := @List.rec (Nat × QOper) (fun _ => CQ -> YQ -> Env -> U -> H -> (Env -> U -> H -> List QL -> Ans) -> (U -> Env -> H -> List QL -> Ans) -> Ans)
 (fun _ _ e st h N _ => N e st h [])
 (fun o _ ih cq yq e st h N P => @QOper.rec (fun _ => Nat -> (CQ -> YQ -> Env -> U -> H -> (Env -> U -> H -> List QL -> Ans) -> (U -> Env -> H -> List QL -> Ans) -> Ans) -> CQ -> YQ -> Env -> U -> H -> (Env -> U -> H -> List QL -> Ans) -> (U -> Env -> H -> List QL -> Ans) -> Ans) (fun q xs pop dst g nr qt rk i ih cq yq e st h N P =>
   Qc g e st (J5 xs e st fun l _ => tst (@Bool.rec (fun _ => Bool) true (yU Ki l) nr) (rdQ rk l fun rd => hK h fun n _ _ _ _ => apart true q xs pop dst cq yq e st h
       (fun e st h ws => ih cq yq e st h (fun e st h ls => N e st h (⟨i, rd, ws, @Bool.rec (fun _ => Nat) n 0 qt⟩ :: ls)) (fun r e h ls => P r e h (⟨i, rd, ws, @Bool.rec (fun _ => Nat) n 0 qt⟩ :: ls))) (fun r e h => P r e h [])))
     (hK h fun n _ _ _ _ => jeX pop dst QJ e st h fun e st h => ih cq yq e st h (fun e st h ls => N e st h (⟨i, none, [], @Bool.rec (fun _ => Nat) n 0 qt⟩ :: ls)) (fun r e h ls => P r e h (⟨i, none, [], @Bool.rec (fun _ => Nat) n 0 qt⟩ :: ls)))) o.2 o.1 ih cq yq e st h N P) l cq yq e st h N P
theorem jbP {cf : jp} {cq : CQ} {yq : YQ} (hc : CYS cf cq yq) : ∀ {l : List (Nat × XOper)} {e : Env} {st : U} {h : H} {s : XS} {N : Env -> U -> H -> List QL -> Ans} {P : U -> Env -> H -> List QL -> Ans}, (∀ p ∈ l, p.2.xs.length = (je p.2.op).length) -> QR e st h s -> jea (l.map fun p => (p.1, zI p.2)) cq yq e st h N P = true ->
   (∃ e' st' h' s' log ls, jE cf l s = some (none, s', log) /\ LogR ls log /\ QR e' st' h' s' /\ h'.tr = h.tr /\ N e' st' h' ls = true) \/
   (∃ r lw e' st' h' s' log ls, jE cf l s = some (some (toI r, lw), s', log) /\ LogR ls log /\ QR e' st' h' s' /\ h'.tr = h.tr /\ P r e' h' ls = true) := by
 intro l
 induction l with
 | nil => intro e st h s N P _ R hk; exact Or.inl ⟨e, st, h, s, [], [], rfl, trivial, R, rfl, hk⟩
 | cons p l ih =>
   intro e st h s N P hlen R hk;obtain ⟨i, o⟩ := p;have hlo : o.xs.length = (je o.op).length := hlen (i, o) List.mem_cons_self;have hll : ∀ p ∈ l, p.2.xs.length = (je p.2.op).length := fun p hp => hlen p (List.mem_cons_of_mem _ hp)
   rcases Jc (show Qc (qg o.g) e st (J5 (o.xs.map vQ) e st fun l' _ => tst (@Bool.rec (fun _ => Bool) true (yU Ki l') (jjK o.op)) (rdQ (Yu o.op) l' fun rd => hK h fun n _ _ _ _ => apart true (Q7 o) (o.xs.map vQ) o.pop (jgj o.dst) cq yq e st h
       (fun e st h ws => jea (l.map fun p => (p.1, zI p.2)) cq yq e st h (fun e st h ls => N e st h (⟨i, rd, ws, @Bool.rec (fun _ => Nat) n 0 (jx o.op)⟩ :: ls)) (fun r e h ls => P r e h (⟨i, rd, ws, @Bool.rec (fun _ => Nat) n 0 (jx o.op)⟩ :: ls))) (fun r e h => P r e h [])))
     (hK h fun n _ _ _ _ => jeX o.pop (jgj o.dst) QJ e st h fun e st h => jea (l.map fun p => (p.1, zI p.2)) cq yq e st h (fun e st h ls => N e st h (⟨i, none, [], @Bool.rec (fun _ => Nat) n 0 (jx o.op)⟩ :: ls)) (fun r e h ls => P r e h (⟨i, none, [], @Bool.rec (fun _ => Nat) n 0 (jx o.op)⟩ :: ls))) = true from hk) R.v R.st with ⟨h1, h2⟩ | ⟨h1, h2⟩
   . obtain ⟨l', vs', e0, h3, _, _, h4⟩ := qG h2 R.v R.st;obtain ⟨h5, h6⟩ := jb h4;have h7 := jgm (by rw [yI h3, hlo]) h6;rw [J1] at h7;have hno : Xd o.op (toL l') = true := by
       cases hnr : jjK o.op with
       | true => rw [hnr] at h5; exact jaB h5
       | false => exact Yl hnr _
     rcases Vd (cf := cf) hc R (fun _ => rfl) h7 with ⟨v, s1, e', st', h', ws, h8, R1, h9, h10, h11⟩ | ⟨r, s1, e', st', h', h8, R1, h9, h11⟩
     . have hd : kH cf o s = some (none, { Y3 o v s1 with wr := s1.wr ++ s.wr }, ⟨rdV o.op (toL l'), s1.wr, if jx o.op then 0 else s.σ.length⟩) := by
         unfold kH;rw [h1];simp only [h3];rw [if_pos hno, h8]
       have hQ : QLR ⟨i, rdV o.op (toL l'), ws, @Bool.rec (fun _ => Nat) h.n 0 (jx o.op)⟩ (i, ⟨rdV o.op (toL l'), s1.wr, if jx o.op then 0 else s.σ.length⟩) := by
         refine ⟨rfl, rfl, ?_, h10 rfl⟩;show @Bool.rec (fun _ => Nat) h.n 0 (jx o.op) = if jx o.op then 0 else s.σ.length
         rw [vy, R.h.len]
       rcases ih hll R1 h11 with ⟨e2, st2, h2', s2, log, ls, g1, g2, g3, g4, g5⟩ | ⟨r, lw, e2, st2, h2', s2, log, ls, g1, g2, g3, g4, g5⟩
       . exact Or.inl ⟨e2, st2, h2', s2, (i, ⟨rdV o.op (toL l'), s1.wr, if jx o.op then 0 else s.σ.length⟩) :: log, ⟨i, rdV o.op (toL l'), ws, @Bool.rec (fun _ => Nat) h.n 0 (jx o.op)⟩ :: ls, by simp only [jE, hd, g1], And.intro hQ g2, g3, g4.trans h9, g5⟩
       . exact Or.inr ⟨r, lw, e2, st2, h2', s2, (i, ⟨rdV o.op (toL l'), s1.wr, if jx o.op then 0 else s.σ.length⟩) :: log, ⟨i, rdV o.op (toL l'), ws, @Bool.rec (fun _ => Nat) h.n 0 (jx o.op)⟩ :: ls, by simp only [jE, hd, g1], And.intro hQ g2, g3, g4.trans h9, g5⟩
     . have hd : kH cf o s = some (some (toI r), { s1 with wr := s1.wr ++ s.wr }, ⟨rdV o.op (toL l'), s1.wr, if jx o.op then 0 else s.σ.length⟩) := by
         unfold kH;rw [h1];simp only [h3];rw [if_pos hno, h8]
       exact Or.inr ⟨r, _, e', st', h', _, [], [], by simp only [jE, hd]; rfl, trivial, R1, h9, h11⟩
   . rw [J1] at h2;obtain ⟨e', st', R1, h7⟩ := zg h2 R;rw [QK] at R1;have hd : kH cf o s = some (none, Y3 o ju s, ⟨none, [], if jx o.op then 0 else s.σ.length⟩) := by unfold kH; rw [h1]
     have hQ : QLR ⟨i, none, [], @Bool.rec (fun _ => Nat) h.n 0 (jx o.op)⟩ (i, ⟨none, [], if jx o.op then 0 else s.σ.length⟩) := ⟨rfl, rfl, by show @Bool.rec (fun _ => Nat) h.n 0 (jx o.op) = if jx o.op then 0 else s.σ.length; rw [vy, R.h.len], fun w hw => by cases hw⟩
     rcases ih hll R1 h7 with ⟨e2, st2, h2', s2, log, ls, g1, g2, g3, g4, g5⟩ | ⟨r, lw, e2, st2, h2', s2, log, ls, g1, g2, g3, g4, g5⟩
     . exact Or.inl ⟨e2, st2, h2', s2, (i, ⟨none, [], if jx o.op then 0 else s.σ.length⟩) :: log, ⟨i, none, [], @Bool.rec (fun _ => Nat) h.n 0 (jx o.op)⟩ :: ls, by simp only [jE, hd, g1], And.intro hQ g2, g3, g4, g5⟩
     . exact Or.inr ⟨r, lw, e2, st2, h2', s2, (i, ⟨none, [], if jx o.op then 0 else s.σ.length⟩) :: log, ⟨i, none, [], @Bool.rec (fun _ => Nat) h.n 0 (jx o.op)⟩ :: ls, by simp only [jE, hd, g1], And.intro hQ g2, g3, g4, g5⟩
end
end Go.Idl
namespace Go.Idl
noncomputable section
set_option maxHeartbeats 100000
theorem HR.congr {h : H} {σ : List IObj} {wr wr' : List (Nat × Bool)} (R : HR h σ wr) (hm : ∀ p, p ∈ wr' ↔ p ∈ wr) : HR h σ wr' := by
 refine ⟨R.len, R.obs, fun ht p hp => R.hwr ht p ((hm p).1 hp), fun n0 => ?_⟩;rw [<- R.hmn n0, List.all_eq_true, List.all_eq_true];exact ⟨fun h p hp => h p ((hm p).2 hp), fun h p hp => h p ((hm p).1 hp)⟩
def jkl (n m : Nat) : Nat := @Bool.rec (fun _ => Nat) (@Bool.rec (fun _ => Nat) 0 m (Nat.blt (Nat.sub m 1) n)) 0 (Nat.beq m 0)
theorem jig {wr : List (Nat × Bool)} {m : Nat} (h : ∀ n0, (wr.all fun p => !p.2 || decide (n0 <= p.1)) = true ↔ (m = 0 \/ n0 < m)) (n n0 : Nat) :
   ((wr.filter fun p => decide (p.1 < n)).all fun p => !p.2 || decide (n0 <= p.1)) = true ↔ (jkl n m = 0 \/ n0 < jkl n m) := by
 have hall : ∀ n0, (m = 0 \/ n0 < m) -> ∀ p ∈ wr, p.2 = true -> n0 <= p.1 := by
   intro n0 h1 p hp h2;have := List.all_eq_true.1 ((h n0).2 h1) p hp;rw [h2] at this;simpa using this
 unfold jkl;rw [vy, vy, Vu];split
 . rename_i hb;have hm := zN hb;subst hm;refine ⟨fun _ => Or.inl rfl, fun _ => ?_⟩;rw [List.all_eq_true];intro p hp;have hp := (List.mem_filter.1 hp).1
   cases h2 : p.2 with
   | false => rfl
   | true =>
     have := hall (p.1 + 1) (Or.inl rfl) p hp h2;omega
 . rename_i hb;have hm : m ≠ 0 := fun e => by subst e; exact hb rfl
   split
   . rename_i h1;have h1 := jO h1
     constructor
     . intro h2;refine Or.inr ?_
       -- one that is marked has the least number
       have h3 : ¬ (wr.all fun p => !p.2 || decide (m <= p.1)) = true := by rw [h m]; omega
       rw [List.all_eq_true] at h3;have h4 : ∃ p ∈ wr, p.2 = true /\ p.1 < m := by
         refine Classical.byContradiction fun hne => h3 fun p hp => ?_
         cases hp2 : p.2 with
         | false => rfl
         | true =>
           have : m <= p.1 := by
             rcases Nat.lt_or_ge p.1 m with hlt | hge
             . exact absurd ⟨p, hp, hp2, hlt⟩ hne
             . exact hge
           simpa using this
       obtain ⟨p, hp, hp2, hp3⟩ := h4;have := List.all_eq_true.1 h2 p (List.mem_filter.2 ⟨hp, by simp; omega⟩);rw [hp2] at this;simp at this;omega
     . intro h2;have h2 : n0 < m := by rcases h2 with h2 | h2; exact absurd h2 hm; exact h2
       rw [List.all_eq_true];intro p hp;have hp := (List.mem_filter.1 hp).1
       cases hp2 : p.2 with
       | false => rfl
       | true => have := hall n0 (Or.inr h2) p hp hp2; simpa using this
   . rename_i h1;have h1 : ¬ m - 1 < n := fun e => h1 (blt_iff.2 e);refine ⟨fun _ => Or.inl rfl, fun _ => ?_⟩;rw [List.all_eq_true];intro p hp;obtain ⟨hp, hpn⟩ := List.mem_filter.1 hp
     cases hp2 : p.2 with
     | false => rfl
     | true =>
       have := hall (m - 1) (Or.inr (by omega)) p hp hp2;simp at hpn;omega
def jft (n mn : Nat) (tr : Bool) (ws : List Nat) (v : U) (h : H) (K : KH) : Ans := hK h fun n' t' mn' _ ws' => tst (Nat.ble n n')
 (@Bool.rec (fun _ => Ans) (fN (jcM (jkl n mn') mn) fun m => K v ⟨n', t', m, tr, Ks tr ws' ws⟩) (K v ⟨n, t', mn, tr, Ks tr ws' ws⟩)
   (@Bool.rec (fun _ => Bool) false (@Bool.rec (fun _ => Bool) (Nat.blt n mn') true (Nat.beq mn' 0)) (jmr v)))
theorem K9 {h h' : H} {σ σ' : List IObj} {wr wr' : List (Nat × Bool)} (R : HR h σ wr) (R' : HR h' σ' wr') (ht : h'.tr = h.tr) {v : U} {K : KH} (hk : jft h.n h.mn h.tr h.ws v h' K = true) (pan : Bool) :
   ∃ h2, HR h2 (jG σ.length pan (toI v) ⟨ts0, σ', wr'⟩).σ ((jG σ.length pan (toI v) ⟨ts0, σ', wr'⟩).wr ++ wr) /\ h2.tr = h.tr /\ K v h2 = true := by
 unfold jft at hk;rw [J1] at hk;obtain ⟨h1, h2⟩ := jb hk;have h1 := ble_iff.1 h1;have hws : ∀ {f : List (Nat × Bool)}, (∀ p ∈ f, p ∈ wr') -> h.tr = true -> ∀ p ∈ f ++ wr, p.1 ∈ Ks h.tr h'.ws h.ws := by
   intro f hf htr p hp;rw [htr]
   rcases List.mem_append.1 hp with hp | hp
   . exact List.mem_append_left _ (R'.hwr (by rw [ht]; exact htr) p (hf p hp))
   . exact List.mem_append_right _ (R.hwr htr p hp)
 have hsub : ∀ p ∈ wr'.filter (fun p => decide (p.1 < σ.length)), p ∈ wr' := fun p hp => (List.mem_filter.1 hp).1;have hlen := R.len
 rcases jf h2 with ⟨h3, h4⟩ | ⟨h3, h4⟩
 . -- all that nobody sees any more goes
   have h5 : nr3 (toI v) = true /\ (h'.mn = 0 \/ h.n < h'.mn) := by
     rw [vy] at h3;split at h3
     . rename_i hn;refine ⟨by rw [<- Zz]; exact hn, ?_⟩;rw [vy] at h3;split at h3
       . rename_i hb; exact Or.inl (zN hb)
       . exact Or.inr (jO h3)
     . cases h3
   have hall := (R'.hmn h.n).2 h5.2;have hc : (nr3 (toI v) && wr'.all fun p => !p.2 || decide (σ.length <= p.1)) = true := by rw [h5.1, hlen, hall]; rfl
   have hf : jG σ.length pan (toI v) ⟨ts0, σ', wr'⟩ = ⟨pan, toI v, σ'.take σ.length, wr'.filter fun p => decide (p.1 < σ.length)⟩ := by
     unfold jG; simp only; rw [if_pos hc]
   rw [hf];refine ⟨⟨h.n, h'.t, h.mn, h.tr, Ks h.tr h'.ws h.ws⟩, ⟨?_, ?_, hws hsub, fun n0 => ?_⟩, rfl, h4⟩
   . show (σ'.take σ.length).length = h.n;rw [List.length_take, hlen, R'.len]; omega
   . intro i ob hi;rw [List.getElem?_take] at hi;split at hi
     . exact R'.obs i ob hi
     . cases hi
   . rw [List.all_append, zA, R.hmn n0];refine ⟨fun h => h.2, fun h => ⟨?_, h⟩⟩;rw [List.all_eq_true];intro p hp;obtain ⟨hp1, hp2⟩ := List.mem_filter.1 hp;have := List.all_eq_true.1 hall p hp1
     cases hp3 : p.2 with
     | false => rfl
     | true =>
       rw [hp3] at this;simp at this hp2;omega
 . rw [jw] at h4;have hc : ¬ (nr3 (toI v) && wr'.all fun p => !p.2 || decide (σ.length <= p.1)) = true := by
     rw [zA, hlen, R'.hmn h.n];rintro ⟨h5, h6⟩;rw [Zz, h5] at h3;have h3 : @Bool.rec (fun _ => Bool) (Nat.blt h.n h'.mn) true (Nat.beq h'.mn 0) = false := h3;rw [vy] at h3;split at h3
     . cases h3
     . rename_i hb;have h3 := vR h3
       rcases h6 with h6 | h6
       . rw [h6] at hb; exact hb rfl
       . omega
   have hf : jG σ.length pan (toI v) ⟨ts0, σ', wr'⟩ = ⟨pan, toI v, σ', wr'.filter fun p => decide (p.1 < σ.length)⟩ := by
     unfold jG; simp only; rw [if_neg hc]
   rw [hf];refine ⟨⟨h'.n, h'.t, jcM (jkl h.n h'.mn) h.mn, h.tr, Ks h.tr h'.ws h.ws⟩, ⟨R'.len, R'.obs, hws hsub, fun n0 => ?_⟩, rfl, h4⟩;rw [List.all_append, zA, R.hmn n0, jig R'.hmn, hlen];exact (jcN _ _ _).symm
def jgw (ds : U) : H -> (H -> Ans) -> Ans := @U.rec (fun _ => H -> (H -> Ans) -> Ans) (fun _ _ _ _ => false) (fun _ _ _ => false) (fun _ _ _ _ => false) (fun _ _ _ _ _ _ _ _ _ => false) (fun h K => K h)
 (fun v _ _ ih h K => uO v fun _ a _ _ _ _ => vz a h fun ob => uO ob fun t _ _ _ _ _ => tst (Nat.beq t 4) (vb a .nl false h fun h => ih h K)) (fun _ _ _ _ _ _ _ _ => false) (fun _ _ _ => false) (fun _ _ _ _ _ _ _ _ _ => false) ds
theorem Vz : ∀ {ds : U} {l : List Nat} {h : H} {K : H -> Ans} {σ : List IObj} {wr : List (Nat × Bool)}, jgw ds h K = true -> DsR ds l -> HR h σ wr ->
   ∃ σ' h', shut σ l = some σ' /\ HR h' σ' ((l.map fun id => (id, false)) ++ wr) /\ h'.tr = h.tr /\ K h' = true := by
 intro ds
 induction ds with
 | nl =>
   intro l h K σ wr hk hd R
   cases l with
   | nil => exact ⟨σ, h, rfl, R, rfl, hk⟩
   | cons _ _ => exact hd.elim
 | cn v r _ ih =>
   intro l h K σ wr hk hd R;obtain ⟨t, a, b, c, d, x, rfl, h1⟩ := jq (show uO v (fun _ a _ _ _ _ => vz a h fun ob => uO ob fun t _ _ _ _ _ => tst (Nat.beq t 4) (vb a .nl false h fun h => jgw r h K)) = true from hk)
   cases l with
   | nil => simp [DsR] at hd
   | cons id l =>
     have ht : t = 4 := by
       by_cases e : t = 4
       . exact e
       . exfalso
         unfold DsR at hd;split at hd
         . rename_i e1 _; cases e1
         . rename_i e1 _; cases e1; exact e rfl
         . exact hd
     subst ht;have hd1 : a = id /\ DsR r l := hd;obtain ⟨rfl, hd2⟩ := hd1;obtain ⟨ob, o, h2, h3, h4⟩ := jR R h1;obtain ⟨t', a', b', c', d', x', rfl, h5⟩ := jq h4;obtain ⟨h6, h7⟩ := jb h5;have := zN h6; subst this;have ho : o = .defr := h3.o;subst ho;obtain ⟨h', h8, _, h9, h10⟩ := ke R h7 (o := .dead) rfl;obtain ⟨σ', h'', g1, g2, g3, g4⟩ := ih h10 hd2 h8;refine ⟨σ', h'', by simp only [shut, h2]; exact g1, g2.congr fun p => ?_, g3.trans h9, g4⟩;simp only [List.map_cons, List.mem_append, List.mem_cons]
     constructor
     . rintro ((h | h) | h)
       . exact Or.inr (Or.inl h)
       . exact Or.inl h
       . exact Or.inr (Or.inr h)
     . rintro (h | h | h)
       . exact Or.inl (Or.inr h)
       . exact Or.inl (Or.inl h)
       . exact Or.inr h
 | _ => intro l h K σ wr hk; cases hk
def jhW (n : Option Nat) (u : U) (h : H) (K : U -> H -> Ans) : Ans := uO u fun t a b _ _ _ => tst (Nat.beq t 1) (vz a h fun ob => @Option.rec Nat (fun _ => Ans)
 (XP ob b fun v => frc v fun v => frc (QH v) fun w => tst (yn v) (qf ob b (.cn w .nl) fun ob' => vb a ob' false h fun h => K v h))
 (fun n => KV ob n b fun r => jdu jhB r fun r' => qf ob b r' fun ob' => vb a ob' false h fun h => K (.o 17 0 0 0 0 r) h) n)
theorem jjv {v : IVal} {id off : Nat} (h : un3 v = .ptr id off) : v = .ptr id off := by
 cases v <;> simp only [un3, un2, un1] at h <;> first | exact h | cases h
theorem jbb {n : Option Nat} {u : U} {h : H} {K : U -> H -> Ans} {σ : List IObj} {wr : List (Nat × Bool)} (R : HR h σ wr) (hk : jhW n u h K = true) :
   ∃ id off cs v r h', toI u = .ptr id off /\ jr σ id = some cs /\ kA n cs off = some v /\ toI r = v /\ HR h' (σ.set id (.cells (ji cs off (un2 v).cells))) ((id, false) :: wr) /\ h'.tr = h.tr /\ K r h' = true := by
 obtain ⟨t, a, b, c, d, x, rfl, h1⟩ := jq hk;obtain ⟨h2, h3⟩ := jb h1;have := zN h2; subst this;obtain ⟨ob, o, h4, h5, h6⟩ := jR R h3
 cases n with
 | none =>
   obtain ⟨t', a', b', c', d', x', cs, w, rfl, h7, h8, h9⟩ := zY (show XP ob b (fun v => frc v fun v => frc (QH v) fun w => tst (yn v) (qf ob b (.cn w .nl) fun ob' => vb a ob' false h fun h => K v h)) = true from h6);rw [vB, vB] at h9;obtain ⟨h10, h11⟩ := jb h9;obtain ⟨_, _, _, _, _, _, cs2, t2, a2, b2, c2, d2, x2, e1, e2, h12, h13, h14⟩ := kw h11;rw [h7] at e2;cases e2;have ho : o = .cells cs := h5.o.trans h7;subst ho;have hcell := vf h10;obtain ⟨h', h15, _, h16, h17⟩ := ke R h14 (o := .cells (ji cs b (toL (.cn (QH w) .nl)))) (qQ h13);refine ⟨a, b, cs, toI w, w, h', rfl, kl h4, by simp only [kA, h8], rfl, ?_, h16, h17⟩;rw [XT hcell];rw [jn, qc, kX] at h15;exact h15
 | some n =>
   obtain ⟨t', a', b', c', d', x', cs, r, rfl, h7, h8, h9, h10⟩ := yY (show KV ob n b (fun r => jdu jhB r fun r' => qf ob b r' fun ob' => vb a ob' false h fun h => K (.o 17 0 0 0 0 r) h) = true from h6);obtain ⟨r', h11, h12⟩ := vk QG h10;obtain ⟨_, _, _, _, _, _, cs2, t2, a2, b2, c2, d2, x2, e1, e2, h13, h14, h15⟩ := kw h12;rw [h7] at e2;cases e2;have ho : o = .cells cs := h5.o.trans h7;subst ho;obtain ⟨h', h16, _, h17, h18⟩ := ke R h15 (o := .cells (ji cs b (toL r'))) (qQ h14);refine ⟨a, b, cs, .agg (toL r), .o 17 0 0 0 0 r, h', rfl, kl h4, by simp only [kA]; rw [if_pos h8, h9], ?_, ?_, h17, h18⟩
   . rw [yF, if_pos rfl]
   . rw [h11] at h16; exact h16
def jlm (rs : List RV) (e : Env) (h : H) (K : U -> H -> Ans) : Ans := @List.rec RV (fun _ => Env -> H -> (U -> H -> Ans) -> Ans) (fun _ h K => K .nl h)
 (fun r _ ih e h K => @RV.rec (fun _ => (Env -> H -> (U -> H -> Ans) -> Ans) -> Env -> H -> (U -> H -> Ans) -> Ans) (fun i ih e h K => JD (.m (Qg i)) e .nl fun u e => ih e h fun l h => K (.cn u l) h)
   (fun i n ih e h K => JD (.v (Qg i)) e .nl fun u e => jhW n u h fun v h => ih e h fun l h => K (.cn v l) h) r ih e h K) rs e h K
theorem jd8 : ∀ {rs : List RV} {e : Env} {h : H} {K : U -> H -> Ans} {vs : AL} {σ : List IObj} {wr : List (Nat × Bool)}, VarQ e vs -> HR h σ wr -> jlm rs e h K = true ->
   ∃ l σ' wr' h', jeZ rs vs σ wr = some (toL l, σ', wr') /\ HR h' σ' wr' /\ h'.tr = h.tr /\ K l h' = true := by
 intro rs
 induction rs with
 | nil => intro e h K vs σ wr hv R hk; exact ⟨.nl, σ, wr, h, rfl, R, rfl, hk⟩
 | cons r rs ih =>
   intro e h K vs σ wr hv R hk
   cases r with
   | t i =>
     obtain ⟨u, vs', e', h1, h2, _, h4⟩ := kg (x := .m i) (show JD (vQ (.m i)) e .nl (fun u e => jlm rs e h fun l h => K (.cn u l) h) = true from hk) hv (l := []) trivial;simp only [XOpd.get] at h1;split at h1
     . rename_i w hw;simp only [zO, zP] at h1;obtain ⟨rfl, rfl⟩ := h1;obtain ⟨l, σ', wr', h', g1, g2, g3, g4⟩ := ih h2 R h4;exact ⟨.cn u l, σ', wr', h', by simp only [jeZ, hw, g1]; rfl, g2, g3, g4⟩
     . cases h1
   | cell i n =>
     obtain ⟨u, vs', e', h1, h2, _, h4⟩ := kg (x := .v i) (show JD (vQ (.v i)) e .nl (fun u e => jhW n u h fun v h => jlm rs e h fun l h => K (.cn v l) h) = true from hk) hv (l := []) trivial;simp only [XOpd.get] at h1;split at h1
     . rename_i w hw;simp only [zO, zP] at h1;obtain ⟨h1, rfl⟩ := h1;obtain ⟨id, off, cs, v, r, h', g1, g2, g3, g4, g5, g6, g7⟩ := jbb R h4;rw [g1] at h1;have := jjv h1;subst this;obtain ⟨l, σ', wr', h'', k1, k2, k3, k4⟩ := ih h2 g5 g7;exact ⟨.cn r l, σ', wr', h'', by simp only [jeZ, hw, g2, g3, k1]; rw [<- g4]; rfl, k2, k3.trans g6, k4⟩
     . cases h1
def jnN (l : U) (K : U -> Ans) : Ans := uC l (K (.o 18 0 0 0 0 .nl)) fun u r => uC r (K u) fun _ _ => K (.o 18 0 0 0 0 l)
theorem jeE {l : U} {K : U -> Ans} (h : jnN l K = true) : ∃ v, toI v = jeY (toL l) /\ K v = true := by
 rcases jk h with ⟨rfl, h2⟩ | ⟨u, r, rfl, h2⟩
 . exact ⟨_, rfl, h2⟩
 . rcases jk h2 with ⟨rfl, h3⟩ | ⟨v, r', rfl, h3⟩
   . exact ⟨u, rfl, h3⟩
   . exact ⟨_, by rw [Ke, if_pos rfl]; rfl, h3⟩
def jkY (n mn : Nat) (tr : Bool) (ws : List Nat) (res : List RV) (e : Env) (h : H) (K : KH) : Ans := jgw (dsU e) h fun h => jlm res e h fun l h => tst (yU ntU l) (jnN l fun v => jft n mn tr ws v h K)
theorem Yw {h h' : H} {e : Env} {s : XS} {σ : List IObj} {wr : List (Nat × Bool)} (R : HR h σ wr) (R' : QR e .nl h' s) (ht : h'.tr = h.tr) {res : List RV} {K : KH} (hk : jkY h.n h.mn h.tr h.ws res e h' K = true) :
   ∃ o r h2, jjR σ.length res s = some o /\ o.pan = false /\ toI r = o.v /\ HR h2 o.σ (o.wr ++ wr) /\ h2.tr = h.tr /\ K r h2 = true := by
 obtain ⟨σ1, h1, g1, g2, g3, g4⟩ := Vz hk R'.ds R'.h;obtain ⟨l, σ2, wr2, h2, g5, g6, g7, g8⟩ := jd8 R'.v g2 g4;obtain ⟨g9, g10⟩ := jb g8;obtain ⟨v, g11, g12⟩ := jeE g10;obtain ⟨h3, k1, k2, k3⟩ := K9 R g6 (by rw [g7, g3, ht]) g12 false;have hnt := qe (fun {x} hx => Kh hx) g9;rw [g11] at k1;refine ⟨jG σ.length false (jeY (toL l)) ⟨ts0, σ2, wr2⟩, v, h3, ?_, ?_, ?_, k1, k2, k3⟩
 . simp only [jjR, g1, g5]; rw [if_pos hnt]
 . unfold jG; simp only; split <;> rfl
 . unfold jG; simp only; rw [g11]; split <;> rfl
def nilE : Env := ⟨⟨.nl, .nl, .nl, .nl, .nl, .nl, .nl, .nl⟩, ⟨.nl, .nl, .nl, .nl, .nl, .nl, .nl, .nl⟩, ⟨.nl, .nl, .nl, .nl, .nl, .nl, .nl, .nl⟩, ⟨.nl, .nl, .nl, .nl, .nl, .nl, .nl, .nl⟩, ⟨.nl, .nl, .nl, .nl, .nl, .nl, .nl, .nl⟩, ⟨.nl, .nl, .nl, .nl, .nl, .nl, .nl, .nl⟩, ⟨.nl, .nl, .nl, .nl, .nl, .nl, .nl, .nl⟩, ⟨.nl, .nl, .nl, .nl, .nl, .nl, .nl, .nl⟩⟩
theorem jjm : ∀ (d k : Nat), Kl d .nl k = .nl := by
 intro d k; cases d <;> rfl
theorem jj1 (j : Nat) : at' .nl j = .nl := jjm _ _
theorem jaz (j : Nat) : KX nilE j = .nl := by
 unfold KX;split
 . have hr : ∀ i, (nilE.get i) = ⟨.nl, .nl, .nl, .nl, .nl, .nl, .nl, .nl⟩ := by intro i; unfold E8.get nilE; split <;> rfl
   rw [hr];unfold E8.get; split <;> rfl
 . exact jj1 j
def jc9 (args : U) : Env -> Nat -> (Env -> Ans) -> Ans := @U.rec (fun _ => Env -> Nat -> (Env -> Ans) -> Ans) (fun _ _ _ _ _ => false) (fun _ _ _ _ => false) (fun _ _ _ _ _ => false) (fun _ _ _ _ _ _ _ _ _ _ => false) (fun e _ K => K e)
 (fun v _ _ ih e k K => zj (Qg k) e v fun e => ih e (Nat.succ k) K) (fun _ _ _ _ _ _ _ _ _ => false) (fun _ _ _ _ => false) (fun _ _ _ _ _ _ _ _ _ _ => false) args
theorem Vj : ∀ {args : U} {e : Env} {k : Nat} {K : Env -> Ans} {vs : AL}, jc9 args e k K = true -> VarQ e vs -> ∃ e', VarQ e' (VN k (toL args) vs) /\ dsU e' = dsU e /\ K e' = true := by
 intro args
 induction args with
 | nl => intro e k K vs h hv; exact ⟨e, hv, rfl, h⟩
 | cn v r _ ih =>
   intro e k K vs h hv;have h : zj (Qg k) e v (fun e => jc9 r e (Nat.succ k) K) = true := h;rw [vH, y7] at h;obtain ⟨e', h1, h2, h3⟩ := ih h (hv.set k v);exact ⟨e', h1, by rw [h2, vA], h3⟩
 | _ => intro e k K vs h; cases h
def jjc (ps : List Nat) (args : U) (e : Env) (K : Env -> Ans) : Ans := @List.rec Nat (fun _ => U -> Env -> (Env -> Ans) -> Ans) (fun l e K => uC l (K e) fun _ _ => false) (fun p _ ih l e K => uC l false fun v l => zj (Qg p) e v fun e => ih l e K) ps args e K
theorem jbT : ∀ {ps : List Nat} {args : U} {e : Env} {K : Env -> Ans} {vs : AL}, jjc ps args e K = true -> VarQ e vs -> ∃ e' vs', QQ vs ps (toL args) = some vs' /\ VarQ e' vs' /\ dsU e' = dsU e /\ K e' = true := by
 intro ps
 induction ps with
 | nil =>
   intro args e K vs h hv
   rcases jk h with ⟨rfl, h2⟩ | ⟨_, _, _, h2⟩
   . exact ⟨e, vs, rfl, hv, rfl, h2⟩
   . cases h2
 | cons p ps ih =>
   intro args e K vs h hv
   rcases jk (show uC args false (fun v l => zj (Qg p) e v fun e => jjc ps l e K) = true from h) with ⟨_, h2⟩ | ⟨v, l, rfl, h2⟩
   . cases h2
   . rw [vH, y7] at h2;obtain ⟨e', vs', h3, h4, h5, h6⟩ := ih h2 (hv.set p v);exact ⟨e', vs', h3, h4, by rw [h5, vA], h6⟩
def unS (v : U) (K : U -> Ans) : Ans := (@U.rec (fun _ => (U -> Ans) -> Ans) (fun k n => fun K => K (.i k n)) (fun x => fun K => K (.b x)) (fun l x => fun K => K (.s l x)) (fun t a b c d x _ => fun K => unK (.o t a b c d x) K) (fun K => K .nl) (fun _ _ _ _ => fun _ => false) (fun _ _ _ _ _ _ => fun _ => false) (fun v => fun K => unK (.z v) K) (fun _ _ _ _ _ _ _ => fun _ => false) v) K
def jjU (v w : U) : Prop := w ≠ .nl -> v ≠ .nl /\ toI w = un3 (toI v)
theorem vJ {v : U} {K : U -> Ans} (h : unS v K = true) : ∃ w, jjU v w /\ K w = true := by
 cases v with
 | nl => exact ⟨.nl, fun h => absurd rfl h, h⟩
 | i k n => exact ⟨_, fun _ => ⟨by simp, rfl⟩, h⟩
 | b x => exact ⟨_, fun _ => ⟨by simp, rfl⟩, h⟩
 | s l x => exact ⟨_, fun _ => ⟨by simp, rfl⟩, h⟩
 | o t a b c d x => obtain ⟨_, w, h1, h2⟩ := JR (show unK (.o t a b c d x) K = true from h); exact ⟨w, fun _ => ⟨by simp, h1⟩, h2⟩
 | z v => obtain ⟨_, w, h1, h2⟩ := JR (show unK (.z v) K = true from h); exact ⟨w, fun _ => ⟨by simp, h1⟩, h2⟩
 | _ => cases h
def zk (r : E8 U) (K : E8 U -> Ans) : Ans := @E8.rec U (fun _ => (E8 U -> Ans) -> Ans) (fun a b c d e f g h K => unS a fun a => unS b fun b => unS c fun c => unS d fun d => unS e fun e => unS f fun f => unS g fun g => unS h fun h => K ⟨a, b, c, d, e, f, g, h⟩) r K
theorem qd {r : E8 U} {K : E8 U -> Ans} (h0 : zk r K = true) : ∃ r', (∀ i, jjU (r.get i) (r'.get i)) /\ K r' = true := by
 obtain ⟨a, b, c, d, e, f, g, h⟩ := r;obtain ⟨a', p0, h1⟩ := vJ (show unS a (fun a => unS b fun b => unS c fun c => unS d fun d => unS e fun e => unS f fun f => unS g fun g => unS h fun h => K ⟨a, b, c, d, e, f, g, h⟩) = true from h0);obtain ⟨b', p1, h2⟩ := vJ h1;obtain ⟨c', p2, h3⟩ := vJ h2;obtain ⟨d', p3, h4⟩ := vJ h3;obtain ⟨e', p4, h5⟩ := vJ h4;obtain ⟨f', p5, h6⟩ := vJ h5;obtain ⟨g', p6, h7⟩ := vJ h6;obtain ⟨h', p7, h8⟩ := vJ h7;refine ⟨⟨a', b', c', d', e', f', g', h'⟩, fun i => ?_, h8⟩;unfold E8.get;split <;> assumption
def nlK (u : U) (K : Ans) : Ans := (@U.rec (fun _ => Ans -> Ans) (fun _ _ => fun _ => false) (fun _ => fun _ => false) (fun _ _ => fun _ => false) (fun _ _ _ _ _ _ _ => fun _ => false) (fun K => K) (fun _ _ _ _ => fun _ => false) (fun _ _ _ _ _ _ => fun _ => false) (fun _ => fun _ => false) (fun _ _ _ _ _ _ _ => fun _ => false) u) K
theorem KA {u : U} {K : Ans} (h : nlK u K = true) : u = .nl /\ K = true := by cases u <;> first | exact ⟨rfl, h⟩ | cases h
def jh5 (e : Env) (K : Env -> Ans) : Ans := @E8.rec (E8 U) (fun _ => (Env -> Ans) -> Ans) (fun r0 r1 r2 r3 r4 r5 r6 r7 K => zk r0 fun r0 => zk r1 fun r1 => zk r2 fun r2 => zk r3 fun r3 => zk r4 fun r4 => zk r5 fun r5 => zk r6 fun r6 =>
 @E8.rec U (fun _ => (Env -> Ans) -> Ans) (fun a b c d e f _ h K => nlK h (zk ⟨a, b, c, d, e, f, .nl, .nl⟩ fun r7 => @E8.rec U (fun _ => (Env -> Ans) -> Ans) (fun a b c d e f _ _ K => K ⟨r0, r1, r2, r3, r4, r5, r6, ⟨a, b, c, d, e, f, .nl, .nl⟩⟩) r7 K)) r7 K) e K
theorem jbm {e : Env} {K : Env -> Ans} (h0 : jh5 e K = true) : ∃ e', (∀ j, jjU (KX e j) (KX e' j)) /\ dsU e' = .nl /\ K e' = true := by
 obtain ⟨r0, r1, r2, r3, r4, r5, r6, r7⟩ := e;obtain ⟨a, b, c, d, e, f, g, h⟩ := r7;obtain ⟨s0, p0, h1⟩ := qd (show zk r0 (fun r0 => zk r1 fun r1 => zk r2 fun r2 => zk r3 fun r3 => zk r4 fun r4 => zk r5 fun r5 => zk r6 fun r6 =>
   nlK h (zk ⟨a, b, c, d, e, f, .nl, .nl⟩ fun r7 => @E8.rec U (fun _ => (Env -> Ans) -> Ans) (fun a b c d e f _ _ K => K ⟨r0, r1, r2, r3, r4, r5, r6, ⟨a, b, c, d, e, f, .nl, .nl⟩⟩) r7 K)) = true from h0)
 obtain ⟨s1, p1, h2⟩ := qd h1;obtain ⟨s2, p2, h3⟩ := qd h2;obtain ⟨s3, p3, h4⟩ := qd h3;obtain ⟨s4, p4, h5⟩ := qd h4;obtain ⟨s5, p5, h6⟩ := qd h5;obtain ⟨s6, p6, h7⟩ := qd h6;obtain ⟨rfl, h8⟩ := KA h7;obtain ⟨s7, p7, h9⟩ := qd h8;obtain ⟨a', b', c', d', e', f', g', h'⟩ := s7;refine ⟨_, fun j => ?_, rfl, h9⟩;unfold KX
 by_cases hj : j < 62
 . rw [if_pos hj, if_pos hj];have hrow : ∀ i, i < 7 -> ∀ k, jjU (((⟨r0, r1, r2, r3, r4, r5, r6, ⟨a, b, c, d, e, f, g, .nl⟩⟩ : Env).get i).get k) (((⟨s0, s1, s2, s3, s4, s5, s6, ⟨a', b', c', d', e', f', .nl, .nl⟩⟩ : Env).get i).get k) := by
     intro i hi k
     match i, hi with
     | 0, _ => exact p0 k
     | 1, _ => exact p1 k
     | 2, _ => exact p2 k
     | 3, _ => exact p3 k
     | 4, _ => exact p4 k
     | 5, _ => exact p5 k
     | 6, _ => exact p6 k
   by_cases h7 : j / 8 < 7
   . exact hrow _ h7 _
   . have e7 : j / 8 = 7 := by omega
     have hm : j % 8 < 6 := by omega
     rw [e7];have q := p7 (j % 8)
     match j % 8, hm, q with
     | 0, _, q => exact q
     | 1, _, q => exact q
     | 2, _, q => exact q
     | 3, _, q => exact q
     | 4, _, q => exact q
     | 5, _, q => exact q
 . rw [if_neg hj, if_neg hj];intro h;exact absurd (jj1 j) h
theorem VarQ.un {e e' : Env} {vs : AL} (hv : VarQ e vs) (h : ∀ j, jjU (KX e j) (KX e' j)) : VarQ e' (aun vs) := by
 intro j hj;obtain ⟨h1, h2⟩ := h j hj;rw [jah, hv j h1, h2]; rfl
end
end Go.Idl
namespace Go.Idl
noncomputable section
set_option maxHeartbeats 200000
abbrev RT := XCode -> Env -> U -> H -> NK -> XK -> Ans
def jj5 (fn : XFunc) (ih : RT) (args : U) (h : H) (K P : KH) : Ans := @XFunc.rec (fun _ => RT -> U -> H -> KH -> KH -> Ans) (fun nv body res ih args h K P =>
 tst (Nat.ble (J2 args) nv) (jc9 args nilE 0 fun e => hK h fun n t mn tr ws => ih body e .nl ⟨n, t, 0, tr, []⟩ (fun e _ h' => jkY n mn tr ws res e h' K)
   (fun x u e h' => @Nat.rec (fun _ => U -> Env -> H -> KH -> KH -> Ans) (fun _ e h' K _ => jkY n mn tr ws res e h' K) (fun x _ u e h' _ P => tst (Nat.beq x 0) (nlK (dsU e) (jft n mn tr ws u h' P))) x u e h' K P))) fn ih args h K P
def lpK (ob : U) (K : Nat -> List Nat -> XCode -> XCode -> U -> Nat -> Ans) : Ans := (@U.rec (fun _ => (Nat -> List Nat -> XCode -> XCode -> U -> Nat -> Ans) -> Ans) (fun _ _ => fun _ => false) (fun _ => fun _ => false) (fun _ _ => fun _ => false) (fun _ _ _ _ _ _ _ => fun _ => false) (fun _ => false) (fun _ _ _ _ => fun _ => false) (fun _ _ _ _ _ _ => fun _ => false) (fun _ => fun _ => false) (fun st ps p q e pd _ => fun K => K st ps p q e pd) ob) K
theorem Kz {ob : U} {K : Nat -> List Nat -> XCode -> XCode -> U -> Nat -> Ans} (h : lpK ob K = true) : ∃ st ps p q e pd, ob = .lp st ps p q e pd /\ K st ps p q e pd = true := by
 cases ob <;> first | exact ⟨_, _, _, _, _, _, rfl, h⟩ | cases h
def jn3 (x : Nat) : Nat := @Bool.rec (fun _ => Nat) x 1 (Nat.beq x 0)
def jd9 (ih : RT) (id : Nat) (args : U) (h : H) (K : KH) (_P : KH) : Ans := vz id h fun ob => lpK ob fun st ps p q e pd => tst (Nat.beq st 0) (jnv e fun E => jjc ps args E fun E => hK h fun n t mn tr ws =>
 ih p E .nl ⟨n, t, 0, tr, []⟩ (fun e1 _ h1 => vz id h1 fun ob1 => lpK ob1 fun st1 ps1 p1 q1 eu1 pd1 => tst (Nat.beq st1 0) (vb id (.lp 1 ps1 p1 q1 eu1 pd1) false h1 fun h2 =>
   ih q e1 .nl h2 (fun _ _ h3 => vz id h3 fun ob3 => lpK ob3 fun _ ps3 p3 q3 eu3 _ => vb id (.lp 0 ps3 p3 q3 eu3 0) false h3 fun h4 => jft n mn tr ws (.b true) h4 K)
     (fun x _ _ h3 => tst (jaC (Nat.beq x 1)) (vz id h3 fun ob3 => lpK ob3 fun _ ps3 p3 q3 eu3 _ => fN (jn3 x) fun pd => vb id (.lp 2 ps3 p3 q3 eu3 pd) false h3 fun h4 => jft n mn tr ws (.b false) h4 K)))) (fun _ _ _ _ => false))
def jjS (tr : Bool) (N : NK) (X : XK) (x : IExit) (s : XS) : Prop := match x with
 | .normal => ∃ e st h, QR e st h s /\ h.tr = tr /\ N e st h = true
 | .ret => ∃ e h u, QR e .nl h s /\ h.tr = tr /\ X 0 u e h = true
 | .panic v => ∃ e h u, QR e .nl h s /\ h.tr = tr /\ toI u = v /\ X 1 u e h = true
 | .exit id => ∃ e h u, QR e .nl h s /\ h.tr = tr /\ X (id + 2) u e h = true
 | .goto _ => False
def Snd (F : XProg) (rt : RT) : Prop := ∀ c e st h N X s, QR e st h s -> rt c e st h N X = true -> ∃ x s', QY F c s = some (x, s') /\ jjS h.tr N X x s'
theorem jcy {F : XProg} {ih : RT} (hs : Snd F ih) {g : FuncId} {fn : XFunc} (hF : F g = some fn) : CallS (xcfw F) (.f g) (jj5 fn ih) := by
 intro l h K P σ wr R hk;rw [jhG, hF];simp only
 . obtain ⟨nv, body, res⟩ := fn;obtain ⟨h1, h2⟩ := jb (show tst (Nat.ble (J2 l) nv) (jc9 l nilE 0 fun e => hK h fun n t mn tr ws => ih body e .nl ⟨n, t, 0, tr, []⟩ (fun e _ h' => jkY n mn tr ws res e h' K)
     (fun x u e h' => @Nat.rec (fun _ => U -> Env -> H -> KH -> KH -> Ans) (fun _ e h' K _ => jkY n mn tr ws res e h' K) (fun x _ u e h' _ P => tst (Nat.beq x 0) (nlK (dsU e) (jft n mn tr ws u h' P))) x u e h' K P)) = true from hk)
   have h1 := ble_iff.1 h1;rw [kq] at h1;obtain ⟨e, h3, h4, h5⟩ := Vj h2 (vs := []) (fun j hj => absurd (jaz j) hj);rw [J1] at h5;have R0 : QR e .nl ⟨h.n, h.t, 0, h.tr, []⟩ ⟨VN 0 (toL l) [], [], [], σ, []⟩ := ⟨h3, trivial, by rw [h4]; exact trivial, R.fresh h.tr []⟩;obtain ⟨x, s', h6, h7⟩ := hs _ _ _ _ _ _ _ R0 h5;have hb : ja0 body = none := by
     cases body with
     | lib p => rw [jeP] at h6; cases h6
     | _ => rfl
   simp only [yR, hb];rw [if_pos h1, h6]
   cases x with
   | normal =>
     obtain ⟨e1, st1, h8, R1, ht, h9⟩ := h7;obtain ⟨o, r, h10, g1, g2, g3, g4, g5, g6⟩ := Yw R R1.nl ht h9;exact ⟨o, r, h10, g1, g3, g4, g5, Or.inl ⟨g2, g6⟩⟩
   | ret =>
     obtain ⟨e1, h8, u, R1, ht, h9⟩ := h7;obtain ⟨o, r, h10, g1, g2, g3, g4, g5, g6⟩ := Yw R R1.nl ht h9;exact ⟨o, r, h10, g1, g3, g4, g5, Or.inl ⟨g2, g6⟩⟩
   | panic v =>
     obtain ⟨e1, h8, u, R1, ht, hu, h9⟩ := h7;obtain ⟨_, h10⟩ := jb (show tst (Nat.beq 0 0) (nlK (dsU e1) (jft h.n h.mn h.tr h.ws u h8 P)) = true from h9);obtain ⟨h11, h12⟩ := KA h10;have hds : s'.ds = [] := by
       have := R1.ds;rw [h11] at this
       cases hd : s'.ds with
       | nil => rfl
       | cons a b => rw [hd] at this; exact this.elim
     obtain ⟨h13, g1, g2, g3⟩ := K9 R R1.h ht h12 true;rw [hu] at g1;simp only [hds];refine ⟨_, u, h13, rfl, ?_, g1, g2, Or.inr ⟨?_, g3⟩⟩
     . unfold jG; simp only; split <;> exact hu
     . unfold jG; simp only; split <;> rfl
   | exit id =>
     obtain ⟨e1, h8, u, R1, ht, h9⟩ := h7;obtain ⟨h10, _⟩ := jb (show tst (Nat.beq (id + 1) 0) _ = true from h9);cases h10
   | goto l => exact h7.elim
theorem ObR.lp {st : Nat} {ps : List Nat} {p q : XCode} {e : U} {pd : Nat} {ob : IObj} (h : ObR (.lp st ps p q e pd) ob) : ∃ l E, ob = .loop l /\ e = jkf E /\ l.st = st /\ l.ps = ps /\ l.x.a = p /\ l.x.b = q /\ l.pend = jiT pd /\ VarQ E l.x.vs /\ dsU E = .nl := h
theorem jgt {F : XProg} {ih : RT} (hs : Snd F ih) (id : Nat) : CallS (xcfw F) (.y id) (jd9 ih id) := by
 intro l h K P σ wr R hk;rw [jlb];unfold jd9 at hk;obtain ⟨ob, o, h1, h2, h3⟩ := jR R hk;obtain ⟨st, ps, p, q, eu, pd, rfl, h4⟩ := Kz h3;obtain ⟨l0, E, rfl, rfl, e1, e2, e3, e4, e5, hv, hd⟩ := h2.lp;obtain ⟨h5, h6⟩ := jb h4;have h5 := zN h5;have h7 := jc0 h6;obtain ⟨E1, vs1, g1, g2, g3, h8⟩ := jbT h7 hv;rw [J1] at h8;have R0 : QR E1 .nl ⟨h.n, h.t, 0, h.tr, []⟩ ⟨vs1, [], [], σ, []⟩ := ⟨g2, trivial, by rw [g3, hd]; exact trivial, R.fresh h.tr []⟩;obtain ⟨x, s1, h9, h10⟩ := hs _ _ _ _ _ _ _ R0 h8
 cases x with
 | normal =>
   obtain ⟨e6, st6, h11, R1, ht1, h12⟩ := h10;obtain ⟨ob1, o1, k1, k2, k3⟩ := jR R1.h h12;obtain ⟨st1, ps1, p1, q1, eu1, pd1, rfl, k4⟩ := Kz k3;obtain ⟨l1, E2, rfl, rfl, f1, f2, f3, f4, f5, hv1, hd1⟩ := k2.lp;obtain ⟨k5, k6⟩ := jb k4;have k5 := zN k5;obtain ⟨h13, k7, _, k8, k9⟩ := ke R1.h k6 (o := .loop { l1 with st := 1 }) ⟨{ l1 with st := 1 }, E2, rfl, rfl, rfl, f2, f3, f4, f5, hv1, hd1⟩;have R2 : QR e6 .nl h13 { s1 with st := [], σ := s1.σ.set id (.loop { l1 with st := 1 }), wr := (id, false) :: s1.wr } := ⟨R1.v, trivial, R1.ds, k7⟩;obtain ⟨x2, s2, m1, m2⟩ := hs _ _ _ _ _ _ _ R2 k9;have hst0 : l0.st = 0 := by rw [e1]; exact h5
   have hst1 : l1.st = 0 := by rw [f1]; exact k5
   have g1' : QQ l0.x.vs l0.ps (toL l) = some vs1 := by rw [e2]; exact g1
   have h9' : QY F l0.x.a ⟨vs1, [], [], σ, []⟩ = some (.normal, s1) := by rw [e3]; exact h9
   have m1' : QY F l0.x.b { s1 with st := [], σ := s1.σ.set id (.loop { l1 with st := 1 }), wr := (id, false) :: s1.wr } = some (x2, s2) := by rw [e4]; exact m1
   have fin : ∀ {st2 : Nat} {pd2 : Nat} {pe : Option IExit} {v : Bool} {h14 : H}, HR h14 s2.σ s2.wr -> h14.tr = h.tr -> jiT pd2 = pe ->
       (vz id h14 fun ob3 => lpK ob3 fun _ ps3 p3 q3 eu3 _ => vb id (.lp st2 ps3 p3 q3 eu3 pd2) false h14 fun h4 => jft h.n h.mn h.tr h.ws (.b v) h4 K) = true ->
       ∃ l2, s2.σ[id]? = some (.loop l2) /\ ∃ h2, HR h2 (jG σ.length false (.bool v) ⟨ts0, s2.σ.set id (.loop { l2 with st := st2, pend := pe }), (id, false) :: s2.wr⟩).σ ((jG σ.length false (.bool v) ⟨ts0, s2.σ.set id (.loop { l2 with st := st2, pend := pe }), (id, false) :: s2.wr⟩).wr ++ wr) /\ h2.tr = h.tr /\ K (.b v) h2 = true := by
     intro st2 pd2 pe v h14 R3 ht3 hpe h15;obtain ⟨ob3, o3, n1, n2, n3⟩ := jR R3 h15;obtain ⟨st3, ps3, p3, q3, eu3, pd3, rfl, n4⟩ := Kz n3;obtain ⟨l2, E3, rfl, rfl, w1, w2, w3, w4, w5, hv3, hd3⟩ := n2.lp;obtain ⟨h16, n5, _, n6, n7⟩ := ke R3 n4 (o := .loop { l2 with st := st2, pend := pe }) ⟨{ l2 with st := st2, pend := pe }, E3, rfl, rfl, rfl, w2, w3, w4, hpe.symm, hv3, hd3⟩;obtain ⟨h17, n8, n9, n10⟩ := K9 R n5 (n6.trans ht3) n7 false;exact ⟨l2, n1, h17, n8, n9, n10⟩
   have out : ∀ {o : Out} {v : Bool} {h2 : H}, vx (QY F) id (toL l) σ = some o -> o.pan = false -> o.v = .bool v -> HR h2 o.σ (o.wr ++ wr) -> h2.tr = h.tr -> K (.b v) h2 = true ->
       ∃ o r h', vx (QY F) id (toL l) σ = some o /\ toI r = o.v /\ HR h' o.σ (o.wr ++ wr) /\ h'.tr = h.tr /\ (o.pan = false /\ K r h' = true \/ o.pan = true /\ P r h' = true) :=
     fun a b c d e f => ⟨_, .b _, _, a, c.symm, d, e, Or.inl ⟨b, f⟩⟩
   have htr2 : h13.tr = h.tr := k8.trans ht1;have fv : ∀ {v : Bool} {σ0 : List IObj} {w0 : List (Nat × Bool)}, (jG σ.length false (.bool v) ⟨ts0, σ0, w0⟩).v = .bool v := by
     intro v σ0 w0; unfold jG; simp only; split <;> rfl
   have fp : ∀ {v : Bool} {σ0 : List IObj} {w0 : List (Nat × Bool)}, (jG σ.length false (.bool v) ⟨ts0, σ0, w0⟩).pan = false := by
     intro v σ0 w0; unfold jG; simp only; split <;> rfl
   cases x2 with
   | normal =>
     obtain ⟨e7, st7, h14, R3, ht3, h15⟩ := m2;obtain ⟨l2, n1, h17, n8, n9, n10⟩ := fin (st2 := 0) (pd2 := 0) (pe := none) R3.h (ht3.trans htr2) rfl h15;exact out (by unfold vx; simp only [h1, hst0, g1', h9', k1, hst1, m1', n1]) fp fv n8 n9 n10
   | ret =>
     obtain ⟨e7, h14, u, R3, ht3, h15⟩ := m2;obtain ⟨_, h16⟩ := jb h15;simp only [jw] at h16;obtain ⟨l2, n1, h17, n8, n9, n10⟩ := fin (st2 := 2) (pd2 := 1) (pe := some .ret) R3.h (ht3.trans htr2) rfl h16;exact out (by unfold vx; simp only [h1, hst0, g1', h9', k1, hst1, m1', n1, y5, if_true]) fp fv n8 n9 n10
   | exit i =>
     obtain ⟨e7, h14, u, R3, ht3, h15⟩ := m2;obtain ⟨_, h16⟩ := jb h15;simp only [jw] at h16;obtain ⟨l2, n1, h17, n8, n9, n10⟩ := fin (st2 := 2) (pd2 := i + 2) (pe := some (.exit i)) R3.h (ht3.trans htr2) rfl h16;exact out (by unfold vx; simp only [h1, hst0, g1', h9', k1, hst1, m1', n1, y5, if_true]) fp fv n8 n9 n10
   | panic v =>
     obtain ⟨e7, h14, u, R3, ht3, _, h15⟩ := m2;obtain ⟨h16, _⟩ := jb h15;cases h16
   | goto l => exact m2.elim
 | ret => obtain ⟨_, _, _, _, _, h12⟩ := h10; cases h12
 | panic v => obtain ⟨_, _, _, _, _, _, h12⟩ := h10; cases h12
 | exit i => obtain ⟨_, _, _, _, _, h12⟩ := h10; cases h12
 | goto l => exact h10.elim
end
end Go.Idl
namespace Go.Idl
noncomputable section
set_option maxHeartbeats 400000
def jfZ : U := jgd .nilIface
theorem jf0 : toI jfZ = jiK := jaH _
def jnI (slot : Option Nat) (m : Option U) (e : Env) (K : Env -> Ans) : Ans := @Option.rec Nat (fun _ => Ans) (K e) (fun t => @Option.rec U (fun _ => Ans) (zj (Qg t) e jfZ K) (fun u => unK u fun w => zj (Qg t) e w K) m) slot
theorem jd6 {slot : Option Nat} {m : Option U} {e : Env} {K : Env -> Ans} {args : List IVal} (hv : VarQ e (VN 0 args [])) (hk : jnI slot m e K = true) : ∃ e', VarQ e' (jjQ slot args (m.map toI)) /\ dsU e' = dsU e /\ K e' = true := by
 cases slot with
 | none => exact ⟨e, hv, rfl, hk⟩
 | some t =>
   cases m with
   | none =>
     have hk : zj (Qg t) e jfZ K = true := hk;rw [vH, y7] at hk;refine ⟨_, ?_, vA _ _ _, hk⟩;have := hv.set t jfZ;rw [jf0] at this;exact this
   | some u =>
     obtain ⟨_, w, h1, h2⟩ := JR (show unK u (fun w => zj (Qg t) e w K) = true from hk);rw [vH, y7] at h2;refine ⟨_, ?_, vA _ _ _, h2⟩;have := hv.set t w;rw [h1] at this;exact this
def jki (slot : Option Nat) (m : Option U) (e : Env) (h : H) (X : XK) : Ans := @Option.rec Nat (fun _ => Ans) (@Option.rec U (fun _ => Ans) (X 0 .nl e h) (fun u => X 1 u e h) m) (fun _ => X 0 .nl e h) slot
theorem jbp {slot : Option Nat} {m : Option U} {e : Env} {h : H} {N : NK} {X : XK} {s : XS} {tr : Bool} (R : QR e .nl h s) (ht : h.tr = tr) (hk : jki slot m e h X = true) : jjS tr N X (jbo (jgI slot (m.map toI))) s := by
 cases slot with
 | none =>
   cases m with
   | none => exact ⟨e, h, .nl, R, ht, hk⟩
   | some u => exact ⟨e, h, u, R, ht, rfl, hk⟩
 | some t => exact ⟨e, h, .nl, R, ht, hk⟩
def jjH (mn : Nat) (tr : Bool) (ws : List Nat) (slot : Option Nat) (m : Option U) (e1 : Env) (X : XK) (e' : Env) (h2 : H) : Ans := nlK (dsU e') (hK h2 fun n' t' mn' _ ws' => fN (jcM mn' mn) fun k => jki slot m (Kq e1 .nl) ⟨n', t', k, tr, Ks tr ws' ws⟩ X)
def Vs (ih : RT) (nv : Nat) (slot : Option Nat) (c : XCode) (args : U) (m : Option U) (e1 : Env) (h : H) (X : XK) : Ans :=
 jgw (dsU e1) h fun h1 => tst (Nat.ble (J2 args) nv) (tst (jes slot nv) (jc9 args nilE 0 fun ea => jnI slot m ea fun ea => hK h1 fun n t mn tr ws =>
   ih c ea .nl ⟨n, t, 0, tr, []⟩ (fun e' _ h2 => jjH mn tr ws slot m e1 X e' h2) (fun x _ e' h2 => tst (Nat.beq x 0) (jjH mn tr ws slot m e1 X e' h2))))
theorem Jd {F : XProg} {ih : RT} (hs : Snd F ih) {nv : Nat} {slot : Option Nat} {c : XCode} {args : U} {m : Option U} {e1 : Env} {h : H} {N : NK} {X : XK} {s : XS} {x : IExit} (R : QR e1 .nl h s) (hx : vP x = some (m.map toI))
   (hk : Vs ih nv slot c args m e1 h X = true) : ∃ x' s', yi (QY F) nv slot c (toL args) x s = some (x', s') /\ jjS h.tr N X x' s' := by
 obtain ⟨σ1, h1, g1, g2, g3, g4⟩ := Vz hk R.ds R.h;obtain ⟨g5, g6⟩ := jb g4;obtain ⟨g7, g8⟩ := jb g6;have g5 := ble_iff.1 g5;rw [kq] at g5;obtain ⟨ea, k1, k2, k3⟩ := Vj g8 (vs := []) (fun j hj => absurd (jaz j) hj);obtain ⟨eb, k4, k5, k6⟩ := jd6 k1 k3;rw [J1] at k6;have R0 : QR eb .nl ⟨h1.n, h1.t, 0, h1.tr, []⟩ ⟨jjQ slot (toL args) (m.map toI), [], [], σ1, []⟩ := ⟨k4, trivial, by rw [k5, k2]; exact trivial, g2.fresh h1.tr []⟩;obtain ⟨y, s', h6, h7⟩ := hs _ _ _ _ _ _ _ R0 k6;have fin : ∀ {e' : Env} {h2 : H}, QR e' .nl h2 s' -> h2.tr = h1.tr -> jjH h1.mn h1.tr h1.ws slot m e1 X e' h2 = true ->
     s'.ds = [] /\ jjS h.tr N X (jbo (jgI slot (m.map toI))) { s with st := [], ds := [], σ := s'.σ, wr := s'.wr ++ ((s.ds.map fun id => (id, false)) ++ s.wr) } := by
   intro e' h2 R2 ht hf;obtain ⟨q1, q2⟩ := KA hf;rw [J1, jw] at q2;have hds : s'.ds = [] := by
     have := R2.ds;rw [q1] at this
     cases hd : s'.ds with
     | nil => rfl
     | cons a b => rw [hd] at this; exact this.elim
   refine ⟨hds, jbp ⟨R.v.ds _, trivial, ?_, g2.join R2.h (fun hh => by rw [ht]; exact hh)⟩ g3 q2⟩;rw [XV];exact trivial
 have out : ∀ {mm : Option IVal}, vP y = some mm -> (∀ v, y ≠ .panic v) -> s'.ds = [] -> yi (QY F) nv slot c (toL args) x s = some (jbo (jgI slot (m.map toI)), { s with st := [], ds := [], σ := s'.σ, wr := s'.wr ++ ((s.ds.map fun id => (id, false)) ++ s.wr) }) := by
   intro mm hm hp hd;unfold yi;simp only [hx, g1];rw [if_pos ⟨g5, g7⟩, h6]
   cases y with
   | panic v => exact absurd rfl (hp v)
   | normal => simp only [vP, hd]
   | ret => simp only [vP, hd]
   | exit i => cases hm
   | goto l => cases hm
 cases y with
 | normal =>
   obtain ⟨e', st', h2, R2, ht, h8⟩ := h7;obtain ⟨hd, hD⟩ := fin R2.nl ht h8;exact ⟨_, _, out rfl (fun v h => by cases h) hd, hD⟩
 | ret =>
   obtain ⟨e', h2, u, R2, ht, h8⟩ := h7;obtain ⟨_, h9⟩ := jb (show tst (Nat.beq 0 0) (jjH h1.mn h1.tr h1.ws slot m e1 X e' h2) = true from h8);obtain ⟨hd, hD⟩ := fin R2 ht h9;exact ⟨_, _, out rfl (fun v h => by cases h) hd, hD⟩
 | panic v =>
   obtain ⟨e', h2, u, R2, ht, _, h8⟩ := h7;obtain ⟨h9, _⟩ := jb (show tst (Nat.beq 1 0) (jjH h1.mn h1.tr h1.ws slot m e1 X e' h2) = true from h8);cases h9
 | exit i =>
   obtain ⟨e', h2, u, R2, ht, h8⟩ := h7;obtain ⟨h9, _⟩ := jb (show tst (Nat.beq (i + 2) 0) (jjH h1.mn h1.tr h1.ws slot m e1 X e' h2) = true from h8);cases h9
 | goto l => exact h7.elim
def jlu (ih : RT) (cq : CQ) (yq : YQ) (l : List XOper) (x : XOpd) (xs : List XOpd) (g nv : Nat) (slot : Option Nat) (c b : XCode) (e : Env) (st : U) (h : H) (X : XK) : Ans :=
 jjN (l.map zI) cq yq e st h (fun e st h => J5 ((x :: xs).map vQ) e st fun la e => uC la false fun u vl => uO u fun t g' nb _ _ y => tst (Nat.beq t 7) (tst (Nat.beq g' g) (tst (yU ntU vl) (nlK (dsU e) (jdu QH vl fun vl => ja8 nb y vl fun args =>
   ih b e .nl h (fun e1 _ h1 => Vs ih nv slot c args none e1 h1 X) (fun k u e1 h1 => @Nat.rec (fun _ => Ans) (Vs ih nv slot c args none e1 h1 X) (fun k _ => tst (Nat.beq k 0) (Vs ih nv slot c args (some u) e1 h1 X)) k)))))) (fun _ _ _ => false)
theorem jcU {F : XProg} {cq : CQ} {yq : YQ} (hc : CYS (xcfw F) cq yq) {ih : RT} (hs : Snd F ih) {l : List XOper} {x : XOpd} {xs : List XOpd} {g nv : Nat} {slot : Option Nat} {c b : XCode} {e : Env} {st : U} {h : H} {N : NK} {X : XK} {s : XS}
   (R : QR e st h s) (hk : jlu ih cq yq l x xs g nv slot c b e st h X = true) : ∃ x' s', jch (QY F) (xcfw F) l x xs g nv slot c b s = some (x', s') /\ jjS h.tr N X x' s' := by
 rcases YA hc R hk with ⟨e', st', h', s', h1, R1, h2, h3⟩ | ⟨r, e', st', h', s', h1, R1, h2, h3⟩
 . obtain ⟨la, vs', e2, k1, k2, k3, k4⟩ := qG h3 R1.v R1.st
   rcases jk k4 with ⟨_, k5⟩ | ⟨u, vl, rfl, k5⟩
   . cases k5
   obtain ⟨t, g', nb, d1, d2, y, rfl, k6⟩ := jq k5;obtain ⟨k7, k8⟩ := jb k6;have := zN k7; subst this;obtain ⟨k9, k10⟩ := jb k8;have := zN k9; subst this;obtain ⟨k11, k12⟩ := jb k10;obtain ⟨k13, k14⟩ := KA k12;obtain ⟨vl2, k15, k16⟩ := vk kX k14;obtain ⟨args, k17, k18⟩ := JT k16;have hnt := qe (fun {x} hx => Kh hx) k11;have hds : s'.ds = [] := by
     have := R1.ds;rw [<- k3, k13] at this
     cases hd : s'.ds with
     | nil => rfl
     | cons a b => rw [hd] at this; exact this.elim
   have R2 : QR e2 .nl h' { s' with vs := vs', st := [] } := ⟨k2, trivial, by rw [k3]; exact R1.ds, R1.h⟩;rw [jn, jaV] at k1;rw [k15] at k17;obtain ⟨x2, s2, q1, q2⟩ := hs _ _ _ _ _ _ _ R2 k18;have out : ∀ {x' : IExit} {s3 : XS}, yi (QY F) nv slot c (toL args) x2 s2 = some (x', s3) -> jch (QY F) (xcfw F) l x xs g' nv slot c b s = some (x', s3) := by
     intro x' s3 hl;unfold jch;simp only [h1, k1];rw [if_pos ⟨trivial, hnt, hds⟩, q1];simp only;rw [<- k17];exact hl
   cases x2 with
   | normal =>
     obtain ⟨e3, st3, h4, R3, ht, h5⟩ := q2;obtain ⟨x', s3, h6, h7⟩ := Jd (N := N) hs R3.nl (x := .normal) rfl h5;exact ⟨x', s3, out h6, by rw [<- h2, <- ht]; exact h7⟩
   | ret =>
     obtain ⟨e3, h4, u, R3, ht, h5⟩ := q2;obtain ⟨x', s3, h6, h7⟩ := Jd (N := N) hs R3 (x := .ret) (m := none) rfl h5;exact ⟨x', s3, out h6, by rw [<- h2, <- ht]; exact h7⟩
   | panic v =>
     obtain ⟨e3, h4, u, R3, ht, hu, h5⟩ := q2;obtain ⟨_, h6⟩ := jb (show tst (Nat.beq 0 0) (Vs ih nv slot c args (some u) e3 h4 X) = true from h5);obtain ⟨x', s3, h7, h8⟩ := Jd (N := N) hs R3 (x := .panic v) (m := some u) (by rw [<- hu]; rfl) h6;exact ⟨x', s3, out h7, by rw [<- h2, <- ht]; exact h8⟩
   | exit i =>
     obtain ⟨e3, h4, u, R3, ht, h5⟩ := q2;obtain ⟨h6, _⟩ := jb (show tst (Nat.beq (i + 1) 0) (Vs ih nv slot c args (some u) e3 h4 X) = true from h5);cases h6
   | goto l => exact q2.elim
 . cases h3
def stepG (cq : CQ) (yq : YQ) (ih : RT) (c : XCode) (e : Env) (st : U) (h : H) (N : NK) (X : XK) : Ans := @XCode.rec (fun _ => CQ -> YQ -> RT -> Env -> U -> H -> NK -> XK -> Ans)
 (fun _ _ _ e st h N _ => N e st h)
 (fun keep l cq yq ih e st h N X => jjN (l.map zI) cq yq e st h (fun e st h => N e (@Bool.rec (fun _ => U) .nl st keep) h) (fun u e h => X 1 u e h))
 (fun keep l ps cq yq ih e st h N X => @List.rec (Nat × Nat) (fun _ => Ans)
   (jkZ ((l.map (·.2)).map zI) cq yq e st h (fun e st h => N e (@Bool.rec (fun _ => U) .nl st keep) h) (fun r e h => jhX (zW l) e fun e => X 1 r e h))
   (fun _ _ _ => tst (l.all fun p => Nat.beq p.2.xs.length (je p.2.op).length) (jea (l.map fun p => (p.1, zI p.2)) cq yq e st h (fun e st h ls => tst (Ym ps ls) (N e (@Bool.rec (fun _ => U) .nl st keep) h)) (fun r e h ls => tst (Ym ps ls) (jhX (zW l) e fun e => X 1 r e h)))) ps)
 (fun a b _ _ _ _ ih e st h N X => ih a e st h (fun e st h => ih b e st h N X) X)
 (fun x a b _ _ _ _ ih e st h N X => JD (vQ x) e st fun u _ => uB u fun t => @Bool.rec (fun _ => Ans) (ih b e .nl h N X) (ih a e .nl h N X) t)
 (fun id b _ _ _ ih e st h N X => ih b e st h N (fun x u e h => @Bool.rec (fun _ => Ans) (X x u e h) (N e .nl h) (Nat.beq x (Nat.add id 2))))
 (fun ks b _ _ _ ih e st h N X => @List.rec Nat (fun _ => Ans) (ih b e .nl h (fun e st h => ih (.loop [] b) e .nl h N X) X) (fun _ _ _ => false) ks)
 (fun id _ _ ih e st h N X => X (Nat.add id 2) .nl e h)
 (fun b _ _ _ ih e st h N X => ih b e st h N X)
 (fun _ _ ih e st h N X => X 0 .nl e h)
 (fun _ _ _ _ _ _ _ _ => false)
 (fun x ps a b _ _ cq yq ih e st h N X => JD (vQ x) e st fun u _ => uO u fun t g nb _ _ x => tst (Nat.beq t 7) (jh5 e fun e' => yS (.o 4 0 0 0 0 .nl) h fun k h1 => yS (.lp 0 ps a b (jkf e') 0) h1 fun k1 h2 =>
   ja8 nb x (.cn (.o 4 k1 0 0 0 .nl) .nl) fun args => cq g args h2 (fun _ h3 => vz k1 h3 fun ob => lpK ob fun st' _ _ _ _ pd => tst (jaC (Nat.beq st' 1)) (vb k1 .nl false h3 fun h4 =>
     @Nat.rec (fun _ => Ans) (N (Kq e (.cn (.o 4 k 0 0 0 .nl) (dsU e))) .nl h4) (fun pd' _ => X (@Bool.rec (fun _ => Nat) (Nat.succ pd') 0 (Nat.beq pd' 0)) .nl (Kq e (.cn (.o 4 k 0 0 0 .nl) (dsU e))) h4) pd)) (fun _ _ => false)))
 (fun l x xs g nv slot c b _ _ cq yq ih e st h _ X => jlu ih cq yq l x xs g nv slot c b e st h X)
 (fun _ _ _ _ _ _ _ _ _ => false)
 c cq yq ih e st h N X
theorem jgM {F : XProg} {cq : CQ} {yq : YQ} (hc : CYS (xcfw F) cq yq) {ih : RT} (hs : Snd F ih) : Snd F (stepG cq yq ih) := by
 intro c e st h N X s R hk;rw [jeP]
 cases c with
 | skip => exact ⟨.normal, s, rfl, e, st, h, R, rfl, hk⟩
 | exit id => exact ⟨.exit id, s, rfl, e, h, .nl, R.nl, rfl, hk⟩
 | ret => exact ⟨.ret, s, rfl, e, h, .nl, R.nl, rfl, hk⟩
 | stuck => cases hk
 | ops keep l =>
   have kst : ∀ {e' : Env} {st' : U} {h' : H} {s' : XS}, QR e' st' h' s' -> QR e' (@Bool.rec (fun _ => U) .nl st' keep) h' (if keep then s' else { s' with st := [] }) := by
     intro e' st' h' s' R';cases keep
     . exact ⟨R'.v, trivial, R'.ds, R'.h⟩
     . exact R'
   rcases YA hc R (show jjN (l.map zI) cq yq e st h (fun e st h => N e (@Bool.rec (fun _ => U) .nl st keep) h) (fun u e h => X 1 u e h) = true from hk) with ⟨e', st', h', s', h1, R1, h2, h3⟩ | ⟨r, e', st', h', s', h1, R1, h2, h3⟩
   . exact ⟨.normal, (if keep then s' else { s' with st := [] }), by simp only [jI, h1], e', _, h', kst R1, h2, h3⟩
   . refine ⟨.panic (toI r), (if keep then s' else { s' with st := [] }), by simp only [jI, h1], e', h', r, ?_, h2, rfl, h3⟩;exact (kst R1).nl
 | draw keep l ps =>
   have kst : ∀ {e' : Env} {st' : U} {h' : H} {s' : XS}, QR e' st' h' s' -> QR e' (@Bool.rec (fun _ => U) .nl st' keep) h' (if keep then s' else { s' with st := [] }) := by
     intro e' st' h' s' R';cases keep
     . exact ⟨R'.v, trivial, R'.ds, R'.h⟩
     . exact R'
   cases ps with
   | nil =>
     rcases jeb hc R (show jkZ ((l.map (·.2)).map zI) cq yq e st h (fun e st h => N e (@Bool.rec (fun _ => U) .nl st keep) h) (fun r e h => jhX (zW l) e fun e => X 1 r e h) = true from hk) with ⟨e', st', h', s', log, h1, R1, h2, h3⟩ | ⟨r, lw, e', st', h', s', log, h1, R1, h2, h3⟩
     . exact ⟨.normal, (if keep then s' else { s' with st := [] }), by simp only [jI, h1]; rw [if_pos (show qX [] log = true from rfl)]; rfl, e', _, h', kst R1, h2, h3⟩
     . obtain ⟨e2, R2, h4⟩ := XU R1 h3;exact ⟨.panic (toI r), { s' with vs := jcm (zW l) s'.vs, st := [] }, by simp only [jI, h1]; rw [if_pos (show qX [] log = true from rfl)]; rfl, e2, h', r, R2, h2, rfl, h4⟩
   | cons p ps =>
     obtain ⟨h0, h1⟩ := jb (show tst (l.all fun p => Nat.beq p.2.xs.length (je p.2.op).length) (jea (l.map fun p => (p.1, zI p.2)) cq yq e st h (fun e st h ls => tst (Ym (p :: ps) ls) (N e (@Bool.rec (fun _ => U) .nl st keep) h)) (fun r e h ls => tst (Ym (p :: ps) ls) (jhX (zW l) e fun e => X 1 r e h))) = true from hk);have hlen : ∀ p ∈ l, p.2.xs.length = (je p.2.op).length := fun p hp => zN (List.all_eq_true.1 h0 p hp)
     rcases jbP hc hlen R h1 with ⟨e', st', h', s', log, ls, h2, h3, R1, h4, h5⟩ | ⟨r, lw, e', st', h', s', log, ls, h2, h3, R1, h4, h5⟩
     . obtain ⟨h6, h7⟩ := jb h5;exact ⟨.normal, (if keep then s' else { s' with st := [] }), by simp only [jI, h2]; rw [if_pos (Yn h3 h6)]; rfl, e', _, h', kst R1, h4, h7⟩
     . obtain ⟨h6, h7⟩ := jb h5;obtain ⟨e2, R2, h8⟩ := XU R1 h7;exact ⟨.panic (toI r), { s' with vs := jcm (zW l) s'.vs, st := [] }, by simp only [jI, h2]; rw [if_pos (Yn h3 h6)]; rfl, e2, h', r, R2, h4, rfl, h8⟩
 | seq a b =>
   obtain ⟨x, s1, h1, h2⟩ := hs _ _ _ _ _ _ _ R (show ih a e st h (fun e st h => ih b e st h N X) X = true from hk)
   cases x with
   | normal =>
     obtain ⟨e', st', h', R1, h3, h4⟩ := h2;obtain ⟨x2, s2, h5, h6⟩ := hs _ _ _ _ _ _ _ R1 h4;rw [h3] at h6;exact ⟨x2, s2, by simp only [jI, h1]; exact h5, h6⟩
   | ret => exact ⟨.ret, s1, by simp only [jI, h1], h2⟩
   | panic v => exact ⟨.panic v, s1, by simp only [jI, h1], h2⟩
   | exit i => exact ⟨.exit i, s1, by simp only [jI, h1], h2⟩
   | goto l => exact h2.elim
 | cond x a b =>
   obtain ⟨u, vs', e', h1, _, _, h4⟩ := kg (show JD (vQ x) e st (fun u _ => uB u fun t => @Bool.rec (fun _ => Ans) (ih b e .nl h N X) (ih a e .nl h N X) t) = true from hk) R.v R.st;obtain ⟨t, rfl, h5⟩ := Jl h4;rw [Va] at h1;have R1 : QR e .nl h { s with st := [] } := ⟨R.v, trivial, R.ds, R.h⟩
   cases t with
   | true =>
     obtain ⟨x2, s2, h6, h7⟩ := hs _ _ _ _ _ _ _ R1 (show ih a e .nl h N X = true from h5);exact ⟨x2, s2, by simp only [jI, h1]; exact h6, h7⟩
   | false =>
     obtain ⟨x2, s2, h6, h7⟩ := hs _ _ _ _ _ _ _ R1 (show ih b e .nl h N X = true from h5);exact ⟨x2, s2, by simp only [jI, h1]; exact h6, h7⟩
 | block id b =>
   obtain ⟨x, s1, h1, h2⟩ := hs _ _ _ _ _ _ _ R (show ih b e st h N (fun x u e h => @Bool.rec (fun _ => Ans) (X x u e h) (N e .nl h) (Nat.beq x (Nat.add id 2))) = true from hk)
   cases x with
   | normal => exact ⟨.normal, s1, by simp only [jI, h1], h2⟩
   | ret =>
     obtain ⟨e', h', u, R1, h3, h4⟩ := h2;exact ⟨.ret, s1, by simp only [jI, h1], e', h', u, R1, h3, h4⟩
   | panic v =>
     obtain ⟨e', h', u, R1, h3, hu, h4⟩ := h2;exact ⟨.panic v, s1, by simp only [jI, h1], e', h', u, R1, h3, hu, h4⟩
   | exit i =>
     obtain ⟨e', h', u, R1, h3, h4⟩ := h2
     rcases jf h4 with ⟨h5, h6⟩ | ⟨h5, h6⟩
     . have := zN h5;rw [Kt] at this;exact ⟨.normal, s1, by simp only [jI, h1]; rw [if_pos (by omega)], e', .nl, h', R1, h3, h6⟩
     . have := zE h5;rw [Kt] at this;exact ⟨.exit i, s1, by simp only [jI, h1]; rw [if_neg (by omega)], e', h', u, R1, h3, h6⟩
   | goto l => exact h2.elim
 | loop ks b =>
   cases ks with
   | cons k ks => cases hk
   | nil =>
     have R1 : QR e .nl h { s with st := [] } := ⟨R.v, trivial, R.ds, R.h⟩;obtain ⟨x, s1, h1, h2⟩ := hs _ _ _ _ _ _ _ R1 (show ih b e .nl h (fun e st h => ih (.loop [] b) e .nl h N X) X = true from hk)
     cases x with
     | normal =>
       obtain ⟨e', st', h', R2, h3, h4⟩ := h2;obtain ⟨x2, s2, h5, h6⟩ := hs _ _ _ _ _ _ _ R2.nl h4;rw [h3] at h6;refine ⟨x2, s2, ?_, h6⟩;simp only [jI, List.isEmpty_nil, if_true, h1];exact h5
     | ret => exact ⟨.ret, s1, by simp only [jI, List.isEmpty_nil, if_true, h1], h2⟩
     | panic v => exact ⟨.panic v, s1, by simp only [jI, List.isEmpty_nil, if_true, h1], h2⟩
     | exit i => exact ⟨.exit i, s1, by simp only [jI, List.isEmpty_nil, if_true, h1], h2⟩
     | goto l => exact h2.elim
 | scope b =>
   obtain ⟨x, s1, h1, h2⟩ := hs _ _ _ _ _ _ _ R (show ih b e st h N X = true from hk)
   cases x with
   | goto l => exact h2.elim
   | normal => exact ⟨.normal, s1, by simp only [jI, h1], h2⟩
   | ret => exact ⟨.ret, s1, by simp only [jI, h1], h2⟩
   | panic v => exact ⟨.panic v, s1, by simp only [jI, h1], h2⟩
   | exit i => exact ⟨.exit i, s1, by simp only [jI, h1], h2⟩
 | rangeF x ps a b =>
   obtain ⟨u, vs', e0, h1, _, _, h4⟩ := kg (show JD (vQ x) e st (fun u _ => uO u fun t g nb _ _ x => tst (Nat.beq t 7) (jh5 e fun e' => yS (.o 4 0 0 0 0 .nl) h fun k h1 => yS (.lp 0 ps a b (jkf e') 0) h1 fun k1 h2 =>
     ja8 nb x (.cn (.o 4 k1 0 0 0 .nl) .nl) fun args => cq g args h2 (fun _ h3 => vz k1 h3 fun ob => lpK ob fun st' _ _ _ _ pd => tst (jaC (Nat.beq st' 1)) (vb k1 .nl false h3 fun h4 =>
       @Nat.rec (fun _ => Ans) (N (Kq e (.cn (.o 4 k 0 0 0 .nl) (dsU e))) .nl h4) (fun pd' _ => X (@Bool.rec (fun _ => Nat) (Nat.succ pd') 0 (Nat.beq pd' 0)) .nl (Kq e (.cn (.o 4 k 0 0 0 .nl) (dsU e))) h4) pd)) (fun _ _ => false))) = true from hk) R.v R.st
   obtain ⟨t, g, nb, c, d, y, rfl, h5⟩ := jq h4;obtain ⟨h6, h7⟩ := jb h5;have := zN h6; subst this;obtain ⟨e', h8, h9, h10⟩ := jbm h7;obtain ⟨h11, k1, k2, k3⟩ := kp R.h h10 (o := .defr) rfl;obtain ⟨h12, k4, k5, k6⟩ := kp k1 k3 (o := .loop ⟨0, ts0, ps, .skip, .skip, none, ⟨aun s.vs, a, b⟩⟩) ⟨⟨0, ts0, ps, .skip, .skip, none, ⟨aun s.vs, a, b⟩⟩, e', rfl, rfl, rfl, rfl, rfl, rfl, rfl, R.v.un h8, h9⟩;obtain ⟨args, k7, k8⟩ := JT k6;obtain ⟨o, r, h13, m1, m2, m3, m4, m5⟩ := hc.c g args h12 _ _ _ _ k4 k8
   rcases m5 with ⟨m6, m7⟩ | ⟨_, m7⟩
   . obtain ⟨ob, ob', n1, n2, n3⟩ := jR m3 m7;obtain ⟨st1, ps1, p1, q1, eu1, pd1, rfl, n4⟩ := Kz n3;obtain ⟨l1, E2, rfl, rfl, f1, f2, f3, f4, f5, _, _⟩ := n2.lp;obtain ⟨n5, n6⟩ := jb n4;obtain ⟨h14, n7, _, n8, n9⟩ := ke m3 n6 (o := .dead) rfl;have hst : ¬ l1.st = 1 := by
       rw [f1]; intro e; subst e; cases n5
     have hkk : (s.σ ++ [IObj.defr]).length = s.σ.length + 1 := by simp
     rw [hkk] at n1 n7 k7;have hargs : toL args = (toL y).take nb ++ [.yl (s.σ.length + 1)] ++ (toL y).drop nb := by rw [k7]; rfl
     have hσ : s.σ ++ [IObj.defr] ++ [IObj.loop ⟨0, ts0, ps, .skip, .skip, none, ⟨aun s.vs, a, b⟩⟩] = s.σ ++ [.defr, .loop ⟨0, ts0, ps, .skip, .skip, none, ⟨aun s.vs, a, b⟩⟩] := by simp
     rw [hσ, hargs] at m1;rw [jaV] at h1;obtain ⟨pan, v, σ', wr'⟩ := o;simp only at m6 m3 n1 n7;subst m6;have RE : QR (Kq e (.cn (.o 4 s.σ.length 0 0 0 .nl) (dsU e))) .nl h14 { s with ds := s.σ.length :: s.ds, σ := σ'.set (s.σ.length + 1) .dead, wr := (s.σ.length + 1, false) :: (wr' ++ s.wr) } :=
       ⟨R.v.ds _, trivial, by rw [XV]; exact ⟨rfl, R.ds⟩, n7⟩
     have htr : h14.tr = h.tr := n8.trans (m4.trans (k5.trans k2))
     cases pd1 with
     | zero =>
       have hp : l1.pend = none := f5;refine ⟨.normal, _, ?_, _, .nl, h14, RE, htr, n9⟩;simp only [jI, h1, m1, n1];rw [if_neg hst];simp only [hp]
     | succ pd =>
       have n9 : X (@Bool.rec (fun _ => Nat) (Nat.succ pd) 0 (Nat.beq pd 0)) .nl (Kq e (.cn (.o 4 s.σ.length 0 0 0 .nl) (dsU e))) h14 = true := n9
       cases pd with
       | zero =>
         have hp : l1.pend = some .ret := f5;refine ⟨.ret, _, ?_, _, h14, .nl, RE, htr, n9⟩;simp only [jI, h1, m1, n1];rw [if_neg hst];simp only [hp, y5, if_true]
       | succ pd =>
         have hp : l1.pend = some (.exit pd) := f5;refine ⟨.exit pd, _, ?_, _, h14, .nl, RE, htr, n9⟩;simp only [jI, h1, m1, n1];rw [if_neg hst];simp only [hp, y5, if_true]
   . cases m7
 | dfr l x xs g nv slot c b => exact jcU (N := N) hc hs R (show jlu ih cq yq l x xs g nv slot c b e st h X = true from hk)
 | lib p => cases hk
def rqG (cq : CQ) (yq : YQ) (n : Nat) : RT := @Nat.rec (fun _ => RT) (fun _ _ _ _ _ _ => false) (fun _ ih c e st h N X => stepG cq yq ih c e st h N X) n
theorem jhv {F : XProg} {cq : CQ} {yq : YQ} (hc : CYS (xcfw F) cq yq) : ∀ n, Snd F (rqG cq yq n) := by
 intro n
 induction n with
 | zero => intro c e st h N X s R hk; cases hk
 | succ n ih => exact jgM hc ih
def jcL (n : Nat) (fn : XFunc) (cq : CQ) (yq : YQ) : U -> H -> KH -> KH -> Ans := jj5 fn (rqG cq yq n)
theorem jfc {F : XProg} {cq : CQ} {yq : YQ} (hc : CYS (xcfw F) cq yq) (n : Nat) {g : FuncId} {fn : XFunc} (hF : F g = some fn) : CallS (xcfw F) (.f g) (jcL n fn cq yq) := jcy (jhv hc n) hF
def LibQ (p : List IVal -> Option IVal) (q : U -> (U -> Ans) -> Ans) : Prop := ∀ l K, q l K = true -> ∃ r, p (toL l) = some (toI r) /\ K r = true
def libF (q : U -> (U -> Ans) -> Ans) (_ : CQ) (_ : YQ) (l : U) (h : H) (K _P : KH) : Ans := q l fun r => K r h
theorem libF_ok {F : XProg} {p : List IVal -> Option IVal} {q : U -> (U -> Ans) -> Ans} (hq : LibQ p q) {cq : CQ} {yq : YQ} {g : FuncId} {nv : Nat} {res : List RV} (hF : F g = some ⟨nv, .lib p, res⟩) : CallS (xcfw F) (.f g) (libF q cq yq) := by
 intro l h K P σ wr R hk;obtain ⟨r, h1, h2⟩ := hq l _ hk;rw [jhG, hF];exact ⟨⟨false, toI r, σ, []⟩, r, h, by simp only [yR, ja0, h1], rfl, R, rfl, Or.inl ⟨rfl, h2⟩⟩
def yqN (n m : Nat) (cq : CQ) : YQ := @Nat.rec (fun _ => YQ) (fun _ _ _ _ _ => false) (fun _ ih id => jd9 (rqG cq ih n) id) m
theorem jlc {F : XProg} {cq : CQ} (hc : ∀ g, CallS (xcfw F) (.f g) (cq g)) (n : Nat) : ∀ m id, CallS (xcfw F) (.y id) (yqN n m cq id) := by
 intro m
 induction m with
 | zero => intro id l h K P σ wr R hk; cases hk
 | succ m ih => intro id; exact jgt (jhv ⟨hc, ih⟩ n) id
abbrev CF := CQ -> YQ -> U -> H -> KH -> KH -> Ans
inductive BT where
 | lf
 | nd (k : Nat) (f : CF) (l r : BT)
def BT.get (t : BT) (g : Nat) (cq : CQ) (yq : YQ) : U -> H -> KH -> KH -> Ans := @BT.rec (fun _ => U -> H -> KH -> KH -> Ans) (fun _ _ _ _ => false) (fun k f _ _ il ir a h K P => @Bool.rec (fun _ => Ans) (@Bool.rec (fun _ => Ans) (ir a h K P) (il a h K P) (Nat.blt g k)) (f cq yq a h K P) (Nat.beq g k)) t
def BT.OK (F : XProg) : BT -> Prop
 | .lf => True
 | .nd k f l r => (∀ cq yq, CYS (xcfw F) cq yq -> CallS (xcfw F) (.f k) (f cq yq)) /\ l.OK F /\ r.OK F
theorem BT.get_ok {F : XProg} {cq : CQ} {yq : YQ} (hc : CYS (xcfw F) cq yq) (g : Nat) : ∀ t : BT, t.OK F -> CallS (xcfw F) (.f g) (t.get g cq yq) := by
 intro t
 induction t with
 | lf => intro _ l h K P σ wr R hk; cases hk
 | nd k f l r il ir =>
   intro ho;intro a h K P σ wr R hk
   rcases jf (show @Bool.rec (fun _ => Ans) (@Bool.rec (fun _ => Ans) (r.get g cq yq a h K P) (l.get g cq yq a h K P) (Nat.blt g k)) (f cq yq a h K P) (Nat.beq g k) = true from hk) with ⟨h1, h2⟩ | ⟨h1, h2⟩
   . have := zN h1; subst this;exact ho.1 _ _ hc _ _ _ _ _ _ R h2
   . rcases jf h2 with ⟨h3, h4⟩ | ⟨h3, h4⟩
     . exact il ho.2.1 _ _ _ _ _ _ R h4
     . exact ir ho.2.2 _ _ _ _ _ _ R h4
def jnK (t : BT) (n m : Nat) (d : Nat) : CQ := @Nat.rec (fun _ => CQ) (fun _ _ _ _ _ => false) (fun _ ih g => t.get g ih (yqN n m ih)) d
theorem jjj {F : XProg} {t : BT} (ht : t.OK F) (n m : Nat) : ∀ d g, CallS (xcfw F) (.f g) (jnK t n m d g) := by
 intro d
 induction d with
 | zero => intro g l h K P σ wr R hk; cases hk
 | succ d ih => intro g; exact BT.get_ok ⟨ih, jlc ih n m⟩ g t ht
def sysTrue (t : BT) (n m d : Nat) (g : FuncId) : Ans := jnK t n m d g .nl Vg (fun r _ => uB r fun b => b) (fun _ _ => false)
theorem sysTrue_ok {F : XProg} {t : BT} (ht : t.OK F) {n m d : Nat} {g : FuncId} (h : sysTrue t n m d g = true) : ∃ o, xcfw F (.f g) [] [] = some o /\ o.pan = false /\ o.v = .bool true := by
 obtain ⟨o, r, h', h1, h2, _, _, h3⟩ := jjj ht n m d g .nl Vg _ _ [] [] XX h
 rcases h3 with ⟨h4, h5⟩ | ⟨_, h5⟩
 . obtain ⟨b, rfl, rfl⟩ := Jl h5;exact ⟨o, h1, h4, h2.symm⟩
 . cases h5
end
end Go.Idl
namespace Go.Idl
noncomputable section
def pCount : List IVal -> Option IVal
 | [.str s, .str [c]] => some (.int .i64 (Lib.countByte s c))
 | _ => none
def pFields : List IVal -> Option IVal
 | [.str s] => if s.length < 4294967281 /\ s.all (fun b => b.toNat < 128) = true /\ (Lib.fields s).isEmpty = false then some (.sl 0 false ((Lib.fields s).map .str)) else none
 | _ => none
def slowQ (p : List IVal -> Option IVal) (l : U) (K : U -> Ans) : Ans := @Option.rec IVal (fun _ => Ans) false (fun v => frU (rep v) K) (p (toL l))
theorem slowQ_ok (p : List IVal -> Option IVal) : LibQ p (slowQ p) := by
 intro l K h;unfold slowQ at h
 cases hp : p (toL l) with
 | none => rw [hp] at h; cases h
 | some v =>
   rw [hp] at h;have h : frU (rep v) K = true := h;rw [jhe] at h;exact ⟨rep v, by rw [yQ], h⟩
def jlh (c n : Nat) : Nat -> Nat -> (Nat -> Ans) -> Ans := @Nat.rec (fun _ => Nat -> Nat -> (Nat -> Ans) -> Ans) (fun _ a K => K a)
 (fun _ ih x a K => fN (Nat.div x 256) fun y => fN (@Bool.rec (fun _ => Nat) a (Nat.succ a) (Nat.beq (Nat.mod x 256) c)) fun a => ih y a K) n
theorem jcJ {c : Nat} (hc : c < 256) : ∀ {n x a : Nat} {K : Nat -> Ans}, jlh c n x a K = true -> K (a + (qU n x).count (UInt8.ofNat c)) = true := by
 intro n
 induction n with
 | zero => intro x a K h; exact h
 | succ n ih =>
   intro x a K h;have h : fN (Nat.div x 256) (fun y => fN (@Bool.rec (fun _ => Nat) a (Nat.succ a) (Nat.beq (Nat.mod x 256) c)) fun a => jlh c n y a K) = true := h;rw [jw, jw] at h;have h := ih h;rw [kR, List.count_append];have e : List.count (UInt8.ofNat c) [UInt8.ofNat x] = if x % 256 = c then 1 else 0 := by
     rw [List.count_singleton]
     by_cases hx : x % 256 = c
     . rw [if_pos hx, if_pos];rw [beq_iff_eq];exact VF (by rw [hx, Nat.mod_eq_of_lt hc])
     . rw [if_neg hx, if_neg];rw [beq_iff_eq];intro e;have := congrArg UInt8.toNat e;simp only [UInt8.toNat_ofNat'] at this;omega
   rw [e];have e2 : @Bool.rec (fun _ => Nat) a (Nat.succ a) (Nat.beq (Nat.mod x 256) c) = a + if x % 256 = c then 1 else 0 := by
     cases hb : Nat.beq (Nat.mod x 256) c with
     | true => rw [if_pos (show x % 256 = c from zN hb)]
     | false => rw [if_neg (show ¬ x % 256 = c from zE hb)]; rfl
   rw [e2] at h;have e3 : a + ((qU n (x / 256)).count (UInt8.ofNat c) + if x % 256 = c then 1 else 0) = a + (if x % 256 = c then 1 else 0) + (qU n (Nat.div x 256)).count (UInt8.ofNat c) := by
     rw [jiH]; omega
   rw [e3]; exact h
def cntQ (l : U) (K : U -> Ans) : Ans := uC l false fun a r => uC r false fun b r => jap r (uS a fun n x => uS b fun m c => tst (Nat.beq m 1) (fN (Nat.mod c 256) fun c => jlh c n x 0 fun k => fN (Nat.add k 18446744073709551616) fun k => K (.i 3 k)))
theorem cntQ_ok : LibQ pCount cntQ := by
 intro l K h
 rcases jk (show uC l false (fun a r => uC r false fun b r => jap r (uS a fun n x => uS b fun m c => tst (Nat.beq m 1) (fN (Nat.mod c 256) fun c => jlh c n x 0 fun k => fN (Nat.add k 18446744073709551616) fun k => K (.i 3 k)))) = true from h) with ⟨_, h2⟩ | ⟨a, r, rfl, h2⟩
 . cases h2
 rcases jk h2 with ⟨_, h3⟩ | ⟨b, r, rfl, h3⟩
 . cases h3
 obtain ⟨rfl, h4⟩ := kB h3;obtain ⟨n, x, rfl, h5⟩ := kW h4;obtain ⟨m, c, rfl, h6⟩ := kW h5;obtain ⟨h7, h8⟩ := jb h6;have := zN h7; subst this;rw [jw] at h8;have h9 := jcJ (Nat.mod_lt _ (by omega)) h8;rw [jw, Nat.zero_add] at h9;refine ⟨_, ?_, h9⟩;have e : qU 1 c = [UInt8.ofNat c] := by rw [kR]; rfl
 have e2 : UInt8.ofNat (c % 256) = UInt8.ofNat c := VF (by omega);rw [jn, jn, qc, zJ, zJ, e, KK, e2];rfl
end
end Go.Idl
namespace Go.Idl
open Go.RowKit (Below)
variable [Globs] {P : Program}
theorem Zs {f : FuncId} {p : List IVal -> Option IVal} (hc : Callable P f)
   (h : ∀ args v, p args = some v -> ∀ (g : Gh) (rl : List Value) (w : World), args.length = rl.length -> (∀ q ∈ args.zip rl, V g q.1 q.2) -> (∀ k vs, Globs.vals k = some vs -> ∀ (i : Nat) c, vs[i]? = some c -> w.cell? ⟨k, i, none⟩ = some c) ->
     Calls P f rl.toArray w fun e w' => ∃ v', e = .returned v' /\ V g v v' /\ jz v v' = [] /\ Below w.heap.size w w') : LibOK P f p := by
 intro args v hp;refine ⟨hc, fun g O σ rargs w hl hR => callsIn_wide.2 ?_⟩;have hG : ∀ k vs, Globs.vals k = some vs -> ∀ (i : Nat) c, vs[i]? = some c -> w.cell? ⟨k, i, none⟩ = some c := fun k vs hk i c hi => by
   have := hR.claim k (0 + i) c (hR.glob k vs hk i c hi)
   rwa [Nat.zero_add] at this
 have := h args v hp g rargs.toList w hl (fun q hq => hR.vals q hq) hG;rw [Array.toArray_toList] at this;refine this.mono ?_;rintro e w' ⟨v', rfl, hv, ho, hb⟩;have h0 : R g O [] σ w := R.drops (l' := []) (by simpa using hR);exact ⟨v', g, O, rfl, ⟨hb.size, fun b hb' _ => ⟨hb.block b hb', rfl, fun _ => rfl⟩, fun _ _ _ h => h, fun _ _ h => h, fun _ h => .inl h, rfl, hb.os, hb.tape, hb.output, fun _ => Nat.le_refl _⟩,
   (h0.world hb.size hb.block).push hv ho⟩
theorem szL (s : ByteArray) : s.size = s.data.toList.length := by rw [Array.length_toList]; rfl
theorem jex {g : Gh} {l : List UInt8} {v : Value} (h : V g (.str l) v) : ∃ s : ByteArray, v = .string s /\ s.data.toList = l := by
 cases h with
 | str s => exact ⟨s, rfl, rfl⟩
theorem V.strL {g : Gh} (l : List UInt8) : V g (.str l) (.string ⟨l.toArray⟩) := by
 have := V.str (g := g) ⟨l.toArray⟩;simpa using this
theorem count_ok {f : FuncId} (hc : Callable P f) (h : ∀ (s : ByteArray) (c : UInt8) (w : World), Calls P f #[.string s, .string ⟨#[c]⟩] w fun e w' => e = .returned (.int .i64 (Lib.countByte s.data.toList c)) /\ w' = w) : LibOK P f pCount := by
 refine Zs hc fun args v hp g rl w hl hV _ => ?_;unfold pCount at hp;split at hp
 . rename_i s c;simp only [zO] at hp;subst hp
   match rl, hl with
   | [a, b], _ =>
     obtain ⟨s, rfl, rfl⟩ := jex (hV (IVal.str s, a) (by simp));obtain ⟨t, rfl, ht⟩ := jex (hV (IVal.str [c], b) (by simp));have : t = ⟨#[c]⟩ := by
       obtain ⟨d⟩ := t;obtain ⟨d⟩ := d;simp only at ht;subst ht;rfl
     subst this;refine (h s c w).mono ?_;rintro e w' ⟨rfl, rfl⟩;exact ⟨_, rfl, .int _ _, rfl, Below.refl _ _⟩
 . cases hp
theorem fields_ok {f : FuncId} {k : Nat} {el : TypeId} (hk : Globs.vals k = some (Lib.asciiSpaceTab.map fun n => .int .u8 n)) (hc : Callable P f) (h : ∀ (s : ByteArray) (w : World), s.size < 4294967281 -> (∀ (j : Nat) b, s.data.toList[j]? = some b -> b.toNat < 128) ->
   (∀ c : Nat, c < 256 -> w.cell? ⟨k, c, none⟩ = some (.int .u8 (Lib.asciiSpaceTab.getD c 0))) ->
   Calls P f #[.string s] w fun e w' => e = .returned (.slice (some ⟨w.heap.size, 0, none⟩) (Lib.fields s.data.toList).length (Lib.fields s.data.toList).length) /\ w' = w.alloc (.cells ((Lib.fields s.data.toList).map fun l => Value.string ⟨l.toArray⟩).toArray el)) : LibOK P f pFields := by
 intro args v hp;refine ⟨hc, fun g O σ rargs w hl hR => callsIn_wide.2 ?_⟩;have hG : ∀ k vs, Globs.vals k = some vs -> ∀ (i : Nat) c, vs[i]? = some c -> w.cell? ⟨k, i, none⟩ = some c := fun k vs hk i c hi => by
   have := hR.claim k (0 + i) c (hR.glob k vs hk i c hi)
   rwa [Nat.zero_add] at this
 unfold pFields at hp;split at hp
 . rename_i s;split at hp
   . rename_i hcond;obtain ⟨h1, h2, h3⟩ := hcond;simp only [zO] at hp;subst hp;obtain ⟨rl⟩ := rargs
     match rl, hl with
     | [a], _ =>
       obtain ⟨s, rfl, rfl⟩ := jex (hR.vals (IVal.str s, a) (by simp));refine (h s w (by rw [szL]; exact h1) (fun j b hb => by simpa using List.all_eq_true.1 h2 b (zM hb)) (fun c hc => ?_)).mono ?_
       . refine hG k _ hk c _ ?_;rw [List.getElem?_map, List.getElem?_eq_getElem (by rw [Lib.asciiSpaceTab_length]; exact hc), List.getD_eq_getElem?_getD, List.getElem?_eq_getElem (by rw [Lib.asciiSpaceTab_length]; exact hc)];rfl
       rintro e w' ⟨rfl, rfl⟩;have h0 : R g O [] σ w := R.drops (l' := []) (by simpa using hR);have hfl : jo ((Lib.fields s.data.toList).map fun l => Value.string ⟨l.toArray⟩) = (Lib.fields s.data.toList).map fun l => Value.string ⟨l.toArray⟩ := by
         unfold jo;generalize Lib.fields s.data.toList = q
         induction q with
         | nil => rfl
         | cons a q ih => simp only [List.map_cons, List.flatMap_cons, ih]; rfl
       obtain ⟨g', O', hR', hg, _⟩ := h0.newSlice (xs := (Lib.fields s.data.toList).map IVal.str) (vs := (Lib.fields s.data.toList).map fun l => Value.string ⟨l.toArray⟩) (esz := 1) (cap := (Lib.fields s.data.toList).length) (own := 0) (rf := false)
         (c := ((Lib.fields s.data.toList).map fun l => Value.string ⟨l.toArray⟩).toArray) (el := el) (fz := (0, 0)) (by simp)
         (fun i x v hx hv => by
           rw [List.getElem?_map] at hx hv
           cases hq : (Lib.fields s.data.toList)[i]? with
           | none => rw [hq] at hx; cases hx
           | some q =>
             rw [hq] at hx hv;simp only [Option.map_some, zO] at hx hv;subst hx; subst hv;exact V.strL q)
         (fun x hx => by obtain ⟨q, _, rfl⟩ := List.mem_map.1 hx; exact ⟨rfl, rfl⟩)
         (fun _ x hx => by obtain ⟨q, _, rfl⟩ := List.mem_map.1 hx; rfl)
         (fun v hv => by obtain ⟨q, _, rfl⟩ := List.mem_map.1 hv; rfl)
         (fun i v hv => by rw [hfl] at hv; simpa using hv) (by simp) (by simp) (.inl rfl) (fun h => absurd rfl h) (by rw [hfl]; simp)
       rw [List.length_map] at hR';exact ⟨_, g', O', rfl, hg, hR'⟩
   . cases hp
 . cases hp
end Go.Idl
namespace Go.Idl
noncomputable section
abbrev Rd (α : Type) := Nat -> (α -> Nat -> Option XFunc) -> Option XFunc
def Rd.w (n : Nat) (k : Nat -> Option XFunc) : Option XFunc := @Nat.rec (fun _ => (Nat -> Option XFunc) -> Option XFunc) (fun k => k 0) (fun m _ k => k m) (Nat.succ n) k
def Rd.p {α : Type} (a : α) : Rd α := fun n k => k a n
def Rd.h {α : Type} (r : Nat) (f : Nat -> Rd α) : Rd α := fun n k => w (Nat.mod n r) fun x => w (Nat.div n r) fun m => f x m k
def Rd.g1 {α : Type} (r : Nat) (f : Nat -> α) : Rd α := h r fun i => p (f i)
def Rd.g2 {α : Type} (r s : Nat) (f : Nat -> Nat -> α) : Rd α := h r fun i => h s fun j => p (f i j)
def Rd.g3 {α : Type} (r s t : Nat) (f : Nat -> Nat -> Nat -> α) : Rd α := h r fun i => h s fun j => h t fun k => p (f i j k)
def Rd.g4 {α : Type} (r s t u : Nat) (f : Nat -> Nat -> Nat -> Nat -> α) : Rd α := h r fun i => h s fun j => h t fun k => h u fun l => p (f i j k l)
def Rd.s {α : Type} (r : Nat) (l : List (Rd α)) : Rd α := fun n k => w (Nat.div n r) fun m => @List.rec (Rd α) (fun _ => Nat -> Option XFunc) (fun _ => none) (fun d _ ih i => @Nat.rec (fun _ => Option XFunc) (d m k) (fun j _ => ih j) i) l (Nat.mod n r)
def Rd.m1 {α β : Type} (d : Rd α) (f : α -> β) : Rd β := fun n k => d n fun a m => k (f a) m
def Rd.m2 {α β γ : Type} (d : Rd α) (e : Rd β) (f : α -> β -> γ) : Rd γ := fun n k => d n fun a m => e m fun b o => k (f a b) o
def Rd.m3 {α β γ δ : Type} (d : Rd α) (e : Rd β) (e' : Rd γ) (f : α -> β -> γ -> δ) : Rd δ := fun n k => d n fun a m => e m fun b o => e' o fun c q => k (f a b c) q
def Rd.m4 {α β γ δ ε : Type} (d : Rd α) (e : Rd β) (e' : Rd γ) (e'' : Rd δ) (f : α -> β -> γ -> δ -> ε) : Rd ε := fun n k => d n fun a m => e m fun b o => e' o fun c q => e'' q fun x y => k (f a b c x) y
def Rd.l {α : Type} (r : Nat) (d : Rd α) : Rd (List α) := h r fun c => @Nat.rec (fun _ => Rd (List α)) (p []) (fun _ ih n k => d n fun x m => ih m fun xs o => k (x :: xs) o) c
def Rd.num (r : Nat) : Rd Nat := h r p
def Rd.hs {α : Type} (r : Nat) (f : List UInt8 -> Rd α) : Rd α := fun n k => l r (h 128 fun c => p (UInt8.ofNat c)) n fun x m => f x m k
def Rd.rec {α : Type} (f : Rd α -> Rd α) (n : Nat) : Rd α := @Nat.rec (fun _ => Rd α) (fun _ _ => none) (fun _ c => f c) n
def Rd.pT (a b : List Nat) : List (Nat × Nat) := a.flatMap fun x => b.map fun y => (x, y)
def Rd.qT {α : Type} (l : List α) (n : Nat) : List (α × Bool) := @List.rec α (fun _ => Nat -> List (α × Bool)) (fun _ => []) (fun a _ ih n => @Nat.rec (fun _ => List (α × Bool)) ((a, false) :: ih (Nat.div n 3)) (fun j _ => @Nat.rec (fun _ => List (α × Bool)) ((a, true) :: ih (Nat.div n 3)) (fun _ _ => ih (Nat.div n 3)) j) (Nat.mod n 3)) l n
inductive FT where
 | f
 | n (g c : Nat) (l r : FT)
 | b (g : Nat) (c : CF) (l r : FT)
def FT.ok (F : XProg) (d : Nat -> Option XFunc) : FT -> Prop
 | .f => True
 | .n g c l r => F g = d c /\ l.ok F d /\ r.ok F d
 | .b g c l r => (∀ cq yq, CYS (xcfw F) cq yq -> CallS (xcfw F) (.f g) (c cq yq)) /\ l.ok F d /\ r.ok F d
theorem FT.nk {F : XProg} {d : Nat -> Option XFunc} {g c : Nat} {l r : FT} (h : F g = d c) (hl : l.ok F d) (hr : r.ok F d) : (FT.n g c l r).ok F d := ⟨h, hl, hr⟩
theorem FT.bk {F : XProg} {d : Nat -> Option XFunc} {g : Nat} {c : CF} {l r : FT} (h : ∀ cq yq, CYS (xcfw F) cq yq -> CallS (xcfw F) (.f g) (c cq yq)) (hl : l.ok F d) (hr : r.ok F d) : (FT.b g c l r).ok F d := ⟨h, hl, hr⟩
theorem FT.fk {F : XProg} {d : Nat -> Option XFunc} : FT.f.ok F d := trivial
def FT.run (d : Nat -> Option XFunc) (t : FT) (K : BT -> Ans) : Ans := @FT.rec (fun _ => (BT -> Ans) -> Ans) (fun K => K .lf)
 (fun g c _ _ il ir K => @Option.rec XFunc (fun _ => Ans) false (fun x => il fun a => ir fun b => K (.nd g (jcL 1000000 x) a b)) (d c))
 (fun g c _ _ il ir K => il fun a => ir fun b => K (.nd g c a b)) t K
theorem FT.run_ok {F : XProg} {d : Nat -> Option XFunc} : ∀ t : FT, t.ok F d -> ∀ K : BT -> Ans, t.run d K = true -> ∃ b : BT, b.OK F /\ K b = true := by
 intro t
 induction t with
 | f => intro _ K h; exact ⟨.lf, trivial, h⟩
 | n g c l r il ir =>
   intro ho K h
   cases hd : d c with
   | none =>
     have : @Option.rec XFunc (fun _ => Ans) false (fun x => l.run d fun a => r.run d fun b => K (.nd g (jcL 1000000 x) a b)) (d c) = true := h;rw [hd] at this; cases this
   | some x =>
     have h' : @Option.rec XFunc (fun _ => Ans) false (fun x => l.run d fun a => r.run d fun b => K (.nd g (jcL 1000000 x) a b)) (d c) = true := h;rw [hd] at h';obtain ⟨a, ha, h1⟩ := il ho.2.1 _ h';obtain ⟨b, hb, h2⟩ := ir ho.2.2 _ h1;exact ⟨.nd g (jcL 1000000 x) a b, ⟨fun _ _ hc => jfc hc 1000000 (ho.1.trans hd), ha, hb⟩, h2⟩
 | b g c l r il ir =>
   intro ho K h;have h' : (l.run d fun a => r.run d fun b => K (.nd g c a b)) = true := h;obtain ⟨a, ha, h1⟩ := il ho.2.1 _ h';obtain ⟨b, hb, h2⟩ := ir ho.2.2 _ h1;exact ⟨.nd g c a b, ⟨ho.1, ha, hb⟩, h2⟩
end
end Go.Idl
