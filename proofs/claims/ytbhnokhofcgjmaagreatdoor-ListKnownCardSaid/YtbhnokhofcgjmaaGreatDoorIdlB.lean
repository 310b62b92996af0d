/- The ideal machine and its evaluators, part 2; no conditions. -/
import Derived.Lib.FrozenHead
import Derived.Test.YtbhnokhofcgjmaaGreatDoorIdlA
set_option linter.unusedSectionVars false
set_option linter.unusedVariables false
set_option linter.unusedSimpArgs false
namespace Go.Idl
variable [Globs]
variable {P : Program} {o : Oper} {a : Act} {g : Gh} {O : List Nat} {w : World} {s : St} {res : Res} {cf : jo}
theorem jab {x y : Opd} {rx ry : Operand} {T E : TypeId} {i : TypeInfo} {len : Nat} (hop : o.op = .indexAddr T rx ry) (hx : jl x rx = true) (hy : jl y ry = true) (hT : P.underlying T = some (.array len E)) (hE : P.info? E = some i)
   (hs : ja cf (.idxAddrA len i.size x y) s = some res) (hl : WT s.ts a.tmps) (hR : R g O (s.ts.roots a.tmps) s.σ w) : SimV P o a g O w s res := by
 simp only [ja] at hs;split at hs
 . rename_i id off ts h;split at hs
   . rename_i k n ts' h';split at hs
     . rename_i hn0;simp only [rv, zO] at hs;subst hs;obtain ⟨h1, h2⟩ := jk (l := []) hx h hl hR;obtain ⟨h3, h4⟩ := jk (l := [(.ptr id off, a.eval rx)]) hy h' h2 h1;have hn := h3.head.int_inv;obtain ⟨b, hb, hι⟩ := h3.drop.head.ptr_inv;refine SimV.same (v' := .pointer (some ⟨b, off + n.toNat * i.size, none⟩)) ?_ (h3.drop.drop.push (.ptr id _ b hι) rfl) h4;simp only [execOp, hop, hb, hn, Instr.indexAt, asIntOf, Sem.run_bind, Sem.run_pure, Result.andThen_ok, jm hT];simp [jP hE, Instr.sureAddr, hn0, kq]
     . cases hs
   . cases hs
 . rename_i rf cs off ts h;split at hs
   . rename_i k n ts' h';split at hs
     . rename_i hn0;simp only [rv, zO] at hs;subst hs;obtain ⟨h1, h2⟩ := jk (l := []) hx h hl hR;obtain ⟨h3, h4⟩ := jk (l := [(.pv rf cs off, a.eval rx)]) hy h' h2 h1;have hn := h3.head.int_inv;obtain ⟨vs, b, e, hb, hl', hv, hf', hr, hm⟩ := h3.drop.head.pv_inv;refine SimV.same (v' := .pointer (some ⟨b, e + (off + n.toNat * i.size), none⟩)) ?_ (h3.drop.drop.push (V.pv_mk _ hl' hv hf' hr hm) rfl) h4;simp only [execOp, hop, hb, hn, Instr.indexAt, asIntOf, Sem.run_bind, Sem.run_pure, Result.andThen_ok, jm hT];simp [jP hE, Instr.sureAddr, hn0, kq, Nat.add_assoc]
     . cases hs
   . cases hs
 . cases hs
theorem jk2 {t : ByteArray} {n : Nat} {c : UInt8} (h : t.data.toList[n]? = some c) : t[n]? = some c := by
 have hn : n < t.data.size := by simpa using jg h
 have hn' : n < t.size := hn;rw [getElem?_pos t n hn'];simp at h;have := (Array.getElem?_eq_some_iff.1 h).2;rw [<- this];rfl
theorem jic {x y : Opd} {rx ry : Operand} {T : TypeId} (hop : o.op = .index T rx ry) (hx : jl x rx = true) (hy : jl y ry = true) (hT : P.underlying T = some .string)
   (hs : ja cf (.idxS x y) s = some res) (hl : WT s.ts a.tmps) (hR : R g O (s.ts.roots a.tmps) s.σ w) : SimV P o a g O w s res := by
 simp only [ja] at hs;split at hs
 . rename_i b ts h;split at hs
   . rename_i k n ts' h';split at hs
     . rename_i hn0;split at hs
       . rename_i c hc;simp only [rv, zO] at hs;subst hs;obtain ⟨h1, h2⟩ := jk (l := []) hx h hl hR;obtain ⟨h3, h4⟩ := jk (l := [(.str b, a.eval rx)]) hy h' h2 h1;have hn := h3.head.int_inv;obtain ⟨t, ht, rfl⟩ := h3.drop.head.str_inv;refine SimV.same (v' := .int .u8 c.toNat) ?_ (h3.drop.drop.push (.int _ _) rfl) h4;simp [execOp, hop, ht, hn, Instr.index, asIntOf, jm hT, hn0, jk2 hc]
       . cases hs
     . cases hs
   . cases hs
 . cases hs
theorem jib {x y : Opd} {rx ry : Operand} {T E : TypeId} {i : TypeInfo} {len : Nat} {n : Option Nat} (hop : o.op = .index T rx ry) (hx : jl x rx = true) (hy : jl y ry = true) (hT : P.underlying T = some (.array len E)) (hE : P.info? E = some i) (hn : tyN P E n = true)
   (hs : ja cf (.idxA len i.size n x y) s = some res) (hl : WT s.ts a.tmps) (hR : R g O (s.ts.roots a.tmps) s.σ w) : SimV P o a g O w s res := by
 simp only [ja] at hs;split at hs
 . rename_i cs ts h;split at hs
   . rename_i k j ts' h';split at hs
     . rename_i hn0;split at hs
       . rename_i z hz;simp only [rv, zO] at hs;subst hs;obtain ⟨h1, h2⟩ := jk (l := []) hx h hl hR;obtain ⟨h3, h4⟩ := jk (l := [(.agg cs, a.eval rx)]) hy h' h2 h1;have hj := h3.head.int_inv;obtain ⟨vs, hb, hl', hv, hc⟩ := h3.drop.head.agg_inv;obtain ⟨u, hu, hV, ho⟩ := KI (P := P) (w := w) hn hl' hv hc hz;refine SimV.same (v' := u) ?_ (h3.drop.swap (fun _ => hV) (by rw [hb]; exact ho)) h4;simp [execOp, hop, hb, hj, Instr.index, asIntOf, jm hT, hn0, jP hE, hu]
       . cases hs
     . cases hs
   . cases hs
 . cases hs
def Jl : Option Opd -> Option Operand -> Bool
 | none, none => true
 | some x, some r => jl x r
 | _, _ => false
theorem qS {x : Option Opd} {r : Option Operand} {ts : Ts} {l : jH} {σ : List IObj} {d n : Nat} (hx : Jl x r = true) (hg : qL x ts d = some n) (hl : WT ts a.tmps)
   (hR : R g O (l ++ ts.roots a.tmps) σ w) : (r = none /\ n = d) \/ ∃ r', r = some r' /\ ∃ k, a.eval r' = .int k n := by
 cases x with
 | none => cases r <;> simp [Jl] at hx; simp [qL] at hg; exact .inl ⟨rfl, hg.symm⟩
 | some x =>
   cases r with
   | none => simp [Jl] at hx
   | some r =>
     refine .inr ⟨r, rfl, ?_⟩;simp only [qL] at hg;split at hg
     . rename_i k m ts' h;obtain ⟨h1, _⟩ := jk (l := l) hx h hl hR;refine ⟨k, ?_⟩;rw [h1.head.int_inv];unfold nat at hg;split at hg
       . simp at hg; congr 1; omega
       . cases hg
     . cases hg
theorem jfP {k : IntKind} {n y : Nat} {c : BoundsCode} (h : n <= y) : (Instr.sliceBound (.int k n) y c).run P w = .ok n w := by
 simp [Instr.sliceBound, asIntOf, h]
theorem JR {isS : Bool} {len cap l h m : Nat} {lo hi mx : Option Value} (hlo : lo = none /\ l = 0 \/ ∃ k, lo = some (.int k l)) (hhi : hi = none /\ h = len /\ mx = none \/ ∃ k, hi = some (.int k h)) (hmx : mx = none /\ m = cap \/ ∃ k, mx = some (.int k m))
   (h1 : l <= h) (h2 : h <= m) (h3 : m <= cap) : (Instr.sliceBounds isS len cap lo hi mx).run P w = .ok (l, h, m) w := by
 rcases hlo with ⟨rfl, rfl⟩ | ⟨k1, rfl⟩ <;> rcases hhi with ⟨rfl, rfl, rfl⟩ | ⟨k2, rfl⟩ <;> rcases hmx with ⟨hm, rfl⟩ | ⟨k3, hm⟩ <;> (try (cases hm; done)) <;> (try subst hm) <;> simp [Instr.sliceBounds, jfP, h1, h2, h3]
theorem jdu {x : Opd} {rx : Operand} {lo hi : Option Opd} {rlo rhi : Option Operand} {T : TypeId} (hop : o.op = .slice T rx rlo rhi none) (hx : jl x rx = true) (hlo : Jl lo rlo = true) (hhi : Jl hi rhi = true) (hT : P.underlying T = some .string)
   (hs : ja cf (.sliceS x lo hi) s = some res) (hl : WT s.ts a.tmps) (hR : R g O (s.ts.roots a.tmps) s.σ w) : SimV P o a g O w s res := by
 simp only [ja] at hs;split at hs
 . rename_i b ts h;split at hs
   . rename_i l hh e1 e2;split at hs
     . rename_i hb;simp only [rv, zO] at hs;subst hs;obtain ⟨h1, h2⟩ := jk (l := []) hx h hl hR;obtain ⟨t, ht, rfl⟩ := h1.head.str_inv;have k1 := qS (l := [(.str t.data.toList, a.eval rx)]) hlo e1 h2 h1;have k2 := qS (l := [(.str t.data.toList, a.eval rx)]) hhi e2 h2 h1;have hbs : (Instr.sliceBounds false t.size t.size (rlo.map a.eval) (rhi.map a.eval) none).run P w = .ok (l, hh, t.size) w := by
         refine JR ?_ ?_ (.inl ⟨rfl, rfl⟩) hb.1 (by rw [KK]; exact hb.2) (Nat.le_refl _)
         . rcases k1 with ⟨rfl, rfl⟩ | ⟨r', rfl, k, hk⟩
           . exact .inl ⟨rfl, rfl⟩
           . exact .inr ⟨k, by simp [hk]⟩
         . rcases k2 with ⟨rfl, rfl⟩ | ⟨r', rfl, k, hk⟩
           . exact .inl ⟨rfl, (KK t).symm, rfl⟩
           . exact .inr ⟨k, by simp [hk]⟩
       refine SimV.same (v' := .string (t.extract l hh)) ?_ (h1.drop.push ?_ rfl) h2
       . simp [execOp, hop, ht, Instr.sliceAt, Instr.slice, jm hT, hbs]
       . have e : (t.extract l hh).data.toList = (t.data.toList.take hh).drop l := by
           simp [ByteArray.data_extract, List.drop_take]
         rw [<- e]; exact .str _
     . cases hs
   . cases hs
 . cases hs
theorem jif {x : Opd} {r : Operand} {c : Call} {T : TypeId} (hop : o.op = .call c) (hc : c.callee = .builtin .len) (ha : c.args = #[r]) (hta : c.argTypes[0]? = some T) (hx : jl x r = true) (hT : P.underlying T = some .string)
   (hs : ja cf (.lenS x) s = some res) (hl : WT s.ts a.tmps) (hR : R g O (s.ts.roots a.tmps) s.σ w) : SimV P o a g O w s res := by
 simp only [ja] at hs;split at hs
 . rename_i b ts h;simp only [rv, zO] at hs;subst hs;obtain ⟨h1, h2⟩ := jk (l := []) hx h hl hR;obtain ⟨t, ht, rfl⟩ := h1.head.str_inv;refine SimV.same (v' := .int .i64 t.size) ?_ (h1.drop.push (by rw [KK]; exact .int _ _) rfl) h2;simp [execOp, hop, resolve, hc, ha, invoke, builtin, ht, Builtin.len_, hta, jm hT, goInt]
 . cases hs
theorem jid {x : Opd} {r : Operand} {c : Call} {T E : TypeId} (hop : o.op = .call c) (hc : c.callee = .builtin .len) (ha : c.args = #[r]) (hta : c.argTypes[0]? = some T) (hx : jl x r = true) (hT : P.underlying T = some (.slice E))
   (hs : ja cf (.lenL x) s = some res) (hl : WT s.ts a.tmps) (hR : R g O (s.ts.roots a.tmps) s.σ w) : SimV P o a g O w s res := by
 simp only [ja] at hs;split at hs
 . rename_i own rf xs ts h;simp only [rv, zO] at hs;subst hs;obtain ⟨h1, h2⟩ := jk (l := []) hx h hl hR;have hb : ∃ ad cap, a.eval r = .slice ad xs.length cap := by
     have hV := h1.head;generalize a.eval r = u at hV
     cases hV with
     | nil => exact ⟨none, 0, rfl⟩
     | sl => exact ⟨_, _, rfl⟩
   obtain ⟨ad, cap, hb⟩ := hb;refine SimV.same (v' := .int .i64 xs.length) ?_ (h1.drop.push (.int _ _) rfl) h2;simp [execOp, hop, resolve, hc, ha, invoke, builtin, hb, Builtin.len_, hta, jm hT, goInt]
 . rename_i e id off n ts h;simp only [rv, zO] at hs;subst hs;obtain ⟨h1, h2⟩ := jk (l := []) hx h hl hR;obtain ⟨b, cap, hb, _, _⟩ := h1.head.rs_inv;refine SimV.same (v' := .int .i64 n) ?_ (h1.drop.push (.int _ _) rfl) h2;simp [execOp, hop, resolve, hc, ha, invoke, builtin, hb, Builtin.len_, hta, jm hT, goInt]
 . cases hs
theorem R.split {x y z : IVal} {v u t : Value} {l : jH} {σ : List IObj} (h : R g O ((x, v) :: l) σ w) (h1 : V g y u) (h2 : V g z t) (ho : (jA y u ++ jA z t).Perm (jA x v)) : R g O ((y, u) :: (z, t) :: l) σ w := by
 have e : jR ((x, v) :: l) = jA x v ++ jR l := by simp [jR]
 have e' : jR ((y, u) :: (z, t) :: l) = (jA y u ++ jA z t) ++ jR l := by simp [jR]
 have hp : (jR ((y, u) :: (z, t) :: l) ++ kM w g.ι σ).Perm (jR ((x, v) :: l) ++ kM w g.ι σ) := by
   rw [e, e']; exact (ho.append_right _).append_right _
 refine ⟨h.len, fun q hm => ?_, h.objo, hp.symm.nodup_iff.1 h.nodup, fun b hb => h.sub b (hp.mem_iff.1 hb), h.lt, h.claim, h.apart, h.spare, h.glob, h.zs⟩
 rcases List.mem_cons.1 hm with rfl | hm
 . exact h1
 . rcases List.mem_cons.1 hm with rfl | hm
   . exact h2
   . exact h.vals q (by simp [hm])
theorem QM {α : Type} {L : List (List α)} {i : Nat} {c : List α} (h : L[i]? = some c) : (c ++ (L.set i []).flatten).Perm L.flatten := by
 induction L generalizing i with
 | nil => simp at h
 | cons d L ih =>
   cases i with
   | zero => simp at h; subst h; simp
   | succ i =>
     simp at h;simp only [List.set_cons_succ, List.flatten_cons];have h1 : (c ++ (d ++ (L.set i []).flatten)).Perm (d ++ (c ++ (L.set i []).flatten)) := by
       rw [<- zS, <- zS];exact List.perm_append_comm.append_right _
     exact h1.trans ((ih h).append_left d)
theorem jbN {f : IVal -> Value -> List Nat} {xs : List IVal} {vs : List Value} {i : Nat} {y : IVal} {v : Value} (hv : vs[i]? = some v) : List.zipWith f (xs.set i y) vs = (List.zipWith f xs vs).set i (f y v) := by
 induction xs generalizing i vs with
 | nil => simp
 | cons x xs ih =>
   cases vs with
   | nil => simp at hv
   | cons u vs =>
     cases i with
     | zero => simp at hv; subst hv; simp
     | succ i => simp at hv; simp [ih hv]
theorem R.setT {ts : Ts} {tmps : Array Value} {l : jH} {σ : List IObj} {j : Nat} {y old : IVal} (hold : ts.get? j = some old) (h : R g O ((y, tmps.getD j undef) :: (l ++ ts.roots tmps)) σ w) : R g O (l ++ (ts.set j y).roots tmps) σ w := by
 obtain ⟨rest, h1, h2⟩ := Ts.roots_get tmps hold;have h3 := (h.perm ((((h1.append_left l).trans List.perm_middle).cons _).trans (.swap _ _ _))).drop;exact h3.perm (((h2 y).append_left l).trans List.perm_middle).symm
theorem jbz {x : Opd} {r : Operand} {i : Nat} (hop : o.op = .extract r i) (hx : jl x r = true) (hs : ja cf (.extract x i) s = some res)
   (hl : WT s.ts a.tmps) (hR : R g O (s.ts.roots a.tmps) s.σ w) : SimV P o a g O w s res := by
 simp only [ja] at hs;split at hs
 . rename_i vs ts h;split at hs
   . rename_i v hv;obtain ⟨h1, h2⟩ := jk (l := []) hx h hl hR;obtain ⟨us, hu, hl', hv', hi⟩ := h1.head.tup_inv;obtain ⟨u, huu⟩ := jZ hl' hv;have hu' : us.toList[i]? = some u := by simpa using huu
     have hnt := hi v (zM hv);have hrun : (execOp a.eval o).run P w = .ok (.value u) w := by simp [execOp, hop, hu, Instr.extract, huu]
     have hsub : (jA v u).Sublist (jA (.tup vs) (a.eval r)) := by
       rw [hu, Jn hnt];simp only [jA];refine List.sublist_flatten_of_mem (zM (i := i) ?_);simp [List.getElem?_zipWith, hv, hu']
     have hmove : SimV P o a g O w s ⟨false, v, { s with ts := ts }⟩ := SimV.same hrun (h1.swap (fun _ => hv' _ _ _ hv huu) hsub) h2;split at hs
     . rename_i j;simp only [rv, zO] at hs;subst hs
       -- the tuple keeps what is left of it
       have hV : V g (.tup (vs.set i (un2 v))) (.tuple us) := by
         refine .tup _ us (by simpa using hl') (fun k y z hy hz => ?_) (fun y hy => ?_)
         . by_cases hk : i = k
           . subst hk;have : i < vs.length := jg hv;rw [List.getElem?_set_self this] at hy;simp at hy; subst hy;exact (hv' _ _ _ hv hz).un2
           . rw [List.getElem?_set_ne hk] at hy;exact hv' _ _ _ hy hz
         . rcases List.mem_or_eq_of_mem_set hy with hy | rfl
           . exact hi y hy
           . rw [jcc]; exact hnt
       have hout : SimV P o a g O w s ⟨false, v, { s with ts := ts.set j (.tup (vs.set i (un2 v))) }⟩ := by
         refine SimV.same hrun ?_ (h2.set (by
           have h' : (Opd.m j).get s.ts = some (.tup vs, ts) := h;simp only [Opd.get] at h';split at h'
           . rename_i h0; exact (hl _ _ (Ts.get?_spec h0)).2
           . cases h') _)
         have hjr : r = .tmp j := by
           have : jl (.m j) r = true := hx;cases r <;> simp [jl] at this;rw [this]
         have hold : ∃ old, ts.get? j = some old := by
           have h' : (Opd.m j).get s.ts = some (.tup vs, ts) := h;simp only [Opd.get] at h';split at h'
           . rename_i h0;simp at h';exact ⟨_, by rw [<- h'.2]; exact Ts.get?_set h0 _⟩
           . cases h'
         obtain ⟨old, hold⟩ := hold;have hs2 : R g O ((v, u) :: (.tup (vs.set i (un2 v)), a.eval r) :: ts.roots a.tmps) s.σ w := by
           refine h1.split (hv' _ _ _ hv huu) (by rw [hu]; exact hV) ?_;rw [hu, Jn hnt];simp only [jA];rw [jbN hu', KF];exact QM (by simp [List.getElem?_zipWith, hv, hu'])
         refine R.setT (l := [(v, u)]) hold ?_;have he : a.tmps.getD j undef = a.eval r := by rw [hjr]; rfl
         rw [he]; exact hs2.perm (.swap _ _ _)
       exact hout
     . simp only [rv, zO] at hs;subst hs;exact hmove
   . cases hs
 . cases hs
end Go.Idl
namespace Go.Idl
variable [Globs]
variable {P : Program} {o : Oper} {a : Act} {g : Gh} {O : List Nat} {w : World} {s : St} {res : Res} {cf : jo}
def yJ : Nat -> Value
 | 0 => .pointer none
 | 1 => .nilIface
 | 2 => .nilFunc
 | _ => .map none
def jfj (k : Nat) (d : TypeDesc) : Bool :=
 match k, d with
 | 0, .pointer _ => true
 | 1, .interface _ => true
 | 2, .func _ _ _ => true
 | 3, .map _ _ => true
 | _, _ => false
theorem YK {k : Nat} {T : TypeId} {d : TypeDesc} {x : IVal} {u : Value} {b : Bool} (hT : P.underlying T = some d) (hk : jfj k d = true) (hn : isNil k x = some b) (hV : V g x u) :
   (Op.equal T u (yJ k)).run P w = .ok b w /\ (Op.equal T (yJ k) u).run P w = .ok b w := by
 have key : ∀ n, (Op.equalIn (n + 1) T u (yJ k)).run P w = .ok b w /\ (Op.equalIn (n + 1) T (yJ k) u).run P w = .ok b w := by
   intro n;unfold isNil at hn;split at hn <;> (try (cases hn; done)) <;> simp only [zO] at hn <;> subst hn <;> unfold jfj at hk <;> split at hk <;> (try (cases hk; done)) <;> (try (rename_i h0; cases h0; done)) <;> cases hV <;>
     simp [Op.equalIn, yJ, jm hT]
 exact key 9999
theorem jbn {k : Nat} {T : TypeId} {d : TypeDesc} {x : IVal} {u : Value} {b : Bool} {rx : Operand} (neg : Bool) (hT : P.underlying T = some d) (hk : jfj k d = true) (hn : isNil k x = some b) (hV : V g x u) :
   ((do eqGuard (if neg then .neq else .eql) T rx (.const (yJ k)) u (yJ k); binOp (if neg then .neq else .eql) T u (yJ k)) : Sem Value).run P w = .ok (.bool (b != neg)) w /\
   ((do eqGuard (if neg then .neq else .eql) T (.const (yJ k)) rx (yJ k) u; binOp (if neg then .neq else .eql) T (yJ k) u) : Sem Value).run P w = .ok (.bool (b != neg)) w := by
 obtain ⟨e1, e2⟩ := YK (w := w) hT hk hn hV;unfold isNil at hn;cases neg
 all_goals
   split at hn <;> (try (cases hn; done)) <;> simp only [zO] at hn <;> subst hn <;> cases hV <;> simp only [yJ] at e1 e2 <;>
     simp [eqGuard, binOp, yJ, e1, e2]
theorem jac {k : Nat} {neg : Bool} {x : Opd} {rx ra rb : Operand} {T T' : TypeId} {d : TypeDesc} (hop : o.op = .binOp (if neg then .neq else .eql) T ra rb T') (hr : (ra = rx /\ rb = .const (yJ k)) \/ (ra = .const (yJ k) /\ rb = rx)) (hx : jl x rx = true)
   (hT : P.underlying T = some d) (hk : jfj k d = true) (hs : ja cf (.isnil neg k x) s = some res)
   (hl : WT s.ts a.tmps) (hR : R g O (s.ts.roots a.tmps) s.σ w) : SimV P o a g O w s res := by
 simp only [ja] at hs;split at hs
 . rename_i v ts h;split at hs
   . rename_i b hb;simp only [rv, zO] at hs;subst hs;obtain ⟨h1, h2⟩ := jk (l := []) hx h hl hR;obtain ⟨e1, e2⟩ := jbn (w := w) (rx := rx) neg hT hk hb h1.head;refine SimV.same (v' := .bool (b != neg)) ?_ (h1.drop.push (.bool _) rfl) h2
     rcases hr with ⟨rfl, rfl⟩ | ⟨rfl, rfl⟩
     . simp only [execOp, hop];rw [show a.eval (.const (yJ k)) = yJ k from rfl, Sem.run_bind, e1]; simp
     . simp only [execOp, hop];rw [show a.eval (.const (yJ k)) = yJ k from rfl, Sem.run_bind, e2]; simp
   . cases hs
 . cases hs
theorem jds {mx : Bool} {x y : Opd} {rx ry : Operand} {c : Call} (hop : o.op = .call c) (hc : c.callee = .builtin (if mx then .max else .min)) (ha : c.args = #[rx, ry]) (hx : jl x rx = true) (hy : jl y ry = true)
   (hs : ja cf (.minmax mx [x, y]) s = some res) (hl : WT s.ts a.tmps) (hR : R g O (s.ts.roots a.tmps) s.σ w) : SimV P o a g O w s res := by
 simp only [ja] at hs;split at hs
 . rename_i k i k' j ts h;split at hs
   . rename_i hk;simp only [rv, zO] at hs;subst hs hk;obtain ⟨h1, h2, h3⟩ := jX (l := []) (rs := [rx, ry]) (by simp [jD, hx, hy]) h hl hR;simp only [List.map_cons, List.map_nil, List.zip_cons_cons, List.cons_append, List.nil_append, List.zip_nil_right] at h1;have e1 := h1.head.int_inv;have e2 := h1.drop.head.int_inv;cases mx
     . refine SimV.same (v' := .int k (if j < i then j else i)) ?_ (h1.drop.drop.push (.int _ _) rfl) h2;simp [execOp, hop, resolve, hc, ha, invoke, builtin, e1, e2, run_min_int2]
     . refine SimV.same (v' := .int k (if i < j then j else i)) ?_ (h1.drop.drop.push (.int _ _) rfl) h2;simp [execOp, hop, resolve, hc, ha, invoke, builtin, e1, e2, run_max_int2]
   . cases hs
 . cases hs
theorem Vq {vs : List Value} {esz : Nat} (hz : ∀ v ∈ vs, v.cells.size = esz) {l h : Nat} (hl : l <= vs.length) {k : Nat} {c : Value} (hk : (jp ((vs.take h).drop l))[k]? = some c) : (jp vs)[l * esz + k]? = some c := by
 have h1 : ∀ (n : Nat) (us : List Value), (∀ v ∈ us, v.cells.size = esz) -> n <= us.length -> jp us = jp (us.take n) ++ jp (us.drop n) /\ (jp (us.take n)).length = n * esz := by
   intro n us hu hn;refine ⟨by simp only [jp]; rw [<- List.flatMap_append, List.take_append_drop], ?_⟩
   induction us generalizing n with
   | nil => simp at hn; subst hn; simp [jp]
   | cons u us ih =>
     cases n with
     | zero => simp [jp]
     | succ n =>
       have := ih n (fun v hv => hu v (by simp [hv])) (by simpa using hn);simp only [jp, List.take_succ_cons, List.flatMap_cons, List.length_append] at this ⊢;rw [this];have := hu u (by simp);simp [this, Nat.add_mul]; omega
 obtain ⟨e1, e2⟩ := h1 l vs hz hl;rw [e1, zR (by omega), e2, Nat.add_sub_cancel_left]
 by_cases hlh : l <= h
 . have e3 : (vs.take h).drop l = (vs.drop l).take (h - l) := by rw [List.drop_take]
   rw [e3] at hk;have e4 : jp (vs.drop l) = jp ((vs.drop l).take (h - l)) ++ jp ((vs.drop l).drop (h - l)) := by
     simp only [jp]; rw [<- List.flatMap_append, List.take_append_drop]
   rw [e4, zL (jg hk)];exact hk
 . have : (vs.take h).drop l = [] := by simp; omega
   rw [this] at hk;simp [jp] at hk
end Go.Idl
namespace Go.Idl
variable [Globs]
variable {P : Program} {o : Oper} {a : Act} {g : Gh} {O : List Nat} {w : World} {s : St} {res : Res} {cf : jo}
theorem vR {T E : TypeId} {i : TypeInfo} {ad : Option Addr} {len cap l h m : Nat} {lo hi mx : Option Value} (hT : P.underlying T = some (.slice E)) (hE : P.info? E = some i)
   (hb : (Instr.sliceBounds true len cap lo hi mx).run P w = .ok (l, h, m) w) :
   (Instr.sliceAt T (.slice ad len cap) lo hi mx).run P w = .ok (.slice (if m = l then ad else ad.map (·.add (l * i.size))) (h - l) (m - l)) w := by
 simp [Instr.sliceAt, Instr.slice, jm hT, hb, jP hE]
theorem V.sl_same {own n : Nat} {rf : Bool} {xs : List IVal} {u : Value} (hV : V g (.sl own rf xs) u) (h : Zx n xs = true) : ∀ x ∈ xs, x.cells.length = n := by
 cases hV with
 | nil => intro x hx; cases hx
 | sl _ _ _ vs ad _ esz' hs hc hl hv hf hr hz' hcl ho hn =>
   have key : ∀ x ∈ xs, x.cells.length = esz' := by
     intro x hx;obtain ⟨j, hj⟩ := jx hx;obtain ⟨v, hv'⟩ := jE hl hj;rw [(hv _ _ _ hj hv').cells.1, hz' v (zM hv')]
   cases xs with
   | nil => intro x hx; cases hx
   | cons y ys =>
     have h1 : y.cells.length = n := by simpa [Zx] using h
     have h2 := key y (by simp);intro x hx;rw [key x hx, <- h2, h1]
theorem V.slice_of {own own' : Nat} {rf : Bool} {xs : List IVal} {ad : Option Addr} {len cap l h m esz : Nat} (hV : V g (.sl own rf xs) (.slice ad len cap)) (hlh : l <= h) (hh : h <= xs.length) (hm : h <= m) (hmc : m <= cap)
   (hz : ∀ x ∈ xs, x.cells.length = esz) (hown : own' = 0 \/ (own' = esz /\ (m = h \/ (own = esz /\ h = xs.length /\ m = cap /\ (l < h \/ h = 0))))) :
   V g (.sl own' (jbF rf l h xs.length) ((xs.take h).drop l)) (.slice (if m = l then ad else ad.map (·.add (l * esz))) (h - l) (m - l)) /\
   (jA (.sl own' (jbF rf l h xs.length) ((xs.take h).drop l)) (.slice (if m = l then ad else ad.map (·.add (l * esz))) (h - l) (m - l))).Sublist (jA (.sl own rf xs) (.slice ad len cap)) := by
 cases hV with
 | nil =>
   simp at hh hmc;subst hh hmc;have : l = 0 := by omega
   subst this;simp [jbF];exact ⟨.nil _, by simp [jA, zB, kX]⟩
 | sl _ _ _ vs ad _ esz' hs hc hl hv hf hr hz' hcl ho hn =>
   have hlen : ((xs.take h).drop l).length = h - l := by simp; omega
   have hsubnil : (xs.take h).drop l = [] -> jbF rf l h xs.length = false := by
     intro h0;have h1 : h - l = 0 := by rw [<- hlen, h0]; rfl
     have h2 : ¬ l < h := by omega
     by_cases h3 : xs = []
     . simp [jbF, hn h3]
     . have h4 : xs.length ≠ 0 := fun e => h3 (List.length_eq_zero_iff.1 e);simp [jbF, h2, h3]
   have hsubr : jbF rf l h xs.length = false -> ∀ x ∈ (xs.take h).drop l, nr2 x = true := by
     intro h0 x hx;have h1 : 0 < ((xs.take h).drop l).length := List.length_pos_of_mem hx;rw [hlen] at h1;have h2 : l < h := by omega
     have h3 : rf = false := by simpa [jbF, h2] using h0
     exact hr h3 x (List.mem_of_mem_take (List.mem_of_mem_drop hx))
   have hsz : xs ≠ [] -> esz' = esz := by
     intro hne;obtain ⟨x, hx⟩ := List.exists_mem_of_ne_nil xs hne;obtain ⟨j, hj⟩ := jx hx;obtain ⟨v, hv'⟩ := jE hl hj;rw [<- hz x hx, (hv _ _ _ hj hv').cells.1, hz' v (zM hv')]
   have hzv : ∀ v ∈ vs, v.cells.size = esz := by
     intro v hv';have : xs ≠ [] := by
       intro h0;rw [h0] at hl;have : vs = [] := List.length_eq_zero_iff.1 hl.symm;rw [this] at hv'; cases hv'
     rw [<- hsz this]; exact hz' v hv'
   have key : ∀ ad' : Addr, (0 < m - l -> ad'.spot = none) -> ad'.block = ad.block -> ad'.off = ad.off + l * esz -> V g (.sl own' (jbF rf l h xs.length) ((xs.take h).drop l)) (.slice (some ad') (h - l) (m - l)) := by
     intro ad' hsp hbl hof;have := V.sl (g := g) own' (jbF rf l h xs.length) ((xs.take h).drop l) ((vs.take h).drop l) ad' (m - l) esz hsp (by rw [hlen]; omega) (by simp; omega) (fun j x v hx hv' => ?_) (fun x hx => hf x (List.mem_of_mem_take (List.mem_of_mem_drop hx)))
       hsubr (fun v hv' => hzv v (List.mem_of_mem_take (List.mem_of_mem_drop hv'))) (fun k c hk => ?_) (fun h0 => ⟨?_, fun hnil => ?_, fun hlt => ?_⟩) hsubnil
     . rw [hlen] at this; exact this
     . simp only [List.getElem?_drop, List.getElem?_take] at hx hv';split at hx
       . rename_i hj;rw [if_pos hj] at hv';exact hv _ _ _ hx hv'
       . cases hx
     . rw [hbl, hof, Nat.add_assoc];exact hcl _ _ (Vq hzv (by omega) hk)
     . rcases hown with h1 | h1
       . exact absurd h1 h0
       . exact h1.1
     . have hl0 : h - l = 0 := by rw [<- hlen, hnil]; rfl
       rcases hown with h1 | ⟨h1, h2 | ⟨h2, h3, h4, h5⟩⟩
       . exact absurd h1 h0
       . omega
       . have hne : own ≠ 0 := by rw [h2, <- h1]; exact h0
         have := (ho hne).2.1 (List.length_eq_zero_iff.1 (by omega));omega
     . rw [hlen] at hlt ⊢
       rcases hown with h1 | ⟨h1, h2 | ⟨h2, h3, h4, h5⟩⟩
       . exact absurd h1 h0
       . omega
       . have hne : own ≠ 0 := by rw [h2, <- h1]; exact h0
         have := (ho hne).2.2 (by omega);have he := (ho hne).1;rw [hbl, this, hof, <- he, h2]
         congr 1
         have e1 : l * esz + (h - l) * esz = xs.length * esz := by rw [<- Nat.add_mul]; congr 1; omega
         have e2 : l * esz + (m - l) * esz = cap * esz := by rw [<- Nat.add_mul]; congr 1; omega
         simp only [zP];omega
   have hsub : ∀ ad' : Addr, ad'.block = ad.block -> (jA (.sl own' (jbF rf l h xs.length) ((xs.take h).drop l)) (.slice (some ad') (h - l) (m - l))).Sublist (jA (.sl own rf xs) (.slice (some ad) xs.length cap)) := by
     intro ad' hbl;simp only [jA, zB, kX, hlen]
     rcases hown with h1 | ⟨h1, h2 | ⟨h2, h3, h4, h5⟩⟩
     . simp [h1]
     . rw [if_pos (.inr (by omega))]; simp
     . split
       . simp
       . rename_i hn;rw [if_neg (by rw [h2, <- h1]; omega), hbl];exact .refl _
   split
   . rename_i hml;have e1 : (xs.take h).drop l = [] := List.length_eq_zero_iff.1 (by rw [hlen]; omega);have e2 : h - l = ([] : List IVal).length := by simp; omega
     have hs' := hsub ad rfl;have e3 := hsubnil e1;rw [e1, e3] at hs' ⊢;refine ⟨?_, hs'⟩;rw [e2, show m - l = 0 by omega];exact .sl own' false [] [] ad 0 esz (fun h => absurd h (Nat.lt_irrefl 0)) (by simp) rfl (by simp) (by simp) (by simp) (by simp) (by intro k c hk; simp [jp] at hk) (fun h0 => ⟨by rcases hown with h1 | h1; exact absurd h1 h0; exact h1.1, by simp, by simp⟩) (by simp)
   . simp only [Option.map_some];have had : ad = ⟨ad.block, ad.off, none⟩ := by have := hs (by omega); cases ad; simp at this; simp [this]
     have hadd : ad.add (l * esz) = ⟨ad.block, ad.off + l * esz, none⟩ := by rw [had]; exact kq _ _ _
     rw [hadd];exact ⟨key _ (fun _ => rfl) rfl rfl, hsub _ rfl⟩
theorem jdt {x : Opd} {rx : Operand} {lo hi mx : Option Opd} {rlo rhi rmx : Option Operand} {T E : TypeId} {i : TypeInfo} (hop : o.op = .slice T rx rlo rhi rmx) (hx : jl x rx = true) (hlo : Jl lo rlo = true) (hhi : Jl hi rhi = true) (hmx : Jl mx rmx = true)
   (hmh : mx = none \/ hi ≠ none) (hT : P.underlying T = some (.slice E)) (hE : P.info? E = some i)
   (hs : ja cf (.sliceL i.size x lo hi mx) s = some res) (hl : WT s.ts a.tmps) (hR : R g O (s.ts.roots a.tmps) s.σ w) : SimV P o a g O w s res := by
 simp only [ja] at hs;split at hs
 . rename_i own rf xs ts h;split at hs
   . rename_i l hh m e1 e2 e3;split at hs
     . rename_i hb;obtain ⟨h1, h2⟩ := jk (l := []) hx h hl hR;have hV := h1.head;have hbv : ∃ ad len cap, a.eval rx = .slice ad len cap /\ len = xs.length /\ len <= cap := by
         generalize a.eval rx = u at hV
         cases hV with
         | nil => exact ⟨none, 0, 0, rfl, rfl, Nat.le_refl _⟩
         | sl _ _ _ _ ad cap _ _ hc => exact ⟨_, _, _, rfl, rfl, hc⟩
       obtain ⟨ad, len, cap, hu, hlen, hcap⟩ := hbv;have k1 := qS (l := [(.sl own rf xs, a.eval rx)]) hlo e1 h2 h1;have k2 := qS (l := [(.sl own rf xs, a.eval rx)]) hhi e2 h2 h1;have k3 := qS (l := [(.sl own rf xs, a.eval rx)]) hmx e3 h2 h1;have hlo' : rlo.map a.eval = none /\ l = 0 \/ ∃ k, rlo.map a.eval = some (.int k l) := by
         rcases k1 with ⟨rfl, rfl⟩ | ⟨r', rfl, k, hk⟩
         . exact .inl ⟨rfl, rfl⟩
         . exact .inr ⟨k, by simp [hk]⟩
       have hz : ∀ x ∈ xs, x.cells.length = i.size := by
         exact hV.sl_same hb.2.2
       rw [hu] at hV;split at hs
       . simp only [rv, zO] at hs;subst hs;have hrm : rmx = none := by cases rmx <;> simp [Jl] at hmx ⊢
         subst hrm;have hhi' : rhi.map a.eval = none /\ hh = len /\ (none : Option Value) = none \/ ∃ k, rhi.map a.eval = some (.int k hh) := by
           rcases k2 with ⟨rfl, rfl⟩ | ⟨r', rfl, k, hk⟩
           . exact .inl ⟨rfl, hlen.symm, rfl⟩
           . exact .inr ⟨k, by simp [hk]⟩
         have hbs := JR (P := P) (w := w) (isS := true) (cap := cap) hlo' hhi' (.inl ⟨rfl, rfl⟩) hb.1 (by omega) (Nat.le_refl _);have hrun := vR (ad := ad) hT hE hbs;obtain ⟨q1, q2⟩ := hV.slice_of (own' := Vx own i.size l hh xs.length) (m := cap) hb.1 hb.2.1 (by omega) (Nat.le_refl _) hz (by unfold Vx; split; rename_i hq; exact .inr ⟨hq.2.1, .inr ⟨hq.2.1, hq.1, rfl, hq.2.2⟩⟩; exact .inl rfl);refine SimV.same ?_ (h1.swap (fun _ => q1) (by rw [hu]; exact q2)) h2;simp only [execOp, hop, hu];simp only [Option.map_none] at hrun ⊢;simp [hrun]
       . rename_i mm;split at hs
         . rename_i hhm;subst hhm;simp only [rv, zO] at hs;subst hs;have hhi' : rhi.map a.eval = none /\ hh = len /\ rmx.map a.eval = none \/ ∃ k, rhi.map a.eval = some (.int k hh) := by
             rcases k2 with ⟨rfl, rfl⟩ | ⟨r', rfl, k, hk⟩
             . exfalso
               rcases hmh with h0 | h0
               . cases h0
               . cases hi <;> simp [Jl] at hhi h0
             . exact .inr ⟨k, by simp [hk]⟩
           have hmx' : rmx.map a.eval = none /\ hh = cap \/ ∃ k, rmx.map a.eval = some (.int k hh) := by
             rcases k3 with ⟨rfl, _⟩ | ⟨r', rfl, k, hk⟩
             . simp [Jl] at hmx
             . exact .inr ⟨k, by simp [hk]⟩
           have hbs := JR (P := P) (w := w) (isS := true) (cap := cap) hlo' hhi' hmx' hb.1 (Nat.le_refl _) (by omega);have hrun := vR (ad := ad) hT hE hbs;obtain ⟨q1, q2⟩ := hV.slice_of (own' := i.size) (m := hh) hb.1 hb.2.1 (Nat.le_refl _) (by omega) hz (.inr ⟨rfl, .inl rfl⟩);refine SimV.same ?_ (h1.swap (fun _ => q1) (by rw [hu]; exact q2)) h2;simp only [execOp, hop, hu];simp [hrun]
         . cases hs
     . cases hs
   . cases hs
 . rename_i e id off len ts h;split at hs
   . rename_i l hh e1 e2;split at hs
     . rename_i hb;obtain ⟨h1, h2⟩ := jk (l := []) hx h hl hR;obtain ⟨b, cap, hu, hι, hcap, hz0⟩ := h1.head.rs_inv';have k1 := qS (l := [(.rs e id off len, a.eval rx)]) hlo e1 h2 h1;have k2 := qS (l := [(.rs e id off len, a.eval rx)]) hhi e2 h2 h1;have hrm : rmx = none := by cases rmx <;> simp [Jl] at hmx ⊢
       subst hrm;have hlo' : rlo.map a.eval = none /\ l = 0 \/ ∃ k, rlo.map a.eval = some (.int k l) := by
         rcases k1 with ⟨rfl, rfl⟩ | ⟨r', rfl, k, hk⟩
         . exact .inl ⟨rfl, rfl⟩
         . exact .inr ⟨k, by simp [hk]⟩
       have hhi' : rhi.map a.eval = none /\ hh = len /\ (none : Option Value) = none \/ ∃ k, rhi.map a.eval = some (.int k hh) := by
         rcases k2 with ⟨rfl, rfl⟩ | ⟨r', rfl, k, hk⟩
         . exact .inl ⟨rfl, rfl, rfl⟩
         . exact .inr ⟨k, by simp [hk]⟩
       have hbs := JR (P := P) (w := w) (isS := true) (cap := cap) hlo' hhi' (.inl ⟨rfl, rfl⟩) hb.1 (by omega) (Nat.le_refl _);have hrun := vR (ad := some ⟨b, off, none⟩) hT hE hbs;have hexec : (execOp a.eval o).run P w = .ok (.value (.slice (if cap = l then some ⟨b, off, none⟩ else (some (⟨b, off, none⟩ : Addr)).map (·.add (l * i.size))) (hh - l) (cap - l))) w := by
         simp only [execOp, hop, hu];simp only [Option.map_none] at hrun ⊢;simp only [Sem.run_bind, hrun, Result.andThen_ok, Sem.run_pure]
       split at hs
       . rename_i hz;simp only [rv, zO] at hs;subst hs;obtain ⟨rfl, rfl⟩ : off = 0 /\ hh = 0 := by omega
         obtain rfl : l = 0 := by omega
         refine SimV.same hexec (h1.drop.push ?_ (by simp [jA, zB, kX])) h2;have e0 : (if cap = 0 then some (⟨b, 0, none⟩ : Addr) else (some (⟨b, 0, none⟩ : Addr)).map (·.add (0 * i.size))) = some ⟨b, 0, none⟩ := by
           split
           . rfl
           . rw [Option.map_some, kq, Nat.zero_mul]
         rw [e0, hb.2.2];rw [hb.2.2] at hz0;exact .rs i.size id 0 0 (cap - 0) b hι (Nat.zero_le _) (by simpa using hz0)
       split at hs
       . rename_i hlh;simp only [rv, zO] at hs;subst hs;refine SimV.same hexec (h1.drop.push ?_ (za (.sl 0 false []) _)) h2;have e0 : hh - l = ([] : List IVal).length := by simp; omega
         rw [e0];split
         . exact .sl 0 false [] [] _ _ 0 (fun _ => rfl) (by simp) rfl (by simp) (by simp) (by simp) (by simp) (by intro k c hk; simp [jp] at hk) (fun h0 => absurd rfl h0) (by simp)
         . rw [Option.map_some, kq];exact .sl 0 false [] [] _ _ 0 (fun _ => rfl) (by simp) rfl (by simp) (by simp) (by simp) (by simp) (by intro k c hk; simp [jp] at hk) (fun h0 => absurd rfl h0) (by simp)
       . rename_i hlh;simp only [rv, zO] at hs;subst hs;refine SimV.same hexec (h1.drop.push ?_ (by simp [jA, zB, kX])) h2;rw [if_neg (by omega), Option.map_some, kq, hb.2.2];refine .rs i.size id _ _ _ b hι (by omega) ?_;have := Nat.le_trans hz0 (Nat.le_refl _);rw [hb.2.2] at this;have e1 : l * i.size + (cap - l) * i.size = cap * i.size := by rw [<- Nat.add_mul]; congr 1; omega
         omega
     . cases hs
   . cases hs
 . cases hs
end Go.Idl
namespace Go.Idl
variable [Globs]
variable {P : Program} {g : Gh} {O : List Nat} {w : World}
theorem zH {w w' : World} {b o : Nat} (h : w'.heap[b]? = w.heap[b]?) : w'.cell? ⟨b, o, none⟩ = w.cell? ⟨b, o, none⟩ := by simp [World.cell?, h]
theorem vQ {w w' : World} {b : Nat} (h : w'.heap[b]? = w.heap[b]?) (x : IObj) : kV w' b x = kV w b x := by
 cases x <;> simp [kV, jT, h]
theorem OBJ.mono {g g' : Gh} {w w' : World} {b : Nat} {x : IObj} (h : OBJ g w b x) (hw : w'.heap[b]? = w.heap[b]?) (hι : ∀ (id b : Nat), g.ι[id]? = some (.bk b) -> g'.ι[id]? = some (.bk b))
   (hM : ∀ b o c, g.M b o = some c -> g'.M b o = some c) (hC : g'.C = g.C) (hT : ∀ b' ∈ kV w b x, g'.T b' = g.T b') (hZ : ∀ b, g.Z b <= g'.Z b := by intro _; exact Nat.le_refl _) : OBJ g' w' b x := by
 cases x with
 | cells cs =>
   obtain ⟨c, el, h1, h2, h3⟩ := h;refine ⟨c, el, by rw [hw]; exact h1, h2, fun i x v hx hv => ⟨(h3 i x v hx hv).1.mono hι hM (fun b' hb' => hT b' ?_) hZ, (h3 i x v hx hv).2⟩⟩;rw [kP (h3 i x v hx hv).2] at hb';simp only [kV, jT, h1];refine List.mem_cons_of_mem _ (qw (f := kX) hx ?_ hb');simpa using hv
 | map es =>
   obtain ⟨mes, clock, h1, h2, h3, h9⟩ := h;refine ⟨mes, clock, by rw [hw]; exact h1, h2, fun i e me he hm => ?_, h9⟩;obtain ⟨⟨h4, h5⟩, h6, h7⟩ := h3 i e me he hm;exact ⟨⟨h4.mono hι hM (by rw [jK h6]; simp) hZ, h5.mono hι hM (by rw [jK h7]; simp) hZ⟩, h6, h7⟩
 | loop L =>
   obtain ⟨r, h1, h2⟩ := h;refine ⟨r, by rw [hw]; exact h1, h2.st, h2.ps, h2.pend, h2.wt, h2.ds, fun p hp => ⟨(h2.vals p hp).1.mono hι hM (fun b' hb' => ?_) hZ, (h2.vals p hp).2⟩, by rw [hC]; exact h2.code⟩;rw [<- (h2.vals p hp).2, za] at hb'; cases hb'
 | defr => exact (hw.trans h)
 | it s pos => obtain ⟨bs, h1, h2⟩ := h; exact ⟨bs, hw.trans h1, h2⟩
 | dead => trivial
theorem j6 {w : World} {ι : List Blk} {σ : List IObj} {id b : Nat} {x : IObj} (h1 : ι[id]? = some (.bk b)) (h2 : σ[id]? = some x) {k : Nat} (hk : k ∈ kV w b x) : k ∈ kM w ι σ := by
 simp only [kM, List.mem_flatten];refine ⟨kV w b x, zM (i := id) ?_, hk⟩;simp [List.getElem?_zipWith, h1, h2, qU]
theorem Ke {w w' : World} {ι : List Blk} {σ : List IObj} (h : ∀ (id b : Nat) x, ι[id]? = some (.bk b) -> σ[id]? = some x -> kV w' b x = kV w b x) : ∀ (id : Nat) b x, ι[id]? = some b -> σ[id]? = some x -> qU w' b x = qU w b x := by
 intro id b x h1 h2
 cases b with
 | un zs => rfl
 | bk b => exact h id b x h1 h2
theorem zu {α β γ : Type} {f f' : α -> β -> γ} {xs : List α} {ys : List β} (h : ∀ (i : Nat) x y, xs[i]? = some x -> ys[i]? = some y -> f x y = f' x y) : List.zipWith f xs ys = List.zipWith f' xs ys := by
 induction xs generalizing ys with
 | nil => simp
 | cons x xs ih =>
   cases ys with
   | nil => simp
   | cons y ys =>
     simp only [List.zipWith_cons_cons];rw [h 0 x y rfl rfl, ih fun i x y hx hy => h (i + 1) x y (by simpa using hx) (by simpa using hy)]
theorem jU {w : World} {b : Nat} {x : IObj} (h : x ≠ .dead) : b ∈ kV w b x := by
 cases x <;> simp_all [kV]
theorem R.world {l : jH} {σ : List IObj} {w' : World} (h : R g O l σ w) (hs : w.heap.size <= w'.heap.size) (hw : ∀ b, b < w.heap.size -> w'.heap[b]? = w.heap[b]?) : R g O l σ w' := by
 have hlt : ∀ (id b : Nat) x, g.ι[id]? = some (.bk b) -> σ[id]? = some x -> x = .dead \/ b < w.heap.size := by
   intro id b x h1 h2
   by_cases hd : x = .dead
   . exact .inl hd
   . exact .inr (h.lt b (h.sub b (List.mem_append_right _ (j6 h1 h2 (jU hd)))))
 have hO : ∀ (id b : Nat) x, g.ι[id]? = some (.bk b) -> σ[id]? = some x -> kV w' b x = kV w b x := by
   intro id b x h1 h2
   rcases hlt id b x h1 h2 with rfl | hb
   . rfl
   . exact vQ (hw b hb) x
 have hS : kM w' g.ι σ = kM w g.ι σ := by simp only [kM]; rw [zu (Ke hO)]
 refine ⟨h.len, h.vals, fun id b x h1 h2 => ?_, by rw [hS]; exact h.nodup, by rw [hS]; exact h.sub, fun b hb => Nat.lt_of_lt_of_le (h.lt b hb) hs, fun b o v hm => ?_, fun id b x h1 h2 hm => ?_, fun b hb ext top ht => ?_, h.glob, fun b hz => ?_⟩
 . cases b with
   | un zs => exact h.objo id (.un zs) x h1 h2
   | bk b =>
     rcases hlt id b x h1 h2 with rfl | hb
     . trivial
     . exact (h.objs id b x h1 h2).mono (hw b hb) (fun _ _ h => h) (fun _ _ _ h => h) rfl (fun _ _ => rfl)
 . have hc := h.claim b o v hm;have := World.block_lt_of_cell? w _ hc;rw [zH (hw b this)]; exact hc
 . rw [hO id b x h1 h2] at hm; exact h.apart id b x h1 h2 hm
 . rw [hw b (h.lt b hb)]; exact h.spare b hb ext top ht
 . obtain ⟨c, el, fz, h1, h2⟩ := h.zs b hz;refine ⟨c, el, fz, ?_, h2⟩;rw [hw b (Array.getElem?_eq_some_iff.1 h1).1]; exact h1
theorem R.ghost {l : jH} {σ : List IObj} {g' : Gh} {k : Nat} (h : R g O l σ w) (hk : k ∉ O) (hι : g'.ι = g.ι) (hC : g'.C = g.C) (hM : ∀ b o, b ≠ k -> g'.M b o = g.M b o) (hM' : ∀ o c, g.M k o = some c -> g'.M k o = some c) (hT : ∀ b, b ≠ k -> g'.T b = g.T b)
   (hc : ∀ o v, g'.M k o = some v -> w.cell? ⟨k, o, none⟩ = some v) (hZ : g'.Z = g.Z := by rfl) : R g' O l σ w := by
 have hMm : ∀ b o c, g.M b o = some c -> g'.M b o = some c := by
   intro b o c hb
   by_cases e : b = k
   . subst e; exact hM' o c hb
   . rw [hM b o e]; exact hb
 have hιm : ∀ (id b : Nat), g.ι[id]? = some (.bk b) -> g'.ι[id]? = some (.bk b) := fun id b hb => by rw [hι]; exact hb
 have hne : ∀ b ∈ O, b ≠ k := fun b hb e => hk (e ▸ hb);have hZm : ∀ b, g.Z b <= g'.Z b := fun b => by rw [hZ]; exact Nat.le_refl _
 refine ⟨by rw [hι]; exact h.len, fun p hp => (h.vals p hp).mono hιm hMm (fun b hb => hT b (hne b ?_)) hZm, fun id b x h1 h2 => ?_, by rw [hι]; exact h.nodup, by rw [hι]; exact h.sub, h.lt, fun b o v hm => ?_, fun id b x h1 h2 hm => ?_, fun b hb ext top ht => ?_, fun k' vs hk' i c hi => hMm _ _ _ (h.glob k' vs hk' i c hi), by rw [hZ]; exact h.zs⟩
 . refine h.sub b (List.mem_append_left _ ?_);simp only [jR, List.mem_flatten, List.mem_map];exact ⟨_, ⟨p, hp, rfl⟩, hb⟩
 . rw [hι] at h1
   cases b with
   | un zs => exact h.objo id (.un zs) x h1 h2
   | bk b =>
   exact (h.objs id b x h1 h2).mono rfl hιm hMm hC (fun b' hb' => hT b' (hne b' (h.sub b' (List.mem_append_right _ (j6 h1 h2 hb'))))) hZm
 . by_cases e : b = k
   . subst e; exact hc o v hm
   . rw [hM b o e] at hm; exact h.claim b o v hm
 . rw [hι] at h1;have hb := hne b (h.sub b (List.mem_append_right _ (j6 h1 h2 hm)));intro k';rw [hM b k' hb]; exact h.apart id b x h1 h2 hm k'
 . rw [hT b (hne b hb)] at ht;obtain ⟨q1, q2⟩ := h.spare b hb ext top ht;exact ⟨q1, fun o ho => by rw [hM b o (hne b hb)]; exact q2 o ho⟩
theorem R.pushOwn {x : IVal} {v : Value} {l : jH} {σ : List IObj} {k : Nat} (h : R g O l σ w) (hk : k ∉ O) (hv : V g x v) (ho : jA x v = [] \/ jA x v = [k]) (hlt : k < w.heap.size) (hsp : jlE g w k)
   : R g (k :: O) ((x, v) :: l) σ w := by
 have e : jR ((x, v) :: l) = jA x v ++ jR l := by simp [jR]
 refine ⟨h.len, fun q hm => ?_, h.objo, ?_, fun b hb => ?_, fun b hb => ?_, h.claim, h.apart, fun b hb => ?_, h.glob, h.zs⟩
 . rcases List.mem_cons.1 hm with rfl | hm
   . exact hv
   . exact h.vals q hm
 . rw [e]
   rcases ho with ho | ho
   . rw [ho]; exact h.nodup
   . rw [ho, zS, List.singleton_append, List.nodup_cons];exact ⟨fun hm => hk (h.sub k hm), h.nodup⟩
 . rw [e, zS, List.mem_append] at hb
   rcases hb with hb | hb
   . rcases ho with ho | ho
     . rw [ho] at hb; cases hb
     . rw [ho] at hb; simp at hb; subst hb; simp
   . exact List.mem_cons_of_mem _ (h.sub b hb)
 . rcases List.mem_cons.1 hb with rfl | hb
   . exact hlt
   . exact h.lt b hb
 . rcases List.mem_cons.1 hb with rfl | hb
   . exact hsp
   . exact h.spare b hb
theorem jfu {w : World} {ι : List Blk} {σ : List IObj} (hl : ι.length = σ.length) (b : Nat) (x : IObj) : kM w (ι ++ [.bk b]) (σ ++ [x]) = kM w ι σ ++ kV w b x := by
 simp only [kM];rw [List.zipWith_append hl];simp [qU]
def Gh.add (g : Gh) (b : Nat) : Gh := { g with ι := g.ι ++ [.bk b] }
theorem Kv {α : Type} {l : List α} {a x : α} {i : Nat} (h : (l ++ [a])[i]? = some x) : l[i]? = some x \/ (i = l.length /\ x = a) := by
 by_cases hi : i < l.length
 . rw [zL hi] at h; exact .inl h
 . have := jg h;simp at this;have e : i = l.length := by omega
   subst e;simp at h;exact .inr ⟨rfl, h.symm⟩
theorem R.addObj {x : IVal} {v : Value} {l : jH} {σ : List IObj} {k : Nat} {ob : IObj} (h : R g O ((x, v) :: l) σ w) (hk : k ∉ O) (hlt : k < w.heap.size) (hM : ∀ o, g.M k o = none) (hT : g.T k = none)
   (hob : OBJ (g.add k) w k ob) (ho : ∃ r, kV w k ob = k :: r /\ r.Sublist (jA x v)) : R (g.add k) (k :: O) l (σ ++ [ob]) w := by
 obtain ⟨r, hr1, hr2⟩ := ho;have hιm : ∀ (id b : Nat), g.ι[id]? = some (.bk b) -> (g.add k).ι[id]? = some (.bk b) := fun id b hb => by
   simp only [Gh.add]; rw [zL (jg hb)]; exact hb
 have e : jR ((x, v) :: l) = jA x v ++ jR l := by simp [jR]
 have hp : (jR l ++ kM w (g.add k).ι (σ ++ [ob])).Perm (k :: (r ++ (jR l ++ kM w g.ι σ))) := by
   simp only [Gh.add];rw [jfu h.len, hr1];have h1 : (jR l ++ (kM w g.ι σ ++ k :: r)).Perm ((k :: r) ++ (jR l ++ kM w g.ι σ)) := by
     rw [<- zS]; exact List.perm_append_comm
   simpa using h1
 have hsub : (r ++ (jR l ++ kM w g.ι σ)).Sublist (jR ((x, v) :: l) ++ kM w g.ι σ) := by
   rw [e, zS]; exact hr2.append_right _
 refine ⟨by simp [Gh.add, h.len], fun p hp' => (h.vals p (by simp [hp'])).mono hιm (fun _ _ _ h => h) (fun _ _ => rfl), fun id b y h1 h2 => ?_, ?_, fun b hb => ?_, fun b hb => ?_, h.claim, fun id b y h1 h2 hm => ?_, fun b hb => ?_, h.glob, h.zs⟩
 . rcases Kv h1 with h1' | ⟨h1', rfl⟩
   . have hid : id < σ.length := by rw [<- h.len]; exact jg h1'
     rw [zL hid] at h2
     cases b with
     | un zs => exact h.objo id (.un zs) y h1' h2
     | bk b => exact (h.objs id b y h1' h2).mono rfl hιm (fun _ _ _ h => h) rfl (fun _ _ => rfl)
   . rw [h1', h.len] at h2;simp at h2;subst h2;exact hob
 . rw [hp.nodup_iff, List.nodup_cons];exact ⟨fun hm => hk (h.sub k (hsub.mem hm)), h.nodup.sublist hsub⟩
 . rcases List.mem_cons.1 (hp.mem_iff.1 hb) with rfl | hb
   . simp
   . exact List.mem_cons_of_mem _ (h.sub b (hsub.mem hb))
 . rcases List.mem_cons.1 hb with rfl | hb
   . exact hlt
   . exact h.lt b hb
 . rcases Kv h1 with h1' | ⟨h1', hbk⟩
   . have hid : id < σ.length := by rw [<- h.len]; exact jg h1'
     rw [zL hid] at h2;exact h.apart id b y h1' h2 hm
   . cases hbk; exact hM
 . rcases List.mem_cons.1 hb with rfl | hb
   . intro ext top ht; simp [Gh.add, hT] at ht
   . exact h.spare b hb
def Gh.setZ (g : Gh) (b z : Nat) : Gh := { g with Z := fun k => if k = b then max (g.Z b) z else g.Z k }
theorem jbt (g : Gh) (b z : Nat) : ∀ k, g.Z k <= (g.setZ b z).Z k := by
 intro k;simp only [Gh.setZ];split
 . rename_i e; subst e; exact Nat.le_max_left _ _
 . exact Nat.le_refl _
theorem VT (g : Gh) (b z : Nat) : z <= (g.setZ b z).Z b := by
 simp only [Gh.setZ, if_true]; exact Nat.le_max_right _ _
theorem R.setZ {l : jH} {σ : List IObj} {b z : Nat} {c : Array Value} {el : TypeId} {fz : Nat × Nat} (h : R g O l σ w) (hb : w.heap[b]? = some (.cells c el fz)) (hz : z <= c.size) : R (g.setZ b z) O l σ w := by
 refine ⟨h.len, fun p hp => (h.vals p hp).mono (fun _ _ h => h) (fun _ _ _ h => h) (fun _ _ => rfl) (jbt g b z), fun id k x h1 h2 => (match k, h1 with
   | .un zs, h1 => h.objo id (.un zs) x h1 h2
   | .bk k, h1 => (h.objs id k x h1 h2).mono rfl (fun _ _ h => h) (fun _ _ _ h => h) rfl (fun _ _ => rfl) (jbt g b z)), h.nodup, h.sub, h.lt, h.claim, h.apart, h.spare, h.glob, fun k hk => ?_⟩
 simp only [Gh.setZ] at hk ⊢
 by_cases e : k = b
 . subst e;refine ⟨c, el, fz, hb, ?_⟩;rw [if_pos rfl];refine Nat.max_le.2 ⟨?_, hz⟩
   by_cases h0 : g.Z k = 0
   . omega
   . obtain ⟨c', el', fz', h1, h2⟩ := h.zs k h0;rw [hb] at h1; cases h1; exact h2
 . rw [if_neg e] at hk ⊢; exact h.zs k hk
theorem Grow.setZ (O : List Nat) (g : Gh) (w : World) (b z : Nat) : Grow O g w O (g.setZ b z) w :=
 ⟨Nat.le_refl _, fun _ _ _ => ⟨rfl, rfl, fun _ => rfl⟩, fun _ _ _ h => h, fun _ _ h => h, fun _ h => .inl h, rfl, rfl, rfl, rfl, jbt g b z⟩
end Go.Idl
namespace Go.Idl
variable [Globs]
variable {P : Program} {g : Gh} {O : List Nat} {w : World}
theorem JK (w : World) (ob : Obj) : ∀ b, b < w.heap.size -> (w.alloc ob).heap[b]? = w.heap[b]? := fun b hb => by
 simp only [World.alloc]; rw [Array.getElem?_push_lt hb]; simp [hb]
theorem jF (w : World) (ob : Obj) : (w.alloc ob).heap[w.heap.size]? = some ob := by show (w.heap.push ob)[w.heap.size]? = some ob; simp
theorem R.allocW {l : jH} {σ : List IObj} (h : R g O l σ w) (ob : Obj) : R g O l σ (w.alloc ob) := h.world (by simp) (JK w ob)
theorem R.noClaim {l : jH} {σ : List IObj} (h : R g O l σ w) (o : Nat) : g.M w.heap.size o = none := by
 cases hm : g.M w.heap.size o with
 | none => rfl
 | some v =>
   have := World.block_lt_of_cell? w _ (h.claim _ _ _ hm);simp at this
theorem R.notO {l : jH} {σ : List IObj} (h : R g O l σ w) : w.heap.size ∉ O := fun hm => by have := h.lt _ hm; omega
def Gh.fresh (g : Gh) (k : Nat) : Gh := { g with ι := g.ι ++ [.bk k], T := fun b => if b = k then none else g.T b }
theorem kH {l : jH} {σ : List IObj} (_h : R g O l σ w) (ob : Obj) : Grow O g w (w.heap.size :: O) (g.fresh w.heap.size) (w.alloc ob) := by
 refine ⟨by simp, fun b hb _ => ⟨JK w ob b hb, by simp [Gh.fresh]; omega, fun _ => rfl⟩, fun _ _ _ h => h, fun id b hb => ?_, fun b hb => ?_, rfl, rfl, rfl, rfl, fun _ => Nat.le_refl _⟩
 . simp only [Gh.fresh]; rw [zL (jg hb)]; exact hb
 . rcases List.mem_cons.1 hb with rfl | hb
   . exact .inr (Nat.le_refl _)
   . exact .inl hb
theorem R.new {x : IVal} {v : Value} {l : jH} {σ : List IObj} {obr : Obj} {ob : IObj} (h : R g O ((x, v) :: l) σ w)
   (hob : V (g.fresh w.heap.size) x v -> OBJ (g.fresh w.heap.size) (w.alloc obr) w.heap.size ob) (ho : ∃ r, kV (w.alloc obr) w.heap.size ob = w.heap.size :: r /\ r.Sublist (jA x v)) :
   R (g.fresh w.heap.size) (w.heap.size :: O) l (σ ++ [ob]) (w.alloc obr) := by
 have h1 := h.allocW obr;have hk := h.notO;have h2 : R { g with T := fun b => if b = w.heap.size then none else g.T b } O ((x, v) :: l) σ (w.alloc obr) := by
   refine h1.ghost hk rfl rfl (fun _ _ _ => rfl) (fun _ _ h => h) (fun b hb => by simp [hb]) (fun o v hm => ?_);rw [h.noClaim o] at hm; cases hm
 refine h2.addObj hk (by simp) h.noClaim (by simp) (hob ?_) ho;refine (h2.vals (x, v) (by simp)).mono (fun id b hb => ?_) (fun _ _ _ h => h) (fun _ _ => rfl);simp only [Gh.fresh]; rw [zL (jg hb)]; exact hb
def Gh.claim (g : Gh) (k : Nat) (cs : List Value) (t : Option (Nat × Nat)) : Gh :=
 { g with M := fun b o => if b = k then cs[o]? else g.M b o, T := fun b => if b = k then t else g.T b }
theorem KW {l : jH} {σ : List IObj} (h : R g O l σ w) (ob : Obj) (cs : List Value) (t : Option (Nat × Nat)) (O' : List Nat) (hO' : ∀ b ∈ O', b = w.heap.size \/ b ∈ O) : Grow O g w O' (g.claim w.heap.size cs t) (w.alloc ob) := by
 refine ⟨by simp, fun b hb _ => ⟨JK w ob b hb, by simp [Gh.claim]; omega, fun o => by simp [Gh.claim]; omega⟩, fun b o v hm => ?_, fun id b hb => hb, fun b hb => ?_, rfl, rfl, rfl, rfl, fun _ => Nat.le_refl _⟩
 . have : b ≠ w.heap.size := fun e => by subst e; rw [h.noClaim o] at hm; cases hm
   simp [Gh.claim, this, hm]
 . rcases hO' b hb with rfl | hb
   . exact .inr (Nat.le_refl _)
   . exact .inl hb
theorem R.claimW {l : jH} {σ : List IObj} (h : R g O l σ w) {c : Array Value} {el : TypeId} {fz : Nat × Nat} (cs : List Value) (hc : ∀ (k : Nat) v, cs[k]? = some v -> c[k]? = some v) (t : Option (Nat × Nat)) :
   R (g.claim w.heap.size cs t) O l σ (w.alloc (.cells c el fz)) := by
 refine (h.allocW _).ghost h.notO rfl rfl (fun b o hb => by simp [Gh.claim, hb]) (fun o c hm => ?_) (fun b hb => by simp [Gh.claim, hb]) (fun o v hm => ?_)
 . rw [h.noClaim o] at hm; cases hm
 . simp only [Gh.claim, if_true] at hm;simp only [World.cell?];rw [jF];simpa using hc o v hm
theorem V.claim {x : IVal} {v : Value} {l : jH} {σ : List IObj} (h : R g O l σ w) (hv : V g x v) (ho : jA x v = []) (cs : List Value) (t : Option (Nat × Nat)) : V (g.claim w.heap.size cs t) x v := by
 refine hv.mono (fun _ _ h => h) (fun b o c hm => ?_) (by rw [ho]; simp);have : b ≠ w.heap.size := fun e => by subst e; rw [h.noClaim o] at hm; cases hm
 simp [Gh.claim, this, hm]
theorem R.newSlice {l : jH} {σ : List IObj} (h : R g O l σ w) {xs : List IVal} {vs : List Value} {esz cap own : Nat} {rf : Bool} {c : Array Value} {el : TypeId} {fz : Nat × Nat} (hl : xs.length = vs.length)
   (hv : ∀ (i : Nat) x v, xs[i]? = some x -> vs[i]? = some v -> V g x v) (hf : ∀ x ∈ xs, yX x) (hr : rf = false -> ∀ x ∈ xs, nr2 x = true) (hz : ∀ v ∈ vs, v.cells.size = esz)
   (hc : ∀ (k : Nat) v, (jp vs)[k]? = some v -> c[k]? = some v) (hcap : xs.length <= cap) (hsz : cap * esz <= c.size) (ho : own = 0 \/ own = esz) (hfz : own ≠ 0 -> fz.2 <= xs.length * esz) (hfl : (jp vs).length = xs.length * esz) (hce : own ≠ 0 -> xs = [] -> cap = 0 := by simp) (hnil : xs = [] -> rf = false := by simp) :
   ∃ g' O', R g' O' ((.sl own rf xs, .slice (some ⟨w.heap.size, 0, none⟩) xs.length cap) :: l) σ (w.alloc (.cells c el fz)) /\ Grow O g w O' g' (w.alloc (.cells c el fz)) /\ g'.ι = g.ι := by
 have hV : V (g.claim w.heap.size (jp vs) (some (xs.length * esz, cap * esz))) (.sl own rf xs) (.slice (some ⟨w.heap.size, 0, none⟩) xs.length cap) := by
   refine .sl own rf xs vs _ cap esz (fun _ => rfl) hcap hl (fun i x v hx hw => V.claim h (hv i x v hx hw) (jK (hf x (zM hx)) v) _ _) hf hr hz (fun k c hk => ?_) (fun h0 => ⟨?_, hce h0, fun _ => ?_⟩) hnil
   . simp [Gh.claim, hk]
   . rcases ho with ho | ho
     . exact absurd ho h0
     . exact ho
   . simp [Gh.claim]
 have hR := h.claimW (c := c) (el := el) (fz := fz) (jp vs) hc (some (xs.length * esz, cap * esz))
 by_cases h0 : own = 0
 . refine ⟨_, O, hR.push hV ?_, KW h _ _ _ O (fun b hb => .inr hb), rfl⟩;subst h0; exact za (.sl 0 rf xs) _
 . refine ⟨_, w.heap.size :: O, hR.pushOwn h.notO hV ?_ (by simp) ?_, KW h _ _ _ _ (fun b hb => List.mem_cons.1 hb), rfl⟩
   . simp only [jA, zB, kX];split
     . exact .inl rfl
     . exact .inr rfl
   . intro ext top ht;simp only [Gh.claim, if_true, zO, zP] at ht;obtain ⟨rfl, rfl⟩ := ht;refine ⟨⟨c, el, fz, jF w _, hsz, hfz h0⟩, fun o ho' => ?_⟩;simp only [Gh.claim, if_true];rw [List.getElem?_eq_none_iff]; omega
theorem R.newPv {l : jH} {σ : List IObj} (h : R g O l σ w) {cs : List IVal} {vs : Array Value} {rf : Bool} {el : TypeId} (hl : cs.length = vs.size)
   (hv : ∀ (i : Nat) x v, cs[i]? = some x -> vs[i]? = some v -> V g x v) (hf : ∀ x ∈ cs, un1 x = x /\ x.isCell = true) (hr : rf = false -> ∀ x ∈ cs, nr1 x = true) :
   ∃ g', R g' O ((.pv rf cs 0, .pointer (some ⟨w.heap.size, 0, none⟩)) :: l) σ (w.alloc (.cells vs el)) /\ Grow O g w O g' (w.alloc (.cells vs el)) /\ g'.ι = g.ι := by
 refine ⟨g.claim w.heap.size vs.toList none, ?_, KW h _ _ _ O (fun b hb => .inr hb), rfl⟩;refine (h.claimW vs.toList (fun k v hk => by simpa using hk) none).push ?_ rfl;refine V.pv_mk (vs := vs.toList) (b := w.heap.size) (e := 0) 0 (by simpa using hl) (fun i x v hx hw => ?_) hf hr (fun k c hk => by simpa [Gh.claim] using hk);have hx' := hf x (zM hx);exact V.claim h (hv i x v hx (by simpa using hw)) (by rw [kP hx'.2, kY hx'.1]) _ _
def SubP (a b : List Nat) : Prop := ∃ r, a.Perm r /\ r.Sublist b
theorem SubP.nodup {a b : List Nat} (h : SubP a b) (hb : b.Nodup) : a.Nodup := by
 obtain ⟨r, h1, h2⟩ := h;exact h1.nodup_iff.2 (hb.sublist h2)
theorem SubP.mem {a b : List Nat} (h : SubP a b) {x : Nat} (hx : x ∈ a) : x ∈ b := by
 obtain ⟨r, h1, h2⟩ := h;exact h2.mem (h1.mem_iff.1 hx)
theorem SubP.refl (a : List Nat) : SubP a a := ⟨a, .refl _, .refl _⟩
theorem SubP.of_sub {a b : List Nat} (h : a.Sublist b) : SubP a b := ⟨a, .refl _, h⟩
theorem SubP.append_left {a b : List Nat} (c : List Nat) (h : SubP a b) : SubP (c ++ a) (c ++ b) := by
 obtain ⟨r, h1, h2⟩ := h;exact ⟨c ++ r, h1.append_left c, List.Sublist.append (.refl _) h2⟩
theorem SubP.append_right {a b : List Nat} (c : List Nat) (h : SubP a b) : SubP (a ++ c) (b ++ c) := by
 obtain ⟨r, h1, h2⟩ := h;exact ⟨r ++ c, h1.append_right c, List.Sublist.append h2 (.refl _)⟩
theorem SubP.perm_left {a a' b : List Nat} (hp : a'.Perm a) (h : SubP a b) : SubP a' b := by
 obtain ⟨r, h1, h2⟩ := h;exact ⟨r, hp.trans h1, h2⟩
theorem SubP.perm_right {a b b' : List Nat} (hp : b.Perm b') (h : SubP a b) : SubP a b' := by
 obtain ⟨r, h1, h2⟩ := h;obtain ⟨r', h3, h4⟩ : ∃ r', r.Perm r' /\ r'.Sublist b' := by
   clear h1
   induction hp generalizing r with
   | nil => exact ⟨r, .refl _, h2⟩
   | cons x hp ih =>
     cases h2 with
     | cons _ h2 => obtain ⟨r', a, b⟩ := ih r h2; exact ⟨r', a, .cons _ b⟩
     | cons_cons _ h2 => obtain ⟨r', a, b⟩ := ih _ h2; exact ⟨_, a.cons _, .cons_cons _ b⟩
   | swap x y l =>
     cases h2 with
     | cons _ h2 =>
       cases h2 with
       | cons _ h2 => exact ⟨r, .refl _, .cons _ (.cons _ h2)⟩
       | cons_cons _ h2 => exact ⟨_, .refl _, .cons_cons _ (.cons _ h2)⟩
     | cons_cons _ h2 =>
       cases h2 with
       | cons _ h2 => exact ⟨_, .refl _, .cons _ (.cons_cons _ h2)⟩
       | cons_cons _ h2 => exact ⟨_, .swap _ _ _, .cons_cons _ (.cons_cons _ h2)⟩
   | trans _ _ ih1 ih2 =>
     obtain ⟨r', a, b⟩ := ih1 r h2;obtain ⟨r'', c, d⟩ := ih2 r' b;exact ⟨r'', a.trans c, d⟩
 exact ⟨r', h1.trans h3, h4⟩
theorem SubP.trans {a b c : List Nat} (h : SubP a b) (k : SubP b c) : SubP a c := by
 obtain ⟨r, h1, h2⟩ := h;obtain ⟨s, k1, k2⟩ := k;obtain ⟨t, t1, t2⟩ := SubP.perm_right k1 ⟨r, h1, h2⟩;exact ⟨t, t1, t2.trans k2⟩
end Go.Idl
namespace Go.Idl
variable [Globs]
variable {P : Program} {g : Gh} {O : List Nat} {w : World}
theorem y8 {α : Type} [DecidableEq α] {L : List (List α)} (h : L.flatten.Nodup) {i j : Nat} {a b : List α} (hi : L[i]? = some a) (hj : L[j]? = some b) (hne : i ≠ j) {x : α} (hx : x ∈ a) : x ∉ b := by
 induction L generalizing i j with
 | nil => simp at hi
 | cons c L ih =>
   simp only [List.flatten_cons, List.nodup_append] at h;obtain ⟨h1, h2, h3⟩ := h;have hmem : ∀ {k : Nat} {d : List α} {y : α}, L[k]? = some d -> y ∈ d -> y ∈ L.flatten := fun hk hy => List.mem_flatten.2 ⟨_, zM hk, hy⟩
   cases i with
   | zero =>
     cases j with
     | zero => exact absurd rfl hne
     | succ j =>
       simp at hi hj; subst hi;exact fun hb => h3 x hx x (hmem hj hb) rfl
   | succ i =>
     cases j with
     | zero =>
       simp at hi hj; subst hj;exact fun hb => h3 x hb x (hmem hi hx) rfl
     | succ j => simp at hi hj; exact ih h2 hi hj (by omega)
theorem yk {α : Type} {L : List (List α)} {i : Nat} {c d : List α} (hi : L[i]? = some c) : ∃ r, L.flatten.Perm (c ++ r) /\ (L.set i d).flatten.Perm (d ++ r) := by
 induction L generalizing i with
 | nil => simp at hi
 | cons e L ih =>
   cases i with
   | zero => simp at hi; subst hi; exact ⟨L.flatten, by simp, by simp⟩
   | succ i =>
     simp at hi;obtain ⟨r, h1, h2⟩ := ih hi;refine ⟨e ++ r, ?_, ?_⟩
     . simp only [List.flatten_cons];refine (h1.append_left e).trans ?_;rw [<- zS, <- zS];exact List.perm_append_comm.append_right r
     . simp only [List.set_cons_succ, List.flatten_cons];refine (h2.append_left e).trans ?_;rw [<- zS, <- zS];exact List.perm_append_comm.append_right r
theorem Grow.of_setRow (g : Gh) (w : World) {O : List Nat} {b : Nat} (hb : b ∈ O) (w' : World) (hw : ∀ k, k ≠ b -> w'.heap[k]? = w.heap[k]?) (hs : w'.heap.size = w.heap.size) (h1 : w'.os = w.os) (h2 : w'.tape = w.tape) (h3 : w'.output = w.output) : Grow O g w O g w' :=
 ⟨by omega, fun k _ hk => ⟨hw k (fun e => hk (e ▸ hb)), rfl, fun _ => rfl⟩, fun _ _ _ h => h, fun _ _ h => h, fun _ h => .inl h, rfl, h1, h2, h3, fun _ => Nat.le_refl _⟩
theorem R.upd {x y : IVal} {v u : Value} {l : jH} {σ : List IObj} {id b : Nat} {ob ob' : IObj} {w' : World} (h : R g O ((x, v) :: l) σ w) (hy : V g y u) (hι : g.ι[id]? = some (.bk b)) (hσ : σ[id]? = some ob) (hlive : ob ≠ .dead)
   (hw : ∀ k, k ≠ b -> w'.heap[k]? = w.heap[k]?) (hs : w'.heap.size = w.heap.size) (hsp : ∀ c el fz, w.heap[b]? = some (.cells c el fz) -> ∃ c' el', w'.heap[b]? = some (.cells c' el' fz) /\ c'.size = c.size)
   (hob : OBJ g w' b ob') (hown : SubP (jA y u ++ kV w' b ob') (jA x v ++ kV w b ob)) : R g O ((y, u) :: l) (σ.set id ob') w' := by
 have e : jR ((x, v) :: l) = jA x v ++ jR l := by simp [jR]
 have e' : jR ((y, u) :: l) = jA y u ++ jR l := by simp [jR]
 have hbO : b ∈ O := h.sub b (List.mem_append_right _ (j6 hι hσ (jU hlive)));have hidl : id < σ.length := jg hσ;have hidι : id < g.ι.length := jg hι;have hS : kM w g.ι σ = (List.zipWith (qU w) g.ι σ).flatten := rfl;have hnS : (List.zipWith (qU w) g.ι σ).flatten.Nodup := (List.nodup_append.1 h.nodup).2.1;have vU : (List.zipWith (qU w) g.ι σ)[id]? = some (kV w b ob) := by simp [List.getElem?_zipWith, hι, hσ, qU]
 -- another object stands in another block
 have hother : ∀ (id' b' : Nat) y, id' ≠ id -> g.ι[id']? = some (.bk b') -> σ[id']? = some y -> y = .dead \/ b' ≠ b := by
   intro id' b' y hne h1 h2
   by_cases hd : y = .dead
   . exact .inl hd
   . refine .inr fun eb => ?_;subst eb;have hg' : (List.zipWith (qU w) g.ι σ)[id']? = some (kV w b' y) := by simp [List.getElem?_zipWith, h1, h2, qU]
     exact y8 hnS hg' vU hne (jU hd) (jU hlive)
 have hzip : List.zipWith (qU w') g.ι (σ.set id ob') = (List.zipWith (qU w) g.ι σ).set id (kV w' b ob') := by
   apply List.ext_getElem?;intro j
   by_cases hj : j = id
   . subst hj;rw [List.getElem?_set_self (by simp; omega)];simp [List.getElem?_zipWith, hι, hidl, qU]
   . rw [List.getElem?_set_ne (by omega)];simp only [List.getElem?_zipWith];rw [List.getElem?_set_ne (by omega)]
     cases h1 : g.ι[j]? with
     | none => rfl
     | some b' =>
       cases h2 : σ[j]? with
       | none => rfl
       | some y =>
         cases b' with
         | un zs => rfl
         | bk b' =>
         rcases hother j b' y hj h1 h2 with rfl | hne
         . rfl
         . show some (kV w' b' y) = some (kV w b' y);rw [vQ (hw b' hne)]
 obtain ⟨r, hr1, hr2⟩ := yk (d := kV w' b ob') vU;have hsub : SubP (jR ((y, u) :: l) ++ kM w' g.ι (σ.set id ob')) (jR ((x, v) :: l) ++ kM w g.ι σ) := by
   have e1 : (jR ((y, u) :: l) ++ kM w' g.ι (σ.set id ob')).Perm ((jA y u ++ kV w' b ob') ++ (jR l ++ r)) := by
     simp only [kM]; rw [hzip, e', zS, zS];refine List.Perm.append_left _ ?_;refine (hr2.append_left _).trans ?_;rw [<- zS, <- zS];exact List.perm_append_comm.append_right r
   have e2 : ((jA x v ++ kV w b ob) ++ (jR l ++ r)).Perm (jR ((x, v) :: l) ++ kM w g.ι σ) := by
     rw [e, hS, zS, zS];refine List.Perm.append_left _ ?_;refine List.Perm.trans ?_ (hr1.symm.append_left _);rw [<- zS, <- zS];exact List.perm_append_comm.append_right r
   exact SubP.perm_left e1 (SubP.perm_right e2 (hown.append_right _))
 refine ⟨by simpa using h.len, fun p hp => by rcases List.mem_cons.1 hp with rfl | hp; exact hy; exact h.vals p (by simp [hp]), fun id' b' y h1 h2 => ?_, hsub.nodup h.nodup, fun k hk => h.sub k (hsub.mem hk), fun k hk => by rw [hs]; exact h.lt k hk, fun k o u hm => ?_, fun id' b' y h1 h2 hm => ?_, fun k hk ext top ht => ?_, h.glob, fun k hz => ?_⟩
 . by_cases hj : id' = id
   . subst hj;rw [hι] at h1; cases h1;rw [List.getElem?_set_self hidl] at h2; cases h2;exact hob
   . rw [List.getElem?_set_ne (by omega)] at h2
     cases b' with
     | un zs => exact h.objo id' (.un zs) y h1 h2
     | bk b' =>
     rcases hother id' b' y hj h1 h2 with rfl | hne
     . trivial
     . exact (h.objs id' b' y h1 h2).mono (hw b' hne) (fun _ _ h => h) (fun _ _ _ h => h) rfl (fun _ _ => rfl)
 . have hne : k ≠ b := fun e => by
     subst e;rw [h.apart id k ob hι hσ (jU hlive) o] at hm; cases hm
   rw [zH (hw k hne)]; exact h.claim k o u hm
 . by_cases hj : id' = id
   . subst hj;rw [hι] at h1; cases h1;exact h.apart id' b ob hι hσ (jU hlive)
   . rw [List.getElem?_set_ne (by omega)] at h2
     rcases hother id' b' y hj h1 h2 with rfl | hne
     . cases hm
     . rw [vQ (hw b' hne)] at hm; exact h.apart id' b' y h1 h2 hm
 . obtain ⟨⟨c, el, fz, q1, q2, q3⟩, q4⟩ := h.spare k hk ext top ht;refine ⟨?_, q4⟩
   by_cases hkb : k = b
   . subst hkb;obtain ⟨c', el', q5, q6⟩ := hsp c el fz q1;exact ⟨c', el', fz, q5, by omega, q3⟩
   . exact ⟨c, el, fz, by rw [hw k hkb]; exact q1, q2, q3⟩
 . obtain ⟨c, el, fz, q1, q2⟩ := h.zs k hz
   by_cases hkb : k = b
   . subst hkb;obtain ⟨c', el', q5, q6⟩ := hsp c el fz q1;exact ⟨c', el', fz, q5, by omega⟩
   . exact ⟨c, el, fz, by rw [hw k hkb]; exact q1, q2⟩
theorem Keep.set {σ : List IObj} {id : Nat} {ob : IObj} {rf : Bool} (h : ∀ n, id < n -> (rf = true -> n <= id) -> (∀ o, σ[id]? = some o -> RLO n o) -> RLO n ob) : Keep σ (σ.set id ob) [(id, rf)] := by
 refine ⟨by simp, fun n hn hw ho id' o hid' hg => ?_⟩
 by_cases hj : id' = id
 . subst hj;have hlt : id' < σ.length := by omega
   rw [List.getElem?_set_self hlt] at hg; cases hg;exact h n hid' (fun hr => hw (id', rf) (by simp) hr) (fun o ho' => ho id' o hid' ho')
 . rw [List.getElem?_set_ne (by omega)] at hg;exact ho id' o hid' hg
theorem Keep.snoc (σ : List IObj) (ob : IObj) : Keep σ (σ ++ [ob]) [] := by
 refine ⟨by simp, fun n hn _ ho id o hid hg => ?_⟩;rw [zL (by omega)] at hg;exact ho id o hid hg
theorem R.appendIn {l : jH} {σ : List IObj} {xs ys : List IVal} {us : List Value} {rf rf' : Bool} {esz cap : Nat} {ad : Addr} {c : Array Value} {el : TypeId} {fz : Nat × Nat} {w' : World}
   (h : R g O ((.sl esz rf xs, .slice (some ad) xs.length cap) :: l) σ w) (h0 : 0 < esz) (hl : ys.length = us.length) (hv : ∀ (i : Nat) y u, ys[i]? = some y -> us[i]? = some u -> V g y u) (hf : ∀ y ∈ ys, yX y)
   (hr : rf' = false -> (∀ x ∈ xs, rf = false) /\ ∀ y ∈ ys, nr2 y = true) (hz : ∀ u ∈ us, u.cells.size = esz) (hroom : xs.length + ys.length <= cap) (hne : ys ≠ []) (hb : w.heap[ad.block]? = some (.cells c el fz))
   (hw : ∀ k, k ≠ ad.block -> w'.heap[k]? = w.heap[k]?) (hs : w'.heap.size = w.heap.size) (hw' : w'.heap[ad.block]? = some (.cells (c.toList.take (ad.off + xs.length * esz) ++ jp us ++ c.toList.drop (ad.off + xs.length * esz + (jp us).length)).toArray el fz))
   (hfl : (jp us).length = ys.length * esz) (h1 : w'.os = w.os) (h2 : w'.tape = w.tape) (h3 : w'.output = w.output) :
   ∃ g', R g' O ((.sl esz rf' (xs ++ ys), .slice (some ad) (xs ++ ys).length cap) :: l) σ w' /\ Grow O g w O g' w' /\ g'.ι = g.ι := by
 have hpos : 0 < ys.length := List.length_pos_iff.2 hne;have hV := h.vals _ (List.mem_cons_self ..);have hownb : ad.block ∈ jA (.sl esz rf xs) (.slice (some ad) xs.length cap) := by
   simp only [jA, zB, kX]; rw [if_neg (by omega)]; simp
 have e : jR ((.sl esz rf xs, .slice (some ad) xs.length cap) :: l) = jA (.sl esz rf xs) (.slice (some ad) xs.length cap) ++ jR l := by simp [jR]
 have hbO : ad.block ∈ O := h.sub _ (by rw [e]; simp [hownb]);have hnl : ad.block ∉ jR l ++ kM w g.ι σ := by
   have hn := h.nodup;rw [e, zS] at hn;exact fun hm => (List.nodup_append.1 hn).2.2 _ hownb _ hm rfl
 simp only at hV
 cases hV with
 | sl _ _ _ vs _ _ esz' hsp hc hl' hv' hf' hr' hz' hcl ho hn =>
 obtain ⟨heq, _, hT⟩ := ho (by omega);subst heq;have hT := hT (by omega);obtain ⟨⟨c', el', fz', hb', hsz, hfz⟩, hnone⟩ := h.spare _ hbO _ _ hT;rw [hb] at hb'; cases hb';have hflx : (jp vs).length = xs.length * esz := by
   have : ∀ us : List Value, (∀ u ∈ us, u.cells.size = esz) -> (jp us).length = us.length * esz := by
     intro us hu
     induction us with
     | nil => simp [jp]
     | cons u us ih =>
       have := ih (fun v hv => hu v (by simp [hv]));simp only [jp, List.flatMap_cons, List.length_append] at this ⊢;rw [this];have := hu u (by simp);simp [this, Nat.add_mul]; omega
   rw [this vs hz', hl']
 have hmul : xs.length * esz + ys.length * esz <= cap * esz := by rw [<- Nat.add_mul]; exact Nat.mul_le_mul_right _ hroom
 let g' : Gh := { g with M := fun b o => if b = ad.block /\ ad.off + xs.length * esz <= o /\ o < ad.off + xs.length * esz + ys.length * esz then (jp us)[o - (ad.off + xs.length * esz)]? else g.M b o
                         T := fun b => if b = ad.block then some (ad.off + (xs.length + ys.length) * esz, ad.off + cap * esz) else g.T b }
 have hMm : ∀ b o v, g.M b o = some v -> g'.M b o = some v := by
   intro b o v hm;simp only [g'];rw [if_neg]
   . exact hm
   . rintro ⟨rfl, h5, _⟩;rw [hnone o h5] at hm; cases hm
 have hcells : ∀ k : Nat, (c.toList.take (ad.off + xs.length * esz) ++ jp us ++ c.toList.drop (ad.off + xs.length * esz + (jp us).length)).toArray[k]? =
     if ad.off + xs.length * esz <= k /\ k < ad.off + xs.length * esz + ys.length * esz then (jp us)[k - (ad.off + xs.length * esz)]? else c[k]? := by
   intro k;have hlen : (c.toList.take (ad.off + xs.length * esz)).length = ad.off + xs.length * esz := by simp; omega
   simp only [List.getElem?_toArray]
   by_cases h5 : k < ad.off + xs.length * esz
   . rw [if_neg (by omega), zS, zL (by omega), List.getElem?_take, if_pos h5]; simp
   . by_cases h6 : k < ad.off + xs.length * esz + ys.length * esz
     . rw [if_pos ⟨by omega, h6⟩, zS, zR (by omega), hlen, zL (by omega)]
     . rw [if_neg (by omega), zR (by simp; omega), List.getElem?_drop];simp only [List.length_append, hlen, hfl];rw [show ad.off + xs.length * esz + ys.length * esz + (k - (ad.off + xs.length * esz + ys.length * esz)) = k by omega];simp
 have hTo : ∀ b, b ≠ ad.block -> g'.T b = g.T b := fun b hb => by simp [g', hb]
 have hSame : kM w' g.ι σ = kM w g.ι σ := by
   simp only [kM];rw [zu (Ke (w := w) (w' := w') ?_)];intro i b y hbi hyi
   by_cases hd : y = .dead
   . subst hd; rfl
   . refine vQ (hw b fun eb => hnl ?_) y;subst eb;exact List.mem_append_right _ (j6 hbi hyi (jU hd))
 have hVn : V g' (.sl esz rf' (xs ++ ys)) (.slice (some ad) (xs ++ ys).length cap) := by
   refine .sl esz rf' (xs ++ ys) (vs ++ us) ad cap esz hsp (by simp; omega) (by simp [hl', hl]) (fun i x v hx hw => ?_) (fun x hx => ?_) (fun hrf x hx => ?_) (fun v hv => ?_) (fun k cc hk => ?_) (fun _ => ⟨rfl, fun he => absurd (List.append_eq_nil_iff.1 he).2 hne, fun _ => ?_⟩) (fun he => absurd (List.append_eq_nil_iff.1 he).2 hne)
   . have hfl0 : ∀ {x v}, V g x v -> yX x -> V g' x v := fun hxv hfx => hxv.mono (fun _ _ h => h) hMm (by rw [jK hfx]; simp)
     by_cases hi : i < xs.length
     . rw [zL hi] at hx;rw [zL (by omega)] at hw;exact hfl0 (hv' i x v hx hw) (hf' x (zM hx))
     . rw [zR (by omega)] at hx;rw [zR (by omega), <- hl'] at hw;exact hfl0 (hv _ x v hx hw) (hf x (zM hx))
   . rcases List.mem_append.1 hx with hx | hx
     . exact hf' x hx
     . exact hf x hx
   . rcases List.mem_append.1 hx with hx | hx
     . exact hr' ((hr hrf).1 x hx) x hx
     . exact (hr hrf).2 x hx
   . rcases List.mem_append.1 hv with hv | hv
     . exact hz' v hv
     . exact hz v hv
   . have e1 : jp (vs ++ us) = jp vs ++ jp us := by simp [jp]
     rw [e1] at hk;simp only [g']
     by_cases hi : k < (jp vs).length
     . rw [zL hi] at hk;rw [if_neg (by omega)];exact hcl k cc hk
     . rw [zR (by omega)] at hk;have := jg hk;rw [if_pos ⟨trivial, by omega, by omega⟩];rw [<- hk]; congr 1; omega
   . simp [g']
 refine ⟨g', ⟨h.len, fun p hp => ?_, fun id b y h4 h5 => ?_, ?_, ?_, fun b hb => by rw [hs]; exact h.lt b hb, fun b o v hm => ?_, fun id b y h4 h5 hm k => ?_, fun b hb ext top ht => ?_, fun k' vs hk' i c hi => hMm _ _ _ (h.glob k' vs hk' i c hi), fun k hz => ?_⟩, ⟨by omega, fun b hb' hbO' => ⟨hw b (fun eb => hbO' (eb ▸ hbO)), hTo b (fun eb => hbO' (eb ▸ hbO)), fun o => ?_⟩, hMm, fun _ _ h => h, fun _ h => .inl h, rfl, h1, h2, h3, fun _ => Nat.le_refl _⟩, rfl⟩
 . rcases List.mem_cons.1 hp with rfl | hp
   . exact hVn
   . refine (h.vals p (by simp [hp])).mono (fun _ _ h => h) hMm fun b hb => hTo b fun eb => hnl ?_;subst eb;refine List.mem_append_left _ ?_;simp only [jR, List.mem_flatten, List.mem_map];exact ⟨_, ⟨p, hp, rfl⟩, hb⟩
 . cases b with
   | un zs => exact h.objo id (.un zs) y h4 h5
   | bk b =>
   by_cases hd : y = .dead
   . subst hd; trivial
   . have hne' : b ≠ ad.block := fun eb => hnl (by subst eb; exact List.mem_append_right _ (j6 h4 h5 (jU hd)));exact (h.objs id b y h4 h5).mono (hw b hne') (fun _ _ h => h) hMm rfl fun b' hb' => hTo b' fun eb => hnl (by subst eb; exact List.mem_append_right _ (j6 h4 h5 hb'))
 . have hsubl : (jR ((.sl esz rf' (xs ++ ys), .slice (some ad) (xs ++ ys).length cap) :: l) ++ kM w' g.ι σ).Sublist (jR ((.sl esz rf xs, .slice (some ad) xs.length cap) :: l) ++ kM w g.ι σ) := by
     rw [hSame, e];have e2 : jR ((.sl esz rf' (xs ++ ys), .slice (some ad) (xs ++ ys).length cap) :: l) = jA (.sl esz rf' (xs ++ ys)) (.slice (some ad) (xs ++ ys).length cap) ++ jR l := by simp [jR]
     rw [e2, zS, zS];refine List.Sublist.append ?_ (.refl _);simp only [jA, zB, kX];rw [if_neg (by omega : ¬ (esz = 0 \/ cap <= xs.length))];split <;> simp
   exact h.nodup.sublist hsubl
 . intro b hb;rw [hSame] at hb
   rcases List.mem_append.1 hb with hb | hb
   . have e2 : jR ((.sl esz rf' (xs ++ ys), .slice (some ad) (xs ++ ys).length cap) :: l) = jA (.sl esz rf' (xs ++ ys)) (.slice (some ad) (xs ++ ys).length cap) ++ jR l := by simp [jR]
     rw [e2] at hb
     rcases List.mem_append.1 hb with hb | hb
     . simp only [jA, zB, kX] at hb;split at hb
       . cases hb
       . simp at hb; subst hb; exact hbO
     . exact h.sub b (by rw [e]; simp [hb])
   . exact h.sub b (List.mem_append_right _ hb)
 . simp only [g'] at hm
   by_cases hbb : b = ad.block
   . subst hbb;have hcell : w'.cell? ⟨ad.block, o, none⟩ = if ad.off + xs.length * esz <= o /\ o < ad.off + xs.length * esz + ys.length * esz then (jp us)[o - (ad.off + xs.length * esz)]? else c[o]? := by
       simp only [World.cell?, hw'];simpa using hcells o
     rw [hcell]
     by_cases hin : ad.off + xs.length * esz <= o /\ o < ad.off + xs.length * esz + ys.length * esz
     . rw [if_pos ⟨rfl, hin⟩] at hm; rw [if_pos hin]; exact hm
     . rw [if_neg (fun h => hin h.2)] at hm; rw [if_neg hin];have := h.claim _ _ _ hm;simpa [World.cell?, hb] using this
   . rw [if_neg (fun h => hbb h.1)] at hm;rw [zH (hw b hbb)]; exact h.claim b o v hm
 . by_cases hd : y = .dead
   . subst hd; cases hm
   . have hne' : b ≠ ad.block := fun eb => hnl (by subst eb; exact List.mem_append_right _ (j6 h4 h5 (jU hd)));rw [vQ (hw b hne')] at hm;simp only [g'];rw [if_neg (fun h => hne' h.1)];exact h.apart id b y h4 h5 hm k
 . by_cases hbb : b = ad.block
   . subst hbb;simp only [g', if_true, zO, zP] at ht;obtain ⟨rfl, rfl⟩ := ht;rw [Nat.add_mul];refine ⟨⟨_, el, fz, hw', ?_, by omega⟩, fun o ho' => ?_⟩
     . simp; omega
     . simp only [g'];rw [if_neg (by omega)];exact hnone o (by omega)
   . rw [hTo b hbb] at ht;obtain ⟨⟨c1, el1, fz1, q1, q2, q3⟩, q4⟩ := h.spare b hb ext top ht;refine ⟨⟨c1, el1, fz1, by rw [hw b hbb]; exact q1, q2, q3⟩, fun o ho' => ?_⟩;simp only [g'];rw [if_neg (fun h => hbb h.1)];exact q4 o ho'
 . obtain ⟨c1, el1, fz1, q1, q2⟩ := h.zs k hz
   by_cases hbb : k = ad.block
   . subst hbb;rw [hb] at q1; cases q1;refine ⟨_, el, fz, hw', Nat.le_trans q2 ?_⟩
     simp; omega
   . exact ⟨c1, el1, fz1, by rw [hw k hbb]; exact q1, q2⟩
 . simp only [g'];rw [if_neg];exact fun h => hbO' (h.1 ▸ hbO)
end Go.Idl
namespace Go.Idl
variable [Globs]
variable {P : Program} {o : Oper} {a : Act} {g : Gh} {O : List Nat} {w : World} {s : St} {res : Res} {cf : jo}
theorem ky (g : Gh) : V g ju undef := .tup [] #[] rfl (by simp) (by simp)
theorem yO {T : TypeId} {v : Value} : (newVar T v).run P w = .ok ⟨w.heap.size, 0, none⟩ (w.alloc (.cells v.cells T)) := by
 simp [newVar, newRow]
theorem j7 (w : World) (c : Array Value) (el : TypeId) (fz : Nat × Nat) : jT (w.alloc (.cells c el fz)) w.heap.size = c.toList := by
 simp only [jT]; rw [jF]
theorem jfY {zs : List IVal} {T : TypeId} {i : TypeInfo} {z : Value} (hop : o.op = .alloc T) (hi : P.info? T = some i) (hz : i.zero = some z) (hc : Xi zs z.cells.toList = true)
   (hs : ja cf (.alloc zs) s = some res) (hl : WT s.ts a.tmps) (hR : R g O (s.ts.roots a.tmps) s.σ w) : SimV P o a g O w s res := by
 simp only [ja, zO] at hs;subst hs;have hrun : (execOp a.eval o).run P w = .ok (.value (.pointer (some ⟨w.heap.size, 0, none⟩))) (w.alloc (.cells z.cells T)) := by
   simp [execOp, hop, Instr.alloc, zeroValue, typeInfo, hi, hz, yO]
 have hnew := (hR.push (ky g) rfl).new (obr := .cells z.cells T) (ob := .cells zs) (fun _ => by
     obtain ⟨h1, h2⟩ := yD (g.fresh w.heap.size) hc;exact ⟨z.cells, T, jF w _, by have := h1; simp at this ⊢; omega, fun i x v hx hv => by
       obtain ⟨q1, _, q3⟩ := h2 i x v hx (by simpa using hv);exact ⟨q1, q3⟩⟩) ⟨[], by
     simp only [kV, j7];rw [flatten_nil];intro c hcm;obtain ⟨i, x, y, h1, h2, rfl⟩ := jN hcm;exact ((yD g hc).2 i x y h1 h2).2.1, by simp⟩
 refine ⟨rfl, _, _, _, hrun, rfl, g.fresh w.heap.size, w.heap.size :: O, [], kH hR _, hnew.push (.ptr _ 0 _ ?_) rfl, hl, rfl, Keep.snoc _ _⟩;simp [Gh.fresh, <- hR.len]
theorem KG {x : IVal} {v : Value} (h : V g x v) (hc : x.cells.all IVal.isCell = true) : (List.zipWith kX x.cells v.cells.toList).flatten = jA x v := by
 cases x with
 | agg xs =>
   obtain ⟨vs, rfl, _⟩ := h.agg_inv;simp [IVal.cells, Value.cells, jA, zB]
 | tup xs => simp [IVal.cells, IVal.isCell] at hc
 | _ =>
   have hi := h.isCell;have hv : v.cells = #[v] := by cases v <;> simp_all [Value.cells, qu, IVal.isCell]
   rw [hv];simp [IVal.cells, jA, zB]
theorem jkZ {x : Opd} {r : Operand} {T : TypeId} (hop : o.op = .box T r) (hx : jl x r = true) (hs : ja cf (.box x) s = some res)
   (hl : WT s.ts a.tmps) (hR : R g O (s.ts.roots a.tmps) s.σ w) : SimV P o a g O w s res := by
 simp only [ja] at hs;split at hs
 . rename_i v ts h;split at hs
   . rename_i hc;simp only [zO] at hs;subst hs;obtain ⟨h1, h2⟩ := jk (l := []) hx h hl hR;have hrun : (execOp a.eval o).run P w = .ok (.value (.pointer (some ⟨w.heap.size, 0, none⟩))) (w.alloc (.cells (a.eval r).cells T)) := by
       simp [execOp, hop, Instr.box, yO]
     have hnew := h1.new (obr := .cells (a.eval r).cells T) (ob := .cells v.cells) (fun hV => by
       obtain ⟨q1, q2⟩ := hV.cells;exact ⟨_, T, jF w _, Nat.le_of_eq q1, fun i x u hx hu => ⟨q2 i x u hx hu, by have := List.all_eq_true.1 hc x (zM hx); exact this⟩⟩) ⟨jA v (a.eval r), by
       simp only [kV, j7];rw [KG h1.head hc], .refl _⟩
     refine ⟨rfl, _, _, _, hrun, rfl, g.fresh w.heap.size, w.heap.size :: O, [], kH hR _, hnew.push (.ptr _ 0 _ ?_) rfl, h2, rfl, Keep.snoc _ _⟩;simp [Gh.fresh, <- hR.len]
   . cases hs
 . cases hs
theorem jia {x : Opd} {r : Operand} {T : TypeId} (hop : o.op = .box T r) (hx : jl x r = true) (hs : ja cf (.boxv x) s = some res)
   (hl : WT s.ts a.tmps) (hR : R g O (s.ts.roots a.tmps) s.σ w) : SimV P o a g O w s res := by
 simp only [ja] at hs;split at hs
 . rename_i v ts h;split at hs
   . rename_i hc;simp only [rv, zO] at hs;subst hs;obtain ⟨h1, h2⟩ := jk (l := []) hx h hl hR;have hrun : (execOp a.eval o).run P w = .ok (.value (.pointer (some ⟨w.heap.size, 0, none⟩))) (w.alloc (.cells (a.eval r).cells T)) := by
       simp [execOp, hop, Instr.box, yO]
     obtain ⟨q1, q2⟩ := h1.head.cells;obtain ⟨g', hR', hg, hι⟩ := h1.drop.newPv (cs := v.cells.map un1) (vs := (a.eval r).cells) (rf := ext v.cells) (el := T) (by simpa using q1) (fun i y u hy hu => by
         simp only [List.getElem?_map, Option.map_eq_some_iff] at hy;obtain ⟨y', hy', rfl⟩ := hy;exact (q2 i y' u hy' hu).un1) (fun y hy => by
         simp only [List.mem_map] at hy;obtain ⟨y', hy', rfl⟩ := hy;exact ⟨zo y', by rw [qQ]; exact List.all_eq_true.1 hc y' hy'⟩) (fun hrf y hy => by
         simp only [List.mem_map] at hy;obtain ⟨y', hy', rfl⟩ := hy;simp only [ext, Bool.not_eq_false', List.all_eq_true] at hrf;have := hrf y' hy';have hcell := List.all_eq_true.1 hc y' hy';cases y' <;> simp_all [nr2, nr1, nr0, un1, IVal.isCell])
     exact ⟨rfl, _, _, _, hrun, rfl, g', O, [], hg, hR', h2, rfl, Keep.refl _⟩
   . cases hs
 . cases hs
theorem zf {T : TypeId} {n : Option Nat} {vs : List Value} {b e off : Nat} {cs : List IVal} {z : IVal} (hT : tyN P T n = true) (hl : cs.length <= vs.length) (hv : ∀ (i : Nat) x u, cs[i]? = some x -> vs[i]? = some u -> V g x u)
   (hi : ∀ x ∈ cs, x.isCell = true) (hm : ∀ (j : Nat) v, vs[j]? = some v -> w.cell? ⟨b, e + j, none⟩ = some v) (hz : kx n cs off = some z) :
   ∃ u, (loadVar T ⟨b, e + off, none⟩).run P w = .ok u w /\ V g z u /\ u.cells.toList = (vs.drop off).take (n.getD 1) /\ (n = none -> qu u = true) /\ (n ≠ none -> ∃ us, u = .agg us) := by
 obtain ⟨h1, i, h2, h3⟩ := VQ (w := w) hT
 cases n with
 | some n =>
   simp only [kx] at hz;split at hz
   . rename_i hlen;simp only [zO] at hz;subst hz;have hload : (loadCells ⟨b, e + off, none⟩ n).run P w = .ok ((vs.drop off).take n).toArray w := by
       have hlen' : ((vs.drop off).take n).length = n := by simp; omega
       have := run_loadCells_list (P := P) (w := w) ⟨b, e + off, none⟩ ((vs.drop off).take n) (fun j v hj => by
         rw [kq, Nat.add_assoc];refine hm _ v ?_;rw [List.getElem?_take] at hj;split at hj
         . simpa using hj
         . cases hj)
       rw [hlen'] at this;exact this
     refine ⟨.agg ((vs.drop off).take n).toArray, ?_, ?_, by simp [Value.cells], by simp, fun _ => ⟨_, rfl⟩⟩
     . simp [loadVar, h1, jP h2, h3, hload]
     . refine .agg _ _ (by simp; omega) (fun j x u hx hu => ?_) (fun x hx => hi x (List.mem_of_mem_drop (List.mem_of_mem_take hx)));simp only [List.getElem?_take, List.getElem?_drop] at hx;split at hx
       . rename_i hj;refine hv _ _ _ hx ?_;simp only [List.getElem?_toArray, List.getElem?_take, List.getElem?_drop] at hu;rw [if_pos hj] at hu;exact hu
       . cases hx
   . cases hz
 | none =>
   simp only [kx] at hz;obtain ⟨u, hu⟩ : ∃ u, vs[off]? = some u := ⟨vs[off]'(Nat.lt_of_lt_of_le (List.getElem?_eq_some_iff.1 hz).1 hl), by simp⟩;have hV := hv _ _ _ hz hu;have hcell := hi z (zM hz);have hcu : qu u = true := by rw [<- hV.isCell]; exact hcell
   refine ⟨u, ?_, hV, ?_, fun _ => hcu, fun h => absurd rfl h⟩
   . have := hm off u hu;simp [loadVar, h1, load, Sem.run, this]
   . have e1 : u.cells = #[u] := by cases u <;> simp_all [Value.cells, qu]
     rw [e1];have hlt := jg hu;have e2 : (vs.drop off).take 1 = [u] := by
       rw [List.drop_eq_getElem_cons hlt];have := (List.getElem?_eq_some_iff.1 hu).2;simp [this]
     simpa using e2.symm
theorem zd : ∀ (ws cs : List IVal) (off : Nat), off + ws.length <= cs.length -> ji cs off ws = cs.take off ++ ws ++ cs.drop (off + ws.length) := by
 intro ws
 induction ws with
 | nil => intro cs off h; simp [ji]
 | cons v ws ih =>
   intro cs off h;simp at h;simp only [ji];rw [ih (cs.set off v) (off + 1) (by simp; omega)];have h1 : (cs.set off v).take (off + 1) = cs.take off ++ [v] := by
     rw [List.take_set, List.take_add_one, List.set_append_right _ _ (by simp; omega)];have : off < cs.length := by omega
     simp [List.length_take, Nat.min_eq_left (Nat.le_of_lt this), List.getElem?_eq_getElem this]
   rw [h1, List.drop_set_of_lt (by omega)];simp [Nat.add_assoc, Nat.add_comm 1]
theorem zt {f : IVal -> Value -> List Nat} {a b : List IVal} {c d : List Value} (h : a.length = c.length) : List.zipWith f (a ++ b) (c ++ d) = List.zipWith f a c ++ List.zipWith f b d := List.zipWith_append h
theorem jco {α : Type} (cs : List α) (off n : Nat) : cs = cs.take off ++ (cs.drop off).take n ++ cs.drop (off + n) := by
 rw [zS, show cs.drop (off + n) = (cs.drop off).drop n by rw [List.drop_drop], List.take_append_drop, List.take_append_drop]
theorem VG {cs ws : List IVal} {c us : List Value} {off : Nat} (hl : cs.length <= c.length) (hw : ws.length = us.length) (h : off + ws.length <= cs.length) :
   ∃ A C, (List.zipWith kX (ji cs off ws) (c.take off ++ us ++ c.drop (off + us.length))).flatten = A ++ (List.zipWith kX ws us).flatten ++ C /\
     (List.zipWith kX cs c).flatten = A ++ (List.zipWith kX ((cs.drop off).take ws.length) ((c.drop off).take us.length)).flatten ++ C := by
 refine ⟨(List.zipWith kX (cs.take off) (c.take off)).flatten, (List.zipWith kX (cs.drop (off + ws.length)) (c.drop (off + us.length))).flatten, ?_, ?_⟩
 . rw [zd _ _ _ h, zt (by simp [hw]; omega), zt (by simp; omega)];simp
 . have e1 := jco cs off ws.length;have e2 := jco c off us.length
   conv => lhs; rw [e1, e2]
   rw [zt (by simp; omega), zt (by simp; omega)];simp
theorem qn {cs ws : List IVal} {off : Nat} (h : off + ws.length <= cs.length) (i : Nat) : (ji cs off ws)[i]? = if off <= i /\ i < off + ws.length then ws[i - off]? else cs[i]? := by
 rw [zd _ _ _ h];have hl : (cs.take off).length = off := by simp; omega
 by_cases h1 : i < off
 . rw [if_neg (by omega), zS, zL (by omega), List.getElem?_take, if_pos h1]
 . by_cases h2 : i < off + ws.length
   . rw [if_pos ⟨by omega, h2⟩, zS, zR (by omega), hl, zL (by omega)]
   . rw [if_neg (by omega), zR (by simp; omega), List.getElem?_drop];simp only [List.length_append, hl]
     congr 1; omega
theorem kQ {cs ws : List IVal} {off : Nat} (h : off + ws.length <= cs.length) : (ji cs off ws).length = cs.length := by
 rw [zd _ _ _ h]; simp; omega
theorem QY {c us : List Value} {off : Nat} (h : off + us.length <= c.length) (i : Nat) : (c.take off ++ us ++ c.drop (off + us.length))[i]? = if off <= i /\ i < off + us.length then us[i - off]? else c[i]? := by
 have hl : (c.take off).length = off := by simp; omega
 by_cases h1 : i < off
 . rw [if_neg (by omega), zS, zL (by omega), List.getElem?_take, if_pos h1]
 . by_cases h2 : i < off + us.length
   . rw [if_pos ⟨by omega, h2⟩, zS, zR (by omega), hl, zL (by omega)]
   . rw [if_neg (by omega), zR (by simp; omega), List.getElem?_drop];simp only [List.length_append, hl]
     congr 1; omega
end Go.Idl
namespace Go.Idl
variable [Globs]
variable {P : Program} {o : Oper} {a : Act} {g : Gh} {O : List Nat} {w : World} {s : St} {res : Res} {cf : jo}
theorem Ki {n : Option Nat} {cs : List IVal} {off : Nat} {z : IVal} (h : kx n cs off = some z) (hi : ∀ x ∈ cs, x.isCell = true) :
   z.cells = (cs.drop off).take (n.getD 1) /\ off + n.getD 1 <= cs.length /\ nt z = true /\ (un2 z).cells = ((cs.drop off).take (n.getD 1)).map un1 /\ z.cells.all IVal.isCell = true := by
 cases n with
 | some n =>
   simp only [kx] at h;split at h
   . rename_i hlen;simp only [zO] at h;subst h;refine ⟨rfl, hlen, rfl, rfl, ?_⟩;simp only [IVal.cells, List.all_eq_true];exact fun x hx => hi x (List.mem_of_mem_drop (List.mem_of_mem_take hx))
   . cases h
 | none =>
   simp only [kx] at h;have hlt := jg h;have hc := hi z (zM h);have e2 : (cs.drop off).take 1 = [z] := by
     rw [List.drop_eq_getElem_cons hlt];have := (List.getElem?_eq_some_iff.1 h).2;simp [this]
   have e1 : z.cells = [z] := by cases z <;> simp_all [IVal.cells, IVal.isCell]
   have e3 : (un2 z).cells = [un1 z] := by cases z <;> simp_all [IVal.cells, IVal.isCell, un2, un1]
   refine ⟨by rw [e1]; exact e2.symm, by simp only [Option.getD_none]; omega, by cases z <;> simp_all [nt, IVal.isCell], ?_, by rw [e1]; simp [hc]⟩;rw [e3];simp only [Option.getD_none];rw [e2]; rfl
theorem YG {cs : List IVal} (h : ∀ c ∈ cs, un1 c = c) (vs : List Value) : (List.zipWith kX cs vs).flatten = [] := by
 apply flatten_nil;intro c hc;obtain ⟨i, x, y, h1, _, rfl⟩ := jN hc;exact kY (h x (zM h1)) y
theorem Qa {x : IVal} {v : Value} (h : V g x v) (hc : x.cells.all IVal.isCell = true) : jA x v = (List.zipWith kX x.cells v.cells.toList).flatten := (KG h hc).symm
theorem Q8 {n : Nat} {cs ws : List IVal} {off : Nat} (h : off + ws.length <= cs.length) (h1 : RLO n (.cells cs)) (h2 : ∀ x ∈ ws, RL n x) : RLO n (.cells (ji cs off ws)) := by
 intro x hx;rw [zd _ _ _ h] at hx
 rcases List.mem_append.1 hx with hx | hx
 . rcases List.mem_append.1 hx with hx | hx
   . exact h1 x (List.mem_of_mem_take hx)
   . exact h2 x hx
 . exact h1 x (List.mem_of_mem_drop hx)
theorem jI {σ : List IObj} {id : Nat} {cs : List IVal} (h : jt σ id = some cs) : σ[id]? = some (.cells cs) := by
 unfold jt at h;split at h
 . simp at h; subst h; assumption
 . cases h
theorem R.loadMove {l : jH} {σ : List IObj} {n : Option Nat} {T : TypeId} {id off b : Nat} {cs : List IVal} {z : IVal} (h1 : R g O l σ w) (hι : g.ι[id]? = some (.bk b)) (hσ : σ[id]? = some (.cells cs)) (hT : tyN P T n = true) (hz : kx n cs off = some z) :
   ∃ u, (loadVar T ⟨b, off, none⟩).run P w = .ok u w /\ R g O ((z, u) :: l) (σ.set id (.cells (ji cs off (un2 z).cells))) w /\ Keep σ (σ.set id (.cells (ji cs off (un2 z).cells))) [(id, false)] /\ nt z = true := by
 obtain ⟨c, el, hh, hsz, hc⟩ := h1.objs id b _ hι hσ;have hvc : ∀ (i : Nat) x u, cs[i]? = some x -> c.toList[i]? = some u -> V g x u := fun i x u hx hu => (hc i x u hx (by simpa using hu)).1;have hic : ∀ x ∈ cs, x.isCell = true := fun x hx => by
   obtain ⟨i, hi⟩ := jx hx;obtain ⟨u, hu⟩ := Ku hsz hi;exact (hc i x u hi hu).2
 obtain ⟨u, hrun, hV, hu, _⟩ := zf (w := w) (b := b) (e := 0) hT (by simpa using hsz) hvc hic (fun j v hj => by simp [World.cell?, hh]; simpa using hj) hz;rw [Nat.zero_add] at hrun;obtain ⟨q1, q2, q3, q4, q5⟩ := Ki hz hic;have hlen : ((un2 z).cells).length = n.getD 1 := by rw [q4]; simp; omega
 have vB : off + ((un2 z).cells).length <= cs.length := by rw [hlen]; exact q2
 have hulen : u.cells.toList.length = n.getD 1 := by rw [hu]; simp; omega
 have hsame : c.toList.take off ++ u.cells.toList ++ c.toList.drop (off + u.cells.toList.length) = c.toList := by
   rw [hulen, hu]; exact (jco c.toList off (n.getD 1)).symm
 have hOB : OBJ g w b (.cells (ji cs off (un2 z).cells)) := by
   refine ⟨c, el, hh, by rw [kQ vB]; exact hsz, fun i x v hx hv => ?_⟩;rw [qn vB] at hx;split at hx
   . rename_i hi;rw [q4] at hx;simp only [List.getElem?_map, Option.map_eq_some_iff] at hx;obtain ⟨x', hx', rfl⟩ := hx;rw [List.getElem?_take] at hx';split at hx'
     . rw [List.getElem?_drop, show off + (i - off) = i by omega] at hx';exact ⟨(hc i x' v hx' hv).1.un1, by rw [qQ]; exact (hc i x' v hx' hv).2⟩
     . cases hx'
   . exact hc i x v hx hv
 have hR' := (h1.push (ky g) rfl).upd (y := z) (u := u) (id := id) (b := b) (ob := .cells cs) (ob' := .cells (ji cs off (un2 z).cells)) (w' := w) hV hι hσ (by simp) (fun _ _ => rfl) rfl (fun c el fz hc => ⟨c, el, hc, rfl⟩) hOB (by
   simp only [kV, jT, hh];obtain ⟨A, C, e1, e2⟩ := VG (cs := cs) (ws := (un2 z).cells) (c := c.toList) (us := u.cells.toList) (off := off) (by simpa using hsz) (by rw [hlen, hulen]) vB;rw [hsame] at e1;have e3 : (List.zipWith kX (un2 z).cells u.cells.toList).flatten = [] := YG (fun x hx => by
     rw [q4] at hx; simp only [List.mem_map] at hx; obtain ⟨x', _, rfl⟩ := hx; exact zo x') _
   rw [e3, List.append_nil] at e1;have e4 : (List.zipWith kX ((cs.drop off).take (un2 z).cells.length) ((c.toList.drop off).take u.cells.toList.length)).flatten = jA z u := by
     rw [Qa hV q5, hlen, q1, hulen, <- hu]
   rw [e4] at e2;rw [e1, e2];refine SubP.perm_left ?_ (SubP.refl _);have : (jA z u ++ b :: (A ++ C)).Perm (b :: (jA z u ++ (A ++ C))) := List.perm_middle;refine this.trans ?_;show (b :: (jA z u ++ (A ++ C))).Perm (jA ju undef ++ b :: (A ++ jA z u ++ C));have e0 : jA ju undef = [] := rfl;rw [e0, List.nil_append];refine List.Perm.cons _ ?_;rw [<- zS, zS A];rw [<- zS];exact List.perm_append_comm.append_right C)
 refine ⟨u, hrun, hR', Keep.set fun m _ _ ho => ?_, q3⟩;refine Q8 vB (ho _ hσ) (fun x hx => ?_);rw [q4] at hx; simp only [List.mem_map] at hx;obtain ⟨x', hx', rfl⟩ := hx;exact (ho _ hσ x' (List.mem_of_mem_drop (List.mem_of_mem_take hx'))).un1
theorem jig {mvf : Bool} {n : Option Nat} {x : Opd} {r : Operand} {T : TypeId} (hop : o.op = .load T r) (hx : jl x r = true) (hT : tyN P T n = true) (hs : ja cf (.load mvf n x) s = some res)
   (hl : WT s.ts a.tmps) (hR : R g O (s.ts.roots a.tmps) s.σ w) : SimV P o a g O w s res := by
 simp only [ja] at hs;split at hs
 . rename_i rf cs off ts h;split at hs
   . rename_i z hz;simp only [rv, zO] at hs;subst hs;obtain ⟨h1, h2⟩ := jk (l := []) hx h hl hR;obtain ⟨vs, b, e, hb, hl', hv, hf, hr, hm⟩ := h1.head.pv_inv;obtain ⟨u, hrun, hV, hu, _⟩ := zf (w := w) hT (Nat.le_of_eq hl') hv (fun x hx => (hf x hx).2) (fun j v hj => h1.claim _ _ _ (hm j v hj)) hz;obtain ⟨q1, q2, q3, q4, q5⟩ := Ki hz (fun x hx => (hf x hx).2);refine SimV.same (v' := u) ?_ (h1.drop.push hV ?_) h2
     . simp [execOp, hop, hb, Instr.loadAt, Instr.sureAddr, hrun]
     . rw [Qa hV q5, q1];exact YG (fun c hc => (hf c (List.mem_of_mem_drop (List.mem_of_mem_take hc))).1) _
   . cases hs
 . rename_i id off ts h;split at hs
   . rename_i cs hcs;split at hs
     . rename_i z hz;obtain ⟨h1, h2⟩ := jk (l := []) hx h hl hR;obtain ⟨b, hb, hι⟩ := h1.head.ptr_inv;have hσ := jI hcs;obtain ⟨c, el, hh, hsz, hc⟩ := h1.objs id b _ hι hσ;have hvc : ∀ (i : Nat) x u, cs[i]? = some x -> c.toList[i]? = some u -> V g x u := fun i x u hx hu => (hc i x u hx (by simpa using hu)).1;have hic : ∀ x ∈ cs, x.isCell = true := fun x hx => by
         obtain ⟨i, hi⟩ := jx hx;obtain ⟨u, hu⟩ := Ku hsz hi;exact (hc i x u hi hu).2
       obtain ⟨u, hrun, hV, hu, _⟩ := zf (w := w) (b := b) (e := 0) hT (by simpa using hsz) hvc hic (fun j v hj => by simp [World.cell?, hh]; simpa using hj) hz;rw [Nat.zero_add] at hrun;obtain ⟨q1, q2, q3, q4, q5⟩ := Ki hz hic;have hexec : (execOp a.eval o).run P w = .ok (.value u) w := by simp [execOp, hop, hb, Instr.loadAt, Instr.sureAddr, hrun]
       split at hs
       . simp only [zO] at hs;subst hs;have hlen : ((un2 z).cells).length = n.getD 1 := by rw [q4]; simp; omega
         have vB : off + ((un2 z).cells).length <= cs.length := by rw [hlen]; exact q2
         have hulen : u.cells.toList.length = n.getD 1 := by rw [hu]; simp; omega
         have hsame : c.toList.take off ++ u.cells.toList ++ c.toList.drop (off + u.cells.toList.length) = c.toList := by
           rw [hulen, hu]; exact (jco c.toList off (n.getD 1)).symm
         have hOB : OBJ g w b (.cells (ji cs off (un2 z).cells)) := by
           refine ⟨c, el, hh, by rw [kQ vB]; exact hsz, fun i x v hx hv => ?_⟩;rw [qn vB] at hx;split at hx
           . rename_i hi;rw [q4] at hx;simp only [List.getElem?_map, Option.map_eq_some_iff] at hx;obtain ⟨x', hx', rfl⟩ := hx;rw [List.getElem?_take] at hx';split at hx'
             . rw [List.getElem?_drop, show off + (i - off) = i by omega] at hx';exact ⟨(hc i x' v hx' hv).1.un1, by rw [qQ]; exact (hc i x' v hx' hv).2⟩
             . cases hx'
           . exact hc i x v hx hv
         have hR' := (h1.drop.push (ky g) rfl).upd (y := z) (u := u) (id := id) (b := b) (ob := .cells cs) (ob' := .cells (ji cs off (un2 z).cells)) (w' := w) hV hι hσ (by simp) (fun _ _ => rfl) rfl (fun c el fz hc => ⟨c, el, hc, rfl⟩) hOB (by
           simp only [kV, jT, hh];obtain ⟨A, C, e1, e2⟩ := VG (cs := cs) (ws := (un2 z).cells) (c := c.toList) (us := u.cells.toList) (off := off) (by simpa using hsz) (by rw [hlen, hulen]) vB;rw [hsame] at e1;have e3 : (List.zipWith kX (un2 z).cells u.cells.toList).flatten = [] := YG (fun x hx => by
             rw [q4] at hx; simp only [List.mem_map] at hx; obtain ⟨x', _, rfl⟩ := hx; exact zo x') _
           rw [e3, List.append_nil] at e1;have e4 : (List.zipWith kX ((cs.drop off).take (un2 z).cells.length) ((c.toList.drop off).take u.cells.toList.length)).flatten = jA z u := by
             rw [Qa hV q5, hlen, q1, hulen, <- hu]
           rw [e4] at e2;rw [e1, e2];refine SubP.perm_left ?_ (SubP.refl _);have : (jA z u ++ b :: (A ++ C)).Perm (b :: (jA z u ++ (A ++ C))) := List.perm_middle;refine this.trans ?_;show (b :: (jA z u ++ (A ++ C))).Perm (jA ju undef ++ b :: (A ++ jA z u ++ C));have e0 : jA ju undef = [] := rfl;rw [e0, List.nil_append];refine List.Perm.cons _ ?_;rw [<- zS, zS A];rw [<- zS];exact List.perm_append_comm.append_right C)
         refine ⟨rfl, u, w, _, hexec, rfl, g, O, [(id, false)], .refl O g w, hR', h2, rfl, Keep.set fun m _ _ ho => ?_⟩;refine Q8 vB (ho _ hσ) (fun x hx => ?_);rw [q4] at hx; simp only [List.mem_map] at hx;obtain ⟨x', hx', rfl⟩ := hx;exact (ho _ hσ x' (List.mem_of_mem_drop (List.mem_of_mem_take hx'))).un1
       . simp only [rv, zO] at hs;subst hs;exact SimV.same hexec (h1.drop.push hV.un2 (jK (kO q3) _)) h2
     . cases hs
   . cases hs
 . cases hs
theorem yK {v : Value} (h : qu v = true) : v.oneCell' = true := by cases v <;> simp_all [qu, Value.oneCell']
theorem qE (w : World) (b : Nat) (c : Array Value) : (w.setRow b c).os = w.os /\ (w.setRow b c).tape = w.tape /\ (w.setRow b c).output = w.output /\ (w.setRow b c).heap.size = w.heap.size := by
 simp [World.setRow]
theorem jf3 {n : Nat} {x y : Opd} {rx ry : Operand} {T : TypeId} {i : TypeInfo} (hop : o.op = .store T rx ry) (hx : jl x rx = true) (hy : jl y ry = true) (hT : P.info? T = some i) (hn : i.size = n) (hs : ja cf (.store n x y) s = some res)
   (hl : WT s.ts a.tmps) (hR : R g O (s.ts.roots a.tmps) s.σ w) : SimV P o a g O w s res := by
 simp only [ja] at hs;split at hs
 . rename_i id off ts h;split at hs
   . rename_i v ts' h';split at hs
     . rename_i cs hcs;split at hs
       . rename_i hc3;simp only [zO] at hs;subst hs;obtain ⟨hvn, hlen, hcell⟩ := hc3;obtain ⟨h1, h2⟩ := jk (l := []) hx h hl hR;obtain ⟨h3, h4⟩ := jk (l := [(.ptr id off, a.eval rx)]) hy h' h2 h1;obtain ⟨b, hb, hι⟩ := h3.drop.head.ptr_inv;have hσ := jI hcs;obtain ⟨c, el, hh, hsz, hc⟩ := h3.objs id b _ hι hσ;have hV := h3.head;obtain ⟨p1, p2⟩ := hV.cells;have vB : off + v.cells.length <= cs.length := by omega
         have hun : (a.eval ry).cells.toList.length = n := by rw [Array.length_toList, <- p1]; exact hvn
         have hput' : off + (a.eval ry).cells.toList.length <= c.toList.length := by rw [hun, Array.length_toList]; omega
         have hones : ∀ u ∈ (a.eval ry).cells.toList, u.oneCell' = true := by
           intro u hu;obtain ⟨j, hj⟩ := jx hu;have hj' : (a.eval ry).cells[j]? = some u := by simpa using hj
           obtain ⟨x, hx⟩ : ∃ x, v.cells[j]? = some x := by
             have := (Array.getElem?_eq_some_iff.1 hj').1;exact ⟨v.cells[j]'(by omega), by simp⟩
           have hVj := p2 j x u hx hj';exact yK (by rw [<- hVj.isCell]; exact List.all_eq_true.1 hcell x (zM hx))
         let row := (c.toList.take off ++ (a.eval ry).cells.toList ++ c.toList.drop (off + (a.eval ry).cells.toList.length)).toArray
         have hst : (storeCells ⟨b, off, none⟩ (a.eval ry).cells.toList).run P w = .ok () (w.setRow b row) := by
           have := run_storeCells_atF P b off el (0, 0) (a.eval ry).cells.toList 0 c w hh (by simp) (by simpa using hput') hones;simpa [row] using this
         have hexec : (execOp a.eval o).run P w = .ok .skip (w.setRow b row) := by
           have hne : (a.eval ry).cells.size = i.size := by rw [hn]; simpa using hun
           simp [execOp, hop, hb, Instr.storeAt, Instr.sureAddr, storeVar, jP hT, hne, hst]
         have hrow : (w.setRow b row).heap[b]? = some (.cells row el (0, 0)) := setRow_heap w b c row el _ hh;have hOB : OBJ g (w.setRow b row) b (.cells (ji cs off v.cells)) := by
           refine ⟨row, el, hrow, ?_, fun j x u hxj huj => ?_⟩
           . rw [kQ vB]; simp [row]; simp at hput' hun; omega
           . rw [qn vB] at hxj;have huj' : (c.toList.take off ++ (a.eval ry).cells.toList ++ c.toList.drop (off + (a.eval ry).cells.toList.length))[j]? = some u := by simpa [row] using huj
             rw [QY hput', hun] at huj';rw [hvn] at hxj;split at hxj
             . rename_i hj;rw [if_pos hj] at huj';have huj'' : (a.eval ry).cells[j - off]? = some u := by simpa using huj'
               exact ⟨p2 _ _ _ hxj huj'', List.all_eq_true.1 hcell x (zM hxj)⟩
             . rename_i hj;rw [if_neg hj] at huj';exact hc j x u hxj (by simpa using huj')
         have hf := qE w b row;have hroot : R g O ((v, a.eval ry) :: ts'.roots a.tmps) s.σ w := by
           have := h3.perm (.swap _ _ _);exact this.drop
         have hR' := hroot.upd (y := ju) (u := undef) (id := id) (b := b) (ob := .cells cs) (ob' := .cells (ji cs off v.cells)) (w' := w.setRow b row) (ky g) hι hσ (by simp) (fun k hk => setRow_other w b k row hk) hf.2.2.2 (fun c' el' fz' hc' => by
           rw [hh] at hc'; cases hc';exact ⟨row, el, hrow, by simp [row]; simp at hput'; omega⟩) hOB (by
           simp only [kV, jT, hh, hrow];obtain ⟨A, C, e1, e2⟩ := VG (cs := cs) (ws := v.cells) (c := c.toList) (us := (a.eval ry).cells.toList) (off := off) (by simpa using hsz) (by rw [hun, hvn]) vB;rw [show row.toList = c.toList.take off ++ (a.eval ry).cells.toList ++ c.toList.drop (off + (a.eval ry).cells.toList.length) from rfl, e1, e2, KG hV hcell];show SubP (b :: (A ++ jA v (a.eval ry) ++ C)) (jA v (a.eval ry) ++ b :: (A ++ _ ++ C));refine SubP.perm_right (List.perm_middle.symm) ?_;refine SubP.append_left [b] ?_;refine SubP.perm_left (a := jA v (a.eval ry) ++ (A ++ C)) ?_ ?_
           . rw [<- zS]; exact List.perm_append_comm.append_right C
           . refine SubP.append_left _ (SubP.of_sub ?_);rw [zS];exact List.Sublist.append (.refl _) (List.sublist_append_right _ _))
         refine ⟨rfl, undef, _, _, hexec, rfl, g, O, [(id, !(v.cells.all nr1))], ?_, hR', h4, rfl, Keep.set fun m hid hm ho => ?_⟩
         . exact Grow.of_setRow g w (h1.sub b (List.mem_append_right _ (j6 hι hσ (by simp [kV])))) _ (fun k hk => setRow_other w b k row hk) hf.2.2.2 hf.1 hf.2.1 hf.2.2.1
         . refine Q8 vB (ho _ hσ) (fun x hx => ?_);obtain ⟨j, hj⟩ := jx hx;obtain ⟨u, hu⟩ := jZ p1 hj;have hVx := p2 j x u hj hu
           by_cases hnr : v.cells.all nr1 = true
           . exact hVx.norl m (kJ (vF (List.all_eq_true.1 hnr x hx)))
           . exact absurd (hm (by simpa using hnr)) (by omega)
       . cases hs
     . cases hs
   . cases hs
 . cases hs
end Go.Idl
namespace Go.Idl
variable [Globs]
variable {P : Program} {o : Oper} {a : Act} {g : Gh} {O : List Nat} {w : World} {s : St} {res : Res} {cf : jo}
theorem jg5 : ∀ (vs : List Value) (k off : Nat) (c : Array Value), off + k + vs.length <= c.size ->
   ((vs.zipIdx k).foldl (fun cs p => cs.setIfInBounds (off + p.2) p.1) c).toList = c.toList.take (off + k) ++ vs ++ c.toList.drop (off + k + vs.length) := by
 intro vs
 induction vs with
 | nil => intro k off c h; simp
 | cons v vs ih =>
   intro k off c h;simp at h;simp only [List.zipIdx_cons, List.foldl_cons];rw [ih (k + 1) off _ (by simp; omega)];have hk : off + k < c.toList.length := by simp; omega
   rw [Array.toList_setIfInBounds];have h1 : (c.toList.set (off + k) v).take (off + (k + 1)) = c.toList.take (off + k) ++ [v] := by
     rw [<- Nat.add_assoc, List.take_set, List.take_add_one, List.set_append_right _ _ (by simp; omega)];have hm : min (off + k) c.toList.length = off + k := by omega
     simp only [List.length_take, hm, Nat.sub_self, List.getElem?_eq_getElem hk];simp
   rw [h1, List.drop_set_of_lt (by omega)];simp [Nat.add_assoc, Nat.add_comm 1]
theorem Zu {v : Value} {off : Nat} {c : Array Value} (h : off + v.cells.size <= c.size) :
   (v.cells.zipIdx.foldl (fun cs (p : Value × Nat) => cs.setIfInBounds (off + p.2) p.1) c).toList = c.toList.take off ++ v.cells.toList ++ c.toList.drop (off + v.cells.toList.length) := by
 have := jg5 v.cells.toList 0 off c (by simpa using h);simp only [Nat.add_zero] at this;rw [<- this, <- Array.foldl_toList];simp [Array.toList_zipIdx]
theorem jg2 {place : Nat -> Option (Nat × Nat)} : ∀ {qs : List (Nat × Nat × IVal)} {ps : List (Nat × Value)} {cs cs' : List IVal} {c : Array Value}, qs.length = ps.length ->
   (∀ (j : Nat) q p, qs[j]? = some q -> ps[j]? = some p -> place p.1 = some (q.1, q.2.1) /\ V g q.2.2 p.2 /\ yX q.2.2) -> cs.length = c.size -> (∀ (i : Nat) x v, cs[i]? = some x -> c[i]? = some v -> V g x v /\ x.isCell = true /\ kX x v = []) ->
   jaP cs qs = some cs' -> ∃ c' : Array Value, Instr.fill place c ps = some c' /\ cs'.length = c'.size /\ ∀ (i : Nat) x v, cs'[i]? = some x -> c'[i]? = some v -> V g x v /\ x.isCell = true /\ kX x v = [] := by
 intro qs
 induction qs with
 | nil =>
   intro ps cs cs' c hl _ hc hv hf;cases ps <;> simp at hl;simp [jaP] at hf;subst hf;exact ⟨c, rfl, hc, hv⟩
 | cons q qs ih =>
   intro ps cs cs' c hl hp hc hv hf
   cases ps with
   | nil => simp at hl
   | cons p ps =>
     obtain ⟨off, size, x⟩ := q;obtain ⟨i, v⟩ := p;obtain ⟨h1, h2, h3⟩ := hp 0 _ _ rfl rfl;simp only at h1 h2 h3;simp only [jaP] at hf;split at hf
     . rename_i hcond;obtain ⟨hsz, hlen, hcell⟩ := hcond;obtain ⟨q1, q2⟩ := h2.cells;have vB : off + x.cells.length <= cs.length := by omega
       have hfill : Instr.fill place c ((i, v) :: ps) = Instr.fill place (v.cells.zipIdx.foldl (fun cs (c, j) => cs.setIfInBounds (off + j) c) c) ps := by
         simp only [Instr.fill, h1];rw [if_neg (by simp; omega)]
       rw [hfill];have hto := Zu (v := v) (off := off) (c := c) (by omega);refine ih (by simpa using hl) (fun j q p hq hp' => hp (j + 1) q p (by simpa using hq) (by simpa using hp')) ?_ (fun j y u hy hu => ?_) hf
       . rw [kQ vB, <- Array.length_toList];rw [hto]; simp; omega
       . rw [qn vB] at hy;have hu' : (c.toList.take off ++ v.cells.toList ++ c.toList.drop (off + v.cells.toList.length))[j]? = some u := by rw [<- hto]; simpa using hu
         rw [QY (by simp; omega)] at hu';have e : v.cells.toList.length = x.cells.length := by rw [q1]; simp
         rw [e] at hu';split at hy
         . rename_i hj;rw [if_pos hj] at hu';have hVj := q2 _ _ _ hy (by simpa using hu');have hm := zM hy;exact ⟨hVj, List.all_eq_true.1 hcell y hm, kY (JN h2 h3 y hm).1 u⟩
         . rename_i hj;rw [if_neg hj] at hu';exact hv j y u hy (by simpa using hu')
     . cases hf
theorem QT {vs : List IVal} {us : List Value} {l : jH} {σ : List IObj} (h : R g O (vs.zip us ++ l) σ w) {i : Nat} {x : IVal} {u : Value} (hx : vs[i]? = some x) (hu : us[i]? = some u) : V g x u :=
 KB (fun p hp => h.vals p (by simp [hp])) hx hu
def Kf (place : Nat -> Option (Nat × Nat)) : List (Nat × Nat × Opd) -> List (Nat × Operand) -> Bool
 | [], [] => true
 | q :: qs, p :: ps => place p.1 == some (q.1, q.2.1) && jl q.2.2 p.2 && Kf place qs ps
 | _, _ => false
theorem ZP {place : Nat -> Option (Nat × Nat)} : ∀ {qs : List (Nat × Nat × Opd)} {ps : List (Nat × Operand)}, Kf place qs ps = true -> jD (qs.map (·.2.2)) (ps.map (·.2)) = true /\ qs.length = ps.length /\
   ∀ (j : Nat) q p, qs[j]? = some q -> ps[j]? = some p -> place p.1 = some (q.1, q.2.1) := by
 intro qs
 induction qs with
 | nil => intro ps h; cases ps <;> simp [Kf, jD] at h ⊢
 | cons q qs ih =>
   intro ps h
   cases ps with
   | nil => simp [Kf] at h
   | cons p ps =>
     simp [Kf] at h;obtain ⟨⟨h1, h2⟩, h3⟩ := h;obtain ⟨i1, i2, i3⟩ := ih h3;refine ⟨by simp [jD, h2, i1], by simp [i2], fun j q' p' hq hp => ?_⟩
     cases j with
     | zero => simp at hq hp; subst hq hp; exact h1
     | succ j => simp at hq hp; exact i3 j q' p' hq hp
theorem jfZ {zs : List IVal} {parts : List (Nat × Nat × Opd)} {T : TypeId} {rparts : Array (Nat × Operand)} {z : Value} {place : Nat -> Option (Nat × Nat)} (hop : o.op = .build T rparts) (hc : Xi zs z.cells.toList = true)
   (hplace : ∀ (ps : Array (Nat × Value)) cells, Instr.fill place z.cells ps.toList = some cells -> (Instr.build T ps).run P w = .ok (.agg cells) w) (hp : Kf place parts rparts.toList = true)
   (hs : ja cf (.build zs parts) s = some res) (hl : WT s.ts a.tmps) (hR : R g O (s.ts.roots a.tmps) s.σ w) : SimV P o a g O w s res := by
 simp only [ja] at hs;split at hs
 . rename_i vs ts h;split at hs
   case isFalse => cases hs
   rename_i hnt;split at hs
   . rename_i cs hcs;simp only [rv, zO] at hs;subst hs;obtain ⟨p1, p2, p3⟩ := ZP hp;obtain ⟨h1, h2, h3⟩ := jX (l := []) p1 h hl hR;obtain ⟨c1, c2⟩ := yD g hc;have hlen := j8 h;simp at hlen;obtain ⟨c', f1, f2, f3⟩ := jg2 (g := g) (place := place) (ps := (rparts.map fun (i, x) => (i, a.eval x)).toList) (c := z.cells) (by simp; simp at h3 p2; omega) (fun j q p hq hp' => by
       simp only [List.getElem?_map, Option.map_eq_some_iff] at hq;obtain ⟨⟨q0, y⟩, hq0, rfl⟩ := hq;simp only [List.getElem?_zip_eq_some] at hq0;simp only [Array.toList_map, List.getElem?_map, Option.map_eq_some_iff] at hp';obtain ⟨⟨k, r⟩, hr, rfl⟩ := hp';have hu : ((rparts.toList.map (·.2)).map a.eval)[j]? = some (a.eval r) := by simp [hr]
       have hV := QT h1 hq0.2 hu;exact ⟨p3 j q0 (k, r) hq0.1 hr, hV.un2, kO (List.all_eq_true.1 hnt y (zM hq0.2))⟩) (by simpa using c1) (fun i x v hx hv => by
       obtain ⟨a1, a2, a3⟩ := c2 i x v hx (by simpa using hv);exact ⟨a1, a3, a2⟩) hcs
     refine SimV.same (v' := .agg c') ?_ ((R.drops h1).push (.agg cs c' f2 (fun i x v hx hv => (f3 i x v hx hv).1) (fun x hx => by
       obtain ⟨i, hi⟩ := jx hx;obtain ⟨v, hv⟩ := jZ f2 hi;exact (f3 i x v hi hv).2.1)) ?_) h2
     . simp only [execOp, hop, Sem.run_bind];rw [hplace _ _ f1]; simp
     . simp only [jA, zB];apply flatten_nil;intro c hcm;obtain ⟨i, x, y, e1, e2, rfl⟩ := jN hcm;exact (f3 i x y e1 (by simpa using e2)).2.2
   . cases hs
 . cases hs
theorem Z4 {T : TypeId} : (Instr.makeMap T none).run P w = .ok (.map (some w.heap.size)) (w.alloc (.map #[] 0)) := by simp [Instr.makeMap]
theorem jf2 {T : TypeId} (hop : o.op = .makeMap T none) (hs : ja cf .mkMap s = some res) (hl : WT s.ts a.tmps) (hR : R g O (s.ts.roots a.tmps) s.σ w) : SimV P o a g O w s res := by
 simp only [ja, zO] at hs;subst hs;have hrun : (execOp a.eval o).run P w = .ok (.value (.map (some w.heap.size))) (w.alloc (.map #[] 0)) := by simp [execOp, hop, Z4]
 have hnew := (hR.push (ky g) rfl).new (obr := .map #[] 0) (ob := .map []) (fun _ => ⟨#[], 0, jF w _, rfl, by simp, StampB.empty 0⟩) ⟨[], by simp [kV], by simp⟩;refine ⟨rfl, _, _, _, hrun, rfl, g.fresh w.heap.size, w.heap.size :: O, [], kH hR _, hnew.push (.map _ _ ?_) rfl, hl, rfl, Keep.snoc _ _⟩;simp [Gh.fresh, <- hR.len]
def jay : Nat -> TypeDesc -> Bool
 | 0, .int _ => true
 | 1, .string => true
 | 2, .bool => true
 | _, _ => false
theorem yY {kk : Nat} {x y : IVal} {u v : Value} {b : Bool} {d : TypeDesc} (h : vA x y = some b) (hx : V g x u) (hy : V g y v) (hk : Xk kk x = true) (hd : jay kk d = true) :
   Instr.sameNow d u v = some b := by
 unfold vA at h;split at h
 . rename_i k i k' j;rw [hx.int_inv, hy.int_inv];split at h
   . rename_i hkk;simp only [zO] at h; subst h hkk;unfold Xk at hk;split at hk <;> simp_all;unfold jay at hd;split at hd <;> simp_all [Instr.sameNow]
   . cases h
 . rw [hx.bool_inv, hy.bool_inv];simp only [zO] at h; subst h;unfold Xk at hk;split at hk <;> simp_all;unfold jay at hd;split at hd <;> simp_all [Instr.sameNow]
 . obtain ⟨t, rfl, rfl⟩ := hx.str_inv;obtain ⟨t', rfl, rfl⟩ := hy.str_inv;simp only [zO] at h; subst h;have hb : (t == t') = (t.data.toList == t'.data.toList) := by rw [beq_toListBytes, yT, yT]
   have hkk : kk = 1 := by unfold Xk at hk; split at hk <;> simp_all
   subst hkk;have hdd : d = .string := by unfold jay at hd; split at hd <;> simp_all
   subst hdd;simp only [Instr.sameNow, zO]; exact hb
 . cases h
theorem XJ {kk : Nat} {d : TypeDesc} {k : IVal} {u : Value} (hk : V g k u) (hkk : Xk kk k = true) (hd : jay kk d = true) : ∀ {es : List (IVal × IVal)} {mes : List MapEntry} {r : Option IVal} (n : Nat), es.length = mes.length ->
   (∀ (i : Nat) e me, es[i]? = some e -> mes[i]? = some me -> V g e.1 me.key /\ V g e.2 me.val) -> Xp k es = some r ->
   ∃ q, Instr.findNow d u mes n = some q /\ (match r with | none => q = none | some x => ∃ j me, q = some (n + j, me.val) /\ mes[j]? = some me /\ V g x me.val /\ ∃ e, es[j]? = some e /\ e.2 = x) := by
 intro es
 induction es with
 | nil =>
   intro mes r n hl _ hf;cases mes <;> simp at hl;simp [Xp] at hf; subst hf;exact ⟨none, rfl, rfl⟩
 | cons e es ih =>
   intro mes r n hl hv hf
   cases mes with
   | nil => simp at hl
   | cons me mes =>
     obtain ⟨k', v'⟩ := e;obtain ⟨h1, h2⟩ := hv 0 _ _ rfl rfl;simp only [Xp] at hf;split at hf
     . rename_i he;simp at hf; subst hf;have := yY he hk h1 hkk hd;exact ⟨some (n, me.val), by simp [Instr.findNow, this], 0, me, rfl, rfl, h2, (k', v'), rfl, rfl⟩
     . rename_i he;have := yY he hk h1 hkk hd;obtain ⟨q, q1, q2⟩ := ih (n + 1) (by simpa using hl) (fun i e me hi hm => hv (i + 1) e me (by simpa using hi) (by simpa using hm)) hf;refine ⟨q, by simp [Instr.findNow, this, q1], ?_⟩
       cases r with
       | none => exact q2
       | some x =>
         obtain ⟨j, me', a1, a2, a3, e', a4, a5⟩ := q2;exact ⟨j + 1, me', by rw [a1]; congr 2; omega, by simpa using a2, a3, e', by simpa using a4, a5⟩
     . cases hf
theorem Z3 {kk : Nat} {b : Bool} {n : Nat} {T : TypeId} {d : TypeDesc} {u : Value} {k : IVal} (hT : P.underlying T = some d) (hk : V g k u) (hkk : Xk kk k = true) (hd : jay kk d = true) : (Instr.checkKey b (n + 1) T u).run P w = .ok () w := by
 unfold Xk at hkk;split at hkk
 . unfold jay at hd; split at hd <;> simp_all;rw [hk.int_inv]; simp [Instr.checkKey, jm hT]
 . unfold jay at hd; split at hd <;> simp_all;obtain ⟨t, rfl, _⟩ := hk.str_inv; simp [Instr.checkKey, jm hT]
 . unfold jay at hd; split at hd <;> simp_all;rw [hk.bool_inv]; simp [Instr.checkKey, jm hT]
 . cases hkk
theorem vD {kk : Nat} {b : Bool} {T : TypeId} {d : TypeDesc} {u : Value} {k : IVal} (hT : P.underlying T = some d) (hk : V g k u) (hkk : Xk kk k = true) (hd : jay kk d = true) : (Instr.checkKey b 10000 T u).run P w = .ok () w := Z3 (n := 9999) hT hk hkk hd
theorem yN {b : Nat} {mes : Array MapEntry} {clock : Nat} (h : w.heap[b]? = some (.map mes clock)) : (getObj b).run P w = .ok (.map mes clock) w := by simp [getObj, Sem.run, h]
theorem jdr {kk : Nat} {ok : Bool} {z : IVal} {x y : Opd} {rx ry : Operand} {T K E : TypeId} {d : TypeDesc} {i : TypeInfo} {zv : Value} (hop : o.op = .lookup T rx ry ok) (hx : jl x rx = true) (hy : jl y ry = true) (hT : P.underlying T = some (.map K E)) (hK : P.underlying K = some d)
   (hd : jay kk d = true) (hi : P.info? E = some i) (hz : i.zero = some zv) (hzc : cOK z zv = true) (hznt : nt z = true) (hs : ja cf (.lookup kk z ok x y) s = some res)
   (hl : WT s.ts a.tmps) (hR : R g O (s.ts.roots a.tmps) s.σ w) : SimV P o a g O w s res := by
 simp only [ja] at hs;split at hs
 . rename_i id ts h;split at hs
   . rename_i k ts' h';split at hs
     . rename_i es hes;split at hs
       . rename_i hkk;obtain ⟨h1, h2⟩ := jk (l := []) hx h hl hR;obtain ⟨h3, h4⟩ := jk (l := [(.map id, a.eval rx)]) hy h' h2 h1;obtain ⟨b, hb, hι⟩ := h3.drop.head.map_inv;obtain ⟨mes, clock, m1, m2, m3, m4⟩ := h3.objs id b _ hι hes;have hkV := h3.head;have hpair : ∀ (v : IVal) (u : Value) (fb : Bool), V g v u -> jA v u = [] -> nt v = true -> (execOp a.eval o).run P w = .ok (.value (if ok then .tuple #[u, .bool fb] else u)) w -> SimV P o a g O w s ⟨false, if ok then .tup [v, .bool fb] else v, { s with ts := ts' }⟩ := by
           intro v u fb hv ho hnv hrun;refine SimV.same hrun (h3.drop.drop.push ?_ ?_) h4
           . split
             . refine .tup _ _ rfl (fun i x w hx hw => ?_) (fun y hy => by
                 simp at hy
                 rcases hy with rfl | rfl
                 . exact hnv
                 . rfl)
               cases i with
               | zero => simp at hx hw; subst hx hw; exact hv
               | succ i =>
                 cases i with
                 | zero => simp at hx hw; subst hx hw; exact .bool _
                 | succ i => simp at hx
             . exact hv
           . split
             . rw [Jn hnv] at ho;show zB v u ++ (zB (.bool fb) (.bool fb) ++ []) = [];rw [ho]; rfl
             . exact ho
         split at hs
         . rename_i v hf;simp only [rv, zO] at hs;subst hs;obtain ⟨q, q1, q2⟩ := XJ hkV hkk hd (mes := mes.toList) 0 (by simpa using m2.symm) (fun i e me he hm => (m3 i e me he (by simpa using hm)).1) hf;obtain ⟨j, me, rfl, q3, q4, e, q5, rfl⟩ := q2;have hfl := (m3 j e me q5 (by simpa using q3)).2.2;refine hpair _ _ true q4 (jK hfl _) hfl.2 ?_;simp [execOp, hop, hb, Instr.lookup, jm hT, yN m1, vD hK hkV hkk hd, Instr.findKey, jm hK, q1]
         . rename_i hf;simp only [rv, zO] at hs;subst hs;obtain ⟨q, q1, rfl⟩ := XJ hkV hkk hd (mes := mes.toList) 0 (by simpa using m2.symm) (fun i e me he hm => (m3 i e me he (by simpa using hm)).1) hf;obtain ⟨z1, z2⟩ := jgI g hzc;refine hpair z zv false z1 z2 hznt ?_;simp [execOp, hop, hb, Instr.lookup, jm hT, yN m1, vD hK hkV hkk hd, Instr.findKey, jm hK, q1, zeroValue, typeInfo, hi, hz]
         . cases hs
       . cases hs
     . cases hs
   . cases hs
 . cases hs
theorem jie {x : Opd} {r : Operand} {c : Call} {T K E : TypeId} (hop : o.op = .call c) (hc : c.callee = .builtin .len) (ha : c.args = #[r]) (hta : c.argTypes[0]? = some T) (hx : jl x r = true) (hT : P.underlying T = some (.map K E))
   (hs : ja cf (.lenM x) s = some res) (hl : WT s.ts a.tmps) (hR : R g O (s.ts.roots a.tmps) s.σ w) : SimV P o a g O w s res := by
 simp only [ja] at hs;split at hs
 . rename_i id ts h;split at hs
   . rename_i es hes;simp only [rv, zO] at hs;subst hs;obtain ⟨h1, h2⟩ := jk (l := []) hx h hl hR;obtain ⟨b, hb, hι⟩ := h1.head.map_inv;obtain ⟨mes, clock, m1, m2, m3, m4⟩ := h1.objs id b _ hι hes;refine SimV.same (v' := .int .i64 mes.size) ?_ (h1.drop.push (by rw [m2]; exact .int _ _) rfl) h2;simp [execOp, hop, resolve, hc, ha, invoke, builtin, hb, Builtin.len_, hta, jm hT, goInt, yN m1]
   . cases hs
 . cases hs
theorem jbr {k k' : IVal} {u v : Value} (h : vA k k' = some true) (hx : V g k u) (hy : V g k' v) : Instr.sameBits 10000 v u = true := by
 unfold vA at h;split at h
 . rw [hx.int_inv, hy.int_inv];split at h
   . simp at h; simp_all [Instr.sameBits]
   . cases h
 . rw [hx.bool_inv, hy.bool_inv]; simp at h; simp [Instr.sameBits, h]
 . obtain ⟨t, rfl, rfl⟩ := hx.str_inv;obtain ⟨t', rfl, rfl⟩ := hy.str_inv;simp only [zO] at h;have hb : (t' == t) = true := by rw [beq_toListBytes, yT, yT]; simp at h; simp [h]
   simp only [Instr.sameBits]; exact hb
 . cases h
theorem jfU {kk : Nat} {d : TypeDesc} {k x : IVal} {u v : Value} (hk : V g k u) (hx : V g x v) (hkk : Xk kk k = true) (hd : jay kk d = true) (hfx : yX x) : ∀ {es es' : List (IVal × IVal)} {mes : List MapEntry} (n : Nat), es.length = mes.length ->
   (∀ (i : Nat) e me, es[i]? = some e -> mes[i]? = some me -> (V g e.1 me.key /\ V g e.2 me.val) /\ yX e.1 /\ yX e.2) -> jfT k x es = some es' ->
   (∃ j me, Instr.findNow d u mes n = some (some (n + j, me.val)) /\ mes[j]? = some me /\ Instr.sameBits 10000 me.key u = true /\ es'.length = es.length /\
     ∀ (i : Nat) e m, es'[i]? = some e -> (mes.modify j fun e => { e with key := u, val := v })[i]? = some m -> (V g e.1 m.key /\ V g e.2 m.val) /\ yX e.1 /\ yX e.2) \/
   (Instr.findNow d u mes n = some none /\ es' = es ++ [(k, x)]) := by
 have hfk : yX k := by unfold Xk at hkk; split at hkk <;> first | exact ⟨rfl, rfl⟩ | cases hkk
 intro es
 induction es with
 | nil =>
   intro es' mes n hl _ hf;cases mes <;> simp at hl;simp [jfT] at hf; subst hf;exact .inr ⟨rfl, rfl⟩
 | cons e es ih =>
   intro es' mes n hl hv hf
   cases mes with
   | nil => simp at hl
   | cons me mes =>
     obtain ⟨k', v'⟩ := e;obtain ⟨⟨h1, h2⟩, h3, h4⟩ := hv 0 _ _ rfl rfl;simp only [jfT] at hf;split at hf
     . rename_i he;simp at hf; subst hf;have := yY he hk h1 hkk hd;refine .inl ⟨0, me, by simp [Instr.findNow, this], rfl, jbr he hk h1, by simp, fun i e m hi hm => ?_⟩
       cases i with
       | zero => simp at hi hm; subst hi hm; exact ⟨⟨hk, hx⟩, hfk, hfx⟩
       | succ i => simp at hi hm; exact hv (i + 1) e m (by simpa using hi) (by simpa using hm)
     . rename_i he;have hs := yY he hk h1 hkk hd;split at hf
       . rename_i es'' hse;simp at hf; subst hf
         rcases ih (n + 1) (by simpa using hl) (fun i e me hi hm => hv (i + 1) e me (by simpa using hi) (by simpa using hm)) hse with ⟨j, me', a1, a2, a3, a4, a5⟩ | ⟨a1, a2⟩
         . refine .inl ⟨j + 1, me', ?_, by simpa using a2, a3, by simp [a4], fun i e m hi hm => ?_⟩
           . simp only [Instr.findNow, hs, a1]; congr 3; omega
           . cases i with
             | zero => simp at hi hm; subst hi hm; exact ⟨⟨h1, h2⟩, h3, h4⟩
             | succ i => simp at hi hm; exact a5 i e m hi hm
         . exact .inr ⟨by simp [Instr.findNow, hs, a1], by rw [a2]; rfl⟩
       . cases hf
     . cases hf
theorem jck {k x : IVal} : ∀ {es es' : List (IVal × IVal)}, jfT k x es = some es' -> ∀ e ∈ es', (∃ e0 ∈ es, e = e0) \/ (e.1 = k /\ e.2 = x) := by
 intro es
 induction es with
 | nil => intro es' h; simp [jfT] at h; subst h; intro e he; simp at he; subst he; exact .inr ⟨rfl, rfl⟩
 | cons e es ih =>
   intro es' h;obtain ⟨k', v'⟩ := e;simp only [jfT] at h;split at h
   . simp at h; subst h;intro e he
     rcases List.mem_cons.1 he with rfl | he
     . exact .inr ⟨rfl, rfl⟩
     . exact .inl ⟨e, by simp [he], rfl⟩
   . split at h
     . rename_i es'' hse;simp at h; subst h;intro e he
       rcases List.mem_cons.1 he with rfl | he
       . exact .inl ⟨_, by simp, rfl⟩
       . rcases ih hse e he with ⟨e0, h0, rfl⟩ | h0
         . exact .inl ⟨e, by simp [h0], rfl⟩
         . exact .inr h0
     . cases h
   . cases h
theorem X0 {b : Nat} {mes mes' : Array MapEntry} {clock clock' : Nat} (h : w.heap[b]? = some (.map mes clock)) : (setObj b (.map mes' clock')).run P w = .ok () { w with heap := w.heap.setIfInBounds b (.map mes' clock') } := by simp [setObj, Sem.run, h]
theorem X2 {kk : Nat} {x y z : Opd} {rx ry rz : Operand} {T K E : TypeId} {d : TypeDesc} (hop : o.op = .mapUpdate T rx ry rz \/ o.op = .insert T rx ry rz) (hx : jl x rx = true) (hy : jl y ry = true) (hz : jl z rz = true) (hT : P.underlying T = some (.map K E)) (hK : P.underlying K = some d)
   (hd : jay kk d = true) (hs : ja cf (.mapSet kk x y z) s = some res) (hl : WT s.ts a.tmps) (hR : R g O (s.ts.roots a.tmps) s.σ w) : SimV P o a g O w s res := by
 simp only [ja] at hs;split at hs
 . rename_i id ts h;split at hs
   . rename_i k ts' h';split at hs
     . rename_i v ts'' h'';split at hs
       . rename_i es hes;split at hs
         . rename_i hcond;simp only [zA] at hcond;obtain ⟨hkk, hnt⟩ := hcond;split at hs
           . rename_i es' hse;simp only [zO] at hs;subst hs;obtain ⟨h1, h2⟩ := jk (l := []) hx h hl hR;obtain ⟨h3, h4⟩ := jk (l := [(.map id, a.eval rx)]) hy h' h2 h1;obtain ⟨h5, h6⟩ := jk (l := [(k, a.eval ry), (.map id, a.eval rx)]) hz h'' h4 h3;have hkV := h5.drop.head;have hvV := h5.head;obtain ⟨b, hb, hι⟩ := h5.drop.drop.head.map_inv;obtain ⟨mes, clock, m1, m2, m3, m4⟩ := h5.objs id b _ hι hes;have hfv := kO hnt;have hbO : b ∈ O := h5.sub b (List.mem_append_right _ (j6 hι hes (by simp [kV])));have hroot : R g O ((ju, undef) :: ts''.roots a.tmps) s.σ w := h5.drop.drop.drop.push (ky g) rfl;have hkeep : ∀ es', (∀ e ∈ es', (∃ e0 ∈ es, e = e0) \/ (e.1 = k /\ e.2 = un2 v)) -> Keep s.σ (s.σ.set id (.map es')) [(id, !(nr2 v))] := by
               intro es' hes';refine Keep.set fun m hid hm ho e he => ?_
               rcases hes' e he with ⟨e0, he0, rfl⟩ | ⟨e1, e2⟩
               . exact ho _ hes e he0
               . rw [e1, e2];refine ⟨hkV.norl m (by unfold Xk at hkk; split at hkk <;> first | rfl | cases hkk), ?_⟩
                 by_cases hnr : nr2 v = true
                 . exact (hvV.norl m (kJ hnr)).un2
                 . exact absurd (hm (by simpa using hnr)) (by omega)
             have hset : ∀ (mes' : Array MapEntry) (clock' : Nat) (es' : List (IVal × IVal)), mes'.size = es'.length -> (∀ (i : Nat) e me, es'[i]? = some e -> mes'[i]? = some me -> (V g e.1 me.key /\ V g e.2 me.val) /\ yX e.1 /\ yX e.2) -> StampB mes' clock' ->
                 (execOp a.eval o).run P w = .ok .skip { w with heap := w.heap.setIfInBounds b (.map mes' clock') } -> (∀ e ∈ es', (∃ e0 ∈ es, e = e0) \/ (e.1 = k /\ e.2 = un2 v)) ->
                 SimV P o a g O w s ⟨false, ju, { ts := ts'', σ := s.σ.set id (.map es'), wr := (id, !(nr2 v)) :: s.wr }⟩ := by
               intro mes' clock' es' hsz hvals hstb hrun hes';have hbl : b < w.heap.size := h5.lt b hbO;have hnew : ({ w with heap := w.heap.setIfInBounds b (.map mes' clock') } : World).heap[b]? = some (.map mes' clock') := by simp [hbl]
               have hother : ∀ k, k ≠ b -> ({ w with heap := w.heap.setIfInBounds b (.map mes' clock') } : World).heap[k]? = w.heap[k]? := by
                 intro k hk; simp only; rw [Array.getElem?_setIfInBounds_ne (Ne.symm hk)]
               have hR' := hroot.upd (y := ju) (u := undef) (id := id) (b := b) (ob := .map es) (ob' := .map es') (w' := { w with heap := w.heap.setIfInBounds b (.map mes' clock') }) (ky g) hι hes (by simp) hother (by simp) (fun c el fz hc => by rw [m1] at hc; cases hc)
                 ⟨mes', clock', hnew, hsz, hvals, hstb⟩ (by simp only [kV]; exact SubP.refl _)
               exact ⟨rfl, undef, _, _, hrun, rfl, g, O, [(id, !(nr2 v))], Grow.of_setRow g w hbO _ hother (by simp) rfl rfl rfl, hR', h6, rfl, hkeep es' hes'⟩
             have hop' : ∀ mes' clock', (Instr.mapUpdate T (.map (some b)) (a.eval ry) (a.eval rz)).run P w = .ok () { w with heap := w.heap.setIfInBounds b (.map mes' clock') } -> (execOp a.eval o).run P w = .ok .skip { w with heap := w.heap.setIfInBounds b (.map mes' clock') } := by
               intro mes' clock' hrun
               rcases hop with hop | hop <;> simp [execOp, hop, hb, hrun]
             rcases jfU (d := d) hkV hvV.un2 hkk hd hfv (mes := mes.toList) 0 (by simpa using m2.symm) (fun i e me he hm => m3 i e me he (by simpa using hm)) hse with ⟨j, me, a1, a2, a3, a4, a5⟩ | ⟨a1, a2⟩
             . refine hset (mes.modify j fun e => { e with key := a.eval ry, val := a.eval rz }) clock es' (by simp [a4, m2]) (fun i e m he hm => a5 i e m he ?_) (m4.modify _ _ _) (hop' _ _ ?_) ?_
               . have h0 : (mes.modify j fun e => { e with key := a.eval ry, val := a.eval rz }).toList[i]? = some m := by rw [Array.getElem?_toList]; exact hm
                 rwa [Array.toList_modify] at h0
               . have hj : mes[j]? = some me := by simpa using a2
                 simp [Instr.mapUpdate, jm hT, yN m1, vD hK hkV hkk hd, Instr.findKey, jm hK, a1, hj, Instr.keyThatStays, a3, X0 m1]
               . exact jck hse
             . subst a2;refine hset (mes.push { key := a.eval ry, val := a.eval rz, born := clock }) (clock + 1) _ (by simp [m2]) (fun i e m he hm => ?_) (m4.push _ _) (hop' _ _ ?_) (jck hse)
               . rcases Kv he with he' | ⟨he', rfl⟩
                 . have hi := jg he';rw [Array.getElem?_push_lt (by omega)] at hm;exact m3 i e m he' (by rw [<- hm]; simp)
                 . rw [he', <- m2] at hm;simp at hm; subst hm;have hfk : yX k := by unfold Xk at hkk; split at hkk <;> first | exact ⟨rfl, rfl⟩ | cases hkk
                   exact ⟨⟨hkV, hvV.un2⟩, hfk, hfv⟩
               . simp [Instr.mapUpdate, jm hT, yN m1, vD hK hkV hkk hd, Instr.findKey, jm hK, a1, X0 m1]
           . cases hs
         . cases hs
       . cases hs
     . cases hs
   . cases hs
 . cases hs
end Go.Idl
