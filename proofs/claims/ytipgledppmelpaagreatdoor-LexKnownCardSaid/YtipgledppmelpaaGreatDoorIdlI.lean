/- The ideal machine and its evaluators, part 9; no conditions. -/
import Derived.Test.YtipgledppmelpaaGreatDoorIdlH
set_option linter.unusedSectionVars false
set_option linter.unusedVariables false
set_option linter.unusedSimpArgs false
namespace Go.Idl
noncomputable section
set_option maxHeartbeats 40000
def aggE (a : Nat) (v : U) : U := @Bool.rec (fun _ => U) (un1U v) v (Nat.beq a 0)
theorem aggE_ok (a : Nat) (l : List IVal) (v : U) (i : Nat) (h : l[i]? = some (toI v)) : (if a = 0 then l else l.map un1)[i]? = some (toI (aggE a v)) := by
 unfold aggE
 rw [brec]
 by_cases ha : a = 0
 . subst ha; simpa using h
 . have : ¬ Nat.beq a 0 = true := fun e => ha (zN e)
   rw [if_neg ha, if_neg this, un1U_ok, List.getElem?_map, h]; rfl
def field1F (off : Nat) (u : U) (K : KU) : Ans := uO u fun t a b c d x => tst (Nat.beq t 17) (nthK off x fun v => frc (aggE a v) K)
theorem field1F_ok (off : Nat) (x : Opd) : Pu1 (.field off none x) (field1F off) := by
 intro u K ts ts' h hg
 have hx := getAll1 hg
 obtain ⟨t, a, b, c, d, y, rfl, h2⟩ := uO_true h
 obtain ⟨h3, h4⟩ := tst_true h2
 have := zN h3; subst this
 obtain ⟨v, h5, h6⟩ := nthK_true h4
 rw [frc_eq] at h6
 rw [toI_agg] at hx
 exact ⟨_, fun cf σ wr => by simp only [stepOp, hx, takeV, aggE_ok a _ v off h5, rv], h6⟩
theorem agg_take (a : Nat) (l : List IVal) (r : U) (off n : Nat) (h : toL r = (l.drop off).take n) : (((if a = 0 then l else l.map un1).drop off).take n) = (if a = 0 then toL r else (toL r).map un1) := by
 split
 . exact h.symm
 . rw [h, List.map_take, List.map_drop]
def fieldNF (off n : Nat) (u : U) (K : KU) : Ans := uO u fun t a b c d x => tst (Nat.beq t 17) (dropK off x fun y => takeK n y fun r => K (.o 17 a 0 0 0 r))
theorem agg_len (a : Nat) (l : List IVal) : (if a = 0 then l else l.map un1).length = l.length := by split <;> simp
theorem fieldNF_ok (off n : Nat) (x : Opd) : Pu1 (.field off (some n) x) (fieldNF off n) := by
 intro u K ts ts' h hg
 have hx := getAll1 hg
 obtain ⟨t, a, b, c, d, y, rfl, h2⟩ := uO_true h
 obtain ⟨h3, h4⟩ := tst_true h2
 have := zN h3; subst this
 obtain ⟨z, h5, h6, h7⟩ := dropK_true h4
 obtain ⟨r, h8, h9, h10⟩ := takeK_true h7
 rw [toI_agg] at hx
 rw [h5] at h8 h9
 have hl : off + n <= (if a = 0 then toL y else (toL y).map un1).length := by rw [agg_len]; simp at h9; omega
 refine ⟨_, fun cf σ wr => ?_, h10⟩
 simp only [stepOp, hx, takeV]
 rw [if_pos hl, agg_take a _ r off n h8]
 rfl
def fieldF (off : Nat) (n : Option Nat) : U -> KU -> Ans := @Option.rec Nat (fun _ => U -> KU -> Ans) (field1F off) (fun n => fieldNF off n) n
theorem fieldF_ok (off : Nat) (n : Option Nat) (x : Opd) : Pu1 (.field off n x) (fieldF off n) := by
 cases n with
 | none => exact field1F_ok off x
 | some n => exact fieldNF_ok off n x
def idxAF (len esz : Nat) (n : Option Nat) (u i : U) (K : KU) : Ans := uI i fun _ m => tst (Nat.ble 18446744073709551616 m) (fN (Nat.sub m 18446744073709551616) fun j => tst (Nat.blt j len) (fN (Nat.mul j esz) fun q => fieldF q n u K))
theorem idxAF_ok (len esz : Nat) (n : Option Nat) (x i : Opd) : Pu2 (.idxA len esz n x i) (idxAF len esz n) := by
 intro u v K ts ts' h hg
 obtain ⟨t1, hx, hy⟩ := getAll2 hg
 obtain ⟨k, m, rfl, h3⟩ := uI_true h
 obtain ⟨h4, h5⟩ := tst_true h3
 rw [fN_eq] at h5
 obtain ⟨h6, h7⟩ := tst_true h5
 rw [fN_eq] at h7
 obtain ⟨r, h8, h9⟩ := fieldF_ok _ n (.c (toI u)) u K ts ts h7 rfl
 have h8 := h8 (fun _ _ _ => none) [] []
 obtain ⟨e1, e2⟩ := code_nat (ble_iff.1 h4)
 have h6 := blt_true h6
 rw [nsub] at h6 h8
 rw [nmul] at h8
 rw [toI_i] at hy
 have hlt : (m : Int) - 18446744073709551616 < len := by omega
 refine ⟨r, fun cf σ wr => ?_, h9⟩
 simp only [stepOp, Opd.get] at h8
 split at h8
 . rename_i cs t heq
   simp only [zO, zP] at heq
   obtain ⟨hu, -⟩ := heq
   split at h8
   . rename_i w hw
     simp only [rv, zO, Res.mk.injEq, true_and] at h8
     simp only [stepOp, hx, hu, hy, if_pos (And.intro e1 hlt), e2, hw, rv, h8.1]
   . cases h8
 . cases h8
def nilF (tn ta tb : Nat) (neg : Bool) (u : U) (K : KU) : Ans := uO u fun t _ _ _ _ _ => @Bool.rec (fun _ => Ans) (@Bool.rec (fun _ => Ans) (tst (Nat.beq t tb) (K (.b neg))) (K (.b neg)) (Nat.beq t ta)) (K (.b (notB neg))) (Nat.beq t tn)
theorem nilF_true {tn ta tb : Nat} {neg : Bool} {u : U} {K : KU} (h : nilF tn ta tb neg u K = true) : ∃ t a b c d x, u = .o t a b c d x /\ ((t = tn /\ K (.b (true != neg)) = true) \/ ((t = ta \/ t = tb) /\ K (.b (false != neg)) = true)) := by
 obtain ⟨t, a, b, c, d, x, rfl, h2⟩ := uO_true h
 refine ⟨t, a, b, c, d, x, rfl, ?_⟩
 rcases brec_true h2 with ⟨h3, h4⟩ | ⟨_, h4⟩
 . exact Or.inl ⟨zN h3, by cases neg <;> exact h4⟩
 . rcases brec_true h4 with ⟨h5, h6⟩ | ⟨_, h6⟩
   . exact Or.inr ⟨Or.inl (zN h5), by cases neg <;> exact h6⟩
   . obtain ⟨h7, h8⟩ := tst_true h6
     exact Or.inr ⟨Or.inr (zN h7), by cases neg <;> exact h8⟩
def isnilF (neg : Bool) (k : Nat) : U -> KU -> Ans := match k with
 | 0 => nilF 8 1 6 neg
 | 1 => nilF 9 5 5 neg
 | 2 => nilF 10 7 7 neg
 | 3 => nilF 11 3 3 neg
 | _ => fun _ _ => false
theorem isnilF_ok (neg : Bool) (k : Nat) (x : Opd) : Pu1 (.isnil neg k x) (isnilF neg k) := by
 intro u K ts ts' h hg
 have hx := getAll1 hg
 match k with
 | 0 =>
   obtain ⟨t, a, b, c, d, y, rfl, h2⟩ := nilF_true (show nilF 8 1 6 neg u K = true from h)
   rcases h2 with ⟨rfl, h3⟩ | ⟨rfl | rfl, h3⟩
   all_goals exact ⟨_, fun cf σ wr => by simp only [stepOp, hx, toI, toT, toO, isNil, rv], h3⟩
 | 1 =>
   obtain ⟨t, a, b, c, d, y, rfl, h2⟩ := nilF_true (show nilF 9 5 5 neg u K = true from h)
   rcases h2 with ⟨rfl, h3⟩ | ⟨rfl | rfl, h3⟩
   all_goals exact ⟨_, fun cf σ wr => by simp only [stepOp, hx, toI, toT, toO, isNil, rv], h3⟩
 | 2 =>
   obtain ⟨t, a, b, c, d, y, rfl, h2⟩ := nilF_true (show nilF 10 7 7 neg u K = true from h)
   rcases h2 with ⟨rfl, h3⟩ | ⟨rfl | rfl, h3⟩
   all_goals exact ⟨_, fun cf σ wr => by simp only [stepOp, hx, toI, toT, toO, isNil, rv], h3⟩
 | 3 =>
   obtain ⟨t, a, b, c, d, y, rfl, h2⟩ := nilF_true (show nilF 11 3 3 neg u K = true from h)
   rcases h2 with ⟨rfl, h3⟩ | ⟨rfl | rfl, h3⟩
   all_goals exact ⟨_, fun cf σ wr => by simp only [stepOp, hx, toI, toT, toO, isNil, rv], h3⟩
 | k + 4 => cases h
def eqbF (neg : Bool) (u v : U) (K : KU) : Ans := uB u fun x => uB v fun y => K (.b (@Bool.rec (fun _ => Bool) (@Bool.rec (fun _ => Bool) (notB neg) neg y) (@Bool.rec (fun _ => Bool) neg (notB neg) y) x))
theorem eqbF_ok (neg : Bool) (x y : Opd) : Pu2 (.eqb neg x y) (eqbF neg) := by
 intro u v K ts ts' h hg
 obtain ⟨t1, hx, hy⟩ := getAll2 hg
 obtain ⟨a, rfl, h2⟩ := uB_true h
 obtain ⟨b, rfl, h3⟩ := uB_true h2
 rw [toI_b] at hx hy
 refine ⟨_, fun cf σ wr => ?_, h3⟩
 simp only [stepOp, hx, hy, rv]
 cases a <;> cases b <;> cases neg <;> rfl
def pickF (l : U) (K : KU) : Ans := uC l false fun c l => uC l false fun a l => uC l false fun b _ => uB c fun t => @Bool.rec (fun _ => Ans) (K b) (K a) t
theorem pickF_ok (c a b : Opd) (ha : plain1 a = true) (hb : plain1 b = true) : PuL (.pick c a b) pickF := by
 intro u K ts ts' h hg
 rcases uC_true h with ⟨_, h2⟩ | ⟨x, l, rfl, h2⟩
 . cases h2
 rcases uC_true h2 with ⟨_, h3⟩ | ⟨y, l1, rfl, h3⟩
 . cases h3
 rcases uC_true h3 with ⟨_, h4⟩ | ⟨z, l2, rfl, h4⟩
 . cases h4
 obtain ⟨t, rfl, h5⟩ := uB_true h4
 obtain ⟨t1, g1, g2⟩ := getAll_u hg
 obtain ⟨t2, g3, g4⟩ := getAll_u g2
 obtain ⟨t3, g5, g6⟩ := getAll_u g4
 have := get_plain ha g3; subst this
 have := get_plain hb g5; subst this
 obtain ⟨-, rfl⟩ := getAll_n g6
 rw [toI_b] at g1
 cases t with
 | true => exact ⟨_, fun cf σ wr => by simp only [stepOp, g1, g3, rv], h5⟩
 | false => exact ⟨_, fun cf σ wr => by simp only [stepOp, g1, g5, rv], h5⟩
def frB (b : Bool) (K : Bool -> Ans) : Ans := @Bool.rec (fun _ => (Bool -> Ans) -> Ans) (fun K => K false) (fun K => K true) b K
theorem frB_eq (b : Bool) (K : Bool -> Ans) : frB b K = K b := by cases b <;> rfl
def frU (u : U) : (U -> Ans) -> Ans := @U.rec (fun _ => (U -> Ans) -> Ans)
 (fun k n K => fN k fun k => fN n fun n => K (.i k n)) (fun x K => frB x fun x => K (.b x)) (fun l x K => fN l fun l => fN x fun x => K (.s l x))
 (fun t a b c d _ ih K => fN t fun t => fN a fun a => fN b fun b => fN c fun c => fN d fun d => ih fun x => K (.o t a b c d x))
 (fun K => K .nl) (fun _ _ i1 i2 K => i1 fun x => i2 fun y => K (.cn x y)) (fun _ _ _ i1 i2 i3 K => i1 fun x => i2 fun l => i3 fun r => K (.nd x l r))
 (fun v K => K (.z v)) (fun st ps p q e pd _ K => K (.lp st ps p q e pd)) u
theorem frU_eq : ∀ (u : U) (K : U -> Ans), frU u K = K u := by
 intro u
 induction u with
 | i k n => intro K; show fN k (fun k => fN n fun n => K (.i k n)) = _; rw [fN_eq, fN_eq]
 | b x => intro K; exact frB_eq _ _
 | s l x => intro K; show fN l (fun l => fN x fun x => K (.s l x)) = _; rw [fN_eq, fN_eq]
 | o t a b c d x ih => intro K; show fN t (fun t => fN a fun a => fN b fun b => fN c fun c => fN d fun d => frU x fun x => K (.o t a b c d x)) = _; rw [fN_eq, fN_eq, fN_eq, fN_eq, fN_eq, ih]
 | nl => intro K; rfl
 | cn x y i1 i2 => intro K; show frU x (fun x => frU y fun y => K (.cn x y)) = _; rw [i1, i2]
 | nd x l r i1 i2 i3 => intro K; show frU x (fun x => frU l fun l => frU r fun r => K (.nd x l r)) = _; rw [i1, i2, i3]
 | z v => intro K; rfl
 | lp st ps p q e pd _ => intro K; rfl
def slowP (op : IOp) (l : U) (K : KU) : Ans := @Option.rec Res (fun _ => Ans) false (fun r => @Bool.rec (fun _ => Ans) (frU (rep r.v) K) false r.pan) (stepOp (fun _ _ _ => none) (op.with (toL l)) ⟨ts0, [], []⟩)
def isPure : IOp -> Bool
 | .pur _ _ => true
 | .un _ _ => true
 | .conv _ _ => true
 | .eqa _ _ _ => true
 | .boxv _ => true
 | .vOf _ _ _ => true
 | .minmax _ _ => true
 | _ => false
theorem pure_ok {o : IOp} (hp : isPure o = true) {cf cf' : CallF} {ts : Ts} {σ : List IObj} {wr : List (Nat × Bool)} {r : Res} (h : stepOp cf' o ⟨ts, [], []⟩ = some r) : r.pan = false /\ stepOp cf o ⟨ts, σ, wr⟩ = some ⟨false, r.v, ⟨r.s.ts, σ, wr⟩⟩ := by
 cases o <;> simp only [isPure] at hp <;> first | (cases hp; done) | skip
 all_goals
   simp only [stepOp, rv] at h ⊢
   repeat' split at h
   all_goals first | (cases h; done) | (simp only [zO] at h; subst h; refine ⟨rfl, ?_⟩; simp_all; done) | (simp only [zO] at h; subst h; refine ⟨rfl, ?_⟩; simp_all; omega)
theorem slowP_ok (o : IOp) (hp : isPure o = true) (hx : okX o = true) : PuL o (slowP o) := by
 intro u K ts ts' h hg
 unfold slowP at h
 cases hs : stepOp (fun _ _ _ => none) (o.with (toL u)) ⟨ts0, [], []⟩ with
 | none => rw [hs] at h; cases h
 | some r =>
   rw [hs] at h
   have h : @Bool.rec (fun _ => Ans) (frU (rep r.v) K) false r.pan = true := h
   rw [frU_eq] at h
   rcases brec_true h with ⟨_, h2⟩ | ⟨h1, h2⟩
   . cases h2
   . refine ⟨rep r.v, fun cf σ wr => ?_, h2⟩
     letI : Globs := ⟨fun _ => none⟩
     have h3 := stepOp_with (ts := ts) hx hg hs
     obtain ⟨_, h4⟩ := pure_ok hp (cf := cf) (σ := σ) (wr := wr) h3
     rw [rep_ok]
     exact h4
def slow1 (op : IOp) (u : U) (K : KU) : Ans := slowP op (.cn u .nl) K
theorem slow1_ok (o : IOp) (hp : isPure o = true) (hx : okX o = true) : Pu1 o (slow1 o) := fun u K ts ts' h hg => slowP_ok o hp hx (.cn u .nl) K ts ts' h hg
def slow2 (op : IOp) (u v : U) (K : KU) : Ans := slowP op (.cn u (.cn v .nl)) K
def notF (u : U) (K : KU) : Ans := uB u fun x => K (.b (notB x))
theorem notF_ok (x : Opd) : Pu1 (.un .not x) notF := by
 intro u K ts ts' h hg
 have hx := getAll1 hg
 obtain ⟨a, rfl, h2⟩ := uB_true h
 rw [toI_b] at hx
 refine ⟨_, fun cf σ wr => ?_, h2⟩
 simp only [stepOp, hx, unI, rv, toI_b, notB_eq]
def negF (u : U) (K : KU) : Ans := uI u fun k n => fN (wrapC k (Nat.sub 18446744073709551616 (Nat.mod n 18446744073709551616))) fun c => K (.i k c)
theorem negF_ok (x : Opd) : Pu1 (.un .neg x) negF := by
 intro u K ts ts' h hg
 have hx := getAll1 hg
 obtain ⟨k, n, rfl, h2⟩ := uI_true h
 rw [fN_eq] at h2
 rw [toI_i] at hx
 refine ⟨_, fun cf σ wr => ?_, h2⟩
 simp only [stepOp, hx, unI, rv]
 show some (Res.mk false (IVal.int (kd k) _) _) = some (Res.mk false (absI k _) _)
 rw [absI_wrap' k _ (0 - ((n : Int) - 18446744073709551616)) (emod_sub64 _ _ _ (by rw [nsub, nmod]; omega))]
def unF (op : UnOp) : U -> KU -> Ans := match op with
 | .not => notF
 | .neg => negF
 | op => slow1 (.un op (.c undefI))
theorem slow1_any (o o' : IOp) (hp : isPure o = true) (hx : okX o = true) (hw : ∀ l, o.with l = o'.with l \/ l.length ≠ 1) : Pu1 o (slow1 o') := by
 intro u K ts ts' h hg
 have h' : slow1 o u K = true := by
   unfold slow1 slowP at h ⊢
   rcases hw (toL (.cn u .nl)) with e | e
   . rw [e]; exact h
   . exact absurd rfl e
 exact slow1_ok o hp hx u K ts ts' h' hg
theorem unF_ok (op : UnOp) (x : Opd) : Pu1 (.un op x) (unF op) := by
 cases op
 case not => exact notF_ok x
 case neg => exact negF_ok x
 all_goals
   refine slow1_any _ _ rfl rfl fun l => ?_
   rcases l with _ | ⟨a, _ | ⟨b, l⟩⟩
   . exact Or.inr (by simp)
   . exact Or.inl rfl
   . exact Or.inr (by simp)
def convI (k : Nat) (u : U) (K : KU) : Ans := uI u fun _ n => fN (wrapC k n) fun c => K (.i k c)
theorem convI_ok (k : IntKind) (x : Opd) : Pu1 (.conv (.int k) x) (convI (kc k)) := by
 intro u K ts ts' h hg
 have hx := getAll1 hg
 obtain ⟨k', n, rfl, h2⟩ := uI_true h
 rw [fN_eq] at h2
 rw [toI_i] at hx
 refine ⟨_, fun cf σ wr => ?_, h2⟩
 simp only [stepOp, hx, rv]
 show some (Res.mk false (IVal.int k _) _) = some (Res.mk false (absI (kc k) _) _)
 have e := absI_wrap' (kc k) n ((n : Int) - 18446744073709551616) (emod_sub64 _ _ _ (by omega))
 rw [e, kd_kc]
def sameF (u : U) (K : KU) : Ans := uS u fun l x => K (.s l x)
theorem sameF_ok (x : Opd) : Pu1 (.conv .same x) sameF := by
 intro u K ts ts' h hg
 have hx := getAll1 hg
 obtain ⟨l, n, rfl, h2⟩ := uS_true h
 rw [toI_s] at hx
 exact ⟨_, fun cf σ wr => by simp only [stepOp, hx, rv]; rfl, h2⟩
def minmaxF (mx : Bool) (l : U) (K : KU) : Ans := uC l false fun u l => uC l false fun v l => uC l (uI u fun k n => uI v fun k' m => tst (Nat.beq k k') (@Bool.rec (fun _ => Ans)
 (@Bool.rec (fun _ => Ans) (K (.i k n)) (K (.i k m)) (Nat.blt m n)) (@Bool.rec (fun _ => Ans) (K (.i k n)) (K (.i k m)) (Nat.blt n m)) mx)) fun _ _ => false
theorem minmaxF_ok (mx : Bool) (xs : List Opd) : PuL (.minmax mx xs) (minmaxF mx) := by
 intro u K ts ts' h hg
 rcases uC_true h with ⟨_, h2⟩ | ⟨x, l, rfl, h2⟩
 . cases h2
 rcases uC_true h2 with ⟨_, h3⟩ | ⟨y, l1, rfl, h3⟩
 . cases h3
 rcases uC_true h3 with ⟨rfl, h4⟩ | ⟨z, l2, rfl, h4⟩
 . obtain ⟨k, n, rfl, h5⟩ := uI_true h4
   obtain ⟨k', m, rfl, h6⟩ := uI_true h5
   obtain ⟨h7, h8⟩ := tst_true h6
   have := zN h7; subst this
   have hg' : getAll xs ts = some ([.int (kd k) ((n : Int) - 18446744073709551616), .int (kd k) ((m : Int) - 18446744073709551616)], ts') := hg
   rcases brec_true h8 with ⟨h9, h10⟩ | ⟨h9, h10⟩
   . subst h9
     rcases brec_true h10 with ⟨h11, h12⟩ | ⟨h11, h12⟩
     . have := blt_true h11
       refine ⟨_, fun cf σ wr => ?_, h12⟩
       simp only [stepOp, hg', if_true, rv]
       rw [if_pos (by omega)]; rfl
     . have := blt_false h11
       refine ⟨_, fun cf σ wr => ?_, h12⟩
       simp only [stepOp, hg', if_true, rv]
       rw [if_neg (by omega)]; rfl
   . subst h9
     rcases brec_true h10 with ⟨h11, h12⟩ | ⟨h11, h12⟩
     . have := blt_true h11
       refine ⟨_, fun cf σ wr => ?_, h12⟩
       simp only [stepOp, hg', if_true, rv, Bool.false_eq_true, if_false]
       rw [if_pos (by omega)]; rfl
     . have := blt_false h11
       refine ⟨_, fun cf σ wr => ?_, h12⟩
       simp only [stepOp, hg', if_true, rv, Bool.false_eq_true, if_false]
       rw [if_neg (by omega)]; rfl
 . cases h4
def mkIfaceF (t : Nat) (u : U) (K : KU) : Ans := tst (ntU u) (frc (un2U u) fun w => K (.o 5 t 0 0 0 w))
theorem mkIfaceF_ok (t : Nat) (x : Opd) : Pu1 (.mkIface t x) (mkIfaceF t) := by
 intro u K ts ts' h hg
 have hx := getAll1 hg
 obtain ⟨h1, h2⟩ := tst_true h
 rw [frc_eq] at h2
 refine ⟨_, fun cf σ wr => ?_, h2⟩
 simp only [stepOp, hx, rv]
 rw [if_pos (ntU_ok h1), toI_iface, un2U_ok]
def mkFnF (f n : Nat) (l : U) (K : KU) : Ans := tst (allU ntU l) (mapK un2U l fun r => K (.o 7 f n 0 0 r))
theorem mkFnF_ok (f : Nat) (xs ys : List Opd) : PuL (.mkFn (.func f) xs ys) (mkFnF f xs.length) := by
 intro u K ts ts' h hg
 letI : Globs := ⟨fun _ => none⟩
 obtain ⟨h1, h2⟩ := tst_true h
 obtain ⟨r, h3, h4⟩ := mapK_true un2U_ok h2
 have hg' : getAll (xs ++ ys) ts = some (toL u, ts') := hg
 rw [getAll_append] at hg'
 obtain ⟨v1, t1, v2, g1, g2, e⟩ := hg'
 have hl := getAll_len g1
 have hnt := allU_imp (fun {w} hw => ntU_ok hw) h1
 rw [e, List.all_append] at hnt
 refine ⟨_, fun cf σ wr => ?_, h4⟩
 simp only [stepOp, g1, g2, rv]
 rw [if_pos hnt, toI_fn, h3, e, List.map_append, <- hl]
 simp
end
end Go.Idl
namespace Go.Idl
noncomputable section
set_option maxHeartbeats 40000
def fillF (ps : List (Nat × Nat)) : U -> U -> KU -> Ans := @List.rec (Nat × Nat) (fun _ => U -> U -> KU -> Ans) (fun _ cs K => K (.o 17 0 0 0 0 cs))
 (fun p _ ih l cs K => uC l false fun v l => cellsK (un2U v) fun w => tst (Nat.beq (lenU w) p.2) (tst (allU isCellU w) (putK p.1 w cs fun cs' => ih l cs' K))) ps
theorem fillF_true : ∀ {ps : List (Nat × Nat)} {l cs : U} {K : KU}, fillF ps l cs K = true -> ps.length <= (toL l).length -> ∃ r, fillI (toL cs) ((ps.zip (toL l)).map fun p => (p.1.1, p.1.2, un2 p.2)) = some (toL r) /\ K (.o 17 0 0 0 0 r) = true := by
 intro ps
 induction ps with
 | nil => intro l cs K h _; exact ⟨cs, rfl, h⟩
 | cons p ps ih =>
   intro l cs K h hl
   rcases uC_true (show uC l false (fun v l => cellsK (un2U v) fun w => tst (Nat.beq (lenU w) p.2) (tst (allU isCellU w) (putK p.1 w cs fun cs' => fillF ps l cs' K))) = true from h) with ⟨_, h2⟩ | ⟨v, l1, rfl, h2⟩
   . cases h2
   obtain ⟨w, h3, h4⟩ := cellsK_true h2
   obtain ⟨h5, h6⟩ := tst_true h4
   obtain ⟨h7, h8⟩ := tst_true h6
   obtain ⟨cs', h9, h10, h11⟩ := putK_true h8
   rw [toL_cn] at hl
   obtain ⟨r, h12, h13⟩ := ih h11 (by simpa using hl)
   refine ⟨r, ?_, h13⟩
   have h5 := zN h5
   have h7 := allU_imp (fun {x} hx => isCellU_ok hx) h7
   rw [lenU_eq] at h5
   rw [h3, un2U_ok] at h5 h7 h9 h10
   rw [toL_cn, List.zip_cons_cons, List.map_cons, fillI]
   rw [if_pos ⟨h5, by rw [<- h5]; exact h10, h7⟩, <- h9]
   exact h12
def partsOf (ps : List (Nat × Nat × Opd)) : List (Nat × Nat) := ps.map fun p => (p.1, p.2.1)
def buildF (z : U) (ps : List (Nat × Nat)) (l : U) (K : KU) : Ans := tst (allU ntU l) (fillF ps l z K)
theorem buildF_ok (zs : List IVal) (parts : List (Nat × Nat × Opd)) : PuL (.build zs parts) (buildF (repL zs) (partsOf parts)) := by
 intro u K ts ts' h hg
 letI : Globs := ⟨fun _ => none⟩
 obtain ⟨h1, h2⟩ := tst_true h
 have hg' : getAll (parts.map (·.2.2)) ts = some (toL u, ts') := hg
 have hl := getAll_len hg'
 obtain ⟨r, h3, h4⟩ := fillF_true h2 (by simp only [partsOf, List.length_map] at hl ⊢; omega)
 refine ⟨_, fun cf σ wr => ?_, h4⟩
 have e : ∀ (ps : List (Nat × Nat × Opd)) (us : List IVal), ((partsOf ps).zip us).map (fun p => (p.1.1, p.1.2, un2 p.2)) = (ps.zip us).map fun p => (p.1.1, p.1.2.1, un2 p.2) := by
   intro ps
   induction ps with
   | nil => intro us; rfl
   | cons p ps ih => intro us; cases us with
     | nil => rfl
     | cons u us => simp only [partsOf, List.map_cons, List.zip_cons_cons] at ih ⊢; rw [ih us]
 rw [e, repL_ok] at h3
 simp only [stepOp, hg', rv]
 rw [if_pos (allU_imp (fun {x} hx => ntU_ok hx) h1)]
 simp only [h3]
 rfl
def boxvF (u : U) (K : KU) : Ans := cellsK u fun l => tst (allU isCellU l) (mapK un1U l fun r => fN (@Bool.rec (fun _ => Nat) 1 0 (allU nr2U l)) fun q => K (.o 6 q 0 0 0 r))
theorem flag01 (b : Bool) : ((@Bool.rec (fun _ => Nat) 1 0 b : Nat) != 0) = !b := by cases b <;> rfl
theorem boxvF_ok (x : Opd) : Pu1 (.boxv x) boxvF := by
 intro u K ts ts' h hg
 have hx := getAll1 hg
 obtain ⟨l, h1, h2⟩ := cellsK_true h
 obtain ⟨h3, h4⟩ := tst_true h2
 obtain ⟨r, h5, h6⟩ := mapK_true un1U_ok h4
 rw [fN_eq] at h6
 have h3 := allU_imp (fun {x} hx => isCellU_ok hx) h3
 rw [h1] at h3 h5
 refine ⟨_, fun cf σ wr => ?_, h6⟩
 simp only [stepOp, hx, rv]
 rw [if_pos h3, toI_pv, flag01, h5, allU_eq nr2U_ok, h1]
 rfl
theorem putCells_all : ∀ (vs cs : List IVal), vs.length <= cs.length -> putCells cs 0 vs = vs ++ cs.drop vs.length := by
 intro vs
 induction vs with
 | nil => intro cs _; rfl
 | cons v vs ih =>
   intro cs h
   cases cs with
   | nil => simp at h
   | cons c cs =>
     show putCells ((c :: cs).set 0 v) (0 + 1) vs = _
     rw [List.set_cons_zero, putCells_cons, ih cs (by simpa using h)]
     rfl
theorem fill_list {l t : U} {K : U -> Ans} (h : fillK l t 0 K = true) : ∃ t', lst (toT t').g 0 (toL l).length = toL l /\ K t' = true := by
 obtain ⟨t', h1, h2⟩ := fillK_true (toL l).length h
 refine ⟨t', ?_, h2⟩
 rw [h1, putCells_all _ _ (by rw [lst_length]; exact Nat.le_refl _), List.drop_of_length_le (by rw [lst_length]; exact Nat.le_refl _), List.append_nil]
def buildSlF (esz : Nat) (l : U) (K : KU) : Ans := fN (lenU l) fun n => tst (Nat.ble n 65536) (tst (allU (sliceLF.elC esz) l) (tst (allU ntU l) (tst (Nat.ble (Nat.mul n esz) 16777216)
 (mapK un2U l fun r => fillK r .nl 0 fun t => fN (@Bool.rec (fun _ => Nat) 1 0 (allU nr2U l)) fun q => K (.o 16 esz q 0 n t)))))
theorem elC_all {esz : Nat} {l : U} (h : allU (sliceLF.elC esz) l = true) : (toL l).all (fun v => v.cells.length == esz) = true := allU_imp (g := fun v => v.cells.length == esz) (fun {u} hu => by have := elC_ok hu; simpa using this) h
theorem buildSlF_ok (esz : Nat) (xs : List Opd) : PuL (.buildSl esz xs) (buildSlF esz) := by
 intro u K ts ts' h hg
 unfold buildSlF at h
 rw [fN_eq] at h
 obtain ⟨h1, h⟩ := tst_true h
 obtain ⟨h2, h⟩ := tst_true h
 obtain ⟨h3, h⟩ := tst_true h
 obtain ⟨h4, h⟩ := tst_true h
 obtain ⟨r, h5, h⟩ := mapK_true un2U_ok h
 obtain ⟨t, h6, h7⟩ := fill_list h
 rw [fN_eq] at h7
 have h1 := ble_iff.1 h1
 have h4 := ble_iff.1 h4
 rw [nmul] at h4
 rw [lenU_eq] at h1 h4 h7
 have h2 := elC_all h2
 have h3 := allU_imp (fun {x} hx => ntU_ok hx) h3
 rw [h5, List.length_map] at h6
 refine ⟨_, fun cf σ wr => ?_, h7⟩
 have hg' : getAll xs ts = some (toL u, ts') := hg
 simp only [stepOp, hg', rv]
 rw [if_pos ⟨h1, h2, h3, h4⟩, toI_sl, flag01, h6, allU_eq nr2U_ok]
 rfl
def copyK (x : U) (n i j : Nat) (t : U) (K : U -> Ans) : Ans := @Nat.rec (fun _ => Nat -> Nat -> U -> (U -> Ans) -> Ans) (fun _ _ t K => K t)
 (fun _ ih i j t K => frc (un2U (atR x i)) fun w => setK w t j fun t' => ih (Nat.succ i) (Nat.succ j) t' K) n i j t K
theorem copyK_true {x : U} : ∀ {n i j : Nat} {t : U} {K : U -> Ans}, copyK x n i j t K = true -> ∃ t', (∀ k, gat t' k = if j <= k /\ k < j + n then un2 (gat x (i + (k - j))) else gat t k) /\ K t' = true := by
 intro n
 induction n with
 | zero => intro i j t K h; exact ⟨t, fun k => by rw [if_neg (by omega)], h⟩
 | succ n ih =>
   intro i j t K h
   have h : frc (un2U (atR x i)) (fun w => setK w t j (fun t' => copyK x n (i + 1) (j + 1) t' K)) = true := h
   rw [frc_eq, setK_eq] at h
   obtain ⟨t', h1, h2⟩ := ih h
   refine ⟨t', fun k => ?_, h2⟩
   rw [h1, gat_put, un2U_ok, atR_eq, at_ok]
   by_cases e : k = j
   . subst e
     rw [if_neg (by omega), if_pos rfl, if_pos (by omega), Nat.sub_self, Nat.add_zero]
   . rw [if_neg e]
     by_cases e2 : j + 1 <= k /\ k < j + 1 + n
     . rw [if_pos e2, if_pos (by omega)]
       congr 2; omega
     . rw [if_neg e2, if_neg (by omega)]
def nrAll (x : U) (c d : Nat) : Bool := @Nat.rec (fun _ => Nat -> Bool) (fun _ => true) (fun _ ih i => @Bool.rec (fun _ => Bool) false (ih (Nat.succ i)) (nr2U (atR x i))) d c
theorem lst_succ (x : U) (c d : Nat) : lst (toT x).g c (d + 1) = gat x c :: lst (toT x).g (c + 1) d := by
 simp only [lst_eq, List.range_succ_eq_map, List.map_cons, List.map_map, Nat.add_zero]
 congr 1
 apply List.map_congr_left
 intro i _
 simp only [Function.comp, Nat.succ_eq_add_one]
 congr 1; omega
theorem nrAll_ok {x : U} : ∀ (d c : Nat), nrAll x c d = (lst (toT x).g c d).all nr2 := by
 intro d
 induction d with
 | zero => intro c; rfl
 | succ d ih =>
   intro c
   show @Bool.rec (fun _ => Bool) false (nrAll x (c + 1) d) (nr2U (atR x c)) = _
   rw [brec, lst_succ, List.all_cons, ih, nr2U_ok, atR_eq, at_ok]
   cases nr2 (gat x c) <;> simp
theorem lst_app {t x y : U} {c d c' d' : Nat} (h : ∀ k, gat t k = if c + d <= k /\ k < c + d + d' then un2 (gat y (c' + (k - (c + d)))) else gat x k) : lst (toT t).g c (d + d') = lst (toT x).g c d ++ (lst (toT y).g c' d').map un2 := by
 apply List.ext_getElem?
 intro i
 by_cases h1 : i < d
 . rw [zL (by rw [lst_length]; exact h1), lst_get _ _ _ _ (by omega), lst_get _ _ _ _ h1, h, if_neg (by omega)]
 . rw [zR (by rw [lst_length]; omega), lst_length, List.getElem?_map]
   by_cases h2 : i < d + d'
   . rw [lst_get _ _ _ _ h2, lst_get _ _ _ _ (by omega), h, if_pos (by omega)]
     simp only [Option.map_some]
     congr 3; omega
   . rw [List.getElem?_eq_none (by rw [lst_length]; omega), List.getElem?_eq_none (by rw [lst_length]; omega)]; rfl
def appN (r d n : Nat) (nr : Bool) : Nat := @Bool.rec (fun _ => Nat) (@Bool.rec (fun _ => Nat) 1 (@Bool.rec (fun _ => Nat) r 0 (Nat.beq d 0)) nr) r (Nat.beq n 0)
theorem appN_eq {r d n : Nat} {nr : Bool} {xs ys : List IVal} (h1 : xs.length = d) (h2 : ys.length = n) (h3 : nr = ys.all nr2) : (appN r d n nr != 0) = appR (r != 0) xs ys := by
 unfold appN appR
 cases h4 : Nat.beq n 0 with
 | true =>
   have h4 := zN h4
   have : ys = [] := List.length_eq_zero_iff.1 (by omega)
   simp [this]
 | false =>
   have h4 := zE h4
   have h5 : ys.isEmpty = false := by cases ys with | nil => exact absurd h2.symm h4 | cons y ys => rfl
   rw [h5, <- h3]
   cases nr with
   | false => simp
   | true =>
     cases h6 : Nat.beq d 0 with
     | true =>
       have h6 := zN h6
       have : xs = [] := List.length_eq_zero_iff.1 (by omega)
       simp [this]
     | false =>
       have h6 := zE h6
       have h7 : xs.isEmpty = false := by cases xs with | nil => exact absurd h1.symm h6 | cons y ys => rfl
       simp [h7]
def appLF (esz bytes : Nat) (u v : U) (K : KU) : Ans := uO u fun t own r c d x => tst (Nat.beq t 16) (tst (Nat.beq own esz) (tst (Nat.blt 0 esz) (uO v fun t' _ _ c' d' y => tst (Nat.beq t' 16) (fN (Nat.add d d') fun n =>
 tst (Nat.ble (Nat.mul n bytes) 1099511627776) (tst (Nat.ble n 1099511627776) (tst (sliceLF.eszOK esz y c' d') (copyK y d' c' (Nat.add c d) x fun z => fN (appN r d d' (nrAll y c' d')) fun q => K (.o 16 esz q c n z))))))))
theorem appLF_ok (esz bytes : Nat) (sv x : Opd) : Pu2 (.append false false esz bytes sv x) (appLF esz bytes) := by
 intro u v K ts ts' h hg
 obtain ⟨t1, hx, hy⟩ := getAll2 hg
 obtain ⟨t, own, r, c, d, y, rfl, h⟩ := uO_true h
 obtain ⟨h1, h⟩ := tst_true h
 obtain ⟨h2, h⟩ := tst_true h
 obtain ⟨h3, h⟩ := tst_true h
 obtain ⟨t', a', b', c', d', y', rfl, h⟩ := uO_true h
 obtain ⟨h4, h⟩ := tst_true h
 rw [fN_eq] at h
 obtain ⟨h5, h⟩ := tst_true h
 obtain ⟨h6, h⟩ := tst_true h
 obtain ⟨h7, h⟩ := tst_true h
 obtain ⟨z, h8, h9⟩ := copyK_true h
 rw [fN_eq] at h9
 have := zN h1; subst this
 have := zN h2; subst this
 have := zN h4; subst this
 have h3 := blt_true h3
 have h5 := ble_iff.1 h5
 have h6 := ble_iff.1 h6
 rw [nmul, nadd] at h5
 rw [nadd] at h6 h8 h9
 have h7 := eszOK_ok h7
 rw [toI_sl] at hx hy
 refine ⟨_, fun cf σ wr => ?_, h9⟩
 simp only [stepOp, hx, hy, elemsOf, if_pos h7, lst_length, rv]
 rw [if_pos ⟨trivial, h3, h5, h6⟩, toI_sl, lst_app h8]
 simp only [Bool.false_eq_true, if_false]
 rw [appN_eq (lst_length _ _ _) (lst_length _ _ _) (nrAll_ok d' c')]
def bytesK (l x : Nat) (n i j : Nat) (t : U) (K : U -> Ans) : Ans := @Nat.rec (fun _ => Nat -> Nat -> U -> (U -> Ans) -> Ans) (fun _ _ t K => K t)
 (fun _ ih i j t K => fN (Nat.add (Nat.mod (Nat.div x (Nat.pow 256 (Nat.sub (Nat.sub l 1) i))) 256) 18446744073709551616) fun b => setK (.i 4 b) t j fun t' => ih (Nat.succ i) (Nat.succ j) t' K) n i j t K
theorem byteU (q : Nat) : toI (.i 4 (Nat.add (Nat.mod q 256) 18446744073709551616)) = .int .u8 ((UInt8.ofNat q).toNat : Nat) := by
 have h : (UInt8.ofNat q).toNat = q % 256 := by simp
 have e : ((Nat.add (Nat.mod q 256) 18446744073709551616 : Nat) : Int) - 18446744073709551616 = ((UInt8.ofNat q).toNat : Nat) := by
   rw [h, nadd, nmod]; omega
 rw [toI_i, e]; rfl
theorem bytesK_true {l x : Nat} : ∀ {n i j : Nat} {t : U} {K : U -> Ans}, bytesK l x n i j t K = true -> i + n <= l -> ∃ t', (∀ k, gat t' k = if j <= k /\ k < j + n then (match (unpk l x)[i + (k - j)]? with | some b => .int .u8 b.toNat | none => undefI) else gat t k) /\ K t' = true := by
 intro n
 induction n with
 | zero => intro i j t K h _; exact ⟨t, fun k => by rw [if_neg (by omega)], h⟩
 | succ n ih =>
   intro i j t K h hl
   have h : fN (Nat.add (Nat.mod (Nat.div x (Nat.pow 256 (Nat.sub (Nat.sub l 1) i))) 256) 18446744073709551616) (fun b => setK (.i 4 b) t j fun t' => bytesK l x n (i + 1) (j + 1) t' K) = true := h
   rw [fN_eq, setK_eq] at h
   obtain ⟨t', h1, h2⟩ := ih h (by omega)
   refine ⟨t', fun k => ?_, h2⟩
   rw [h1, gat_put, byteU]
   by_cases e : k = j
   . subst e
     rw [if_neg (by omega), if_pos rfl, if_pos (by omega), Nat.sub_self, Nat.add_zero, unpk_get (by omega), ndiv, npow, nsub, nsub]
   . rw [if_neg e]
     by_cases e2 : j + 1 <= k /\ k < j + 1 + n
     . rw [if_pos e2, if_pos (by omega)]
       congr 2; omega
     . rw [if_neg e2, if_neg (by omega)]
theorem lst_bytes {t x : U} {c d l n : Nat} (h : ∀ k, gat t k = if c + d <= k /\ k < c + d + l then (match (unpk l n)[0 + (k - (c + d))]? with | some b => .int .u8 b.toNat | none => undefI) else gat x k) : lst (toT t).g c (d + l) = lst (toT x).g c d ++ (unpk l n).map fun b => IVal.int .u8 b.toNat := by
 apply List.ext_getElem?
 intro i
 by_cases h1 : i < d
 . rw [zL (by rw [lst_length]; exact h1), lst_get _ _ _ _ (by omega), lst_get _ _ _ _ h1, h, if_neg (by omega)]
 . rw [zR (by rw [lst_length]; omega), lst_length, List.getElem?_map]
   by_cases h2 : i < d + l
   . rw [lst_get _ _ _ _ h2, h, if_pos (by omega)]
     have e : 0 + (c + i - (c + d)) = i - d := by omega
     rw [e, unpk_get (by omega)]; rfl
   . rw [List.getElem?_eq_none (by rw [lst_length]; omega), List.getElem?_eq_none (by rw [unpk_length]; omega)]; rfl
def bytesF (u : U) (K : KU) : Ans := uS u fun l x => bytesK l x l 0 0 .nl fun t => K (.o 16 0 0 0 l t)
theorem bytesF_ok (x : Opd) : Pu1 (.conv .bytes x) bytesF := by
 intro u K ts ts' h hg
 have hx := getAll1 hg
 obtain ⟨l, n, rfl, h2⟩ := uS_true h
 obtain ⟨t', h3, h4⟩ := bytesK_true h2 (by omega)
 rw [toI_s] at hx
 refine ⟨_, fun cf σ wr => ?_, h4⟩
 have e := lst_bytes (t := t') (x := .nl) (c := 0) (d := 0) (l := l) (n := n) (fun k => by first | (rw [h3]; done) | (rw [h3]; simp))
 rw [Nat.zero_add] at e
 simp only [stepOp, hx, rv]
 rw [toI_sl, e]
 simp [lst]
def appSF (esz bytes : Nat) (u v : U) (K : KU) : Ans := uO u fun t own r c d x => tst (Nat.beq t 16) (tst (Nat.beq own esz) (tst (Nat.beq esz 1) (uS v fun l y => fN (Nat.add d l) fun n =>
 tst (Nat.ble (Nat.mul n bytes) 1099511627776) (tst (Nat.ble n 1099511627776) (bytesK l y l 0 (Nat.add c d) x fun z => fN (appN r d l true) fun q => K (.o 16 esz q c n z))))))
theorem appSF_ok (esz bytes : Nat) (sv x : Opd) : Pu2 (.append false true esz bytes sv x) (appSF esz bytes) := by
 intro u v K ts ts' h hg
 obtain ⟨t1, hx, hy⟩ := getAll2 hg
 obtain ⟨t, own, r, c, d, y, rfl, h⟩ := uO_true h
 obtain ⟨h1, h⟩ := tst_true h
 obtain ⟨h2, h⟩ := tst_true h
 obtain ⟨h3, h⟩ := tst_true h
 obtain ⟨l, n, rfl, k1⟩ := uS_true h
 rw [fN_eq] at k1
 obtain ⟨h5, k2⟩ := tst_true k1
 obtain ⟨h6, k3⟩ := tst_true k2
 obtain ⟨z, h8, h9⟩ := bytesK_true k3 (by omega)
 rw [fN_eq] at h9
 have := zN h1; subst this
 have := zN h2; subst this
 have := zN h3; subst this
 have h5 := ble_iff.1 h5
 have h6 := ble_iff.1 h6
 rw [nmul, nadd] at h5
 rw [nadd] at h6 h8 h9
 rw [toI_sl] at hx
 rw [toI_s] at hy
 refine ⟨_, fun cf σ wr => ?_, h9⟩
 simp only [stepOp, hx, hy, elemsOf, if_true, List.length_map, unpk_length, lst_length, rv]
 rw [if_pos ⟨trivial, Nat.one_pos, h5, h6⟩, toI_sl, lst_bytes h8]
 simp only [Bool.false_eq_true, if_false]
 have e1 : true = ((unpk l n).map fun b => IVal.int .u8 b.toNat).all nr2 := by simp [nr2, nr1, nr0]
 have e2 : ((unpk l n).map fun b => IVal.int .u8 b.toNat).map un2 = (unpk l n).map fun b => IVal.int .u8 b.toNat := by simp [un2, un1, Function.comp_def]
 rw [e2, appN_eq (lst_length _ _ _) (by simp [unpk_length]) e1]
def textK (x : U) (n i acc : Nat) (K : Nat -> Ans) : Ans := @Nat.rec (fun _ => Nat -> Nat -> (Nat -> Ans) -> Ans) (fun _ acc K => K acc)
 (fun _ ih i acc K => uI (atR x i) fun k c => tst (Nat.beq k 4) (fN (Nat.add (Nat.mul acc 256) (Nat.mod (Nat.sub c 18446744073709551616) 256)) fun a => ih (Nat.succ i) a K)) n i acc K
theorem textK_true {x : U} : ∀ {n i acc m : Nat} {K : Nat -> Ans}, textK x n i acc K = true -> ∃ a s, toBytes (lst (toT x).g i n) = some s /\ unpk (m + n) a = unpk m acc ++ s /\ K a = true := by
 intro n
 induction n with
 | zero => intro i acc m K h; exact ⟨acc, [], rfl, by simp, h⟩
 | succ n ih =>
   intro i acc m K h
   obtain ⟨k, c, e, h2⟩ := uI_true (show uI (atR x i) (fun k c => tst (Nat.beq k 4) (fN (Nat.add (Nat.mul acc 256) (Nat.mod (Nat.sub c 18446744073709551616) 256)) fun a => textK x n (i + 1) a K)) = true from h)
   obtain ⟨h3, h4⟩ := tst_true h2
   rw [fN_eq] at h4
   have := zN h3; subst this
   obtain ⟨a, s, h5, h6, h7⟩ := ih (m := m + 1) h4
   have e2 : gat x i = .int .u8 ((c : Int) - 18446744073709551616) := by rw [<- at_ok, <- atR_eq, e]; rfl
   refine ⟨a, UInt8.ofNat ((c : Int) - 18446744073709551616).toNat :: s, ?_, ?_, h7⟩
   . rw [lst_succ, e2]; simp only [toBytes, h5]
   . have e3 : m + (n + 1) = m + 1 + n := by omega
     rw [e3, h6, unpk_succ, nadd, nmul, nmod, nsub]
     have e4 : (acc * 256 + (c - 18446744073709551616) % 256) / 256 = acc := by omega
     have e5 : UInt8.ofNat (acc * 256 + (c - 18446744073709551616) % 256) = UInt8.ofNat ((c : Int) - 18446744073709551616).toNat := u8_mod (by omega)
     rw [e4, e5, zS]; rfl
def textF (u : U) (K : KU) : Ans := uO u fun t _ _ c d x => tst (Nat.beq t 16) (textK x d c 0 fun a => K (.s d a))
theorem textF_true {u : U} {K : KU} (h : textF u K = true) : ∃ a r xs s x, toI u = .sl a r xs /\ toBytes xs = some s /\ toI x = .str s /\ K x = true := by
 obtain ⟨t, a, b, c, d, y, rfl, h⟩ := uO_true h
 obtain ⟨h1, h⟩ := tst_true h
 have := zN h1; subst this
 obtain ⟨q, s, h2, h3, h4⟩ := textK_true (m := 0) h
 refine ⟨_, _, _, s, .s d q, toI_sl _ _ _ _ _, h2, ?_, h4⟩
 rw [toI_s]
 rw [Nat.zero_add] at h3
 rw [h3]; rfl
theorem textF_ok (x : Opd) : Pu1 (.conv .text x) textF := by
 intro u K ts ts' h hg
 have hx := getAll1 hg
 obtain ⟨a, r, xs, s, y, h1, h2, h3, h4⟩ := textF_true h
 rw [h1] at hx
 exact ⟨y, fun cf σ wr => by simp only [stepOp, hx, h2, h3, rv], h4⟩
end
end Go.Idl
namespace Go.Idl
noncomputable section
set_option maxHeartbeats 40000
abbrev KH := U -> H -> Ans
def Hp0 (o : IOp) (f : H -> KH -> Ans) : Prop := ∀ h K ts σ wr, HR h σ wr -> f h K = true -> ∃ r h' σ' wr', (∀ cf, stepOp cf o ⟨ts, σ, wr⟩ = some ⟨false, toI r, ⟨ts, σ', wr'⟩⟩) /\ HR h' σ' wr' /\ h'.tr = h.tr /\ K r h' = true
def Hp1 (o : IOp) (f : U -> H -> KH -> Ans) : Prop := ∀ u h K ts ts' σ wr, HR h σ wr -> f u h K = true -> getAll (opdsOf o) ts = some ([toI u], ts') -> ∃ r h' σ' wr', (∀ cf, stepOp cf o ⟨ts, σ, wr⟩ = some ⟨false, toI r, ⟨ts', σ', wr'⟩⟩) /\ HR h' σ' wr' /\ h'.tr = h.tr /\ K r h' = true
def Hp2 (o : IOp) (f : U -> U -> H -> KH -> Ans) : Prop := ∀ u v h K ts ts' σ wr, HR h σ wr -> f u v h K = true -> getAll (opdsOf o) ts = some ([toI u, toI v], ts') -> ∃ r h' σ' wr', (∀ cf, stepOp cf o ⟨ts, σ, wr⟩ = some ⟨false, toI r, ⟨ts', σ', wr'⟩⟩) /\ HR h' σ' wr' /\ h'.tr = h.tr /\ K r h' = true
def HpL (o : IOp) (f : U -> H -> KH -> Ans) : Prop := ∀ u h K ts ts' σ wr, HR h σ wr -> f u h K = true -> getAll (opdsOf o) ts = some (toL u, ts') -> ∃ r h' σ' wr', (∀ cf, stepOp cf o ⟨ts, σ, wr⟩ = some ⟨false, toI r, ⟨ts', σ', wr'⟩⟩) /\ HR h' σ' wr' /\ h'.tr = h.tr /\ K r h' = true
def obOf (zs : List IVal) : U := @Bool.rec (fun _ => U) (.o 2 zs.length 0 0 0 (repT zs 0 .nl)) (.o 1 0 0 0 0 (repL zs)) (Nat.blt zs.length 9)
theorem obOf_ok (zs : List IVal) : ObR (obOf zs) (.cells zs) := by
 unfold obOf
 rw [brec]
 split
 . show IObj.cells zs = .cells (toL (repL zs)); rw [repL_ok]
 . show IObj.cells zs = .cells (lst (toT (repT zs 0 .nl)).g 0 zs.length)
   congr 1
   apply List.ext_getElem?
   intro i
   by_cases hi : i < zs.length
   . rw [lst_get _ _ _ _ hi, Nat.zero_add, repT_ok zs 0 .nl i, if_pos (by omega)]
     simp [hi]
   . rw [List.getElem?_eq_none (by omega), List.getElem?_eq_none (by rw [lst_length]; omega)]
def allocF (ob : U) (h : H) (K : KH) : Ans := hpush ob h fun id h' => K (.o 1 id 0 0 0 .nl) h'
theorem allocF_ok (zs : List IVal) : Hp0 (.alloc zs) (allocF (obOf zs)) := by
 intro h K ts σ wr hr hk
 obtain ⟨h', h1, h2, h3⟩ := hpush_true hr hk (obOf_ok zs)
 exact ⟨_, h', _, _, fun cf => by simp only [stepOp]; rfl, h1, h2, h3⟩
def mkMapF (h : H) (K : KH) : Ans := hpush (.o 3 0 0 0 0 .nl) h fun id h' => K (.o 3 id 0 0 0 .nl) h'
theorem mkMapF_ok : Hp0 .mkMap mkMapF := by
 intro h K ts σ wr hr hk
 obtain ⟨h', h1, h2, h3⟩ := hpush_true hr hk (o := .map []) rfl
 exact ⟨_, h', _, _, fun cf => by simp only [stepOp]; rfl, h1, h2, h3⟩
def boxF (u : U) (h : H) (K : KH) : Ans := cellsK u fun l => tst (allU isCellU l) (hpush (.o 1 0 0 0 0 l) h fun id h' => K (.o 1 id 0 0 0 .nl) h')
theorem boxF_ok (x : Opd) : Hp1 (.box x) boxF := by
 intro u h K ts ts' σ wr hr hk hg
 have hx := getAll1 hg
 obtain ⟨l, h1, h2⟩ := cellsK_true hk
 obtain ⟨h3, h4⟩ := tst_true h2
 obtain ⟨h', h5, h6, h7⟩ := hpush_true hr h4 (o := .cells (toL l)) rfl
 have h3 := allU_imp (fun {x} hx => isCellU_ok hx) h3
 rw [h1] at h3 h5
 exact ⟨_, h', _, _, fun cf => by simp only [stepOp, hx]; rw [if_pos h3]; rfl, h5, h6, h7⟩
def flatK (l : U) : U -> Nat -> (U -> Nat -> Ans) -> Ans := @U.rec (fun _ => U -> Nat -> (U -> Nat -> Ans) -> Ans) (fun _ _ _ _ _ => false) (fun _ _ _ _ => false) (fun _ _ _ _ _ => false) (fun _ _ _ _ _ _ _ _ _ _ => false) (fun t j K => K t j)
 (fun v _ _ ih t j K => cellsK (un2U v) fun cs => fillK cs t j fun t' => fN (Nat.add j (lenU cs)) fun j' => ih t' j' K) (fun _ _ _ _ _ _ _ _ _ => false) (fun _ _ _ _ => false) (fun _ _ _ _ _ _ _ _ _ _ => false) l
theorem fillK_gat : ∀ {vs t : U} {off : Nat} {K : U -> Ans}, fillK vs t off K = true -> ∃ t', (∀ k, gat t' k = if off <= k /\ k < off + (toL vs).length then (toL vs).getD (k - off) undefI else gat t k) /\ K t' = true := by
 intro vs
 induction vs with
 | nl => intro t off K h; exact ⟨t, fun k => by rw [if_neg (by rw [toL_nl]; simp only [List.length_nil]; omega)], h⟩
 | cn v vs _ ih =>
   intro t off K h
   have h : setK v t off (fun t' => fillK vs t' (Nat.succ off) K) = true := h
   rw [setK_eq] at h
   obtain ⟨t', h1, h2⟩ := ih h
   refine ⟨t', fun k => ?_, h2⟩
   rw [h1, gat_put, toL_cn, List.length_cons]
   by_cases e : k = off
   . subst e; rw [if_neg (by omega), if_pos rfl, if_pos (by omega), Nat.sub_self]; rfl
   . rw [if_neg e]
     by_cases e2 : off.succ <= k /\ k < off.succ + (toL vs).length
     . rw [if_pos e2, if_pos (by omega)]
       have e3 : k - off = (k - off.succ) + 1 := by omega
       rw [e3]; rfl
     . rw [if_neg e2, if_neg (by omega)]
 | _ => intro t off K h; cases h
theorem flatK_true : ∀ {l t : U} {j : Nat} {K : U -> Nat -> Ans}, flatK l t j K = true -> ∃ t' n, lst (toT t').g 0 n = lst (toT t).g 0 j ++ (toL l).flatMap (fun v => (un2 v).cells) /\ K t' n = true := by
 intro l
 induction l with
 | nl => intro t j K h; exact ⟨t, j, by simp [toL_nl], h⟩
 | cn v vs _ ih =>
   intro t j K h
   obtain ⟨cs, h1, h2⟩ := cellsK_true (show cellsK (un2U v) (fun cs => fillK cs t j fun t' => fN (Nat.add j (lenU cs)) fun j' => flatK vs t' j' K) = true from h)
   obtain ⟨t1, h3, h4⟩ := fillK_gat h2
   rw [fN_eq, nadd, lenU_eq] at h4
   obtain ⟨t', n, h5, h6⟩ := ih h4
   refine ⟨t', n, ?_, h6⟩
   rw [h5, toL_cn, List.flatMap_cons, <- zS, <- un2U_ok v, <- h1]
   congr 1
   apply List.ext_getElem?
   intro i
   by_cases h7 : i < j
   . rw [zL (by rw [lst_length]; exact h7), lst_get _ _ _ _ (by omega), lst_get _ _ _ _ h7, h3, if_neg (by omega)]
   . rw [zR (by rw [lst_length]; omega), lst_length]
     by_cases h8 : i < j + (toL cs).length
     . rw [lst_get _ _ _ _ h8, h3, if_pos (by omega)]
       have e : i - j < (toL cs).length := by omega
       simp [e]
     . rw [List.getElem?_eq_none (by rw [lst_length]; omega), List.getElem?_eq_none (by omega)]
 | _ => intro t j K h; cases h
def buildRsF (esz : Nat) (l : U) (h : H) (K : KH) : Ans := fN (lenU l) fun n => tst (Nat.ble n 65536) (tst (allU (sliceLF.elC esz) l) (tst (allU ntU l) (tst (Nat.ble (Nat.mul n esz) 16777216)
 (flatK l .nl 0 fun t c => hpush (.o 2 c 0 0 0 t) h fun id h' => K (.o 2 esz id 0 n .nl) h'))))
theorem buildRsF_ok (esz : Nat) (xs : List Opd) : HpL (.buildRs esz xs) (buildRsF esz) := by
 intro u h K ts ts' σ wr hr hk hg
 unfold buildRsF at hk
 rw [fN_eq] at hk
 obtain ⟨h1, kq1⟩ := tst_true hk
 obtain ⟨h2, kq2⟩ := tst_true kq1
 obtain ⟨h3, kq3⟩ := tst_true kq2
 obtain ⟨h4, kq4⟩ := tst_true kq3
 obtain ⟨t, c, h5, h6⟩ := flatK_true kq4
 obtain ⟨h', h7, h8, h9⟩ := hpush_true hr h6 (o := .cells (lst (toT t).g 0 c)) rfl
 have h1 := ble_iff.1 h1
 have h4 := ble_iff.1 h4
 rw [nmul] at h4
 rw [lenU_eq] at h1 h4 h9
 have h2 := elC_all h2
 have h3 := allU_imp (fun {x} hx => ntU_ok hx) h3
 have hg' : getAll xs ts = some (toL u, ts') := hg
 rw [h5] at h7
 refine ⟨_, h', _, _, fun cf => ?_, h7, h8, h9⟩
 simp only [stepOp, hg']
 rw [if_pos ⟨h1, h2, h3, h4⟩]
 simp [lst, toI_rs]
def replK (z : U) (n : Nat) : U -> Nat -> (U -> Nat -> Ans) -> Ans := @Nat.rec (fun _ => U -> Nat -> (U -> Nat -> Ans) -> Ans) (fun t j K => K t j)
 (fun _ ih t j K => fillK z t j fun t' => fN (Nat.add j (lenU z)) fun j' => ih t' j' K) n
theorem replK_true {z : U} : ∀ {n : Nat} {t : U} {j : Nat} {K : U -> Nat -> Ans}, replK z n t j K = true -> ∃ t' m, lst (toT t').g 0 m = lst (toT t).g 0 j ++ repl n (toL z) /\ K t' m = true := by
 intro n
 induction n with
 | zero => intro t j K h; exact ⟨t, j, by simp [repl], h⟩
 | succ n ih =>
   intro t j K h
   obtain ⟨t1, h3, h4⟩ := fillK_gat (show fillK z t j (fun t' => fN (Nat.add j (lenU z)) fun j' => replK z n t' j' K) = true from h)
   rw [fN_eq, nadd, lenU_eq] at h4
   obtain ⟨t', m, h5, h6⟩ := ih h4
   refine ⟨t', m, ?_, h6⟩
   have e0 : repl (n + 1) (toL z) = toL z ++ repl n (toL z) := by simp [repl, List.replicate_succ]
   rw [h5, e0, <- zS]
   congr 1
   apply List.ext_getElem?
   intro i
   by_cases h7 : i < j
   . rw [zL (by rw [lst_length]; exact h7), lst_get _ _ _ _ (by omega), lst_get _ _ _ _ h7, h3, if_neg (by omega)]
   . rw [zR (by rw [lst_length]; omega), lst_length]
     by_cases h8 : i < j + (toL z).length
     . rw [lst_get _ _ _ _ h8, h3, if_pos (by omega)]
       have e : i - j < (toL z).length := by omega
       simp [e]
     . rw [List.getElem?_eq_none (by rw [lst_length]; omega), List.getElem?_eq_none (by omega)]
def replE (e : U) (n : Nat) : U -> Nat -> (U -> Ans) -> Ans := @Nat.rec (fun _ => U -> Nat -> (U -> Ans) -> Ans) (fun t _ K => K t) (fun _ ih t j K => setK e t j fun t' => ih t' (Nat.succ j) K) n
theorem replE_true {e : U} : ∀ {n : Nat} {t : U} {j : Nat} {K : U -> Ans}, replE e n t j K = true -> ∃ t', lst (toT t').g 0 (j + n) = lst (toT t).g 0 j ++ List.replicate n (toI e) /\ K t' = true := by
 intro n
 induction n with
 | zero => intro t j K h; exact ⟨t, by simp, h⟩
 | succ n ih =>
   intro t j K h
   have h : setK e t j (fun t' => replE e n t' (Nat.succ j) K) = true := h
   rw [setK_eq] at h
   obtain ⟨t', h1, h2⟩ := ih h
   refine ⟨t', ?_, h2⟩
   have e1 : j + (n + 1) = j.succ + n := by omega
   rw [e1, h1, List.replicate_succ, <- List.singleton_append, <- zS]
   congr 1
   apply List.ext_getElem?
   intro i
   by_cases h7 : i < j
   . rw [zL (by rw [lst_length]; exact h7), lst_get _ _ _ _ (by omega), lst_get _ _ _ _ h7, gat_put, if_neg (by omega)]
   . rw [zR (by rw [lst_length]; omega), lst_length]
     by_cases h8 : i = j
     . subst h8
       rw [lst_get _ _ _ _ (by omega), gat_put, if_pos (by omega)]; simp
     . rw [List.getElem?_eq_none (by rw [lst_length]; omega), List.getElem?_eq_none (by simp; omega)]
def mkOwnN (esz l c : Nat) : Nat := @Bool.rec (fun _ => Nat) esz (@Bool.rec (fun _ => Nat) 0 esz (Nat.beq c 0)) (Nat.beq l 0)
theorem mkOwnN_eq (esz l c : Nat) : mkOwnN esz l c = mkOwn esz (l : Int) (c : Int) := by
 unfold mkOwnN mkOwn
 cases h1 : Nat.beq l 0 with
 | false => rw [if_neg (fun h => zE h1 (by omega))]
 | true =>
   have h1 := zN h1
   cases h2 : Nat.beq c 0 with
   | true => have h2 := zN h2; rw [if_neg (fun h => h.2 (by omega))]
   | false => have h2 := zE h2; rw [if_pos ⟨by omega, by omega⟩]
def mkSlF (byref : Bool) (esz bytes : Nat) (z ez : U) (u v : U) (h : H) (K : KH) : Ans := uI u fun _ n => uI v fun _ m => tst (Nat.ble 18446744073709551616 n) (tst (Nat.ble n m) (fN (Nat.sub n 18446744073709551616) fun l => fN (Nat.sub m 18446744073709551616) fun c =>
 tst (Nat.ble (Nat.mul c bytes) 1099511627776) (tst (Nat.ble c 1099511627776) (tst (Nat.beq (lenU z) esz) (tst (Nat.blt 0 esz)
   (@Bool.rec (fun _ => Ans) (tst (nr2U ez) (tst (Nat.ble l 65536) (fN (mkOwnN esz l c) fun w => replE ez l .nl 0 fun t => K (.o 16 w 0 0 l t) h))) (replK z c .nl 0 fun t q => hpush (.o 2 q 0 0 0 t) h fun id h' => K (.o 2 esz id 0 l .nl) h') byref))))))
theorem mkSlF_ok (byref : Bool) (esz bytes : Nat) (zs : List IVal) (x y : Opd) : Hp2 (.mkSl byref esz bytes zs x y) (mkSlF byref esz bytes (repL zs) (rep (elemZ zs))) := by
 intro u v h K ts ts' σ wr hr hk hg
 obtain ⟨t1, hx, hy⟩ := getAll2 hg
 obtain ⟨k, n, rfl, kq1⟩ := uI_true hk
 obtain ⟨k', m, rfl, g1⟩ := uI_true kq1
 obtain ⟨h1, g1⟩ := tst_true g1
 obtain ⟨h2, g1⟩ := tst_true g1
 rw [fN_eq, fN_eq] at g1
 obtain ⟨h3, g1⟩ := tst_true g1
 obtain ⟨h4, g1⟩ := tst_true g1
 obtain ⟨h5, g1⟩ := tst_true g1
 obtain ⟨h6, g1⟩ := tst_true g1
 have h1 := ble_iff.1 h1
 have h2 := ble_iff.1 h2
 have h3 := ble_iff.1 h3
 have h4 := ble_iff.1 h4
 have h5 := zN h5
 have h6 := blt_true h6
 rw [nsub] at h3 h4
 rw [nmul] at h3
 rw [lenU_eq, repL_ok] at h5
 rw [toI_i] at hx hy
 have e1 : (0 : Int) <= (n : Int) - 18446744073709551616 := by omega
 have e2 : (n : Int) - 18446744073709551616 <= (m : Int) - 18446744073709551616 := by omega
 have e4 : (m : Int) - 18446744073709551616 = ((m - 18446744073709551616 : Nat) : Int) := by omega
 have e3 : ((m : Int) - 18446744073709551616) * bytes <= 1099511627776 := by
   rw [e4]
   generalize m - 18446744073709551616 = c at h3
   have := Int.ofNat_le.2 h3
   rw [Int.natCast_mul] at this
   exact this
 have e5 : (m : Int) - 18446744073709551616 <= 1099511627776 := by omega
 have e6 : ((n : Int) - 18446744073709551616).toNat = n - 18446744073709551616 := by omega
 have e7 : ((m : Int) - 18446744073709551616).toNat = m - 18446744073709551616 := by omega
 rcases brec_true g1 with ⟨hb, g2⟩ | ⟨hb, g2⟩
 . subst hb
   obtain ⟨t, q, h7, h8⟩ := replK_true g2
   obtain ⟨h', h9, h10, h11⟩ := hpush_true hr h8 (o := .cells (lst (toT t).g 0 q)) rfl
   have e8 : lst (toT U.nl).g 0 0 = [] := rfl
   rw [h7, repL_ok, e8, List.nil_append, nsub] at h9
   rw [nsub] at h11
   refine ⟨_, h', _, _, fun cf => ?_, h9, h10, h11⟩
   simp only [stepOp, hx, hy]
   rw [if_pos ⟨e1, e2, e3, e5, h5, h6⟩, if_pos trivial, e6, e7, toI_rs]
 . subst hb
   obtain ⟨h7, g2⟩ := tst_true g2
   obtain ⟨h8, g2⟩ := tst_true g2
   rw [fN_eq] at g2
   obtain ⟨t, h9, h10⟩ := replE_true g2
   have h8 := ble_iff.1 h8
   rw [nr2U_ok, rep_ok] at h7
   rw [nsub] at h8 h9 h10
   rw [nsub, mkOwnN_eq] at h10
   refine ⟨_, h, σ, wr, fun cf => ?_, hr, rfl, h10⟩
   simp only [stepOp, hx, hy]
   rw [if_pos ⟨e1, e2, e3, e5, h5, h6⟩]
   simp only [Bool.false_eq_true, if_false]
   have e8 : lst (toT U.nl).g 0 0 = [] := rfl
   rw [Nat.zero_add, e8, List.nil_append, rep_ok] at h9
   rw [if_pos ⟨h7, by omega⟩, toI_sl, h9, e6]
   have e9 : (n : Int) - 18446744073709551616 = ((n - 18446744073709551616 : Nat) : Int) := by omega
   rw [e9, e4]
   rfl
theorem loadCell_of {σ : List IObj} {id : Nat} {cs : List IVal} (h : σ[id]? = some (.cells cs)) : loadCell σ id = some cs := by unfold loadCell; rw [h]
def flatQ (y : U) (n : Nat) : Nat -> U -> Nat -> (U -> Nat -> Ans) -> Ans := @Nat.rec (fun _ => Nat -> U -> Nat -> (U -> Nat -> Ans) -> Ans) (fun _ t j K => K t j)
 (fun _ ih i t j K => cellsK (un2U (atR y i)) fun cs => fillK cs t j fun t' => fN (Nat.add j (lenU cs)) fun j' => ih (Nat.succ i) t' j' K) n
theorem flatQ_true {y : U} : ∀ {n i : Nat} {t : U} {j : Nat} {K : U -> Nat -> Ans}, flatQ y n i t j K = true -> ∃ t' m, lst (toT t').g 0 m = lst (toT t).g 0 j ++ (lst (toT y).g i n).flatMap (fun v => (un2 v).cells) /\ K t' m = true := by
 intro n
 induction n with
 | zero => intro i t j K h; exact ⟨t, j, by simp [lst], h⟩
 | succ n ih =>
   intro i t j K h
   obtain ⟨cs, h1, h2⟩ := cellsK_true (show cellsK (un2U (atR y i)) (fun cs => fillK cs t j fun t' => fN (Nat.add j (lenU cs)) fun j' => flatQ y n (Nat.succ i) t' j' K) = true from h)
   obtain ⟨t1, h3, h4⟩ := fillK_gat h2
   rw [fN_eq, nadd, lenU_eq] at h4
   obtain ⟨t', m, h5, h6⟩ := ih h4
   refine ⟨t', m, ?_, h6⟩
   rw [h5, lst_succ, List.flatMap_cons, <- zS]
   have e0 : (un2 (gat y i)).cells = toL cs := by rw [h1, un2U_ok, atR_eq, at_ok]
   rw [e0]
   congr 1
   apply List.ext_getElem?
   intro q
   by_cases h7 : q < j
   . rw [zL (by rw [lst_length]; exact h7), lst_get _ _ _ _ (by omega), lst_get _ _ _ _ h7, h3, if_neg (by omega)]
   . rw [zR (by rw [lst_length]; omega), lst_length]
     by_cases h8 : q < j + (toL cs).length
     . rw [lst_get _ _ _ _ h8, h3, if_pos (by omega)]
       have e : q - j < (toL cs).length := by omega
       simp [e]
     . rw [List.getElem?_eq_none (by rw [lst_length]; omega), List.getElem?_eq_none (by omega)]
theorem lst_take (f : Nat -> Nat -> IVal) (c n q : Nat) (h : n <= q) : (lst f c q).take n = lst f c n := by
 have := lst_slice f c q 0 n (Nat.zero_le _) h
 simpa using this
def appRF (esz bytes : Nat) (u v : U) (h : H) (K : KH) : Ans := uO u fun t a b c d x => uO v fun t' _ _ c' d' y => tst (Nat.beq t' 16) (tst (Nat.blt 0 esz) (tst (Nat.beq a esz) (fN (Nat.add d d') fun n =>
 tst (Nat.ble (Nat.mul n bytes) 1099511627776) (tst (Nat.ble n 1099511627776) (tst (sliceLF.eszOK esz y c' d')
   (@Bool.rec (fun _ => Ans)
     (tst (Nat.beq t 16) (tst (Nat.beq d 0) (@Bool.rec (fun _ => Ans) (flatQ y d' c' .nl 0 fun z m => hpush (.o 2 m 0 0 0 z) h fun id h' => K (.o 2 esz id 0 d' .nl) h') (K (.o 16 esz b c 0 x) h) (Nat.beq d' 0))))
     (tst (Nat.beq c 0) (hget b h fun ob => uO ob fun w q _ _ _ tr => tst (Nat.beq w 2) (fN (Nat.mul d esz) fun j => tst (Nat.ble j q) (flatQ y d' c' tr j fun z m =>
       hput b (.o 9 0 0 0 0 .nl) false h fun h1 => hpush (.o 2 m 0 0 0 z) h1 fun id h' => K (.o 2 esz id 0 n .nl) h')))) (Nat.beq t 2)))))))
theorem appRF_ok (esz bytes : Nat) (sv x : Opd) : Hp2 (.append true false esz bytes sv x) (appRF esz bytes) := by
 intro u v h K ts ts' σ wr hr hk hg
 obtain ⟨t1, hx, hy⟩ := getAll2 hg
 obtain ⟨t, a, b, c, d, x', rfl, k1⟩ := uO_true hk
 obtain ⟨t', a', b', c', d', y, rfl, k2⟩ := uO_true k1
 clear hk k1
 obtain ⟨h1, k3⟩ := tst_true k2
 obtain ⟨h2, k4⟩ := tst_true k3
 obtain ⟨h3, k5⟩ := tst_true k4
 rw [fN_eq] at k5
 obtain ⟨h4, k6⟩ := tst_true k5
 obtain ⟨h5, k7⟩ := tst_true k6
 obtain ⟨h6, k8⟩ := tst_true k7
 clear k2 k3 k4 k5 k6 k7
 have := zN h1; subst this
 have := zN h3; subst this
 have h2' := blt_true h2
 have h4' := ble_iff.1 h4
 have h5' := ble_iff.1 h5
 rw [nmul, nadd] at h4'
 rw [nadd] at h5'
 have h6' := eszOK_ok h6
 rw [toI_sl] at hy
 rcases brec_true k8 with ⟨h7, k9⟩ | ⟨_, k9⟩
 . clear k8
   have := zN h7; subst this
   obtain ⟨h8, k10⟩ := tst_true k9
   clear k9
   have := zN h8; subst this
   obtain ⟨ob, o, h9, h10, k11⟩ := hget_true hr k10
   clear k10
   obtain ⟨w, q, _, _, _, tr, rfl, k12⟩ := uO_true k11
   clear k11
   obtain ⟨h11, k13⟩ := tst_true k12
   clear k12
   have := zN h11; subst this
   rw [fN_eq, nmul] at k13
   obtain ⟨h12, k14⟩ := tst_true k13
   have h12' := ble_iff.1 h12
   obtain ⟨z, m, h13, k15⟩ := flatQ_true k14
   obtain ⟨hh1, r1, r2, r3, k16⟩ := hput_true hr k15 (o := .dead) rfl
   obtain ⟨hh2, r4, r5, k17⟩ := hpush_true r1 k16 (o := .cells (lst (toT z).g 0 m)) rfl
   have ho : o = .cells (lst (toT tr).g 0 q) := h10.o
   subst ho
   rw [toI_rs] at hx
   rw [h13] at r4
   rw [nadd, List.length_set] at k17
   refine ⟨_, hh2, _, _, fun cf => ?_, r4, r5.trans r3, k17⟩
   simp only [stepOp, hx, hy, elemsOf, if_pos h6', lst_length, loadCell_of h9]
   rw [if_pos ⟨trivial, trivial, trivial, h2', h4', h5'⟩, if_pos h12', lst_take _ _ _ _ h12', toI_rs]
 . clear k8
   obtain ⟨h7, k10⟩ := tst_true k9
   clear k9
   have := zN h7; subst this
   obtain ⟨h8, k11⟩ := tst_true k10
   clear k10
   have := zN h8; subst this
   rw [toI_sl] at hx
   rw [Nat.zero_add] at h4' h5'
   have e0 : lst (toT x').g c 0 = [] := rfl
   rw [e0] at hx
   rcases brec_true k11 with ⟨h9, k12⟩ | ⟨h9, k12⟩
   . clear k11
     have h9 := zN h9
     subst h9
     refine ⟨_, h, σ, wr, fun cf => ?_, hr, rfl, k12⟩
     simp only [stepOp, hx, hy, elemsOf, if_pos h6', lst_length, List.length_nil, Nat.zero_add, rv, if_true]
     rw [if_pos ⟨trivial, h2', h4', h5'⟩, toI_sl, e0]
   . have h9 := zE h9
     obtain ⟨z, m, h13, k13⟩ := flatQ_true k12
     obtain ⟨hh2, r4, r5, k14⟩ := hpush_true hr k13 (o := .cells (lst (toT z).g 0 m)) rfl
     have e8 : lst (toT U.nl).g 0 0 = [] := rfl
     rw [h13, e8, List.nil_append] at r4
     refine ⟨_, hh2, _, _, fun cf => ?_, r4, r5, k14⟩
     simp only [stepOp, hx, hy, elemsOf, if_pos h6', lst_length, List.length_nil, Nat.zero_add, if_true]
     rw [if_pos ⟨trivial, h2', h4', h5'⟩, if_neg h9, toI_rs]
def clearK (z : U) (n : Nat) : U -> Nat -> (U -> Ans) -> Ans := @Nat.rec (fun _ => U -> Nat -> (U -> Ans) -> Ans) (fun ob _ K => K ob) (fun _ ih ob j K => cellsPut ob j z fun ob' => fN (Nat.add j (lenU z)) fun j' => ih ob' j' K) n
theorem putCells_app : ∀ {a b cs : List IVal} {off : Nat}, putCells cs off (a ++ b) = putCells (putCells cs off a) (off + a.length) b := by
 intro a
 induction a with
 | nil => intro b cs off; rfl
 | cons v a ih => intro b cs off; simp only [List.cons_append, putCells, ih, List.length_cons]; congr 1; omega
theorem clearK_true {z : U} : ∀ {n : Nat} {ob : U} {j : Nat} {K : U -> Ans} {o : IObj}, ObR ob o -> 0 < n -> clearK z n ob j K = true -> ∃ ob' cs, o = .cells cs /\ j + n * (toL z).length <= cs.length /\ ObR ob' (.cells (putCells cs j (repl n (toL z)))) /\ K ob' = true := by
 intro n
 induction n with
 | zero => intro ob j K o _ h; omega
 | succ n ih =>
   intro ob j K o ho _ h
   obtain ⟨t, a, b, c, d, x, cs, t', a', b', c', d', x', rfl, h1, h2, h3, h4⟩ := cellsPut_true (show cellsPut ob j z (fun ob' => fN (Nat.add j (lenU z)) fun j' => clearK z n ob' j' K) = true from h)
   rw [fN_eq, nadd, lenU_eq] at h4
   have ho : o = .cells cs := ho.o.trans h1
   have e0 : repl (n + 1) (toL z) = toL z ++ repl n (toL z) := by simp [repl, List.replicate_succ]
   letI : Globs := ⟨fun _ => none⟩
   have hlen : (putCells cs j (toL z)).length = cs.length := putCells_len h2
   rcases Nat.eq_zero_or_pos n with hn | hn
   . subst hn
     refine ⟨_, cs, ho, by omega, ?_, h4⟩
     rw [e0]; simp only [repl, List.replicate_zero, List.flatten_nil, List.append_nil]
     exact ObR_cells h3
   . obtain ⟨ob', cs2, h5, h6, h7, h8⟩ := ih (ObR_cells h3) hn h4
     cases h5
     refine ⟨ob', cs, ho, ?_, ?_, h8⟩
     . rw [hlen] at h6; rw [Nat.add_mul]; omega
     . rw [e0, putCells_app]; exact h7
def clearF (z : U) (fl : Bool) (u : U) (h : H) (K : KH) : Ans := uO u fun t a b c d x => @Bool.rec (fun _ => Ans) (tst (Nat.beq t 16) (tst (Nat.beq d 0) (K (.o 18 0 0 0 0 .nl) h)))
 (tst (Nat.beq a (lenU z)) (tst (Nat.blt 0 a) (tst (Nat.blt 0 d) (hget b h fun ob => clearK z d ob c fun ob' => hput b ob' fl h fun h' => K (.o 18 0 0 0 0 .nl) h')))) (Nat.beq t 2)
theorem clearF_ok (zs : List IVal) (x : Opd) : Hp1 (.clear zs x) (clearF (repL zs) (!(zs.all nr1))) := by
 intro u h K ts ts' σ wr hr hk hg
 have hx := getAll1 hg
 obtain ⟨t, a, b, c, d, y, rfl, k1⟩ := uO_true hk
 clear hk
 rcases brec_true k1 with ⟨h1, k2⟩ | ⟨_, k2⟩
 . clear k1
   have := zN h1; subst this
   obtain ⟨h2, k3⟩ := tst_true k2
   obtain ⟨h3, k4⟩ := tst_true k3
   obtain ⟨h4, k5⟩ := tst_true k4
   have h2' := zN h2
   rw [lenU_eq, repL_ok] at h2'
   have h3' := blt_true h3
   have h4' := blt_true h4
   obtain ⟨ob, o, h9, h10, k6⟩ := hget_true hr k5
   obtain ⟨ob', cs, h5, h6, h7, k7⟩ := clearK_true h10 h4' k6
   subst h5
   rw [repL_ok] at h6 h7
   obtain ⟨hh1, r1, r2, r3, k8⟩ := hput_true hr k7 h7
   rw [toI_rs] at hx
   refine ⟨_, hh1, _, _, fun cf => ?_, r1, r3, k8⟩
   simp only [stepOp, hx, loadCell_of h9]
   rw [if_pos ⟨h2', h3', by rw [h2']; exact h6⟩]
   rfl
 . clear k1
   obtain ⟨h1, k3⟩ := tst_true k2
   clear k2
   have := zN h1; subst this
   obtain ⟨h2, k4⟩ := tst_true k3
   clear k3
   have := zN h2; subst this
   rw [toI_sl] at hx
   refine ⟨_, h, σ, wr, fun cf => ?_, hr, rfl, k4⟩
   have e0 : lst (toT y).g c 0 = [] := rfl
   simp only [stepOp, hx, e0, rv]
   rfl
def load1 (u : U) (h : H) (K : KH) : Ans := uO u fun t a b c d x => @Bool.rec (fun _ => Ans) (tst (Nat.beq t 6) (nthK b x fun v => K v h)) (hgetM a h fun ob h => cellAt ob b fun v => frc (un2U v) fun w => K w h) (Nat.beq t 1)
theorem load1_ok (x : Opd) : Hp1 (.load false none x) load1 := by
 intro u h K ts ts' σ wr hr hk hg
 have hx := getAll1 hg
 obtain ⟨t, a, b, c, d, y, rfl, kq1⟩ := uO_true hk
 rcases brec_true kq1 with ⟨h1, h2⟩ | ⟨_, h2⟩
 . have := zN h1; subst this
   obtain ⟨ob, o, h', h3, h4, hr', htr', h5⟩ := hgetM_true hr h2
   obtain ⟨t', a', b', c', d', x', cs, w, rfl, h6, h7, h8⟩ := cellAt_true h5
   rw [frc_eq] at h8
   have ho : o = .cells cs := h4.o.trans h6
   subst ho
   rw [toI_ptr] at hx
   refine ⟨_, h', σ, wr, fun cf => ?_, hr', htr', h8⟩
   simp only [stepOp, hx, loadCell_of h3, takeV, h7, rv, un2U_ok, Bool.false_eq_true, if_false]
 . obtain ⟨h3, h4⟩ := tst_true h2
   have := zN h3; subst this
   obtain ⟨w, h5, h6⟩ := nthK_true h4
   rw [toI_pv] at hx
   exact ⟨w, h, σ, wr, fun cf => by simp only [stepOp, hx, takeV, h5, rv], hr, rfl, h6⟩
def loadN (n : Nat) (u : U) (h : H) (K : KH) : Ans := uO u fun t a b c d x => @Bool.rec (fun _ => Ans) (tst (Nat.beq t 6) (dropK b x fun y => takeK n y fun r => K (.o 17 0 0 0 0 r) h)) (hgetM a h fun ob h => cellsAt ob n b fun r => K (.o 17 1 0 0 0 r) h) (Nat.beq t 1)
theorem loadN_ok (n : Nat) (x : Opd) : Hp1 (.load false (some n) x) (loadN n) := by
 intro u h K ts ts' σ wr hr hk hg
 have hx := getAll1 hg
 obtain ⟨t, a, b, c, d, y, rfl, kq1⟩ := uO_true hk
 rcases brec_true kq1 with ⟨h1, h2⟩ | ⟨_, h2⟩
 . have := zN h1; subst this
   obtain ⟨ob, o, h', h3, h4, hr', htr', h5⟩ := hgetM_true hr h2
   obtain ⟨t', a', b', c', d', x', cs, r, rfl, h6, h7, h8, h9⟩ := cellsAt_true h5
   have ho : o = .cells cs := h4.o.trans h6
   subst ho
   rw [toI_ptr] at hx
   refine ⟨_, h', σ, wr, fun cf => ?_, hr', htr', h9⟩
   simp only [stepOp, hx, loadCell_of h3, takeV]
   rw [if_pos h7]
   simp only [rv, Bool.false_eq_true, if_false]
   rw [toI_agg, h8]
   rfl
 . obtain ⟨h3, h4⟩ := tst_true h2
   have := zN h3; subst this
   obtain ⟨z, h5, h6, h7⟩ := dropK_true h4
   obtain ⟨r, h8, h9, h10⟩ := takeK_true h7
   rw [toI_pv] at hx
   rw [h5] at h8 h9
   refine ⟨_, h, σ, wr, fun cf => ?_, hr, rfl, h10⟩
   simp only [stepOp, hx, takeV]
   rw [if_pos (by simp at h9; omega)]
   simp only [rv]
   rw [toI_agg, if_pos rfl, h8]
def loadM (u : U) (h : H) (K : KH) : Ans := uO u fun t a b c d x => @Bool.rec (fun _ => Ans) (tst (Nat.beq t 6) (nthK b x fun v => K v h)) (hget a h fun ob => cellAt ob b fun v => frc v fun v => frc (un2U v) fun w => cellsPut ob b (.cn w .nl) fun ob' => tst (isCellU v) (hput a ob' false h fun h' => K v h')) (Nat.beq t 1)
theorem cells_un2 {v : IVal} (h : v.isCell = true) : (un2 v).cells = [un2 v] := by cases v <;> first | rfl | cases h
theorem loadM_ok (x : Opd) : Hp1 (.load true none x) loadM := by
 intro u h K ts ts' σ wr hr hk hg
 have hx := getAll1 hg
 obtain ⟨t, a, b, c, d, y, rfl, kq1⟩ := uO_true hk
 rcases brec_true kq1 with ⟨h1, h2⟩ | ⟨_, h2⟩
 rotate_left
 . obtain ⟨h3, h4⟩ := tst_true h2
   have := zN h3; subst this
   obtain ⟨w, h5, h6⟩ := nthK_true h4
   rw [toI_pv] at hx
   exact ⟨w, h, σ, wr, fun cf => by simp only [stepOp, hx, takeV, h5, rv], hr, rfl, h6⟩
 have := zN h1; subst this
 obtain ⟨ob, o, h3, h4, h5⟩ := hget_true hr h2
 obtain ⟨t', a', b', c', d', x', cs, w, rfl, h6, h7, h8⟩ := cellAt_true h5
 rw [frc_eq, frc_eq] at h8
 have ho : o = .cells cs := h4.o.trans h6
 subst ho
 obtain ⟨_, _, _, _, _, _, cs2, t2, a2, b2, c2, d2, x2, e1, e2, h9, h10, h11⟩ := cellsPut_true h8
 rw [h6] at e2
 cases e2
 obtain ⟨h12, h13⟩ := tst_true h11
 have h12 := isCellU_ok h12
 obtain ⟨h', h14, _, h15, h16⟩ := hput_true hr h13 (o := .cells (putCells cs b (toL (.cn (un2U w) .nl)))) (ObR_cells h10)
 rw [toI_ptr] at hx
 refine ⟨w, h', _, _, fun cf => ?_, h14, h15, h16⟩
 simp only [stepOp, hx, loadCell_of h3, takeV, h7, if_true]
 rw [cells_un2 h12, toL_cn, toL_nl, un2U_ok]
def loadMN (n : Nat) (u : U) (h : H) (K : KH) : Ans := uO u fun t a b c d x => @Bool.rec (fun _ => Ans) (tst (Nat.beq t 6) (dropK b x fun y => takeK n y fun r => K (.o 17 0 0 0 0 r) h)) (hget a h fun ob => cellsAt ob n b fun r => mapK un1U r fun r1 => cellsPut ob b r1 fun ob' => hput a ob' false h fun h' => K (.o 17 0 0 0 0 r) h') (Nat.beq t 1)
theorem loadMN_ok (n : Nat) (x : Opd) : Hp1 (.load true (some n) x) (loadMN n) := by
 intro u h K ts ts' σ wr hr hk hg
 have hx := getAll1 hg
 obtain ⟨t, a, b, c, d, y, rfl, kq1⟩ := uO_true hk
 rcases brec_true kq1 with ⟨h1, h2⟩ | ⟨_, h2⟩
 rotate_left
 . obtain ⟨h3, h4⟩ := tst_true h2
   have := zN h3; subst this
   obtain ⟨z, h5, h6, h7⟩ := dropK_true h4
   obtain ⟨r, h8, h9, h10⟩ := takeK_true h7
   rw [toI_pv] at hx
   rw [h5] at h8 h9
   refine ⟨_, h, σ, wr, fun cf => ?_, hr, rfl, h10⟩
   simp only [stepOp, hx, takeV]
   rw [if_pos (by simp at h9; omega)]
   simp only [rv]
   rw [toI_agg, if_pos rfl, h8]
 have := zN h1; subst this
 obtain ⟨ob, o, h3, h4, h5⟩ := hget_true hr h2
 obtain ⟨t', a', b', c', d', x', cs, r, rfl, h6, h7, h8, h9⟩ := cellsAt_true h5
 have ho : o = .cells cs := h4.o.trans h6
 subst ho
 obtain ⟨r1, g1, g2⟩ := mapK_true (g := un1) un1U_ok h9
 obtain ⟨_, _, _, _, _, _, cs2, t2, a2, b2, c2, d2, x2, e1, e2, h10, h11, h12⟩ := cellsPut_true g2
 rw [h6] at e2
 cases e2
 obtain ⟨h', h14, _, h15, h16⟩ := hput_true hr h12 (o := .cells (putCells cs b (toL r1))) (ObR_cells h11)
 rw [toI_ptr] at hx
 refine ⟨_, h', _, _, fun cf => ?_, h14, h15, h16⟩
 simp only [stepOp, hx, loadCell_of h3, takeV]
 rw [if_pos h7]
 simp only [if_true]
 rw [toI_agg, if_pos rfl, h8, g1, h8]
 rfl
def loadF (mvf : Bool) (n : Option Nat) : U -> H -> KH -> Ans := @Bool.rec (fun _ => U -> H -> KH -> Ans) (@Option.rec Nat (fun _ => U -> H -> KH -> Ans) load1 loadN n) (@Option.rec Nat (fun _ => U -> H -> KH -> Ans) loadM loadMN n) mvf
theorem loadF_ok (mvf : Bool) (n : Option Nat) (x : Opd) : Hp1 (.load mvf n x) (loadF mvf n) := by
 cases mvf <;> cases n
 . exact load1_ok x
 . exact loadN_ok _ x
 . exact loadM_ok x
 . exact loadMN_ok _ x
def storeF (n : Nat) (u v : U) (h : H) (K : KH) : Ans := uO u fun t a b _ _ _ => tst (Nat.beq t 1) (cellsK v fun l => tst (Nat.beq (lenU l) n) (tst (allU isCellU l) (hget a h fun ob => cellsPut ob b l fun ob' => hput a ob' (notB (allU nr1U l)) h fun h' => K (.o 18 0 0 0 0 .nl) h')))
theorem storeF_ok (n : Nat) (x y : Opd) : Hp2 (.store n x y) (storeF n) := by
 intro u v h K ts ts' σ wr hr hk hg
 obtain ⟨t1, hx, hy⟩ := getAll2 hg
 obtain ⟨t, a, b, c, d, z, rfl, kq1⟩ := uO_true hk
 obtain ⟨h1, kq2⟩ := tst_true kq1
 have := zN h1; subst this
 obtain ⟨l, h2, kq3⟩ := cellsK_true kq2
 obtain ⟨h3, kq4⟩ := tst_true kq3
 obtain ⟨h4, kq5⟩ := tst_true kq4
 obtain ⟨ob, o, h5, h6, kq6⟩ := hget_true hr kq5
 obtain ⟨t', a', b', c', d', x', cs, t2, a2, b2, c2, d2, x2, rfl, h7, h8, h9, kq7⟩ := cellsPut_true kq6
 have ho : o = .cells cs := h6.o.trans h7
 subst ho
 obtain ⟨h', h10, _, h11, h12⟩ := hput_true hr kq7 (o := .cells (putCells cs b (toL l))) (ObR_cells h9)
 have h3 := zN h3
 have h4 := allU_imp (fun {x} hx => isCellU_ok hx) h4
 rw [lenU_eq] at h3
 rw [h2] at h3 h4 h8 h10
 rw [toI_ptr] at hx
 refine ⟨_, h', _, _, fun cf => ?_, h10, h11, h12⟩
 simp only [stepOp, hx, hy, loadCell_of h5]
 rw [if_pos ⟨h3, by rw [<- h3]; exact h8, h4⟩, notB_eq, allU_eq nr1U_ok, h2]
 rfl
def vSetOK (G : Nat) (tab : List TypeId) (a b : IVal) : Bool := match hdlT G a, hdlT G b with
 | some t, some t' => decide (t = t' /\ tab.contains t = true)
 | _, _ => false
def endK (u : U) (K : Ans) : Ans := (@U.rec (fun _ => Ans -> Ans) (fun _ _ => fun _ => false) (fun _ => fun _ => false) (fun _ _ => fun _ => false) (fun _ _ _ _ _ _ _ => fun _ => false) (fun K => K) (fun _ _ _ _ => fun _ => false) (fun _ _ _ _ _ _ => fun _ => false) (fun _ => fun _ => false) (fun _ _ _ _ _ _ _ => fun _ => false) u) K
theorem endK_true {u : U} {K : Ans} (h : endK u K = true) : u = .nl /\ K = true := by cases u <;> first | exact ⟨rfl, h⟩ | cases h
def vSetF (G : Nat) (tab : List TypeId) (u v : U) (h : H) (K : KH) : Ans :=
 uO u fun t _ _ _ _ x => tst (Nat.beq t 17) (uC x false fun a x => uC x false fun p x => uC x false fun f x => endK x (uI f fun k n => tst (Nat.beq k 7) (tst (Nat.beq n 18446744073709552022) (uO p fun t1 id off _ _ _ => tst (Nat.beq t1 1)
 (uO v fun t _ _ _ _ x => tst (Nat.beq t 17) (uC x false fun b x => uC x false fun p x => uC x false fun f x => endK x (uI f fun k n => tst (Nat.beq k 7) (tst (Nat.beq n 18446744073709551766) (uO p fun t1 _ o2 _ _ y => tst (Nat.beq t1 6) (tst (Nat.beq o2 0) (uC y false fun w y => endK y
 (tst (vSetOK G tab (toI a) (toI b)) (hget id h fun ob => cellsPut ob off (.cn w .nl) fun ob' => hput id ob' (notB (allU nr1U (.cn w .nl))) h fun h' => K (.o 18 0 0 0 0 .nl) h')))))))))))))
theorem agg3 {a b c d : Nat} {x y z : U} {w : Nat} : toI (.o 17 w b c d (.cn x (.cn y (.cn z .nl)))) = .agg (if w = 0 then [toI x, toI y, toI z] else [un1 (toI x), un1 (toI y), un1 (toI z)]) := by
 rw [toI_agg]; split <;> rfl
theorem hdl_un1 {G : Nat} {v : IVal} {t : TypeId} (h : hdlT G v = some t) : un1 v = v := by
 cases v <;> first | rfl | cases h
theorem vSetF_ok (G : Nat) (tab : List TypeId) (x y : Opd) : Hp2 (.vSet G tab x y) (vSetF G tab) := by
 intro u v h K ts ts' σ wr hr hk hg
 obtain ⟨t1, hx, hy⟩ := getAll2 hg
 obtain ⟨t, q, b, c, d, z, rfl, kq1⟩ := uO_true hk
 obtain ⟨g1, kq2⟩ := tst_true kq1
 have e1 := zN g1; subst e1
 rcases uC_true kq2 with ⟨_, kq3⟩ | ⟨ua, z, rfl, kq3⟩
 . cases kq3
 rcases uC_true kq3 with ⟨_, kq4⟩ | ⟨up, z, rfl, kq4⟩
 . cases kq4
 rcases uC_true kq4 with ⟨_, kq5⟩ | ⟨uf, z, rfl, kq5⟩
 . cases kq5
 obtain ⟨rfl, kq6⟩ := endK_true kq5
 obtain ⟨kk, n, rfl, kq7⟩ := uI_true kq6
 obtain ⟨g2, kq8⟩ := tst_true kq7
 have e2 := zN g2; subst e2
 obtain ⟨g3, kq9⟩ := tst_true kq8
 have e3 := zN g3; subst e3
 obtain ⟨_, id, off, _, _, _, rfl, kq10⟩ := uO_true kq9
 obtain ⟨g4, kq11⟩ := tst_true kq10
 have e4 := zN g4; subst e4
 obtain ⟨t, q', b', c', d', z, rfl, kq12⟩ := uO_true kq11
 obtain ⟨g5, kq13⟩ := tst_true kq12
 have e5 := zN g5; subst e5
 rcases uC_true kq13 with ⟨_, kq14⟩ | ⟨ub, z, rfl, kq14⟩
 . cases kq14
 rcases uC_true kq14 with ⟨_, kq15⟩ | ⟨up2, z, rfl, kq15⟩
 . cases kq15
 rcases uC_true kq15 with ⟨_, kq16⟩ | ⟨uf, z, rfl, kq16⟩
 . cases kq16
 obtain ⟨rfl, kq17⟩ := endK_true kq16
 obtain ⟨kk, n, rfl, kq18⟩ := uI_true kq17
 obtain ⟨g6, kq19⟩ := tst_true kq18
 have e6 := zN g6; subst e6
 obtain ⟨g7, kq20⟩ := tst_true kq19
 have e7 := zN g7; subst e7
 obtain ⟨_, a2, o2, c2, d2, y2, rfl, kq21⟩ := uO_true kq20
 obtain ⟨g8, kq22⟩ := tst_true kq21
 have e8 := zN g8; subst e8
 obtain ⟨g9, kq23⟩ := tst_true kq22
 have e9 := zN g9; subst e9
 rcases uC_true kq23 with ⟨_, kq24⟩ | ⟨w, z, rfl, kq24⟩
 . cases kq24
 obtain ⟨rfl, kq25⟩ := endK_true kq24
 obtain ⟨h2, kq26⟩ := tst_true kq25
 obtain ⟨ob, o, h5, h6, kq27⟩ := hget_true hr kq26
 obtain ⟨t', a', b', c', d', x', cs, t2, a2', b2, c2', d2', x2, rfl, h7, h8, h9, kq28⟩ := cellsPut_true kq27
 have ho : o = .cells cs := h6.o.trans h7
 subst ho
 obtain ⟨h', h10, _, h11, h12⟩ := hput_true hr kq28 (o := .cells (putCells cs off (toL (.cn w .nl)))) (ObR_cells h9)
 unfold vSetOK at h2
 split at h2
 . rename_i ty1 ty2 e1 e2
   obtain ⟨rfl, h3⟩ := of_decide_eq_true h2
   have ex : x.get ts = some (IVal.agg [toI ua, .ptr id off, .int .u64 406], t1) := by
     rw [hx, agg3 (a := 0), hdl_un1 e1]; split <;> rfl
   have ey : y.get t1 = some (IVal.agg [toI ub, .pv (a2 != 0) [toI w] 0, .int .u64 150], ts') := by
     rw [hy, agg3 (a := 0), hdl_un1 e2]; split <;> rfl
   refine ⟨_, h', _, _, fun cf => ?_, h10, h11, h12⟩
   simp only [stepOp, ex, ey, e1, e2, h3, loadCell_of h5, if_true, and_self]
   rw [toL_cn, toL_nl] at h8
   rw [if_pos (by simp at h8; omega), notB_eq, allU_eq nr1U_ok, toL_cn, toL_nl]
   rfl
 . cases h2
def keyEq (u v : U) (Y N : Ans) : Ans := (@U.rec (fun _ => U -> Ans -> Ans -> Ans) (fun k n => fun v Y N => uI v fun k' m => tst (Nat.beq k k') (@Bool.rec (fun _ => Ans) N Y (Nat.beq n m))) (fun x => fun v Y N => uB v fun y => @Bool.rec (fun _ => Ans) (@Bool.rec (fun _ => Ans) Y N y) (@Bool.rec (fun _ => Ans) N Y y) x) (fun l x => fun v Y N => uS v fun l' y => @Bool.rec (fun _ => Ans) N (@Bool.rec (fun _ => Ans) N Y (Nat.beq (Nat.mod x (Nat.pow 256 l)) (Nat.mod y (Nat.pow 256 l)))) (Nat.beq l l')) (fun _ _ _ _ _ _ _ => fun _ _ _ => false) (fun _ _ _ => false) (fun _ _ _ _ => fun _ _ _ => false) (fun _ _ _ _ _ _ => fun _ _ _ => false) (fun _ => fun _ _ _ => false) (fun _ _ _ _ _ _ _ => fun _ _ _ => false) u) v Y N
theorem keyEq_true {u v : U} {Y N : Ans} (h : keyEq u v Y N = true) : (eqCell (toI u) (toI v) = some true /\ Y = true) \/ (eqCell (toI u) (toI v) = some false /\ N = true) := by
 cases u with
 | i k n =>
   obtain ⟨k', m, rfl, h2⟩ := uI_true (show uI v (fun k' m => tst (Nat.beq k k') (@Bool.rec (fun _ => Ans) N Y (Nat.beq n m))) = true from h)
   obtain ⟨h3, h4⟩ := tst_true h2
   have := zN h3; subst this
   rw [toI_i, toI_i]
   simp only [eqCell, if_true, beqI]
   rcases brec_true h4 with ⟨h5, h6⟩ | ⟨h5, h6⟩
   . exact Or.inl ⟨by rw [h5], h6⟩
   . exact Or.inr ⟨by rw [h5], h6⟩
 | s l x =>
   obtain ⟨l', y, rfl, h2⟩ := uS_true (show uS v (fun l' y => @Bool.rec (fun _ => Ans) N (@Bool.rec (fun _ => Ans) N Y (Nat.beq (Nat.mod x (Nat.pow 256 l)) (Nat.mod y (Nat.pow 256 l)))) (Nat.beq l l')) = true from h)
   rw [toI_s, toI_s]
   simp only [eqCell]
   rcases brec_true h2 with ⟨h3, h4⟩ | ⟨h3, h4⟩
   . have := zN h3; subst this
     rcases brec_true h4 with ⟨h5, h6⟩ | ⟨h5, h6⟩
     . have h5 := zN h5
       rw [nmod, nmod, npow] at h5
       exact Or.inl ⟨by rw [(unpk_inj l x y).2 h5]; simp, h6⟩
     . have h5 := zE h5
       rw [nmod, nmod, npow] at h5
       refine Or.inr ⟨?_, h6⟩
       have : unpk l x ≠ unpk l y := fun e => h5 ((unpk_inj l x y).1 e)
       rw [beq_eq_false_iff_ne.2 this]
   . have h3 := zE h3
     refine Or.inr ⟨?_, h4⟩
     have : unpk l x ≠ unpk l' y := fun e => h3 (by rw [<- unpk_length l x, e, unpk_length])
     rw [beq_eq_false_iff_ne.2 this]
 | b x =>
   obtain ⟨y, rfl, h2⟩ := uB_true (show uB v (fun y => @Bool.rec (fun _ => Ans) (@Bool.rec (fun _ => Ans) Y N y) (@Bool.rec (fun _ => Ans) N Y y) x) = true from h)
   rw [toI_b, toI_b]
   cases x <;> cases y <;> first | exact Or.inl ⟨rfl, h2⟩ | exact Or.inr ⟨rfl, h2⟩
 | _ => cases h
def keyKU (kk : Nat) (u : U) : Bool := (@U.rec (fun _ => Bool) (fun k n => Nat.beq kk 0) (fun x => Nat.beq kk 2) (fun l x => Nat.beq kk 1) (fun _ _ _ _ _ _ _ => false) (false) (fun _ _ _ _ => false) (fun _ _ _ _ _ _ => false) (fun _ => false) (fun _ _ _ _ _ _ _ => false) u)
theorem keyKU_ok {kk : Nat} {u : U} (h : keyKU kk u = true) : keyK kk (toI u) = true := by
 cases u with
 | i k n => have := zN (show Nat.beq kk 0 = true from h); subst this; rfl
 | s l x => have := zN (show Nat.beq kk 1 = true from h); subst this; rfl
 | b x => have := zN (show Nat.beq kk 2 = true from h); subst this; rfl
 | _ => cases h
def findN (n : Nat) (k l : U) (Y : U -> Ans) (N : Ans) : Ans := @Nat.rec (fun _ => U -> U -> (U -> Ans) -> Ans -> Ans) (fun _ l _ N => uC l N fun _ _ => false)
 (fun _ ih k l Y N => uC l N fun k' l => uC l false fun v l => keyEq k k' (Y v) (ih k l Y N)) n k l Y N
theorem findN_true : ∀ {n : Nat} {k l : U} {Y : U -> Ans} {N : Ans}, findN n k l Y N = true -> (∃ v, findE (toI k) (pairUp (toL l)) = some (some (toI v)) /\ Y v = true) \/ (findE (toI k) (pairUp (toL l)) = some none /\ N = true) := by
 intro n
 induction n with
 | zero =>
   intro k l Y N h
   rcases uC_true (show uC l N (fun _ _ => false) = true from h) with ⟨rfl, h2⟩ | ⟨x, y, rfl, h2⟩
   . exact Or.inr ⟨rfl, h2⟩
   . cases h2
 | succ n ih =>
   intro k l Y N h
   rcases uC_true (show uC l N (fun k' l => uC l false fun v l => keyEq k k' (Y v) (findN n k l Y N)) = true from h) with ⟨rfl, h2⟩ | ⟨k', l1, rfl, h2⟩
   . exact Or.inr ⟨rfl, h2⟩
   rcases uC_true h2 with ⟨_, h3⟩ | ⟨v, l2, rfl, h3⟩
   . cases h3
   rw [toL_cn, toL_cn]
   rcases keyEq_true h3 with ⟨h4, h5⟩ | ⟨h4, h5⟩
   . exact Or.inl ⟨v, by simp only [pairUp, findE, h4], h5⟩
   . rcases ih h5 with ⟨w, h6, h7⟩ | ⟨h6, h7⟩
     . exact Or.inl ⟨w, by simp only [pairUp, findE, h4, h6], h7⟩
     . exact Or.inr ⟨by simp only [pairUp, findE, h4, h6], h7⟩
def setN (n : Nat) (k w l : U) (K : U -> Ans) : Ans := @Nat.rec (fun _ => U -> U -> U -> (U -> Ans) -> Ans) (fun k w l K => uC l (K (.cn k (.cn w .nl))) fun _ _ => false)
 (fun _ ih k w l K => uC l (K (.cn k (.cn w .nl))) fun k' l => uC l false fun v l => keyEq k k' (K (.cn k (.cn w l))) (ih k w l fun r => K (.cn k' (.cn v r)))) n k w l K
theorem setN_true : ∀ {n : Nat} {k w l : U} {K : U -> Ans}, setN n k w l K = true -> ∃ r, setE (toI k) (toI w) (pairUp (toL l)) = some (pairUp (toL r)) /\ K r = true := by
 intro n
 induction n with
 | zero =>
   intro k w l K h
   rcases uC_true (show uC l (K (.cn k (.cn w .nl))) (fun _ _ => false) = true from h) with ⟨rfl, h2⟩ | ⟨x, y, rfl, h2⟩
   . exact ⟨_, rfl, h2⟩
   . cases h2
 | succ n ih =>
   intro k w l K h
   rcases uC_true (show uC l (K (.cn k (.cn w .nl))) (fun k' l => uC l false fun v l => keyEq k k' (K (.cn k (.cn w l))) (setN n k w l fun r => K (.cn k' (.cn v r)))) = true from h) with ⟨rfl, h2⟩ | ⟨k', l1, rfl, h2⟩
   . exact ⟨_, rfl, h2⟩
   rcases uC_true h2 with ⟨_, h3⟩ | ⟨v, l2, rfl, h3⟩
   . cases h3
   rw [toL_cn, toL_cn]
   rcases keyEq_true h3 with ⟨h4, h5⟩ | ⟨h4, h5⟩
   . exact ⟨_, by simp only [pairUp, setE, h4, toL_cn], h5⟩
   . obtain ⟨r, h6, h7⟩ := ih h5
     exact ⟨_, by simp only [pairUp, setE, h4, h6, toL_cn], h7⟩
def mapK' (ob : U) (K : U -> Ans) : Ans := uO ob fun t _ _ _ _ x => tst (Nat.beq t 3) (K x)
theorem mapK'_true {ob : U} {K : U -> Ans} (h : mapK' ob K = true) : ∃ a b c d x, ob = .o 3 a b c d x /\ K x = true := by
 obtain ⟨t, a, b, c, d, x, rfl, h2⟩ := uO_true h
 obtain ⟨h3, h4⟩ := tst_true h2
 have := zN h3; subst this
 exact ⟨_, _, _, _, _, rfl, h4⟩
def lookupF (kk : Nat) (z : U) (ok : Bool) (u k : U) (h : H) (K : KH) : Ans := uO u fun t id _ _ _ _ => tst (Nat.beq t 3) (hget id h fun ob => mapK' ob fun es => tst (keyKU kk k)
 (findN 1000000 k es (fun v => @Bool.rec (fun _ => Ans) (K v h) (K (.o 18 0 0 0 0 (.cn v (.cn (.b true) .nl))) h) ok) (@Bool.rec (fun _ => Ans) (K z h) (K (.o 18 0 0 0 0 (.cn z (.cn (.b false) .nl))) h) ok)))
theorem lookupF_ok (kk : Nat) (z : IVal) (ok : Bool) (x y : Opd) : Hp2 (.lookup kk z ok x y) (lookupF kk (rep z) ok) := by
 intro u k h K ts ts' σ wr hr hk hg
 obtain ⟨t1, hx, hy⟩ := getAll2 hg
 obtain ⟨t, a, b, c, d, q, rfl, kq1⟩ := uO_true hk
 obtain ⟨h1, kq2⟩ := tst_true kq1
 have := zN h1; subst this
 obtain ⟨ob, o, h3, h4, kq3⟩ := hget_true hr kq2
 obtain ⟨_, _, _, _, es, rfl, kq4⟩ := mapK'_true kq3
 have ho : o = .map (pairUp (toL es)) := h4.o
 subst ho
 obtain ⟨h5, kq5⟩ := tst_true kq4
 have h5 := keyKU_ok h5
 rw [toI_map] at hx
 rcases findN_true kq5 with ⟨v, h6, h7⟩ | ⟨h6, h7⟩
 . rcases brec_true h7 with ⟨h8, h9⟩ | ⟨h8, h9⟩
   . subst h8
     exact ⟨_, h, σ, wr, fun cf => by simp only [stepOp, hx, hy, h3, if_pos h5, h6, if_true, rv]; rfl, hr, rfl, h9⟩
   . subst h8
     exact ⟨_, h, σ, wr, fun cf => by simp only [stepOp, hx, hy, h3, if_pos h5, h6, rv, Bool.false_eq_true, if_false], hr, rfl, h9⟩
 . rcases brec_true h7 with ⟨h8, h9⟩ | ⟨h8, h9⟩
   . subst h8
     refine ⟨_, h, σ, wr, fun cf => ?_, hr, rfl, h9⟩
     simp only [stepOp, hx, hy, h3, if_pos h5, h6, if_true, rv]
     rw [toI_tup, if_pos rfl, toL_cn, toL_cn, toL_nl, rep_ok, toI_b]
   . subst h8
     exact ⟨_, h, σ, wr, fun cf => by simp only [stepOp, hx, hy, h3, if_pos h5, h6, rv, Bool.false_eq_true, if_false, rep_ok], hr, rfl, h9⟩
def mapSetF (kk : Nat) (l : U) (h : H) (K : KH) : Ans := uC l false fun u l => uC l false fun k l => uC l false fun v _ => uO u fun t id _ _ _ _ => tst (Nat.beq t 3) (hget id h fun ob => mapK' ob fun es => tst (keyKU kk k) (tst (ntU v)
 (frc (un2U v) fun w => setN 1000000 k w es fun r => hput id (.o 3 0 0 0 0 r) (notB (nr2U v)) h fun h' => K (.o 18 0 0 0 0 .nl) h')))
theorem mapSetF_ok (kk : Nat) (x y z : Opd) : HpL (.mapSet kk x y z) (mapSetF kk) := by
 intro u h K ts ts' σ wr hr hk hg
 rcases uC_true hk with ⟨_, h2⟩ | ⟨m, l, rfl, kq1⟩
 . cases h2
 rcases uC_true kq1 with ⟨_, h2⟩ | ⟨k, l1, rfl, kq2⟩
 . cases h2
 rcases uC_true kq2 with ⟨_, h2⟩ | ⟨v, l2, rfl, kq3⟩
 . cases h2
 obtain ⟨t, a, b, c, d, q, rfl, kq4⟩ := uO_true kq3
 obtain ⟨h1, kq5⟩ := tst_true kq4
 have := zN h1; subst this
 obtain ⟨ob, o, h3, h4, kq6⟩ := hget_true hr kq5
 obtain ⟨_, _, _, _, es, rfl, kq7⟩ := mapK'_true kq6
 have ho : o = .map (pairUp (toL es)) := h4.o
 subst ho
 obtain ⟨h5, kq8⟩ := tst_true kq7
 obtain ⟨h6, kq9⟩ := tst_true kq8
 rw [frc_eq] at kq9
 obtain ⟨r, h7, kq10⟩ := setN_true kq9
 obtain ⟨h', h8, _, h9, h10⟩ := hput_true hr kq10 (o := .map (pairUp (toL r))) rfl
 have h5 := keyKU_ok h5
 have h6 := ntU_ok h6
 obtain ⟨t1, g1, g2⟩ := getAll_u hg
 obtain ⟨t2, g3, g4⟩ := getAll_u g2
 obtain ⟨t3, g5, g6⟩ := getAll_u g4
 obtain ⟨-, rfl⟩ := getAll_n g6
 rw [toI_map] at g1
 rw [un2U_ok] at h7
 refine ⟨_, h', _, _, fun cf => ?_, h8, h9, h10⟩
 have hc : (keyK kk (toI k) && nt (toI v)) = true := by rw [h5, h6]; rfl
 simp only [stepOp, g1, g3, g5, h3]
 rw [if_pos hc]
 simp only [h7]
 rw [notB_eq, nr2U_ok]
 rfl
def lenMF (u : U) (h : H) (K : KH) : Ans := uO u fun t id _ _ _ _ => tst (Nat.beq t 3) (hget id h fun ob => mapK' ob fun es => fN (lenU es) fun n => tst (Nat.beq (Nat.mod n 2) 0) (fN (Nat.add (Nat.div n 2) 18446744073709551616) fun c => K (.i 3 c) h))
theorem pairUp_len : ∀ (n : Nat) (l : List IVal), l.length = 2 * n -> (pairUp l).length = n := by
 intro n
 induction n with
 | zero => intro l h; have := List.length_eq_zero_iff.1 h; subst this; rfl
 | succ n ih =>
   intro l h
   match l with
   | [] => simp at h
   | [_] => simp at h; omega
   | a :: b :: l => simp only [pairUp, List.length_cons] at h ⊢; rw [ih l (by omega)]
theorem lenMF_ok (x : Opd) : Hp1 (.lenM x) lenMF := by
 intro u h K ts ts' σ wr hr hk hg
 have hx := getAll1 hg
 obtain ⟨t, a, b, c, d, q, rfl, kq1⟩ := uO_true hk
 obtain ⟨h1, kq2⟩ := tst_true kq1
 have := zN h1; subst this
 obtain ⟨ob, o, h3, h4, kq3⟩ := hget_true hr kq2
 obtain ⟨_, _, _, _, es, rfl, kq4⟩ := mapK'_true kq3
 have ho : o = .map (pairUp (toL es)) := h4.o
 subst ho
 rw [fN_eq] at kq4
 obtain ⟨h5, kq5⟩ := tst_true kq4
 rw [fN_eq] at kq5
 have h5 := zN h5
 rw [nmod, lenU_eq] at h5
 have h6 := pairUp_len ((toL es).length / 2) (toL es) (by omega)
 rw [toI_map] at hx
 refine ⟨_, h, σ, wr, fun cf => ?_, hr, rfl, kq5⟩
 simp only [stepOp, hx, h3, rv, h6]
 rw [toI_code, ndiv, lenU_eq]
 rfl
end
end Go.Idl
namespace Go.Idl
noncomputable section
set_option maxHeartbeats 400000
theorem kc_kd (k : IntKind) (j : Nat) (h : Nat.beq j (kc k) = true) : kd j = k := by
 have := zN h; subst this; exact kd_kc k
theorem load_inv {cf : CallF} {ts t' : Ts} {σ σ' : List IObj} {wr wr' : List (Nat × Bool)} {id off : Nat} {v : IVal} (h : stepOp cf (.load false none (.c (.ptr id off))) ⟨ts, σ, wr⟩ = some ⟨false, v, ⟨t', σ', wr'⟩⟩) :
   ∃ cs z, loadCell σ id = some cs /\ cs[off]? = some z /\ v = un2 z /\ σ' = σ /\ wr' = wr := by
 simp only [stepOp, Opd.get] at h
 split at h
 . rename_i cs hc
   simp only [takeV] at h
   split at h
   . rename_i z hz
     simp only [Bool.false_eq_true, if_false, rv, zO, Res.mk.injEq, true_and, St.mk.injEq] at h
     obtain ⟨rfl, -, rfl, rfl⟩ := h
     exact ⟨cs, z, hc, hz, rfl, rfl, rfl⟩
   . cases h
 . cases h
theorem store_inv {cf : CallF} {ts t' : Ts} {σ σ' : List IObj} {wr wr' : List (Nat × Bool)} {id off : Nat} {k : IntKind} {y : Int} {v : IVal} (h : stepOp cf (.store 1 (.c (.ptr id off)) (.c (.int k y))) ⟨ts, σ, wr⟩ = some ⟨false, v, ⟨t', σ', wr'⟩⟩) :
   ∃ cs, loadCell σ id = some cs /\ off < cs.length /\ σ' = σ.set id (.cells (putCells cs off [.int k y])) /\ wr' = (id, false) :: wr := by
 simp only [stepOp, Opd.get] at h
 split at h
 . rename_i cs hc
   split at h
   . rename_i hcond
     simp only [zO, Res.mk.injEq, true_and, St.mk.injEq] at h
     obtain ⟨-, -, rfl, rfl⟩ := h
     exact ⟨cs, hc, by omega, rfl, rfl⟩
   . cases h
 . cases h
theorem un2_int {z : IVal} {k : IntKind} {n : Int} (h : un2 z = .int k n) : z = .int k n := by cases z <;> simp_all [un2, un1]
def ldI (u : U) (h : H) (K : Nat -> Nat -> H -> Ans) : Ans := uO u fun t _ _ _ _ _ => tst (Nat.beq t 1) (loadF false none u h fun v h1 => uI v fun k n => K k n h1)
theorem ldI_true {u : U} {h : H} {K : Nat -> Nat -> H -> Ans} {σ : List IObj} {wr : List (Nat × Bool)} (hr : HR h σ wr) (hk : ldI u h K = true) :
   ∃ (id off : Nat) (cs : List IVal) (k n : Nat) (h' : H), toI u = .ptr id off /\ loadCell σ id = some cs /\ cs[off]? = some (.int (kd k) ((n : Int) - 18446744073709551616)) /\ HR h' σ wr /\ h'.tr = h.tr /\ K k n h' = true := by
 obtain ⟨t, a, b, c, d, x, rfl, k1⟩ := uO_true hk
 obtain ⟨h1, k2⟩ := tst_true k1
 have := zN h1; subst this
 obtain ⟨r, h', σ', wr', h3, h4, h5, h6⟩ := loadF_ok false none (.c (.ptr a b)) _ h _ ts0 ts0 σ wr hr k2 (by rw [toI_ptr]; rfl)
 obtain ⟨k, n, rfl, h7⟩ := uI_true h6
 obtain ⟨cs, z, q1, q2, q3, rfl, rfl⟩ := load_inv (h3 fun _ _ _ => none)
 rw [toI_i] at q3
 exact ⟨a, b, cs, k, n, h', rfl, q1, by rw [q2, un2_int q3.symm], h4, h5, h7⟩
def stI (u v : U) (h : H) (K : H -> Ans) : Ans := uO u fun t _ _ _ _ _ => tst (Nat.beq t 1) (storeF 1 u v h fun _ h1 => K h1)
theorem stI_true {u v : U} {h : H} {K : H -> Ans} {σ : List IObj} {wr : List (Nat × Bool)} {k : IntKind} {y : Int} (hr : HR h σ wr) (hv : toI v = .int k y) (hk : stI u v h K = true) :
   ∃ id off cs h', toI u = .ptr id off /\ loadCell σ id = some cs /\ off < cs.length /\ HR h' (σ.set id (.cells (putCells cs off [.int k y]))) ((id, false) :: wr) /\ h'.tr = h.tr /\ K h' = true := by
 obtain ⟨t, a, b, c, d, x, rfl, k1⟩ := uO_true hk
 obtain ⟨h1, k2⟩ := tst_true k1
 have := zN h1; subst this
 obtain ⟨r, h', σ', wr', h3, h4, h5, h6⟩ := storeF_ok 1 (.c (.ptr a b)) (.c (.int k y)) _ v h _ ts0 ts0 σ wr hr k2 (by rw [toI_ptr, hv]; rfl)
 obtain ⟨cs, q1, q2, rfl, rfl⟩ := store_inv (h3 fun _ _ _ => none)
 exact ⟨a, b, cs, h', rfl, q1, q2, h4, h5, h6⟩
def memF (k : MemK) (l : U) (h : H) (K : KH) : Ans := match k with
 | .aload k => uC l false fun u r => endK r (ldI u h fun k' n h1 => tst (Nat.beq k' (kc k)) (K (.i k' n) h1))
 | .astore k => uC l false fun u r => uC r false fun v r => endK r (uI v fun k' n => tst (Nat.beq k' (kc k)) (stI u v h fun h1 => K (.o 18 0 0 0 0 .nl) h1))
 | .acas k => uC l false fun u r => uC r false fun x r => uC r false fun y r => endK r (uI x fun k1 n1 => uI y fun k2 n2 => tst (Nat.beq k1 (kc k)) (tst (Nat.beq k2 (kc k)) (ldI u h fun k' n h1 => tst (Nat.beq k' (kc k))
     (@Bool.rec (fun _ => Ans) (K (.b false) h1) (stI u y h1 fun h2 => K (.b true) h2) (Nat.beq n n1)))))
 | .aadd k => uC l false fun u r => uC r false fun y r => endK r (uI y fun k1 n1 => tst (Nat.beq k1 (kc k)) (ldI u h fun k' n h1 => tst (Nat.beq k' (kc k)) (fN (wrapC (kc k) (Nat.add n n1)) fun c => stI u (.i (kc k) c) h1 fun h2 => K (.i (kc k) c) h2)))
 | .uptr => uC l false fun u r => endK r (uO u fun t _ _ _ _ _ => tst (Nat.beq t 1) (loadF false none u h fun _ h1 => K u h1))
 | .iter => uC l false fun u r => endK r (uS u fun l x => hpush (.o 5 0 0 0 0 (.s l x)) h fun k h1 => K (.o 1 k 0 0 0 .nl) h1)
 | .next => uC l false fun u r => endK r (uO u fun t id off _ _ _ => tst (Nat.beq t 1) (tst (Nat.beq off 0) (hget id h fun ob => uO ob fun t p _ _ _ x => tst (Nat.beq t 5) (uS x fun l y =>
     @Bool.rec (fun _ => Ans) (K (.o 18 0 0 0 0 (.cn (.b false) .nl)) h)
       (fN (Nat.mod (Nat.div y (Nat.pow 256 (Nat.sub (Nat.sub l 1) p))) 256) fun c => tst (Nat.blt c 128) (fN (Nat.succ p) fun p1 => fN (Nat.add p 18446744073709551616) fun q => fN (Nat.add c 18446744073709551616) fun c1 =>
         hput id (.o 5 p1 0 0 0 (.s l y)) false h fun h1 => K (.o 18 0 0 0 0 (.cn (.b true) (.cn (.i 3 q) (.cn (.i 2 c1) .nl)))) h1)) (Nat.blt p l)))))
theorem memF_true {k : MemK} {u : U} {h : H} {K : KH} {σ : List IObj} {wr : List (Nat × Bool)} (hr : HR h σ wr) (hk : memF k u h K = true) :
   ∃ r h' σ' wn, memI k (toL u) σ = some (toI r, σ', wn) /\ HR h' σ' (wn ++ wr) /\ h'.tr = h.tr /\ K r h' = true := by
 cases k with
 | aload k =>
   rcases uC_true (show uC u false _ = true from hk) with ⟨_, h2⟩ | ⟨a, r, rfl, q1⟩
   . cases h2
   obtain ⟨rfl, q2⟩ := endK_true q1
   obtain ⟨id, off, cs, k', n, h', e1, e2, e3, e4, e5, e6⟩ := ldI_true hr q2
   obtain ⟨e7, e8⟩ := tst_true e6
   refine ⟨_, h', σ, [], ?_, e4, e5, e8⟩
   rw [toL_cn, toL_nl, e1]
   simp only [memI, e2, e3]
   rw [kc_kd k k' e7, if_pos rfl, toI_i, kc_kd k k' e7]
 | astore k =>
   rcases uC_true (show uC u false _ = true from hk) with ⟨_, h2⟩ | ⟨a, r, rfl, q1⟩
   . cases h2
   rcases uC_true q1 with ⟨_, h2⟩ | ⟨v, r, rfl, q1⟩
   . cases h2
   obtain ⟨rfl, q2⟩ := endK_true q1
   obtain ⟨k', n, rfl, q3⟩ := uI_true q2
   obtain ⟨q4, q5⟩ := tst_true q3
   have hv : toI (.i k' n) = .int k ((n : Int) - 18446744073709551616) := by rw [toI_i, kc_kd k k' q4]
   obtain ⟨id, off, cs, h', e1, e2, e3, e4, e5, e6⟩ := stI_true hr hv q5
   refine ⟨_, h', _, [(id, false)], ?_, e4, e5, e6⟩
   rw [toL_cn, toL_cn, toL_nl, e1, hv]
   simp only [memI, e2]
   rw [if_pos ⟨e3, trivial⟩]
   rfl
 | acas k =>
   rcases uC_true (show uC u false _ = true from hk) with ⟨_, h2⟩ | ⟨a, r0, rfl, p1⟩
   . cases h2
   rcases uC_true p1 with ⟨_, h2⟩ | ⟨x, r1, rfl, p2⟩
   . cases h2
   rcases uC_true p2 with ⟨_, h2⟩ | ⟨y, r2, rfl, p3⟩
   . cases h2
   obtain ⟨rfl, q2⟩ := endK_true p3
   obtain ⟨k1, n1, rfl, q3⟩ := uI_true q2
   obtain ⟨k2, n2, rfl, q4⟩ := uI_true q3
   obtain ⟨q5, q6⟩ := tst_true q4
   obtain ⟨q7, q8⟩ := tst_true q6
   obtain ⟨id, off, cs, k', n, h', e1, e2, e3, e4, e5, e6⟩ := ldI_true hr q8
   obtain ⟨e7, e8⟩ := tst_true e6
   have hx : toI (.i k1 n1) = .int k ((n1 : Int) - 18446744073709551616) := by rw [toI_i, kc_kd k k1 q5]
   have hy : toI (.i k2 n2) = .int k ((n2 : Int) - 18446744073709551616) := by rw [toI_i, kc_kd k k2 q7]
   rw [kc_kd k k' e7] at e3
   rcases brec_true e8 with ⟨f1, f2⟩ | ⟨f1, f2⟩
   . have hn := zN f1
     subst hn
     obtain ⟨id', off', cs', h'', g1, g2, g3, g4, g5, g6⟩ := stI_true e4 hy f2
     rw [e1] at g1
     simp only [IVal.ptr.injEq] at g1
     obtain ⟨rfl, rfl⟩ := g1
     rw [e2] at g2
     simp only [zO] at g2
     subst g2
     refine ⟨_, h'', _, [(id, false)], ?_, g4, g5.trans e5, g6⟩
     rw [toL_cn, toL_cn, toL_cn, toL_nl, e1, hx, hy]
     simp only [memI, e2, e3, and_self, if_true]
     rfl
   . have hn := zE f1
     refine ⟨_, h', σ, [], ?_, e4, e5, f2⟩
     rw [toL_cn, toL_cn, toL_cn, toL_nl, e1, hx, hy]
     simp only [memI, e2, e3, and_self, if_true]
     rw [if_neg (by omega)]
     rfl
 | aadd k =>
   rcases uC_true (show uC u false _ = true from hk) with ⟨_, h2⟩ | ⟨a, r, rfl, q1⟩
   . cases h2
   rcases uC_true q1 with ⟨_, h2⟩ | ⟨y, r, rfl, q1⟩
   . cases h2
   obtain ⟨rfl, q2⟩ := endK_true q1
   obtain ⟨k1, n1, rfl, q3⟩ := uI_true q2
   obtain ⟨q5, q6⟩ := tst_true q3
   obtain ⟨id, off, cs, k', n, h', e1, e2, e3, e4, e5, e6⟩ := ldI_true hr q6
   obtain ⟨e7, e8⟩ := tst_true e6
   rw [fN_eq] at e8
   have hy : toI (.i k1 n1) = .int k ((n1 : Int) - 18446744073709551616) := by rw [toI_i, kc_kd k k1 q5]
   rw [kc_kd k k' e7] at e3
   have hs : toI (.i (kc k) (wrapC (kc k) (Nat.add n n1))) = .int k (k.wrap (((n : Int) - 18446744073709551616) + ((n1 : Int) - 18446744073709551616))) := by
     have := absI_wrap (kc k) (Nat.add n n1) (((n : Int) - 18446744073709551616) + ((n1 : Int) - 18446744073709551616)) (by rw [nadd]; omega)
     rw [kd_kc] at this
     exact this
   obtain ⟨id', off', cs', h'', g1, g2, g3, g4, g5, g6⟩ := stI_true e4 hs e8
   rw [e1] at g1
   simp only [IVal.ptr.injEq] at g1
   obtain ⟨rfl, rfl⟩ := g1
   rw [e2] at g2
   simp only [zO] at g2
   subst g2
   refine ⟨_, h'', _, [(id, false)], ?_, g4, g5.trans e5, g6⟩
   rw [toL_cn, toL_cn, toL_nl, e1, hy, hs]
   simp only [memI, e2, e3, and_self, if_true]
 | uptr =>
   rcases uC_true (show uC u false _ = true from hk) with ⟨_, h2⟩ | ⟨a, r, rfl, q1⟩
   . cases h2
   obtain ⟨rfl, q2⟩ := endK_true q1
   obtain ⟨t, a, b, c, d, x, rfl, k1⟩ := uO_true q2
   obtain ⟨h1, k2⟩ := tst_true k1
   have := zN h1; subst this
   obtain ⟨r, h', σ', wr', h3, h4, h5, h6⟩ := loadF_ok false none (.c (.ptr a b)) _ h _ ts0 ts0 σ wr hr k2 (by rw [toI_ptr]; rfl)
   obtain ⟨cs, z, g1, g2, g3, rfl, rfl⟩ := load_inv (h3 fun _ _ _ => none)
   refine ⟨_, h', σ', [], ?_, h4, h5, h6⟩
   rw [toL_cn, toL_nl, toI_ptr]
   simp only [memI, g1]
   rw [if_pos (by rcases Nat.lt_or_ge b cs.length with h | h; exact h; rw [List.getElem?_eq_none h] at g2; cases g2)]
 | iter =>
   rcases uC_true (show uC u false _ = true from hk) with ⟨_, h2⟩ | ⟨a, r, rfl, q1⟩
   . cases h2
   obtain ⟨rfl, q2⟩ := endK_true q1
   obtain ⟨l, x, rfl, q3⟩ := uS_true q2
   obtain ⟨h', e1, e2, e3⟩ := hpush_true hr q3 (o := .it (unpk l x) 0) rfl
   refine ⟨_, h', _, [], ?_, e1, e2, e3⟩
   rw [toL_cn, toL_nl, toI_s]
   rfl
 | next =>
   rcases uC_true (show uC u false _ = true from hk) with ⟨_, h2⟩ | ⟨a, r, rfl, q1⟩
   . cases h2
   obtain ⟨rfl, q2⟩ := endK_true q1
   obtain ⟨t, id, off, c, d, x, rfl, k1⟩ := uO_true q2
   obtain ⟨h1, k2⟩ := tst_true k1
   have := zN h1; subst this
   obtain ⟨h2, k3⟩ := tst_true k2
   have := zN h2; subst this
   obtain ⟨ob, o, e1, e2, k4⟩ := hget_true hr k3
   obtain ⟨t, p, c', d', e', x', rfl, k5⟩ := uO_true k4
   obtain ⟨h3, k6⟩ := tst_true k5
   have := zN h3; subst this
   obtain ⟨l, y, rfl, k7⟩ := uS_true k6
   have ho : o = .it (unpk l y) p := e2.o
   subst ho
   rcases brec_true k7 with ⟨f1, f2⟩ | ⟨f1, f2⟩
   . have hp : p < l := by have := f1; simp [Nat.blt] at this; omega
     rw [fN_eq] at f2
     obtain ⟨f3, f4⟩ := tst_true f2
     rw [fN_eq, fN_eq, fN_eq] at f4
     obtain ⟨h', g1, _, g2, g3⟩ := hput_true hr f4 (o := .it (unpk l y) (p + 1)) rfl
     have hc := unpk_get (l := l) (x := y) hp
     have hcv : (UInt8.ofNat (y / 256 ^ (l - 1 - p))).toNat = Nat.mod (Nat.div y (Nat.pow 256 (Nat.sub (Nat.sub l 1) p))) 256 := by
       simp [nmod, ndiv, npow, nsub]
     have hlt : (UInt8.ofNat (y / 256 ^ (l - 1 - p))).toNat < 128 := by rw [hcv]; have := f3; simp only [Nat.blt, Nat.ble_eq] at this; exact this
     refine ⟨_, h', _, [(id, false)], ?_, g1, g2, g3⟩
     rw [toL_cn, toL_nl, toI_ptr]
     simp only [memI, e1, hc]
     rw [if_pos hlt, hcv]
     simp [toI, toT, toO, absI, kd, nadd]
   . have hp : ¬ p < l := fun hlt => by rw [show Nat.blt p l = true from (by unfold Nat.blt; rw [Nat.ble_eq]; exact hlt)] at f1; cases f1
     have hc : (unpk l y)[p]? = none := by rw [List.getElem?_eq_none]; rw [unpk_length]; omega
     refine ⟨_, h, σ, [], ?_, hr, rfl, f2⟩
     rw [toL_cn, toL_nl, toI_ptr]
     simp only [memI, e1, hc]
     rfl
theorem memF_ok (k : MemK) (xs : List Opd) : HpL (.mem k xs) (memF k) := by
 intro u h K ts ts' σ wr hr hk hg
 obtain ⟨r, h', σ', wn, h1, h2, h3, h4⟩ := memF_true hr hk
 refine ⟨r, h', σ', wn ++ wr, fun cf => ?_, h2, h3, h4⟩
 have hg : getAll xs ts = some (toL u, ts') := hg
 simp only [stepOp, hg, h1]
end
end Go.Idl
namespace Go.Idl
noncomputable section
inductive Ix where
 | a0
 | a1
 | a2
 | a3
 | a4
 | a5
 | a6
 | a7
 | a8
 | a9
 | a10
 | a11
 | a12
 | a13
 | a14
 | a15
 | a16
 | a17
 | a18
 | a19
 | a20
 | a21
 | a22
 | a23
 | a24
 | a25
 | a26
 | a27
 | a28
 | a29
 | a30
 | a31
 | a32
 | a33
 | a34
 | a35
 | a36
 | a37
 | a38
 | a39
 | a40
 | a41
 | a42
 | a43
 | a44
 | a45
 | a46
 | a47
 | a48
 | a49
 | a50
 | a51
 | a52
 | a53
 | a54
 | a55
 | a56
 | a57
 | a58
 | a59
 | a60
 | a61
 | far (j : Nat)
def ixN : Ix -> Nat
 | .a0 => 0
 | .a1 => 1
 | .a2 => 2
 | .a3 => 3
 | .a4 => 4
 | .a5 => 5
 | .a6 => 6
 | .a7 => 7
 | .a8 => 8
 | .a9 => 9
 | .a10 => 10
 | .a11 => 11
 | .a12 => 12
 | .a13 => 13
 | .a14 => 14
 | .a15 => 15
 | .a16 => 16
 | .a17 => 17
 | .a18 => 18
 | .a19 => 19
 | .a20 => 20
 | .a21 => 21
 | .a22 => 22
 | .a23 => 23
 | .a24 => 24
 | .a25 => 25
 | .a26 => 26
 | .a27 => 27
 | .a28 => 28
 | .a29 => 29
 | .a30 => 30
 | .a31 => 31
 | .a32 => 32
 | .a33 => 33
 | .a34 => 34
 | .a35 => 35
 | .a36 => 36
 | .a37 => 37
 | .a38 => 38
 | .a39 => 39
 | .a40 => 40
 | .a41 => 41
 | .a42 => 42
 | .a43 => 43
 | .a44 => 44
 | .a45 => 45
 | .a46 => 46
 | .a47 => 47
 | .a48 => 48
 | .a49 => 49
 | .a50 => 50
 | .a51 => 51
 | .a52 => 52
 | .a53 => 53
 | .a54 => 54
 | .a55 => 55
 | .a56 => 56
 | .a57 => 57
 | .a58 => 58
 | .a59 => 59
 | .a60 => 60
 | .a61 => 61
 | .far j => j
def ixList : List Ix := [.a0, .a1, .a2, .a3, .a4, .a5, .a6, .a7, .a8, .a9, .a10, .a11, .a12, .a13, .a14, .a15, .a16, .a17, .a18, .a19, .a20, .a21, .a22, .a23, .a24, .a25, .a26, .a27, .a28, .a29, .a30, .a31, .a32, .a33, .a34, .a35, .a36, .a37, .a38, .a39, .a40, .a41, .a42, .a43, .a44, .a45, .a46, .a47, .a48, .a49, .a50, .a51, .a52, .a53, .a54, .a55, .a56, .a57, .a58, .a59, .a60, .a61]
def ixOf (j : Nat) : Ix := @Bool.rec (fun _ => Ix) (.far j) (ixList.getD j (.far j)) (Nat.blt j 62)
theorem ixN_of (j : Nat) : ixN (ixOf j) = j := by
 unfold ixOf
 rw [brec]
 split
 . rename_i h
   have h := blt_true h
   match j, h with
   | 0, _ => rfl
   | 1, _ => rfl
   | 2, _ => rfl
   | 3, _ => rfl
   | 4, _ => rfl
   | 5, _ => rfl
   | 6, _ => rfl
   | 7, _ => rfl
   | 8, _ => rfl
   | 9, _ => rfl
   | 10, _ => rfl
   | 11, _ => rfl
   | 12, _ => rfl
   | 13, _ => rfl
   | 14, _ => rfl
   | 15, _ => rfl
   | 16, _ => rfl
   | 17, _ => rfl
   | 18, _ => rfl
   | 19, _ => rfl
   | 20, _ => rfl
   | 21, _ => rfl
   | 22, _ => rfl
   | 23, _ => rfl
   | 24, _ => rfl
   | 25, _ => rfl
   | 26, _ => rfl
   | 27, _ => rfl
   | 28, _ => rfl
   | 29, _ => rfl
   | 30, _ => rfl
   | 31, _ => rfl
   | 32, _ => rfl
   | 33, _ => rfl
   | 34, _ => rfl
   | 35, _ => rfl
   | 36, _ => rfl
   | 37, _ => rfl
   | 38, _ => rfl
   | 39, _ => rfl
   | 40, _ => rfl
   | 41, _ => rfl
   | 42, _ => rfl
   | 43, _ => rfl
   | 44, _ => rfl
   | 45, _ => rfl
   | 46, _ => rfl
   | 47, _ => rfl
   | 48, _ => rfl
   | 49, _ => rfl
   | 50, _ => rfl
   | 51, _ => rfl
   | 52, _ => rfl
   | 53, _ => rfl
   | 54, _ => rfl
   | 55, _ => rfl
   | 56, _ => rfl
   | 57, _ => rfl
   | 58, _ => rfl
   | 59, _ => rfl
   | 60, _ => rfl
   | 61, _ => rfl
 . rfl
def get0 : Env -> (U -> Ans) -> Ans := (fun e K => @E8.rec (E8 U) (fun _ => (U -> Ans) -> Ans) (fun r0 _ _ _ _ _ _ _ K => @E8.rec U (fun _ => (U -> Ans) -> Ans) (fun x _ _ _ _ _ _ _ K => K x) r0 K) e K)
def get1 : Env -> (U -> Ans) -> Ans := (fun e K => @E8.rec (E8 U) (fun _ => (U -> Ans) -> Ans) (fun r0 _ _ _ _ _ _ _ K => @E8.rec U (fun _ => (U -> Ans) -> Ans) (fun _ x _ _ _ _ _ _ K => K x) r0 K) e K)
def get2 : Env -> (U -> Ans) -> Ans := (fun e K => @E8.rec (E8 U) (fun _ => (U -> Ans) -> Ans) (fun r0 _ _ _ _ _ _ _ K => @E8.rec U (fun _ => (U -> Ans) -> Ans) (fun _ _ x _ _ _ _ _ K => K x) r0 K) e K)
def get3 : Env -> (U -> Ans) -> Ans := (fun e K => @E8.rec (E8 U) (fun _ => (U -> Ans) -> Ans) (fun r0 _ _ _ _ _ _ _ K => @E8.rec U (fun _ => (U -> Ans) -> Ans) (fun _ _ _ x _ _ _ _ K => K x) r0 K) e K)
def get4 : Env -> (U -> Ans) -> Ans := (fun e K => @E8.rec (E8 U) (fun _ => (U -> Ans) -> Ans) (fun r0 _ _ _ _ _ _ _ K => @E8.rec U (fun _ => (U -> Ans) -> Ans) (fun _ _ _ _ x _ _ _ K => K x) r0 K) e K)
def get5 : Env -> (U -> Ans) -> Ans := (fun e K => @E8.rec (E8 U) (fun _ => (U -> Ans) -> Ans) (fun r0 _ _ _ _ _ _ _ K => @E8.rec U (fun _ => (U -> Ans) -> Ans) (fun _ _ _ _ _ x _ _ K => K x) r0 K) e K)
def get6 : Env -> (U -> Ans) -> Ans := (fun e K => @E8.rec (E8 U) (fun _ => (U -> Ans) -> Ans) (fun r0 _ _ _ _ _ _ _ K => @E8.rec U (fun _ => (U -> Ans) -> Ans) (fun _ _ _ _ _ _ x _ K => K x) r0 K) e K)
def get7 : Env -> (U -> Ans) -> Ans := (fun e K => @E8.rec (E8 U) (fun _ => (U -> Ans) -> Ans) (fun r0 _ _ _ _ _ _ _ K => @E8.rec U (fun _ => (U -> Ans) -> Ans) (fun _ _ _ _ _ _ _ x K => K x) r0 K) e K)
def get8 : Env -> (U -> Ans) -> Ans := (fun e K => @E8.rec (E8 U) (fun _ => (U -> Ans) -> Ans) (fun _ r1 _ _ _ _ _ _ K => @E8.rec U (fun _ => (U -> Ans) -> Ans) (fun x _ _ _ _ _ _ _ K => K x) r1 K) e K)
def get9 : Env -> (U -> Ans) -> Ans := (fun e K => @E8.rec (E8 U) (fun _ => (U -> Ans) -> Ans) (fun _ r1 _ _ _ _ _ _ K => @E8.rec U (fun _ => (U -> Ans) -> Ans) (fun _ x _ _ _ _ _ _ K => K x) r1 K) e K)
def get10 : Env -> (U -> Ans) -> Ans := (fun e K => @E8.rec (E8 U) (fun _ => (U -> Ans) -> Ans) (fun _ r1 _ _ _ _ _ _ K => @E8.rec U (fun _ => (U -> Ans) -> Ans) (fun _ _ x _ _ _ _ _ K => K x) r1 K) e K)
def get11 : Env -> (U -> Ans) -> Ans := (fun e K => @E8.rec (E8 U) (fun _ => (U -> Ans) -> Ans) (fun _ r1 _ _ _ _ _ _ K => @E8.rec U (fun _ => (U -> Ans) -> Ans) (fun _ _ _ x _ _ _ _ K => K x) r1 K) e K)
def get12 : Env -> (U -> Ans) -> Ans := (fun e K => @E8.rec (E8 U) (fun _ => (U -> Ans) -> Ans) (fun _ r1 _ _ _ _ _ _ K => @E8.rec U (fun _ => (U -> Ans) -> Ans) (fun _ _ _ _ x _ _ _ K => K x) r1 K) e K)
def get13 : Env -> (U -> Ans) -> Ans := (fun e K => @E8.rec (E8 U) (fun _ => (U -> Ans) -> Ans) (fun _ r1 _ _ _ _ _ _ K => @E8.rec U (fun _ => (U -> Ans) -> Ans) (fun _ _ _ _ _ x _ _ K => K x) r1 K) e K)
def get14 : Env -> (U -> Ans) -> Ans := (fun e K => @E8.rec (E8 U) (fun _ => (U -> Ans) -> Ans) (fun _ r1 _ _ _ _ _ _ K => @E8.rec U (fun _ => (U -> Ans) -> Ans) (fun _ _ _ _ _ _ x _ K => K x) r1 K) e K)
def get15 : Env -> (U -> Ans) -> Ans := (fun e K => @E8.rec (E8 U) (fun _ => (U -> Ans) -> Ans) (fun _ r1 _ _ _ _ _ _ K => @E8.rec U (fun _ => (U -> Ans) -> Ans) (fun _ _ _ _ _ _ _ x K => K x) r1 K) e K)
def get16 : Env -> (U -> Ans) -> Ans := (fun e K => @E8.rec (E8 U) (fun _ => (U -> Ans) -> Ans) (fun _ _ r2 _ _ _ _ _ K => @E8.rec U (fun _ => (U -> Ans) -> Ans) (fun x _ _ _ _ _ _ _ K => K x) r2 K) e K)
def get17 : Env -> (U -> Ans) -> Ans := (fun e K => @E8.rec (E8 U) (fun _ => (U -> Ans) -> Ans) (fun _ _ r2 _ _ _ _ _ K => @E8.rec U (fun _ => (U -> Ans) -> Ans) (fun _ x _ _ _ _ _ _ K => K x) r2 K) e K)
def get18 : Env -> (U -> Ans) -> Ans := (fun e K => @E8.rec (E8 U) (fun _ => (U -> Ans) -> Ans) (fun _ _ r2 _ _ _ _ _ K => @E8.rec U (fun _ => (U -> Ans) -> Ans) (fun _ _ x _ _ _ _ _ K => K x) r2 K) e K)
def get19 : Env -> (U -> Ans) -> Ans := (fun e K => @E8.rec (E8 U) (fun _ => (U -> Ans) -> Ans) (fun _ _ r2 _ _ _ _ _ K => @E8.rec U (fun _ => (U -> Ans) -> Ans) (fun _ _ _ x _ _ _ _ K => K x) r2 K) e K)
def get20 : Env -> (U -> Ans) -> Ans := (fun e K => @E8.rec (E8 U) (fun _ => (U -> Ans) -> Ans) (fun _ _ r2 _ _ _ _ _ K => @E8.rec U (fun _ => (U -> Ans) -> Ans) (fun _ _ _ _ x _ _ _ K => K x) r2 K) e K)
def get21 : Env -> (U -> Ans) -> Ans := (fun e K => @E8.rec (E8 U) (fun _ => (U -> Ans) -> Ans) (fun _ _ r2 _ _ _ _ _ K => @E8.rec U (fun _ => (U -> Ans) -> Ans) (fun _ _ _ _ _ x _ _ K => K x) r2 K) e K)
def get22 : Env -> (U -> Ans) -> Ans := (fun e K => @E8.rec (E8 U) (fun _ => (U -> Ans) -> Ans) (fun _ _ r2 _ _ _ _ _ K => @E8.rec U (fun _ => (U -> Ans) -> Ans) (fun _ _ _ _ _ _ x _ K => K x) r2 K) e K)
def get23 : Env -> (U -> Ans) -> Ans := (fun e K => @E8.rec (E8 U) (fun _ => (U -> Ans) -> Ans) (fun _ _ r2 _ _ _ _ _ K => @E8.rec U (fun _ => (U -> Ans) -> Ans) (fun _ _ _ _ _ _ _ x K => K x) r2 K) e K)
def get24 : Env -> (U -> Ans) -> Ans := (fun e K => @E8.rec (E8 U) (fun _ => (U -> Ans) -> Ans) (fun _ _ _ r3 _ _ _ _ K => @E8.rec U (fun _ => (U -> Ans) -> Ans) (fun x _ _ _ _ _ _ _ K => K x) r3 K) e K)
def get25 : Env -> (U -> Ans) -> Ans := (fun e K => @E8.rec (E8 U) (fun _ => (U -> Ans) -> Ans) (fun _ _ _ r3 _ _ _ _ K => @E8.rec U (fun _ => (U -> Ans) -> Ans) (fun _ x _ _ _ _ _ _ K => K x) r3 K) e K)
def get26 : Env -> (U -> Ans) -> Ans := (fun e K => @E8.rec (E8 U) (fun _ => (U -> Ans) -> Ans) (fun _ _ _ r3 _ _ _ _ K => @E8.rec U (fun _ => (U -> Ans) -> Ans) (fun _ _ x _ _ _ _ _ K => K x) r3 K) e K)
def get27 : Env -> (U -> Ans) -> Ans := (fun e K => @E8.rec (E8 U) (fun _ => (U -> Ans) -> Ans) (fun _ _ _ r3 _ _ _ _ K => @E8.rec U (fun _ => (U -> Ans) -> Ans) (fun _ _ _ x _ _ _ _ K => K x) r3 K) e K)
def get28 : Env -> (U -> Ans) -> Ans := (fun e K => @E8.rec (E8 U) (fun _ => (U -> Ans) -> Ans) (fun _ _ _ r3 _ _ _ _ K => @E8.rec U (fun _ => (U -> Ans) -> Ans) (fun _ _ _ _ x _ _ _ K => K x) r3 K) e K)
def get29 : Env -> (U -> Ans) -> Ans := (fun e K => @E8.rec (E8 U) (fun _ => (U -> Ans) -> Ans) (fun _ _ _ r3 _ _ _ _ K => @E8.rec U (fun _ => (U -> Ans) -> Ans) (fun _ _ _ _ _ x _ _ K => K x) r3 K) e K)
def get30 : Env -> (U -> Ans) -> Ans := (fun e K => @E8.rec (E8 U) (fun _ => (U -> Ans) -> Ans) (fun _ _ _ r3 _ _ _ _ K => @E8.rec U (fun _ => (U -> Ans) -> Ans) (fun _ _ _ _ _ _ x _ K => K x) r3 K) e K)
def get31 : Env -> (U -> Ans) -> Ans := (fun e K => @E8.rec (E8 U) (fun _ => (U -> Ans) -> Ans) (fun _ _ _ r3 _ _ _ _ K => @E8.rec U (fun _ => (U -> Ans) -> Ans) (fun _ _ _ _ _ _ _ x K => K x) r3 K) e K)
def get32 : Env -> (U -> Ans) -> Ans := (fun e K => @E8.rec (E8 U) (fun _ => (U -> Ans) -> Ans) (fun _ _ _ _ r4 _ _ _ K => @E8.rec U (fun _ => (U -> Ans) -> Ans) (fun x _ _ _ _ _ _ _ K => K x) r4 K) e K)
def get33 : Env -> (U -> Ans) -> Ans := (fun e K => @E8.rec (E8 U) (fun _ => (U -> Ans) -> Ans) (fun _ _ _ _ r4 _ _ _ K => @E8.rec U (fun _ => (U -> Ans) -> Ans) (fun _ x _ _ _ _ _ _ K => K x) r4 K) e K)
def get34 : Env -> (U -> Ans) -> Ans := (fun e K => @E8.rec (E8 U) (fun _ => (U -> Ans) -> Ans) (fun _ _ _ _ r4 _ _ _ K => @E8.rec U (fun _ => (U -> Ans) -> Ans) (fun _ _ x _ _ _ _ _ K => K x) r4 K) e K)
def get35 : Env -> (U -> Ans) -> Ans := (fun e K => @E8.rec (E8 U) (fun _ => (U -> Ans) -> Ans) (fun _ _ _ _ r4 _ _ _ K => @E8.rec U (fun _ => (U -> Ans) -> Ans) (fun _ _ _ x _ _ _ _ K => K x) r4 K) e K)
def get36 : Env -> (U -> Ans) -> Ans := (fun e K => @E8.rec (E8 U) (fun _ => (U -> Ans) -> Ans) (fun _ _ _ _ r4 _ _ _ K => @E8.rec U (fun _ => (U -> Ans) -> Ans) (fun _ _ _ _ x _ _ _ K => K x) r4 K) e K)
def get37 : Env -> (U -> Ans) -> Ans := (fun e K => @E8.rec (E8 U) (fun _ => (U -> Ans) -> Ans) (fun _ _ _ _ r4 _ _ _ K => @E8.rec U (fun _ => (U -> Ans) -> Ans) (fun _ _ _ _ _ x _ _ K => K x) r4 K) e K)
def get38 : Env -> (U -> Ans) -> Ans := (fun e K => @E8.rec (E8 U) (fun _ => (U -> Ans) -> Ans) (fun _ _ _ _ r4 _ _ _ K => @E8.rec U (fun _ => (U -> Ans) -> Ans) (fun _ _ _ _ _ _ x _ K => K x) r4 K) e K)
def get39 : Env -> (U -> Ans) -> Ans := (fun e K => @E8.rec (E8 U) (fun _ => (U -> Ans) -> Ans) (fun _ _ _ _ r4 _ _ _ K => @E8.rec U (fun _ => (U -> Ans) -> Ans) (fun _ _ _ _ _ _ _ x K => K x) r4 K) e K)
def get40 : Env -> (U -> Ans) -> Ans := (fun e K => @E8.rec (E8 U) (fun _ => (U -> Ans) -> Ans) (fun _ _ _ _ _ r5 _ _ K => @E8.rec U (fun _ => (U -> Ans) -> Ans) (fun x _ _ _ _ _ _ _ K => K x) r5 K) e K)
def get41 : Env -> (U -> Ans) -> Ans := (fun e K => @E8.rec (E8 U) (fun _ => (U -> Ans) -> Ans) (fun _ _ _ _ _ r5 _ _ K => @E8.rec U (fun _ => (U -> Ans) -> Ans) (fun _ x _ _ _ _ _ _ K => K x) r5 K) e K)
def get42 : Env -> (U -> Ans) -> Ans := (fun e K => @E8.rec (E8 U) (fun _ => (U -> Ans) -> Ans) (fun _ _ _ _ _ r5 _ _ K => @E8.rec U (fun _ => (U -> Ans) -> Ans) (fun _ _ x _ _ _ _ _ K => K x) r5 K) e K)
def get43 : Env -> (U -> Ans) -> Ans := (fun e K => @E8.rec (E8 U) (fun _ => (U -> Ans) -> Ans) (fun _ _ _ _ _ r5 _ _ K => @E8.rec U (fun _ => (U -> Ans) -> Ans) (fun _ _ _ x _ _ _ _ K => K x) r5 K) e K)
def get44 : Env -> (U -> Ans) -> Ans := (fun e K => @E8.rec (E8 U) (fun _ => (U -> Ans) -> Ans) (fun _ _ _ _ _ r5 _ _ K => @E8.rec U (fun _ => (U -> Ans) -> Ans) (fun _ _ _ _ x _ _ _ K => K x) r5 K) e K)
def get45 : Env -> (U -> Ans) -> Ans := (fun e K => @E8.rec (E8 U) (fun _ => (U -> Ans) -> Ans) (fun _ _ _ _ _ r5 _ _ K => @E8.rec U (fun _ => (U -> Ans) -> Ans) (fun _ _ _ _ _ x _ _ K => K x) r5 K) e K)
def get46 : Env -> (U -> Ans) -> Ans := (fun e K => @E8.rec (E8 U) (fun _ => (U -> Ans) -> Ans) (fun _ _ _ _ _ r5 _ _ K => @E8.rec U (fun _ => (U -> Ans) -> Ans) (fun _ _ _ _ _ _ x _ K => K x) r5 K) e K)
def get47 : Env -> (U -> Ans) -> Ans := (fun e K => @E8.rec (E8 U) (fun _ => (U -> Ans) -> Ans) (fun _ _ _ _ _ r5 _ _ K => @E8.rec U (fun _ => (U -> Ans) -> Ans) (fun _ _ _ _ _ _ _ x K => K x) r5 K) e K)
def get48 : Env -> (U -> Ans) -> Ans := (fun e K => @E8.rec (E8 U) (fun _ => (U -> Ans) -> Ans) (fun _ _ _ _ _ _ r6 _ K => @E8.rec U (fun _ => (U -> Ans) -> Ans) (fun x _ _ _ _ _ _ _ K => K x) r6 K) e K)
def get49 : Env -> (U -> Ans) -> Ans := (fun e K => @E8.rec (E8 U) (fun _ => (U -> Ans) -> Ans) (fun _ _ _ _ _ _ r6 _ K => @E8.rec U (fun _ => (U -> Ans) -> Ans) (fun _ x _ _ _ _ _ _ K => K x) r6 K) e K)
def get50 : Env -> (U -> Ans) -> Ans := (fun e K => @E8.rec (E8 U) (fun _ => (U -> Ans) -> Ans) (fun _ _ _ _ _ _ r6 _ K => @E8.rec U (fun _ => (U -> Ans) -> Ans) (fun _ _ x _ _ _ _ _ K => K x) r6 K) e K)
def get51 : Env -> (U -> Ans) -> Ans := (fun e K => @E8.rec (E8 U) (fun _ => (U -> Ans) -> Ans) (fun _ _ _ _ _ _ r6 _ K => @E8.rec U (fun _ => (U -> Ans) -> Ans) (fun _ _ _ x _ _ _ _ K => K x) r6 K) e K)
def get52 : Env -> (U -> Ans) -> Ans := (fun e K => @E8.rec (E8 U) (fun _ => (U -> Ans) -> Ans) (fun _ _ _ _ _ _ r6 _ K => @E8.rec U (fun _ => (U -> Ans) -> Ans) (fun _ _ _ _ x _ _ _ K => K x) r6 K) e K)
def get53 : Env -> (U -> Ans) -> Ans := (fun e K => @E8.rec (E8 U) (fun _ => (U -> Ans) -> Ans) (fun _ _ _ _ _ _ r6 _ K => @E8.rec U (fun _ => (U -> Ans) -> Ans) (fun _ _ _ _ _ x _ _ K => K x) r6 K) e K)
def get54 : Env -> (U -> Ans) -> Ans := (fun e K => @E8.rec (E8 U) (fun _ => (U -> Ans) -> Ans) (fun _ _ _ _ _ _ r6 _ K => @E8.rec U (fun _ => (U -> Ans) -> Ans) (fun _ _ _ _ _ _ x _ K => K x) r6 K) e K)
def get55 : Env -> (U -> Ans) -> Ans := (fun e K => @E8.rec (E8 U) (fun _ => (U -> Ans) -> Ans) (fun _ _ _ _ _ _ r6 _ K => @E8.rec U (fun _ => (U -> Ans) -> Ans) (fun _ _ _ _ _ _ _ x K => K x) r6 K) e K)
def get56 : Env -> (U -> Ans) -> Ans := (fun e K => @E8.rec (E8 U) (fun _ => (U -> Ans) -> Ans) (fun _ _ _ _ _ _ _ r7 K => @E8.rec U (fun _ => (U -> Ans) -> Ans) (fun x _ _ _ _ _ _ _ K => K x) r7 K) e K)
def get57 : Env -> (U -> Ans) -> Ans := (fun e K => @E8.rec (E8 U) (fun _ => (U -> Ans) -> Ans) (fun _ _ _ _ _ _ _ r7 K => @E8.rec U (fun _ => (U -> Ans) -> Ans) (fun _ x _ _ _ _ _ _ K => K x) r7 K) e K)
def get58 : Env -> (U -> Ans) -> Ans := (fun e K => @E8.rec (E8 U) (fun _ => (U -> Ans) -> Ans) (fun _ _ _ _ _ _ _ r7 K => @E8.rec U (fun _ => (U -> Ans) -> Ans) (fun _ _ x _ _ _ _ _ K => K x) r7 K) e K)
def get59 : Env -> (U -> Ans) -> Ans := (fun e K => @E8.rec (E8 U) (fun _ => (U -> Ans) -> Ans) (fun _ _ _ _ _ _ _ r7 K => @E8.rec U (fun _ => (U -> Ans) -> Ans) (fun _ _ _ x _ _ _ _ K => K x) r7 K) e K)
def get60 : Env -> (U -> Ans) -> Ans := (fun e K => @E8.rec (E8 U) (fun _ => (U -> Ans) -> Ans) (fun _ _ _ _ _ _ _ r7 K => @E8.rec U (fun _ => (U -> Ans) -> Ans) (fun _ _ _ _ x _ _ _ K => K x) r7 K) e K)
def get61 : Env -> (U -> Ans) -> Ans := (fun e K => @E8.rec (E8 U) (fun _ => (U -> Ans) -> Ans) (fun _ _ _ _ _ _ _ r7 K => @E8.rec U (fun _ => (U -> Ans) -> Ans) (fun _ _ _ _ _ x _ _ K => K x) r7 K) e K)
def put0 : Env -> U -> (Env -> Ans) -> Ans := (fun e v K => @E8.rec (E8 U) (fun _ => U -> (Env -> Ans) -> Ans) (fun r0 r1 r2 r3 r4 r5 r6 r7 v K => @E8.rec U (fun _ => (Env -> Ans) -> Ans) (fun _ x1 x2 x3 x4 x5 x6 x7 K => K ⟨⟨v, x1, x2, x3, x4, x5, x6, x7⟩, r1, r2, r3, r4, r5, r6, r7⟩) r0 K) e v K)
def put1 : Env -> U -> (Env -> Ans) -> Ans := (fun e v K => @E8.rec (E8 U) (fun _ => U -> (Env -> Ans) -> Ans) (fun r0 r1 r2 r3 r4 r5 r6 r7 v K => @E8.rec U (fun _ => (Env -> Ans) -> Ans) (fun x0 _ x2 x3 x4 x5 x6 x7 K => K ⟨⟨x0, v, x2, x3, x4, x5, x6, x7⟩, r1, r2, r3, r4, r5, r6, r7⟩) r0 K) e v K)
def put2 : Env -> U -> (Env -> Ans) -> Ans := (fun e v K => @E8.rec (E8 U) (fun _ => U -> (Env -> Ans) -> Ans) (fun r0 r1 r2 r3 r4 r5 r6 r7 v K => @E8.rec U (fun _ => (Env -> Ans) -> Ans) (fun x0 x1 _ x3 x4 x5 x6 x7 K => K ⟨⟨x0, x1, v, x3, x4, x5, x6, x7⟩, r1, r2, r3, r4, r5, r6, r7⟩) r0 K) e v K)
def put3 : Env -> U -> (Env -> Ans) -> Ans := (fun e v K => @E8.rec (E8 U) (fun _ => U -> (Env -> Ans) -> Ans) (fun r0 r1 r2 r3 r4 r5 r6 r7 v K => @E8.rec U (fun _ => (Env -> Ans) -> Ans) (fun x0 x1 x2 _ x4 x5 x6 x7 K => K ⟨⟨x0, x1, x2, v, x4, x5, x6, x7⟩, r1, r2, r3, r4, r5, r6, r7⟩) r0 K) e v K)
def put4 : Env -> U -> (Env -> Ans) -> Ans := (fun e v K => @E8.rec (E8 U) (fun _ => U -> (Env -> Ans) -> Ans) (fun r0 r1 r2 r3 r4 r5 r6 r7 v K => @E8.rec U (fun _ => (Env -> Ans) -> Ans) (fun x0 x1 x2 x3 _ x5 x6 x7 K => K ⟨⟨x0, x1, x2, x3, v, x5, x6, x7⟩, r1, r2, r3, r4, r5, r6, r7⟩) r0 K) e v K)
def put5 : Env -> U -> (Env -> Ans) -> Ans := (fun e v K => @E8.rec (E8 U) (fun _ => U -> (Env -> Ans) -> Ans) (fun r0 r1 r2 r3 r4 r5 r6 r7 v K => @E8.rec U (fun _ => (Env -> Ans) -> Ans) (fun x0 x1 x2 x3 x4 _ x6 x7 K => K ⟨⟨x0, x1, x2, x3, x4, v, x6, x7⟩, r1, r2, r3, r4, r5, r6, r7⟩) r0 K) e v K)
def put6 : Env -> U -> (Env -> Ans) -> Ans := (fun e v K => @E8.rec (E8 U) (fun _ => U -> (Env -> Ans) -> Ans) (fun r0 r1 r2 r3 r4 r5 r6 r7 v K => @E8.rec U (fun _ => (Env -> Ans) -> Ans) (fun x0 x1 x2 x3 x4 x5 _ x7 K => K ⟨⟨x0, x1, x2, x3, x4, x5, v, x7⟩, r1, r2, r3, r4, r5, r6, r7⟩) r0 K) e v K)
def put7 : Env -> U -> (Env -> Ans) -> Ans := (fun e v K => @E8.rec (E8 U) (fun _ => U -> (Env -> Ans) -> Ans) (fun r0 r1 r2 r3 r4 r5 r6 r7 v K => @E8.rec U (fun _ => (Env -> Ans) -> Ans) (fun x0 x1 x2 x3 x4 x5 x6 _ K => K ⟨⟨x0, x1, x2, x3, x4, x5, x6, v⟩, r1, r2, r3, r4, r5, r6, r7⟩) r0 K) e v K)
def put8 : Env -> U -> (Env -> Ans) -> Ans := (fun e v K => @E8.rec (E8 U) (fun _ => U -> (Env -> Ans) -> Ans) (fun r0 r1 r2 r3 r4 r5 r6 r7 v K => @E8.rec U (fun _ => (Env -> Ans) -> Ans) (fun _ x1 x2 x3 x4 x5 x6 x7 K => K ⟨r0, ⟨v, x1, x2, x3, x4, x5, x6, x7⟩, r2, r3, r4, r5, r6, r7⟩) r1 K) e v K)
def put9 : Env -> U -> (Env -> Ans) -> Ans := (fun e v K => @E8.rec (E8 U) (fun _ => U -> (Env -> Ans) -> Ans) (fun r0 r1 r2 r3 r4 r5 r6 r7 v K => @E8.rec U (fun _ => (Env -> Ans) -> Ans) (fun x0 _ x2 x3 x4 x5 x6 x7 K => K ⟨r0, ⟨x0, v, x2, x3, x4, x5, x6, x7⟩, r2, r3, r4, r5, r6, r7⟩) r1 K) e v K)
def put10 : Env -> U -> (Env -> Ans) -> Ans := (fun e v K => @E8.rec (E8 U) (fun _ => U -> (Env -> Ans) -> Ans) (fun r0 r1 r2 r3 r4 r5 r6 r7 v K => @E8.rec U (fun _ => (Env -> Ans) -> Ans) (fun x0 x1 _ x3 x4 x5 x6 x7 K => K ⟨r0, ⟨x0, x1, v, x3, x4, x5, x6, x7⟩, r2, r3, r4, r5, r6, r7⟩) r1 K) e v K)
def put11 : Env -> U -> (Env -> Ans) -> Ans := (fun e v K => @E8.rec (E8 U) (fun _ => U -> (Env -> Ans) -> Ans) (fun r0 r1 r2 r3 r4 r5 r6 r7 v K => @E8.rec U (fun _ => (Env -> Ans) -> Ans) (fun x0 x1 x2 _ x4 x5 x6 x7 K => K ⟨r0, ⟨x0, x1, x2, v, x4, x5, x6, x7⟩, r2, r3, r4, r5, r6, r7⟩) r1 K) e v K)
def put12 : Env -> U -> (Env -> Ans) -> Ans := (fun e v K => @E8.rec (E8 U) (fun _ => U -> (Env -> Ans) -> Ans) (fun r0 r1 r2 r3 r4 r5 r6 r7 v K => @E8.rec U (fun _ => (Env -> Ans) -> Ans) (fun x0 x1 x2 x3 _ x5 x6 x7 K => K ⟨r0, ⟨x0, x1, x2, x3, v, x5, x6, x7⟩, r2, r3, r4, r5, r6, r7⟩) r1 K) e v K)
def put13 : Env -> U -> (Env -> Ans) -> Ans := (fun e v K => @E8.rec (E8 U) (fun _ => U -> (Env -> Ans) -> Ans) (fun r0 r1 r2 r3 r4 r5 r6 r7 v K => @E8.rec U (fun _ => (Env -> Ans) -> Ans) (fun x0 x1 x2 x3 x4 _ x6 x7 K => K ⟨r0, ⟨x0, x1, x2, x3, x4, v, x6, x7⟩, r2, r3, r4, r5, r6, r7⟩) r1 K) e v K)
def put14 : Env -> U -> (Env -> Ans) -> Ans := (fun e v K => @E8.rec (E8 U) (fun _ => U -> (Env -> Ans) -> Ans) (fun r0 r1 r2 r3 r4 r5 r6 r7 v K => @E8.rec U (fun _ => (Env -> Ans) -> Ans) (fun x0 x1 x2 x3 x4 x5 _ x7 K => K ⟨r0, ⟨x0, x1, x2, x3, x4, x5, v, x7⟩, r2, r3, r4, r5, r6, r7⟩) r1 K) e v K)
def put15 : Env -> U -> (Env -> Ans) -> Ans := (fun e v K => @E8.rec (E8 U) (fun _ => U -> (Env -> Ans) -> Ans) (fun r0 r1 r2 r3 r4 r5 r6 r7 v K => @E8.rec U (fun _ => (Env -> Ans) -> Ans) (fun x0 x1 x2 x3 x4 x5 x6 _ K => K ⟨r0, ⟨x0, x1, x2, x3, x4, x5, x6, v⟩, r2, r3, r4, r5, r6, r7⟩) r1 K) e v K)
def put16 : Env -> U -> (Env -> Ans) -> Ans := (fun e v K => @E8.rec (E8 U) (fun _ => U -> (Env -> Ans) -> Ans) (fun r0 r1 r2 r3 r4 r5 r6 r7 v K => @E8.rec U (fun _ => (Env -> Ans) -> Ans) (fun _ x1 x2 x3 x4 x5 x6 x7 K => K ⟨r0, r1, ⟨v, x1, x2, x3, x4, x5, x6, x7⟩, r3, r4, r5, r6, r7⟩) r2 K) e v K)
def put17 : Env -> U -> (Env -> Ans) -> Ans := (fun e v K => @E8.rec (E8 U) (fun _ => U -> (Env -> Ans) -> Ans) (fun r0 r1 r2 r3 r4 r5 r6 r7 v K => @E8.rec U (fun _ => (Env -> Ans) -> Ans) (fun x0 _ x2 x3 x4 x5 x6 x7 K => K ⟨r0, r1, ⟨x0, v, x2, x3, x4, x5, x6, x7⟩, r3, r4, r5, r6, r7⟩) r2 K) e v K)
def put18 : Env -> U -> (Env -> Ans) -> Ans := (fun e v K => @E8.rec (E8 U) (fun _ => U -> (Env -> Ans) -> Ans) (fun r0 r1 r2 r3 r4 r5 r6 r7 v K => @E8.rec U (fun _ => (Env -> Ans) -> Ans) (fun x0 x1 _ x3 x4 x5 x6 x7 K => K ⟨r0, r1, ⟨x0, x1, v, x3, x4, x5, x6, x7⟩, r3, r4, r5, r6, r7⟩) r2 K) e v K)
def put19 : Env -> U -> (Env -> Ans) -> Ans := (fun e v K => @E8.rec (E8 U) (fun _ => U -> (Env -> Ans) -> Ans) (fun r0 r1 r2 r3 r4 r5 r6 r7 v K => @E8.rec U (fun _ => (Env -> Ans) -> Ans) (fun x0 x1 x2 _ x4 x5 x6 x7 K => K ⟨r0, r1, ⟨x0, x1, x2, v, x4, x5, x6, x7⟩, r3, r4, r5, r6, r7⟩) r2 K) e v K)
def put20 : Env -> U -> (Env -> Ans) -> Ans := (fun e v K => @E8.rec (E8 U) (fun _ => U -> (Env -> Ans) -> Ans) (fun r0 r1 r2 r3 r4 r5 r6 r7 v K => @E8.rec U (fun _ => (Env -> Ans) -> Ans) (fun x0 x1 x2 x3 _ x5 x6 x7 K => K ⟨r0, r1, ⟨x0, x1, x2, x3, v, x5, x6, x7⟩, r3, r4, r5, r6, r7⟩) r2 K) e v K)
def put21 : Env -> U -> (Env -> Ans) -> Ans := (fun e v K => @E8.rec (E8 U) (fun _ => U -> (Env -> Ans) -> Ans) (fun r0 r1 r2 r3 r4 r5 r6 r7 v K => @E8.rec U (fun _ => (Env -> Ans) -> Ans) (fun x0 x1 x2 x3 x4 _ x6 x7 K => K ⟨r0, r1, ⟨x0, x1, x2, x3, x4, v, x6, x7⟩, r3, r4, r5, r6, r7⟩) r2 K) e v K)
def put22 : Env -> U -> (Env -> Ans) -> Ans := (fun e v K => @E8.rec (E8 U) (fun _ => U -> (Env -> Ans) -> Ans) (fun r0 r1 r2 r3 r4 r5 r6 r7 v K => @E8.rec U (fun _ => (Env -> Ans) -> Ans) (fun x0 x1 x2 x3 x4 x5 _ x7 K => K ⟨r0, r1, ⟨x0, x1, x2, x3, x4, x5, v, x7⟩, r3, r4, r5, r6, r7⟩) r2 K) e v K)
def put23 : Env -> U -> (Env -> Ans) -> Ans := (fun e v K => @E8.rec (E8 U) (fun _ => U -> (Env -> Ans) -> Ans) (fun r0 r1 r2 r3 r4 r5 r6 r7 v K => @E8.rec U (fun _ => (Env -> Ans) -> Ans) (fun x0 x1 x2 x3 x4 x5 x6 _ K => K ⟨r0, r1, ⟨x0, x1, x2, x3, x4, x5, x6, v⟩, r3, r4, r5, r6, r7⟩) r2 K) e v K)
def put24 : Env -> U -> (Env -> Ans) -> Ans := (fun e v K => @E8.rec (E8 U) (fun _ => U -> (Env -> Ans) -> Ans) (fun r0 r1 r2 r3 r4 r5 r6 r7 v K => @E8.rec U (fun _ => (Env -> Ans) -> Ans) (fun _ x1 x2 x3 x4 x5 x6 x7 K => K ⟨r0, r1, r2, ⟨v, x1, x2, x3, x4, x5, x6, x7⟩, r4, r5, r6, r7⟩) r3 K) e v K)
def put25 : Env -> U -> (Env -> Ans) -> Ans := (fun e v K => @E8.rec (E8 U) (fun _ => U -> (Env -> Ans) -> Ans) (fun r0 r1 r2 r3 r4 r5 r6 r7 v K => @E8.rec U (fun _ => (Env -> Ans) -> Ans) (fun x0 _ x2 x3 x4 x5 x6 x7 K => K ⟨r0, r1, r2, ⟨x0, v, x2, x3, x4, x5, x6, x7⟩, r4, r5, r6, r7⟩) r3 K) e v K)
def put26 : Env -> U -> (Env -> Ans) -> Ans := (fun e v K => @E8.rec (E8 U) (fun _ => U -> (Env -> Ans) -> Ans) (fun r0 r1 r2 r3 r4 r5 r6 r7 v K => @E8.rec U (fun _ => (Env -> Ans) -> Ans) (fun x0 x1 _ x3 x4 x5 x6 x7 K => K ⟨r0, r1, r2, ⟨x0, x1, v, x3, x4, x5, x6, x7⟩, r4, r5, r6, r7⟩) r3 K) e v K)
def put27 : Env -> U -> (Env -> Ans) -> Ans := (fun e v K => @E8.rec (E8 U) (fun _ => U -> (Env -> Ans) -> Ans) (fun r0 r1 r2 r3 r4 r5 r6 r7 v K => @E8.rec U (fun _ => (Env -> Ans) -> Ans) (fun x0 x1 x2 _ x4 x5 x6 x7 K => K ⟨r0, r1, r2, ⟨x0, x1, x2, v, x4, x5, x6, x7⟩, r4, r5, r6, r7⟩) r3 K) e v K)
def put28 : Env -> U -> (Env -> Ans) -> Ans := (fun e v K => @E8.rec (E8 U) (fun _ => U -> (Env -> Ans) -> Ans) (fun r0 r1 r2 r3 r4 r5 r6 r7 v K => @E8.rec U (fun _ => (Env -> Ans) -> Ans) (fun x0 x1 x2 x3 _ x5 x6 x7 K => K ⟨r0, r1, r2, ⟨x0, x1, x2, x3, v, x5, x6, x7⟩, r4, r5, r6, r7⟩) r3 K) e v K)
def put29 : Env -> U -> (Env -> Ans) -> Ans := (fun e v K => @E8.rec (E8 U) (fun _ => U -> (Env -> Ans) -> Ans) (fun r0 r1 r2 r3 r4 r5 r6 r7 v K => @E8.rec U (fun _ => (Env -> Ans) -> Ans) (fun x0 x1 x2 x3 x4 _ x6 x7 K => K ⟨r0, r1, r2, ⟨x0, x1, x2, x3, x4, v, x6, x7⟩, r4, r5, r6, r7⟩) r3 K) e v K)
def put30 : Env -> U -> (Env -> Ans) -> Ans := (fun e v K => @E8.rec (E8 U) (fun _ => U -> (Env -> Ans) -> Ans) (fun r0 r1 r2 r3 r4 r5 r6 r7 v K => @E8.rec U (fun _ => (Env -> Ans) -> Ans) (fun x0 x1 x2 x3 x4 x5 _ x7 K => K ⟨r0, r1, r2, ⟨x0, x1, x2, x3, x4, x5, v, x7⟩, r4, r5, r6, r7⟩) r3 K) e v K)
def put31 : Env -> U -> (Env -> Ans) -> Ans := (fun e v K => @E8.rec (E8 U) (fun _ => U -> (Env -> Ans) -> Ans) (fun r0 r1 r2 r3 r4 r5 r6 r7 v K => @E8.rec U (fun _ => (Env -> Ans) -> Ans) (fun x0 x1 x2 x3 x4 x5 x6 _ K => K ⟨r0, r1, r2, ⟨x0, x1, x2, x3, x4, x5, x6, v⟩, r4, r5, r6, r7⟩) r3 K) e v K)
def put32 : Env -> U -> (Env -> Ans) -> Ans := (fun e v K => @E8.rec (E8 U) (fun _ => U -> (Env -> Ans) -> Ans) (fun r0 r1 r2 r3 r4 r5 r6 r7 v K => @E8.rec U (fun _ => (Env -> Ans) -> Ans) (fun _ x1 x2 x3 x4 x5 x6 x7 K => K ⟨r0, r1, r2, r3, ⟨v, x1, x2, x3, x4, x5, x6, x7⟩, r5, r6, r7⟩) r4 K) e v K)
def put33 : Env -> U -> (Env -> Ans) -> Ans := (fun e v K => @E8.rec (E8 U) (fun _ => U -> (Env -> Ans) -> Ans) (fun r0 r1 r2 r3 r4 r5 r6 r7 v K => @E8.rec U (fun _ => (Env -> Ans) -> Ans) (fun x0 _ x2 x3 x4 x5 x6 x7 K => K ⟨r0, r1, r2, r3, ⟨x0, v, x2, x3, x4, x5, x6, x7⟩, r5, r6, r7⟩) r4 K) e v K)
def put34 : Env -> U -> (Env -> Ans) -> Ans := (fun e v K => @E8.rec (E8 U) (fun _ => U -> (Env -> Ans) -> Ans) (fun r0 r1 r2 r3 r4 r5 r6 r7 v K => @E8.rec U (fun _ => (Env -> Ans) -> Ans) (fun x0 x1 _ x3 x4 x5 x6 x7 K => K ⟨r0, r1, r2, r3, ⟨x0, x1, v, x3, x4, x5, x6, x7⟩, r5, r6, r7⟩) r4 K) e v K)
def put35 : Env -> U -> (Env -> Ans) -> Ans := (fun e v K => @E8.rec (E8 U) (fun _ => U -> (Env -> Ans) -> Ans) (fun r0 r1 r2 r3 r4 r5 r6 r7 v K => @E8.rec U (fun _ => (Env -> Ans) -> Ans) (fun x0 x1 x2 _ x4 x5 x6 x7 K => K ⟨r0, r1, r2, r3, ⟨x0, x1, x2, v, x4, x5, x6, x7⟩, r5, r6, r7⟩) r4 K) e v K)
def put36 : Env -> U -> (Env -> Ans) -> Ans := (fun e v K => @E8.rec (E8 U) (fun _ => U -> (Env -> Ans) -> Ans) (fun r0 r1 r2 r3 r4 r5 r6 r7 v K => @E8.rec U (fun _ => (Env -> Ans) -> Ans) (fun x0 x1 x2 x3 _ x5 x6 x7 K => K ⟨r0, r1, r2, r3, ⟨x0, x1, x2, x3, v, x5, x6, x7⟩, r5, r6, r7⟩) r4 K) e v K)
def put37 : Env -> U -> (Env -> Ans) -> Ans := (fun e v K => @E8.rec (E8 U) (fun _ => U -> (Env -> Ans) -> Ans) (fun r0 r1 r2 r3 r4 r5 r6 r7 v K => @E8.rec U (fun _ => (Env -> Ans) -> Ans) (fun x0 x1 x2 x3 x4 _ x6 x7 K => K ⟨r0, r1, r2, r3, ⟨x0, x1, x2, x3, x4, v, x6, x7⟩, r5, r6, r7⟩) r4 K) e v K)
def put38 : Env -> U -> (Env -> Ans) -> Ans := (fun e v K => @E8.rec (E8 U) (fun _ => U -> (Env -> Ans) -> Ans) (fun r0 r1 r2 r3 r4 r5 r6 r7 v K => @E8.rec U (fun _ => (Env -> Ans) -> Ans) (fun x0 x1 x2 x3 x4 x5 _ x7 K => K ⟨r0, r1, r2, r3, ⟨x0, x1, x2, x3, x4, x5, v, x7⟩, r5, r6, r7⟩) r4 K) e v K)
def put39 : Env -> U -> (Env -> Ans) -> Ans := (fun e v K => @E8.rec (E8 U) (fun _ => U -> (Env -> Ans) -> Ans) (fun r0 r1 r2 r3 r4 r5 r6 r7 v K => @E8.rec U (fun _ => (Env -> Ans) -> Ans) (fun x0 x1 x2 x3 x4 x5 x6 _ K => K ⟨r0, r1, r2, r3, ⟨x0, x1, x2, x3, x4, x5, x6, v⟩, r5, r6, r7⟩) r4 K) e v K)
def put40 : Env -> U -> (Env -> Ans) -> Ans := (fun e v K => @E8.rec (E8 U) (fun _ => U -> (Env -> Ans) -> Ans) (fun r0 r1 r2 r3 r4 r5 r6 r7 v K => @E8.rec U (fun _ => (Env -> Ans) -> Ans) (fun _ x1 x2 x3 x4 x5 x6 x7 K => K ⟨r0, r1, r2, r3, r4, ⟨v, x1, x2, x3, x4, x5, x6, x7⟩, r6, r7⟩) r5 K) e v K)
def put41 : Env -> U -> (Env -> Ans) -> Ans := (fun e v K => @E8.rec (E8 U) (fun _ => U -> (Env -> Ans) -> Ans) (fun r0 r1 r2 r3 r4 r5 r6 r7 v K => @E8.rec U (fun _ => (Env -> Ans) -> Ans) (fun x0 _ x2 x3 x4 x5 x6 x7 K => K ⟨r0, r1, r2, r3, r4, ⟨x0, v, x2, x3, x4, x5, x6, x7⟩, r6, r7⟩) r5 K) e v K)
def put42 : Env -> U -> (Env -> Ans) -> Ans := (fun e v K => @E8.rec (E8 U) (fun _ => U -> (Env -> Ans) -> Ans) (fun r0 r1 r2 r3 r4 r5 r6 r7 v K => @E8.rec U (fun _ => (Env -> Ans) -> Ans) (fun x0 x1 _ x3 x4 x5 x6 x7 K => K ⟨r0, r1, r2, r3, r4, ⟨x0, x1, v, x3, x4, x5, x6, x7⟩, r6, r7⟩) r5 K) e v K)
def put43 : Env -> U -> (Env -> Ans) -> Ans := (fun e v K => @E8.rec (E8 U) (fun _ => U -> (Env -> Ans) -> Ans) (fun r0 r1 r2 r3 r4 r5 r6 r7 v K => @E8.rec U (fun _ => (Env -> Ans) -> Ans) (fun x0 x1 x2 _ x4 x5 x6 x7 K => K ⟨r0, r1, r2, r3, r4, ⟨x0, x1, x2, v, x4, x5, x6, x7⟩, r6, r7⟩) r5 K) e v K)
def put44 : Env -> U -> (Env -> Ans) -> Ans := (fun e v K => @E8.rec (E8 U) (fun _ => U -> (Env -> Ans) -> Ans) (fun r0 r1 r2 r3 r4 r5 r6 r7 v K => @E8.rec U (fun _ => (Env -> Ans) -> Ans) (fun x0 x1 x2 x3 _ x5 x6 x7 K => K ⟨r0, r1, r2, r3, r4, ⟨x0, x1, x2, x3, v, x5, x6, x7⟩, r6, r7⟩) r5 K) e v K)
def put45 : Env -> U -> (Env -> Ans) -> Ans := (fun e v K => @E8.rec (E8 U) (fun _ => U -> (Env -> Ans) -> Ans) (fun r0 r1 r2 r3 r4 r5 r6 r7 v K => @E8.rec U (fun _ => (Env -> Ans) -> Ans) (fun x0 x1 x2 x3 x4 _ x6 x7 K => K ⟨r0, r1, r2, r3, r4, ⟨x0, x1, x2, x3, x4, v, x6, x7⟩, r6, r7⟩) r5 K) e v K)
def put46 : Env -> U -> (Env -> Ans) -> Ans := (fun e v K => @E8.rec (E8 U) (fun _ => U -> (Env -> Ans) -> Ans) (fun r0 r1 r2 r3 r4 r5 r6 r7 v K => @E8.rec U (fun _ => (Env -> Ans) -> Ans) (fun x0 x1 x2 x3 x4 x5 _ x7 K => K ⟨r0, r1, r2, r3, r4, ⟨x0, x1, x2, x3, x4, x5, v, x7⟩, r6, r7⟩) r5 K) e v K)
def put47 : Env -> U -> (Env -> Ans) -> Ans := (fun e v K => @E8.rec (E8 U) (fun _ => U -> (Env -> Ans) -> Ans) (fun r0 r1 r2 r3 r4 r5 r6 r7 v K => @E8.rec U (fun _ => (Env -> Ans) -> Ans) (fun x0 x1 x2 x3 x4 x5 x6 _ K => K ⟨r0, r1, r2, r3, r4, ⟨x0, x1, x2, x3, x4, x5, x6, v⟩, r6, r7⟩) r5 K) e v K)
def put48 : Env -> U -> (Env -> Ans) -> Ans := (fun e v K => @E8.rec (E8 U) (fun _ => U -> (Env -> Ans) -> Ans) (fun r0 r1 r2 r3 r4 r5 r6 r7 v K => @E8.rec U (fun _ => (Env -> Ans) -> Ans) (fun _ x1 x2 x3 x4 x5 x6 x7 K => K ⟨r0, r1, r2, r3, r4, r5, ⟨v, x1, x2, x3, x4, x5, x6, x7⟩, r7⟩) r6 K) e v K)
def put49 : Env -> U -> (Env -> Ans) -> Ans := (fun e v K => @E8.rec (E8 U) (fun _ => U -> (Env -> Ans) -> Ans) (fun r0 r1 r2 r3 r4 r5 r6 r7 v K => @E8.rec U (fun _ => (Env -> Ans) -> Ans) (fun x0 _ x2 x3 x4 x5 x6 x7 K => K ⟨r0, r1, r2, r3, r4, r5, ⟨x0, v, x2, x3, x4, x5, x6, x7⟩, r7⟩) r6 K) e v K)
def put50 : Env -> U -> (Env -> Ans) -> Ans := (fun e v K => @E8.rec (E8 U) (fun _ => U -> (Env -> Ans) -> Ans) (fun r0 r1 r2 r3 r4 r5 r6 r7 v K => @E8.rec U (fun _ => (Env -> Ans) -> Ans) (fun x0 x1 _ x3 x4 x5 x6 x7 K => K ⟨r0, r1, r2, r3, r4, r5, ⟨x0, x1, v, x3, x4, x5, x6, x7⟩, r7⟩) r6 K) e v K)
def put51 : Env -> U -> (Env -> Ans) -> Ans := (fun e v K => @E8.rec (E8 U) (fun _ => U -> (Env -> Ans) -> Ans) (fun r0 r1 r2 r3 r4 r5 r6 r7 v K => @E8.rec U (fun _ => (Env -> Ans) -> Ans) (fun x0 x1 x2 _ x4 x5 x6 x7 K => K ⟨r0, r1, r2, r3, r4, r5, ⟨x0, x1, x2, v, x4, x5, x6, x7⟩, r7⟩) r6 K) e v K)
def put52 : Env -> U -> (Env -> Ans) -> Ans := (fun e v K => @E8.rec (E8 U) (fun _ => U -> (Env -> Ans) -> Ans) (fun r0 r1 r2 r3 r4 r5 r6 r7 v K => @E8.rec U (fun _ => (Env -> Ans) -> Ans) (fun x0 x1 x2 x3 _ x5 x6 x7 K => K ⟨r0, r1, r2, r3, r4, r5, ⟨x0, x1, x2, x3, v, x5, x6, x7⟩, r7⟩) r6 K) e v K)
def put53 : Env -> U -> (Env -> Ans) -> Ans := (fun e v K => @E8.rec (E8 U) (fun _ => U -> (Env -> Ans) -> Ans) (fun r0 r1 r2 r3 r4 r5 r6 r7 v K => @E8.rec U (fun _ => (Env -> Ans) -> Ans) (fun x0 x1 x2 x3 x4 _ x6 x7 K => K ⟨r0, r1, r2, r3, r4, r5, ⟨x0, x1, x2, x3, x4, v, x6, x7⟩, r7⟩) r6 K) e v K)
def put54 : Env -> U -> (Env -> Ans) -> Ans := (fun e v K => @E8.rec (E8 U) (fun _ => U -> (Env -> Ans) -> Ans) (fun r0 r1 r2 r3 r4 r5 r6 r7 v K => @E8.rec U (fun _ => (Env -> Ans) -> Ans) (fun x0 x1 x2 x3 x4 x5 _ x7 K => K ⟨r0, r1, r2, r3, r4, r5, ⟨x0, x1, x2, x3, x4, x5, v, x7⟩, r7⟩) r6 K) e v K)
def put55 : Env -> U -> (Env -> Ans) -> Ans := (fun e v K => @E8.rec (E8 U) (fun _ => U -> (Env -> Ans) -> Ans) (fun r0 r1 r2 r3 r4 r5 r6 r7 v K => @E8.rec U (fun _ => (Env -> Ans) -> Ans) (fun x0 x1 x2 x3 x4 x5 x6 _ K => K ⟨r0, r1, r2, r3, r4, r5, ⟨x0, x1, x2, x3, x4, x5, x6, v⟩, r7⟩) r6 K) e v K)
def put56 : Env -> U -> (Env -> Ans) -> Ans := (fun e v K => @E8.rec (E8 U) (fun _ => U -> (Env -> Ans) -> Ans) (fun r0 r1 r2 r3 r4 r5 r6 r7 v K => @E8.rec U (fun _ => (Env -> Ans) -> Ans) (fun _ x1 x2 x3 x4 x5 x6 x7 K => K ⟨r0, r1, r2, r3, r4, r5, r6, ⟨v, x1, x2, x3, x4, x5, x6, x7⟩⟩) r7 K) e v K)
def put57 : Env -> U -> (Env -> Ans) -> Ans := (fun e v K => @E8.rec (E8 U) (fun _ => U -> (Env -> Ans) -> Ans) (fun r0 r1 r2 r3 r4 r5 r6 r7 v K => @E8.rec U (fun _ => (Env -> Ans) -> Ans) (fun x0 _ x2 x3 x4 x5 x6 x7 K => K ⟨r0, r1, r2, r3, r4, r5, r6, ⟨x0, v, x2, x3, x4, x5, x6, x7⟩⟩) r7 K) e v K)
def put58 : Env -> U -> (Env -> Ans) -> Ans := (fun e v K => @E8.rec (E8 U) (fun _ => U -> (Env -> Ans) -> Ans) (fun r0 r1 r2 r3 r4 r5 r6 r7 v K => @E8.rec U (fun _ => (Env -> Ans) -> Ans) (fun x0 x1 _ x3 x4 x5 x6 x7 K => K ⟨r0, r1, r2, r3, r4, r5, r6, ⟨x0, x1, v, x3, x4, x5, x6, x7⟩⟩) r7 K) e v K)
def put59 : Env -> U -> (Env -> Ans) -> Ans := (fun e v K => @E8.rec (E8 U) (fun _ => U -> (Env -> Ans) -> Ans) (fun r0 r1 r2 r3 r4 r5 r6 r7 v K => @E8.rec U (fun _ => (Env -> Ans) -> Ans) (fun x0 x1 x2 _ x4 x5 x6 x7 K => K ⟨r0, r1, r2, r3, r4, r5, r6, ⟨x0, x1, x2, v, x4, x5, x6, x7⟩⟩) r7 K) e v K)
def put60 : Env -> U -> (Env -> Ans) -> Ans := (fun e v K => @E8.rec (E8 U) (fun _ => U -> (Env -> Ans) -> Ans) (fun r0 r1 r2 r3 r4 r5 r6 r7 v K => @E8.rec U (fun _ => (Env -> Ans) -> Ans) (fun x0 x1 x2 x3 _ x5 x6 x7 K => K ⟨r0, r1, r2, r3, r4, r5, r6, ⟨x0, x1, x2, x3, v, x5, x6, x7⟩⟩) r7 K) e v K)
def put61 : Env -> U -> (Env -> Ans) -> Ans := (fun e v K => @E8.rec (E8 U) (fun _ => U -> (Env -> Ans) -> Ans) (fun r0 r1 r2 r3 r4 r5 r6 r7 v K => @E8.rec U (fun _ => (Env -> Ans) -> Ans) (fun x0 x1 x2 x3 x4 _ x6 x7 K => K ⟨r0, r1, r2, r3, r4, r5, r6, ⟨x0, x1, x2, x3, x4, v, x6, x7⟩⟩) r7 K) e v K)
def getIx (ix : Ix) (e : Env) (K : U -> Ans) : Ans := @Ix.rec (fun _ => Env -> (U -> Ans) -> Ans) get0 get1 get2 get3 get4 get5 get6 get7 get8 get9 get10 get11 get12 get13 get14 get15 get16 get17 get18 get19 get20 get21 get22 get23 get24 get25 get26 get27 get28 get29 get30 get31 get32 get33 get34 get35 get36 get37 get38 get39 get40 get41 get42 get43 get44 get45 get46 get47 get48 get49 get50 get51 get52 get53 get54 get55 get56 get57 get58 get59 get60 get61 (fun j e K => K (eget e j)) ix e K
def setIx (ix : Ix) (e : Env) (v : U) (K : Env -> Ans) : Ans := @Ix.rec (fun _ => Env -> U -> (Env -> Ans) -> Ans) put0 put1 put2 put3 put4 put5 put6 put7 put8 put9 put10 put11 put12 put13 put14 put15 put16 put17 put18 put19 put20 put21 put22 put23 put24 put25 put26 put27 put28 put29 put30 put31 put32 put33 put34 put35 put36 put37 put38 put39 put40 put41 put42 put43 put44 put45 put46 put47 put48 put49 put50 put51 put52 put53 put54 put55 put56 put57 put58 put59 put60 put61 (fun j e v K => K (eset e v j)) ix e v K
theorem getIx_eq (ix : Ix) (e : Env) (K : U -> Ans) : getIx ix e K = K (eget e (ixN ix)) := by
 obtain ⟨r0, r1, r2, r3, r4, r5, r6, r7⟩ := e
 cases r0; cases r1; cases r2; cases r3; cases r4; cases r5; cases r6; cases r7
 cases ix <;> rfl
theorem setIx_eq (ix : Ix) (e : Env) (v : U) (K : Env -> Ans) : setIx ix e v K = K (eset e v (ixN ix)) := by
 obtain ⟨r0, r1, r2, r3, r4, r5, r6, r7⟩ := e
 cases r0; cases r1; cases r2; cases r3; cases r4; cases r5; cases r6; cases r7
 cases ix <;> rfl
end
end Go.Idl
