/- The ideal machine and its evaluators, part 10; no conditions. -/
import Derived.Test.YtipgledppmelpaaGreatDoorIdlI
set_option linter.unusedSectionVars false
set_option linter.unusedVariables false
set_option linter.unusedSimpArgs false
namespace Go.Idl
noncomputable section
set_option maxHeartbeats 100000
def StR : U -> List IVal -> Prop
 | .nl, _ => True
 | .cn u r, v :: l => toI u = v /\ StR r l
 | _, _ => False
def stK (d : Nat) (st : U) (K : U -> Ans) : Ans := @Nat.rec (fun _ => U -> (U -> Ans) -> Ans) (fun st K => uC st false fun u _ => K u) (fun _ ih st K => uC st false fun _ r => ih r K) d st K
theorem stK_true : ∀ {d : Nat} {st : U} {K : U -> Ans} {l : List IVal}, stK d st K = true -> StR st l -> ∃ u, l[d]? = some (toI u) /\ K u = true := by
 intro d
 induction d with
 | zero =>
   intro st K l h R
   rcases uC_true (show uC st false (fun u _ => K u) = true from h) with ⟨_, h2⟩ | ⟨u, r, rfl, h2⟩
   . cases h2
   . cases l with
     | nil => exact R.elim
     | cons v l => exact ⟨u, by rw [R.1]; rfl, h2⟩
 | succ d ih =>
   intro st K l h R
   rcases uC_true (show uC st false (fun _ r => stK d r K) = true from h) with ⟨_, h2⟩ | ⟨u, r, rfl, h2⟩
   . cases h2
   . cases l with
     | nil => exact R.elim
     | cons v l => obtain ⟨w, h3, h4⟩ := ih h2 R.2; exact ⟨w, h3, h4⟩
def popK (p : Nat) (st : U) (K : U -> Ans) : Ans := @Nat.rec (fun _ => U -> (U -> Ans) -> Ans) (fun st K => K st) (fun _ ih st K => uC st (K .nl) fun _ r => ih r K) p st K
theorem popK_true : ∀ {p : Nat} {st : U} {K : U -> Ans} {l : List IVal}, popK p st K = true -> StR st l -> ∃ r, StR r (l.drop p) /\ K r = true := by
 intro p
 induction p with
 | zero => intro st K l h R; exact ⟨st, R, h⟩
 | succ p ih =>
   intro st K l h R
   rcases uC_true (show uC st (K .nl) (fun _ r => popK p r K) = true from h) with ⟨rfl, h2⟩ | ⟨u, r, rfl, h2⟩
   . exact ⟨.nl, trivial, h2⟩
   . cases l with
     | nil => exact R.elim
     | cons v l => exact ih h2 R.2
def stSet (d : Nat) (w : U) (st : U) (K : U -> Ans) : Ans := @Nat.rec (fun _ => U -> (U -> Ans) -> Ans) (fun st K => uC st false fun _ r => K (.cn w r)) (fun _ ih st K => uC st false fun u r => ih r fun r' => K (.cn u r')) d st K
theorem stSet_true : ∀ {d : Nat} {w st : U} {K : U -> Ans} {l : List IVal}, stSet d w st K = true -> StR st l -> ∃ r, StR r (l.set d (toI w)) /\ K r = true := by
 intro d
 induction d with
 | zero =>
   intro w st K l h R
   rcases uC_true (show uC st false (fun _ r => K (.cn w r)) = true from h) with ⟨_, h2⟩ | ⟨u, r, rfl, h2⟩
   . cases h2
   . cases l with
     | nil => exact R.elim
     | cons v l => exact ⟨.cn w r, (show toI w = toI w /\ StR r l from ⟨rfl, R.2⟩), h2⟩
 | succ d ih =>
   intro w st K l h R
   rcases uC_true (show uC st false (fun u r => stSet d w r fun r' => K (.cn u r')) = true from h) with ⟨_, h2⟩ | ⟨u, r, rfl, h2⟩
   . cases h2
   . cases l with
     | nil => exact R.elim
     | cons v l => obtain ⟨r', h3, h4⟩ := ih h2 R.2; exact ⟨.cn u r', (show toI u = v /\ StR r' (l.set d (toI w)) from ⟨R.1, h3⟩), h4⟩
inductive QOpd where
 | v (ix : Ix)
 | m (ix : Ix)
 | s (d : Nat)
 | u (d : Nat)
 | n (d : Nat)
 | c (u : U)
def qopd : XOpd -> QOpd
 | .v i => .v (ixOf i)
 | .m i => .m (ixOf i)
 | .s d => .s d
 | .u d => .u d
 | .n d => .n d
 | .c x => .c (rep x)
def plQ (u : U) : Bool := (@U.rec (fun _ => Bool) (fun k n => true) (fun x => true) (fun l x => true) (fun t a b c d x _ => @Bool.rec (fun _ => Bool) (@Bool.rec (fun _ => Bool) false (Nat.ble t 11) (Nat.ble 2 t)) true (Nat.beq t 1)) (false) (fun _ _ _ _ => false) (fun _ _ _ _ _ _ => false) (fun _ => false) (fun _ _ _ _ _ _ _ => false) u)
theorem plQ_ok {u : U} (h : plQ u = true) : plI (toI u) = true := by
 cases u with
 | i k n => rfl
 | b x => rfl
 | s l x => rfl
 | o t a b c d x =>
   have h : @Bool.rec (fun _ => Bool) (@Bool.rec (fun _ => Bool) false (Nat.ble t 11) (Nat.ble 2 t)) true (Nat.beq t 1) = true := h
   rw [brec] at h
   split at h
   . rename_i e; have := zN e; subst this; rfl
   . rw [brec] at h
     split at h
     . rename_i e
       have h1 : 2 <= t := Nat.le_of_ble_eq_true e
       have h2 : t <= 11 := Nat.le_of_ble_eq_true h
       have h3 : t = 2 \/ t = 3 \/ t = 4 \/ t = 5 \/ t = 6 \/ t = 7 \/ t = 8 \/ t = 9 \/ t = 10 \/ t = 11 := by omega
       rcases h3 with rfl | rfl | rfl | rfl | rfl | rfl | rfl | rfl | rfl | rfl <;> rfl
     . cases h
 | _ => cases h
def opdK (x : QOpd) (e : Env) (st : U) (K : U -> Env -> Ans) : Ans := @QOpd.rec (fun _ => Env -> U -> (U -> Env -> Ans) -> Ans)
 (fun ix e _ K => getIx ix e fun v => unK v fun w => K w e)
 (fun ix e _ K => getIx ix e fun v => mvK v (fun w => K w e) fun w l => setIx ix e l fun e' => K w e')
 (fun d e st K => stK d st fun w => K w e)
 (fun d e st K => stK d st fun v => unK v fun w => K w e)
 (fun d e st K => stK d st fun v => tst (plQ v) (K v e))
 (fun u e _ K => K u e) x e st K
theorem opdK_true {x : XOpd} {e : Env} {st : U} {K : U -> Env -> Ans} {vs : AL} {l : List IVal} (h : opdK (qopd x) e st K = true) (hv : VarQ e vs) (hs : StR st l) :
   ∃ u vs' e', x.get vs l = some (toI u, vs') /\ VarQ e' vs' /\ dsU e' = dsU e /\ K u e' = true := by
 cases x with
 | v i =>
   have h : getIx (ixOf i) e (fun v => unK v fun w => K w e) = true := h
   rw [getIx_eq, ixN_of] at h
   obtain ⟨h1, u, h2, h3⟩ := unK_true h
   exact ⟨u, vs, e, by simp only [XOpd.get, hv i h1, h2], hv, rfl, h3⟩
 | m i =>
   have h : getIx (ixOf i) e (fun v => mvK v (fun w => K w e) fun w l => setIx (ixOf i) e l fun e' => K w e') = true := h
   rw [getIx_eq, ixN_of] at h
   obtain ⟨h1, h2⟩ := mvK_true h
   rcases h2 with ⟨h3, h4⟩ | ⟨u, h3, h4, h5⟩
   . refine ⟨_, aset i (un3 (toI (eget e i))) vs, e, by simp only [XOpd.get, hv i h1], fun k hk => ?_, rfl, h4⟩
     rw [aget_aset, h3]
     split
     . rename_i hki; subst hki; rfl
     . exact hv k hk
   . rw [setIx_eq, ixN_of] at h5
     refine ⟨_, aset i (un3 (toI (eget e i))) vs, _, by simp only [XOpd.get, hv i h1], ?_, dsU_eset _ _ _, h5⟩
     rw [<- h3]
     exact hv.set i u
 | s d =>
   obtain ⟨u, h1, h2⟩ := stK_true (show stK d st (fun w => K w e) = true from h) hs
   exact ⟨u, vs, e, by simp only [XOpd.get, h1], hv, rfl, h2⟩
 | u d =>
   obtain ⟨v, h1, h2⟩ := stK_true (show stK d st (fun v => unK v fun w => K w e) = true from h) hs
   obtain ⟨_, u, h3, h4⟩ := unK_true h2
   exact ⟨u, vs, e, by simp only [XOpd.get, h1, h3], hv, rfl, h4⟩
 | n d =>
   obtain ⟨v, h1, h2⟩ := stK_true (show stK d st (fun v => tst (plQ v) (K v e)) = true from h) hs
   obtain ⟨h3, h4⟩ := tst_true h2
   exact ⟨v, vs, e, by simp only [XOpd.get, h1, plQ_ok h3, if_true], hv, rfl, h4⟩
 | c x =>
   have h : K (rep x) e = true := h
   exact ⟨rep x, vs, e, by simp only [XOpd.get, rep_ok], hv, rfl, h⟩
def opdsK (xs : List QOpd) (e : Env) (st : U) (K : U -> Env -> Ans) : Ans := @List.rec QOpd (fun _ => Env -> U -> (U -> Env -> Ans) -> Ans) (fun e _ K => K .nl e) (fun x _ ih e st K => opdK x e st fun u e' => ih e' st fun l e'' => K (.cn u l) e'') xs e st K
theorem opdsK_true : ∀ {xs : List XOpd} {e : Env} {st : U} {K : U -> Env -> Ans} {vs : AL} {l : List IVal}, opdsK (xs.map qopd) e st K = true -> VarQ e vs -> StR st l ->
   ∃ u vs' e', xgetAll xs vs l = some (toL u, vs') /\ VarQ e' vs' /\ dsU e' = dsU e /\ K u e' = true := by
 intro xs
 induction xs with
 | nil => intro e st K vs l h hv hs; exact ⟨.nl, vs, e, rfl, hv, rfl, h⟩
 | cons x xs ih =>
   intro e st K vs l h hv hs
   obtain ⟨u, vs1, e1, h1, h2, h3, h4⟩ := opdK_true (show opdK (qopd x) e st (fun u e' => opdsK (xs.map qopd) e' st fun l e'' => K (.cn u l) e'') = true from h) hv hs
   obtain ⟨r, vs2, e2, h5, h6, h7, h8⟩ := ih h4 h2 hs
   exact ⟨.cn u r, vs2, e2, by simp only [xgetAll, h1, h5]; rfl, h6, h7.trans h3, h8⟩
def V1 (o : IOp) (f : U -> KU -> Ans) : Prop := ∀ u K, f u K = true -> ∃ r, (∀ cf σ wr, ∃ t, opV cf o [toI u] σ wr = some ⟨false, toI r, ⟨t, σ, wr⟩⟩) /\ K r = true
def V2 (o : IOp) (f : U -> U -> KU -> Ans) : Prop := ∀ u v K, f u v K = true -> ∃ r, (∀ cf σ wr, ∃ t, opV cf o [toI u, toI v] σ wr = some ⟨false, toI r, ⟨t, σ, wr⟩⟩) /\ K r = true
def VL (o : IOp) (f : U -> KU -> Ans) : Prop := ∀ u K, f u K = true -> (toL u).length = (opdsOf o).length -> ∃ r, (∀ cf σ wr, ∃ t, opV cf o (toL u) σ wr = some ⟨false, toI r, ⟨t, σ, wr⟩⟩) /\ K r = true
def W0 (o : IOp) (f : H -> KH -> Ans) : Prop := ∀ h K σ wr, HR h σ wr -> f h K = true -> ∃ r h' σ' wr', (∀ cf, ∃ t, opV cf o [] σ wr = some ⟨false, toI r, ⟨t, σ', wr'⟩⟩) /\ HR h' σ' wr' /\ h'.tr = h.tr /\ K r h' = true
def W1 (o : IOp) (f : U -> H -> KH -> Ans) : Prop := ∀ u h K σ wr, HR h σ wr -> f u h K = true -> ∃ r h' σ' wr', (∀ cf, ∃ t, opV cf o [toI u] σ wr = some ⟨false, toI r, ⟨t, σ', wr'⟩⟩) /\ HR h' σ' wr' /\ h'.tr = h.tr /\ K r h' = true
def W2 (o : IOp) (f : U -> U -> H -> KH -> Ans) : Prop := ∀ u v h K σ wr, HR h σ wr -> f u v h K = true -> ∃ r h' σ' wr', (∀ cf, ∃ t, opV cf o [toI u, toI v] σ wr = some ⟨false, toI r, ⟨t, σ', wr'⟩⟩) /\ HR h' σ' wr' /\ h'.tr = h.tr /\ K r h' = true
def WL (o : IOp) (f : U -> H -> KH -> Ans) : Prop := ∀ u h K σ wr, HR h σ wr -> f u h K = true -> (toL u).length = (opdsOf o).length -> ∃ r h' σ' wr', (∀ cf, ∃ t, opV cf o (toL u) σ wr = some ⟨false, toI r, ⟨t, σ', wr'⟩⟩) /\ HR h' σ' wr' /\ h'.tr = h.tr /\ K r h' = true
theorem V1_mk {o : IOp} {f : U -> KU -> Ans} (hp : ∀ a, Pu1 (o.with [a]) f) (ho : ∀ a, opdsOf (o.with [a]) = [.c a]) : V1 o f := by
 intro u K h
 obtain ⟨r, h1, h2⟩ := hp (toI u) u K ts0 ts0 h (by rw [ho]; rfl)
 exact ⟨r, fun cf σ wr => ⟨ts0, h1 cf σ wr⟩, h2⟩
theorem V2_mk {o : IOp} {f : U -> U -> KU -> Ans} (hp : ∀ a b, Pu2 (o.with [a, b]) f) (ho : ∀ a b, opdsOf (o.with [a, b]) = [.c a, .c b]) : V2 o f := by
 intro u v K h
 obtain ⟨r, h1, h2⟩ := hp (toI u) (toI v) u v K ts0 ts0 h (by rw [ho]; rfl)
 exact ⟨r, fun cf σ wr => ⟨ts0, h1 cf σ wr⟩, h2⟩
theorem VL_mk {o : IOp} {f : U -> KU -> Ans} (hp : ∀ l : List IVal, l.length = (opdsOf o).length -> PuL (o.with l) f /\ opdsOf (o.with l) = l.map .c) : VL o f := by
 intro u K h hl
 letI : Globs := ⟨fun _ => none⟩
 obtain ⟨h0, ho⟩ := hp (toL u) hl
 obtain ⟨r, h1, h2⟩ := h0 u K ts0 ts0 h (by rw [ho, getAll_cv])
 exact ⟨r, fun cf σ wr => ⟨ts0, h1 cf σ wr⟩, h2⟩
theorem W0_mk {o : IOp} {f : H -> KH -> Ans} (hp : Hp0 (o.with []) f) : W0 o f := by
 intro h K σ wr hr hk
 obtain ⟨r, h', σ', wr', h1, h2⟩ := hp h K ts0 σ wr hr hk
 exact ⟨r, h', σ', wr', fun cf => ⟨ts0, h1 cf⟩, h2⟩
theorem W1_mk {o : IOp} {f : U -> H -> KH -> Ans} (hp : ∀ a, Hp1 (o.with [a]) f) (ho : ∀ a, opdsOf (o.with [a]) = [.c a]) : W1 o f := by
 intro u h K σ wr hr hk
 obtain ⟨r, h', σ', wr', h1, h2⟩ := hp (toI u) u h K ts0 ts0 σ wr hr hk (by rw [ho]; rfl)
 exact ⟨r, h', σ', wr', fun cf => ⟨ts0, h1 cf⟩, h2⟩
theorem W2_mk {o : IOp} {f : U -> U -> H -> KH -> Ans} (hp : ∀ a b, Hp2 (o.with [a, b]) f) (ho : ∀ a b, opdsOf (o.with [a, b]) = [.c a, .c b]) : W2 o f := by
 intro u v h K σ wr hr hk
 obtain ⟨r, h', σ', wr', h1, h2⟩ := hp (toI u) (toI v) u v h K ts0 ts0 σ wr hr hk (by rw [ho]; rfl)
 exact ⟨r, h', σ', wr', fun cf => ⟨ts0, h1 cf⟩, h2⟩
theorem WL_mk {o : IOp} {f : U -> H -> KH -> Ans} (hp : ∀ l : List IVal, l.length = (opdsOf o).length -> HpL (o.with l) f /\ opdsOf (o.with l) = l.map .c) : WL o f := by
 intro u h K σ wr hr hk hl
 letI : Globs := ⟨fun _ => none⟩
 obtain ⟨h0, ho⟩ := hp (toL u) hl
 obtain ⟨r, h', σ', wr', h1, h2⟩ := h0 u h K ts0 ts0 σ wr hr hk (by rw [ho, getAll_cv])
 exact ⟨r, h', σ', wr', fun cf => ⟨ts0, h1 cf⟩, h2⟩
inductive QOp where
 | p1 (f : U -> KU -> Ans)
 | p2 (f : U -> U -> KU -> Ans)
 | pL (f : U -> KU -> Ans)
 | h0 (f : H -> KH -> Ans)
 | h1 (f : U -> H -> KH -> Ans)
 | h2 (f : U -> U -> H -> KH -> Ans)
 | hL (f : U -> H -> KH -> Ans)
 | call (g : FuncId)
 | callp (g : FuncId)
 | callv
 | inv (tab : List (TypeId × FuncId × RecvK))
 | extr (i : Nat)
 | pan
 | bad
def qop (o : IOp) : QOp := match o with
 | .mv _ => .p1 mvF
 | .pick _ a b => if plain1 a && plain1 b then .pL pickF else .bad
 | .alloc zs => .h0 (allocF (obOf zs))
 | .box _ => .h1 boxF
 | .boxv _ => .p1 boxvF
 | .build zs ps => .pL (buildF (repL zs) (partsOf ps))
 | .buildSl e _ => .pL (buildSlF e)
 | .buildRs e _ => .hL (buildRsF e)
 | .load m n _ => .h1 (loadF m n)
 | .store n _ _ => .h2 (storeF n)
 | .vSet G tab _ _ => .h2 (vSetF G tab)
 | .nilCheck _ => .p1 nilCheckF
 | .bin op _ _ => .p2 (binF op)
 | .isnil neg k _ => .p1 (isnilF neg k)
 | .eqa neg a b => .p2 (slow2 (.eqa neg a b))
 | .eqb neg _ _ => .p2 (eqbF neg)
 | .un op _ => .p1 (unF op)
 | .conv (.int k) _ => .p1 (convI (kc k))
 | .conv .bytes _ => .p1 bytesF
 | .conv .text _ => .p1 textF
 | .conv .same _ => .p1 sameF
 | .conv .rune x => .p1 (slow1 (.conv .rune x))
 | .mkIface t _ => .p1 (mkIfaceF t)
 | .mkFn (.func f) xs _ => .pL (mkFnF f xs.length)
 | .mkMap => .h0 mkMapF
 | .mkSl b e by' zs _ _ => .h2 (mkSlF b e by' (repL zs) (rep (elemZ zs)))
 | .sliceS _ lo hi => .pL (sliceSF lo.isSome hi.isSome)
 | .sliceL e _ lo hi mx => .pL (sliceLF e lo.isSome hi.isSome mx.isSome)
 | .fieldAddr off _ => .p1 (fieldAddrF off)
 | .field off n _ => .p1 (fieldF off n)
 | .idxAddr e _ _ => .p2 (idxAddrF e)
 | .idxAddrA l e _ _ => .p2 (idxAddrAF l e)
 | .idxS _ _ => .p2 idxSF
 | .idxA l e n _ _ => .p2 (idxAF l e n)
 | .lookup kk z ok _ _ => .h2 (lookupF kk (rep z) ok)
 | .mapSet kk _ _ _ => .hL (mapSetF kk)
 | .mem k _ => .hL (memF k)
 | .extract _ i => .extr i
 | .append false false e by' _ _ => .p2 (appLF e by')
 | .append false true e by' _ _ => .p2 (appSF e by')
 | .append true false e by' _ _ => .h2 (appRF e by')
 | .clear zs _ => .h1 (clearF (repL zs) (!(zs.all nr1)))
 | .lenS _ => .p1 lenSF
 | .lenL _ => .p1 lenLF
 | .lenM _ => .h1 lenMF
 | .minmax m _ => .pL (minmaxF m)
 | .pur k xs => .pL (slowP (.pur k xs))
 | .vOf G tab x => .p1 (slow1 (.vOf G tab x))
 | .call g _ => .call g
 | .callp g _ => .callp g
 | .callv _ _ => .callv
 | .inv tab _ _ => .inv tab
 | .panic _ => .pan
 | _ => .bad
theorem optW_plain {lo : Option Opd} {vs : List IVal} (h : vs.length ≥ lo.toList.length) : (optW lo vs).all plain1 = true /\ (optW lo vs).isSome = lo.isSome := by
 cases lo with
 | none => exact ⟨rfl, rfl⟩
 | some x => cases vs with
   | nil => simp at h
   | cons v vs => exact ⟨rfl, rfl⟩
theorem optW_list {lo : Option Opd} {vs : List IVal} (h : vs.length ≥ lo.toList.length) : (optW lo vs).toList ++ (optR lo vs).map Opd.c = vs.map .c /\ (optR lo vs).length = vs.length - lo.toList.length := by
 cases lo with
 | none => exact ⟨rfl, rfl⟩
 | some x => cases vs with
   | nil => simp at h
   | cons v vs => exact ⟨rfl, by simp [optR]⟩
def QOK (o : IOp) : QOp -> Prop
 | .p1 f => V1 o f
 | .p2 f => V2 o f
 | .pL f => VL o f
 | .h0 f => W0 o f
 | .h1 f => W1 o f
 | .h2 f => W2 o f
 | .hL f => WL o f
 | .call g => ∃ xs, o = .call g xs
 | .callp g => ∃ xs, o = .callp g xs
 | .callv => ∃ f xs, o = .callv f xs
 | .inv tab => ∃ x xs, o = .inv tab x xs
 | .extr i => ∃ x, o = .extract x i
 | .pan => ∃ x, o = .panic x
 | .bad => True
theorem slow_any {o : IOp} {l : List IVal} (hp : isPure (o.with l) = true) (hx : okX (o.with l) = true) (hw : (o.with l).with l = o.with l) {u : U} (hu : toL u = l) {K : KU} {ts ts' : Ts} (h : slowP o u K = true) (hg : getAll (opdsOf (o.with l)) ts = some (toL u, ts')) :
   ∃ r, (∀ cf σ wr, stepOp cf (o.with l) ⟨ts, σ, wr⟩ = some ⟨false, toI r, ⟨ts', σ, wr⟩⟩) /\ K r = true := by
 have h' : slowP (o.with l) u K = true := by
   unfold slowP at h ⊢
   rw [hu] at h ⊢
   rw [hw]; exact h
 exact slowP_ok _ hp hx u K ts ts' h' hg
theorem qop_ok (o : IOp) : QOK o (qop o) := by
 letI : Globs := ⟨fun _ => none⟩
 cases o
 case mv x => exact V1_mk (fun a => mvF_ok _) (fun a => rfl)
 case pick c a b =>
   show QOK _ (if plain1 a && plain1 b then QOp.pL pickF else .bad)
   split
   . refine VL_mk fun l hl => ?_
     match l, hl with
     | [x, y, z], _ => exact ⟨pickF_ok (.c x) (.c y) (.c z) rfl rfl, rfl⟩
   . trivial
 case alloc zs => exact W0_mk (allocF_ok zs)
 case box x => exact W1_mk (fun a => boxF_ok _) (fun a => rfl)
 case boxv x => exact V1_mk (fun a => boxvF_ok _) (fun a => rfl)
 case build zs ps =>
   refine VL_mk fun l hl => ?_
   have hl : l.length = (ps.map (·.2.2)).length := hl
   have e1 : ((ps.zip l).map fun p => (p.1.1, p.1.2.1, Opd.c p.2)).map (·.2.2) = l.map Opd.c := by
     simp only [List.map_map]
     show (ps.zip l).map (fun p => Opd.c p.2) = _
     rw [show (fun p : (Nat × Nat × Opd) × IVal => Opd.c p.2) = Opd.c ∘ Prod.snd from rfl, <- List.map_map, List.map_snd_zip (by simp at hl; omega)]
   have e2 : partsOf ((ps.zip l).map fun p => (p.1.1, p.1.2.1, Opd.c p.2)) = partsOf ps := by
     simp only [partsOf, List.map_map]
     show (ps.zip l).map (fun p => (p.1.1, p.1.2.1)) = _
     rw [show (fun p : (Nat × Nat × Opd) × IVal => (p.1.1, p.1.2.1)) = (fun p : Nat × Nat × Opd => (p.1, p.2.1)) ∘ Prod.fst from rfl, <- List.map_map, List.map_fst_zip (by simp at hl; omega)]
   have h := buildF_ok zs ((ps.zip l).map fun p => (p.1.1, p.1.2.1, Opd.c p.2))
   rw [e2] at h
   exact ⟨h, e1⟩
 case buildSl e xs => exact VL_mk fun l hl => ⟨buildSlF_ok e _, rfl⟩
 case mem k xs => exact WL_mk fun l hl => ⟨memF_ok k _, rfl⟩
 case buildRs e xs => exact WL_mk fun l hl => ⟨buildRsF_ok e _, rfl⟩
 case load m n x => exact W1_mk (fun a => loadF_ok m n _) (fun a => rfl)
 case store n x v => exact W2_mk (fun a b => storeF_ok n _ _) (fun a b => rfl)
 case vSet G tab x v => exact W2_mk (fun a b => vSetF_ok G tab _ _) (fun a b => rfl)
 case nilCheck x => exact V1_mk (fun a => nilCheckF_ok _) (fun a => rfl)
 case bin op x y => exact V2_mk (fun a b => bin_ok2 op _ _) (fun a b => rfl)
 case isnil neg k x => exact V1_mk (fun a => isnilF_ok neg k _) (fun a => rfl)
 case eqa neg x y =>
   intro u v K h
   obtain ⟨r, h1, h2⟩ := slow_any (o := .eqa neg x y) (l := [toI u, toI v]) (u := .cn u (.cn v .nl)) rfl rfl rfl rfl (ts := ts0) (ts' := ts0) h rfl
   exact ⟨r, fun cf σ wr => ⟨ts0, h1 cf σ wr⟩, h2⟩
 case eqb neg x y => exact V2_mk (fun a b => eqbF_ok neg _ _) (fun a b => rfl)
 case un op x => exact V1_mk (fun a => unF_ok op _) (fun a => rfl)
 case conv c x =>
   cases c with
   | int k => exact V1_mk (fun a => convI_ok k _) (fun a => rfl)
   | bytes => exact V1_mk (fun a => bytesF_ok _) (fun a => rfl)
   | text => exact V1_mk (fun a => textF_ok _) (fun a => rfl)
   | same => exact V1_mk (fun a => sameF_ok _) (fun a => rfl)
   | rune =>
     intro u K h
     obtain ⟨r, h1, h2⟩ := slow_any (o := .conv .rune x) (l := [toI u]) (u := .cn u .nl) rfl rfl rfl rfl (ts := ts0) (ts' := ts0) h rfl
     exact ⟨r, fun cf σ wr => ⟨ts0, h1 cf σ wr⟩, h2⟩
 case mkIface t x => exact V1_mk (fun a => mkIfaceF_ok t _) (fun a => rfl)
 case mkFn f xs ys =>
   cases f with
   | func f =>
       refine VL_mk fun l hl => ?_
       have hl : l.length = (xs ++ ys).length := hl
       have h := mkFnF_ok f ((l.take xs.length).map .c) ((l.drop xs.length).map .c)
       rw [List.length_map, List.length_take, Nat.min_eq_left (by simp at hl; omega)] at h
       refine ⟨h, ?_⟩
       show (l.take xs.length).map Opd.c ++ (l.drop xs.length).map Opd.c = _
       rw [<- List.map_append, List.take_append_drop]
   | _ => trivial
 case mkMap => exact W0_mk mkMapF_ok
 case mkSl b e by' zs x y => exact W2_mk (fun a c => mkSlF_ok b e by' zs _ _) (fun a c => rfl)
 case sliceS x lo hi =>
   refine VL_mk fun l hl => ?_
   have hl : l.length = (x :: (lo.toList ++ hi.toList)).length := hl
   cases l with
   | nil => simp at hl
   | cons a vs =>
     simp only [List.length_cons, List.length_append] at hl
     have p1 := optW_plain (lo := lo) (vs := vs) (by omega)
     have p2 := optW_list (lo := lo) (vs := vs) (by omega)
     have q1 := optW_plain (lo := hi) (vs := optR lo vs) (by omega)
     have q2 := optW_list (lo := hi) (vs := optR lo vs) (by omega)
     have q3 : optR hi (optR lo vs) = [] := List.length_eq_zero_iff.1 (by omega)
     rw [q3, List.map_nil, List.append_nil] at q2
     have h := sliceSF_ok (.c a) (optW lo vs) (optW hi (optR lo vs)) p1.1 q1.1
     rw [p1.2, q1.2] at h
     refine ⟨h, ?_⟩
     show Opd.c a :: ((optW lo vs).toList ++ (optW hi (optR lo vs)).toList) = _
     rw [q2.1, p2.1]; rfl
 case sliceL e x lo hi mx =>
   refine VL_mk fun l hl => ?_
   have hl : l.length = (x :: (lo.toList ++ (hi.toList ++ mx.toList))).length := hl
   cases l with
   | nil => simp at hl
   | cons a vs =>
     simp only [List.length_cons, List.length_append] at hl
     have p1 := optW_plain (lo := lo) (vs := vs) (by omega)
     have p2 := optW_list (lo := lo) (vs := vs) (by omega)
     have q1 := optW_plain (lo := hi) (vs := optR lo vs) (by omega)
     have q2 := optW_list (lo := hi) (vs := optR lo vs) (by omega)
     have r1 := optW_plain (lo := mx) (vs := optR hi (optR lo vs)) (by omega)
     have r2 := optW_list (lo := mx) (vs := optR hi (optR lo vs)) (by omega)
     have r3 : optR mx (optR hi (optR lo vs)) = [] := List.length_eq_zero_iff.1 (by omega)
     rw [r3, List.map_nil, List.append_nil] at r2
     have h := sliceLF_ok e (.c a) (optW lo vs) (optW hi (optR lo vs)) (optW mx (optR hi (optR lo vs))) p1.1 q1.1 r1.1
     rw [p1.2, q1.2, r1.2] at h
     refine ⟨h, ?_⟩
     show Opd.c a :: ((optW lo vs).toList ++ ((optW hi (optR lo vs)).toList ++ (optW mx (optR hi (optR lo vs))).toList)) = _
     rw [r2.1, q2.1, p2.1]; rfl
 case fieldAddr off x => exact V1_mk (fun a => fieldAddrF_ok off _) (fun a => rfl)
 case field off n x => exact V1_mk (fun a => fieldF_ok off n _) (fun a => rfl)
 case idxAddr e x i => exact V2_mk (fun a b => idxAddrF_ok e _ _) (fun a b => rfl)
 case idxAddrA l e x i => exact V2_mk (fun a b => idxAddrAF_ok l e _ _) (fun a b => rfl)
 case idxS x i => exact V2_mk (fun a b => idxSF_ok _ _) (fun a b => rfl)
 case idxA l e n x i => exact V2_mk (fun a b => idxAF_ok l e n _ _) (fun a b => rfl)
 case lookup kk z ok x k => exact W2_mk (fun a b => lookupF_ok kk z ok _ _) (fun a b => rfl)
 case mapSet kk m k v =>
   refine WL_mk fun l hl => ?_
   match l, hl with
   | [x, y, z], _ => exact ⟨mapSetF_ok kk (.c x) (.c y) (.c z), rfl⟩
 case extract x i => exact ⟨x, rfl⟩
 case append br str e by' s x =>
   cases br with
   | true => cases str with
     | false => exact W2_mk (fun a c => appRF_ok e by' _ _) (fun a c => rfl)
     | true => trivial
   | false =>
     cases str with
     | false => exact V2_mk (fun a b => appLF_ok e by' _ _) (fun a b => rfl)
     | true => exact V2_mk (fun a b => appSF_ok e by' _ _) (fun a b => rfl)
 case clear zs x => exact W1_mk (fun a => clearF_ok zs _) (fun a => rfl)
 case lenS x => exact V1_mk (fun a => lenSF_ok _) (fun a => rfl)
 case lenL x => exact V1_mk (fun a => lenLF_ok _) (fun a => rfl)
 case lenM x => exact W1_mk (fun a => lenMF_ok _) (fun a => rfl)
 case minmax m xs => exact VL_mk fun l hl => ⟨minmaxF_ok m _, rfl⟩
 case pur k xs =>
   intro u K h hl
   have e : ((IOp.pur k xs).with (toL u)).with (toL u) = (IOp.pur k xs).with (toL u) := rfl
   obtain ⟨r, h1, h2⟩ := slow_any (o := .pur k xs) (l := toL u) (u := u) rfl rfl e rfl (ts := ts0) (ts' := ts0) h (getAll_cv _ _)
   exact ⟨r, fun cf σ wr => ⟨ts0, h1 cf σ wr⟩, h2⟩
 case vOf G tab x =>
   intro u K h
   obtain ⟨r, h1, h2⟩ := slow_any (o := .vOf G tab x) (l := [toI u]) (u := .cn u .nl) rfl rfl rfl rfl (ts := ts0) (ts' := ts0) h rfl
   exact ⟨r, fun cf σ wr => ⟨ts0, h1 cf σ wr⟩, h2⟩
 case call g xs => exact ⟨xs, rfl⟩
 case callp g xs => exact ⟨xs, rfl⟩
 case callv f xs => exact ⟨f, xs, rfl⟩
 case inv tab x xs => exact ⟨x, xs, rfl⟩
 case panic x => exact ⟨x, rfl⟩
 all_goals trivial
end
end Go.Idl
namespace Go.Idl
noncomputable section
set_option maxHeartbeats 100000
abbrev NK := Env -> U -> H -> Ans
abbrev XK := Nat -> U -> Env -> H -> Ans
abbrev CQ := FuncId -> U -> H -> KH -> KH -> Ans
abbrev YQ := Nat -> U -> H -> KH -> KH -> Ans
def DsR : U -> List Nat -> Prop
 | .nl, [] => True
 | .cn (.o 4 a _ _ _ _) r, id :: l => a = id /\ DsR r l
 | _, _ => False
structure QR (e : Env) (st : U) (h : H) (s : XS) : Prop where
 v : VarQ e s.vs
 st : StR st s.st
 ds : DsR (dsU e) s.ds
 h : HR h s.σ s.wr
theorem QR.nl {e : Env} {st : U} {h : H} {s : XS} (R : QR e st h s) : QR e .nl h s := ⟨R.v, trivial, R.ds, R.h⟩
def undefU : U := .o 18 0 0 0 0 .nl
theorem undefU_ok : toI undefU = undefI := rfl
def CallS (cf : CallF) (c : Cal) (f : U -> H -> KH -> KH -> Ans) : Prop := ∀ l h K P σ wr, HR h σ wr -> f l h K P = true -> ∃ o r h', cf c (toL l) σ = some o /\ toI r = o.v /\ HR h' o.σ (o.wr ++ wr) /\ h'.tr = h.tr /\ (o.pan = false /\ K r h' = true \/ o.pan = true /\ P r h' = true)
structure CYS (cf : CallF) (cq : CQ) (yq : YQ) : Prop where
 c : ∀ g, CallS cf (.f g) (cq g)
 y : ∀ id, CallS cf (.y id) (yq id)
def appK (x : U) : U -> (U -> Ans) -> Ans := @U.rec (fun _ => U -> (U -> Ans) -> Ans) (fun _ _ _ _ => false) (fun _ _ _ => false) (fun _ _ _ _ => false) (fun _ _ _ _ _ _ _ _ _ => false) (fun y K => K y)
 (fun v _ _ ih y K => ih y fun r => K (.cn v r)) (fun _ _ _ _ _ _ _ _ => false) (fun _ _ _ => false) (fun _ _ _ _ _ _ _ _ _ => false) x
theorem appK_true : ∀ {x y : U} {K : U -> Ans}, appK x y K = true -> ∃ r, toL r = toL x ++ toL y /\ K r = true := by
 intro x
 induction x with
 | nl => intro y K h; exact ⟨y, rfl, h⟩
 | cn v vs _ ih => intro y K h; obtain ⟨r, h1, h2⟩ := ih (show appK vs y (fun r => K (.cn v r)) = true from h); exact ⟨_, by rw [toL_cn, toL_cn, h1]; rfl, h2⟩
 | _ => intro y K h; cases h
def argsK (b : Nat) (x l : U) (K : U -> Ans) : Ans := takeK b x fun us => dropK b x fun ws => appK l ws fun r => appK us r K
theorem argsK_true {b : Nat} {x l : U} {K : U -> Ans} (h : argsK b x l K = true) : ∃ r, toL r = (toL x).take b ++ toL l ++ (toL x).drop b /\ K r = true := by
 obtain ⟨us, h1, _, h2⟩ := takeK_true h
 obtain ⟨ws, h3, _, h4⟩ := dropK_true h2
 obtain ⟨r1, h5, h6⟩ := appK_true h4
 obtain ⟨r, h7, h8⟩ := appK_true h6
 exact ⟨r, by rw [h7, h5, h1, h3, zS], h8⟩
def emptyH : H := ⟨0, ⟨0, .nl, 0, .nl, .nl⟩, 0, false, []⟩
theorem emptyH_ok : HR emptyH [] [] := ⟨rfl, fun i ob h => (by simp at h), fun _ p hp => (by cases hp), fun n0 => (by simp [emptyH])⟩
def callpF (cq : CQ) (g : FuncId) (l : U) (h : H) (K : KH) : Ans := tst (allU nr2U l) (cq g l emptyH (fun r _ => tst (nr3U r) (K r h)) (fun _ _ => false))
theorem callpF_true {cf : CallF} {cq : CQ} {yq : YQ} (hc : CYS cf cq yq) {g : FuncId} {l : U} {h : H} {K : KH} (hk : callpF cq g l h K = true) {xs : List Opd} {σ : List IObj} {wr : List (Nat × Bool)} :
   ∃ r, (∃ t, opV cf (.callp g xs) (toL l) σ wr = some ⟨false, toI r, ⟨t, σ, wr⟩⟩) /\ K r h = true := by
 letI : Globs := ⟨fun _ => none⟩
 obtain ⟨h1, h2⟩ := tst_true hk
 obtain ⟨o, r, h', h3, h4, _, _, h5⟩ := hc.c g l emptyH _ _ [] [] emptyH_ok h2
 rcases h5 with ⟨h6, h7⟩ | ⟨_, h7⟩
 . obtain ⟨h8, h9⟩ := tst_true h7
   refine ⟨r, ⟨ts0, ?_⟩, h9⟩
   obtain ⟨pan, v, σ', wr'⟩ := o
   simp only at h4 h6
   subst h4 h6
   have hn : (toL l).all nr2 = true := by rw [<- allU_eq nr2U_ok]; exact h1
   rw [nr3U_ok] at h8
   simp only [opV, IOp.with, stepOp, getAll_cv, h3]
   rw [if_pos hn, if_pos h8]; rfl
 . cases h7
def findTab (tab : List (TypeId × FuncId × RecvK)) (t : Nat) (K : FuncId -> RecvK -> Ans) : Ans := @List.rec _ (fun _ => (FuncId -> RecvK -> Ans) -> Ans) (fun _ => false) (fun p _ ih K => @Bool.rec (fun _ => Ans) (ih K) (K p.2.1 p.2.2) (Nat.beq p.1 t)) tab K
theorem findTab_true {t : Nat} : ∀ {tab : List (TypeId × FuncId × RecvK)} {K : FuncId -> RecvK -> Ans}, findTab tab t K = true -> ∃ t' f rk, tab.find? (fun p => p.1 == t) = some (t', f, rk) /\ K f rk = true := by
 intro tab
 induction tab with
 | nil => intro K h; cases h
 | cons p tab ih =>
   intro K h
   obtain ⟨a, f, rk⟩ := p
   rcases brec_true (show @Bool.rec (fun _ => Ans) (findTab tab t K) (K f rk) (Nat.beq a t) = true from h) with ⟨h1, h2⟩ | ⟨h1, h2⟩
   . have := zN h1; subst this
     have e : (a == a) = true := beq_self_eq_true a
     exact ⟨a, f, rk, by rw [List.find?_cons]; simp only [e], h2⟩
   . obtain ⟨t', f', rk', h3, h4⟩ := ih h2
     have h1 := zE h1
     have e : (a == t) = false := beq_eq_false_iff_ne.2 h1
     exact ⟨t', f', rk', by rw [List.find?_cons]; simp only [e, h3], h4⟩
def recvF (rk : RecvK) (u : U) (K : KU) : Ans := @RecvK.rec (fun _ => U -> KU -> Ans) (fun u K => K u) (fun off n u K => fieldF off n u K) rk u K
theorem recvF_true {rk : RecvK} {u : U} {K : KU} (h : recvF rk u K = true) : ∃ r, recvI rk (toI u) = some (toI r) /\ K r = true := by
 cases rk with
 | same => exact ⟨u, rfl, h⟩
 | fld off n =>
   obtain ⟨r, h1, h2⟩ := fieldF_ok off n (.c (toI u)) u K ts0 ts0 h rfl
   have h1 := h1 (fun _ _ _ => none) [] []
   refine ⟨r, ?_, h2⟩
   simp only [stepOp, Opd.get] at h1
   split at h1
   . rename_i cs t heq
     simp only [zO, zP] at heq
     rw [heq.1]
     split at h1
     . rename_i w hw
       simp only [rv, zO, Res.mk.injEq, true_and] at h1
       simp only [recvI, hw, h1.1]
     . cases h1
   . cases h1
def callF' (cq : CQ) (yq : YQ) (q : QOp) (l : U) (h : H) (K : KH) (P : KH) : Ans := @QOp.rec (fun _ => CQ -> YQ -> U -> H -> KH -> KH -> Ans)
 (fun _ _ _ _ _ _ _ => false) (fun _ _ _ _ _ _ _ => false) (fun _ _ _ _ _ _ _ => false) (fun _ _ _ _ _ _ _ => false) (fun _ _ _ _ _ _ _ => false) (fun _ _ _ _ _ _ _ => false) (fun _ _ _ _ _ _ _ => false)
 (fun g cq _ l h K P => cq g l h K P)
 (fun g cq _ l h K _ => callpF cq g l h K)
 (fun cq yq l h K P => uC l false fun u l => uO u fun t a b _ _ x => @Bool.rec (fun _ => Ans) (tst (Nat.beq t 4) (yq a l h K P)) (argsK b x l fun r => cq a r h K P) (Nat.beq t 7))
 (fun tab cq _ l h K P => uC l false fun u l => uO u fun t a _ _ _ x => tst (Nat.beq t 5) (findTab tab a fun f rk => recvF rk x fun y => cq f (.cn y l) h K P))
 (fun _ _ _ _ _ _ _ => false)
 (fun _ _ l h _ P => uC l false fun u _ => uO u fun t _ _ _ _ _ => tst (Nat.beq t 5) (P u h))
 (fun _ _ _ _ _ _ => false) q cq yq l h K P
theorem callF'_true {cf : CallF} {cq : CQ} {yq : YQ} (hc : CYS cf cq yq) {o : IOp} {q : QOp} (hq : QOK o q) {l : U} {h : H} {K P : KH} {σ : List IObj} {wr : List (Nat × Bool)} (hr : HR h σ wr) (hl : (toL l).length = (opdsOf o).length) (hk : callF' cq yq q l h K P = true) :
   ∃ p r h' t σ' wr', opV cf o (toL l) σ wr = some ⟨p, toI r, ⟨t, σ', wr'⟩⟩ /\ HR h' σ' wr' /\ h'.tr = h.tr /\ (p = false /\ K r h' = true \/ p = true /\ P r h' = true) := by
 letI : Globs := ⟨fun _ => none⟩
 cases q with
 | call g =>
   obtain ⟨xs, rfl⟩ := hq
   obtain ⟨oo, r, h', h1, h2, h3, h4, h5⟩ := hc.c g l h K P σ wr hr hk
   exact ⟨oo.pan, r, h', ts0, oo.σ, oo.wr ++ wr, by simp only [opV, IOp.with, stepOp, getAll_cv, stepCall, h1, addOut, h2], h3, h4, h5⟩
 | callp g =>
   obtain ⟨xs, rfl⟩ := hq
   obtain ⟨r, ⟨t, h1⟩, h2⟩ := callpF_true hc (xs := xs) (σ := σ) (wr := wr) (show callpF cq g l h K = true from hk)
   exact ⟨false, r, h, t, σ, wr, h1, hr, rfl, Or.inl ⟨rfl, h2⟩⟩
 | callv =>
   obtain ⟨f, xs, rfl⟩ := hq
   rcases uC_true (show uC l false (fun u l => uO u fun t a b _ _ x => @Bool.rec (fun _ => Ans) (tst (Nat.beq t 4) (yq a l h K P)) (argsK b x l fun r => cq a r h K P) (Nat.beq t 7)) = true from hk) with ⟨_, k1⟩ | ⟨u, l1, rfl, k1⟩
   . cases k1
   obtain ⟨t, a, b, c, d, x, rfl, k2⟩ := uO_true k1
   rcases brec_true k2 with ⟨k3, k4⟩ | ⟨_, k4⟩
   . have := zN k3; subst this
     obtain ⟨r1, k5, k6⟩ := argsK_true k4
     obtain ⟨oo, r, h', h1, h2, h3, h4, h5⟩ := hc.c a r1 h K P σ wr hr k6
     rw [k5] at h1
     refine ⟨oo.pan, r, h', ts0, oo.σ, oo.wr ++ wr, ?_, h3, h4, h5⟩
     rw [toL_cn]
     simp only [opV, IOp.with, stepOp, get_c, toI_fn, getAll_cv, stepCall, h1, addOut, h2]
   . obtain ⟨k5, k6⟩ := tst_true k4
     have := zN k5; subst this
     obtain ⟨oo, r, h', h1, h2, h3, h4, h5⟩ := hc.y a l1 h K P σ wr hr k6
     refine ⟨oo.pan, r, h', ts0, oo.σ, oo.wr ++ wr, ?_, h3, h4, h5⟩
     rw [toL_cn]
     simp only [opV, IOp.with, stepOp, get_c, toI_yl, getAll_cv, stepCall, h1, addOut, h2]
 | inv tab =>
   obtain ⟨x, xs, rfl⟩ := hq
   rcases uC_true (show uC l false (fun u l => uO u fun t a _ _ _ x => tst (Nat.beq t 5) (findTab tab a fun f rk => recvF rk x fun y => cq f (.cn y l) h K P)) = true from hk) with ⟨_, k1⟩ | ⟨u, l1, rfl, k1⟩
   . cases k1
   obtain ⟨t, a, b, c, d, y, rfl, k2⟩ := uO_true k1
   obtain ⟨k3, k4⟩ := tst_true k2
   have := zN k3; subst this
   obtain ⟨t', f, rk, k5, k6⟩ := findTab_true k4
   obtain ⟨z, k7, k8⟩ := recvF_true k6
   obtain ⟨oo, r, h', h1, h2, h3, h4, h5⟩ := hc.c f (.cn z l1) h K P σ wr hr k8
   rw [toL_cn] at h1
   refine ⟨oo.pan, r, h', ts0, oo.σ, oo.wr ++ wr, ?_, h3, h4, h5⟩
   rw [toL_cn]
   simp only [opV, IOp.with, stepOp, get_c, toI_iface, k5, k7, getAll_cv, stepCall, h1, addOut, h2]
 | pan =>
   obtain ⟨x, rfl⟩ := hq
   rcases uC_true (show uC l false (fun u _ => uO u fun t _ _ _ _ _ => tst (Nat.beq t 5) (P u h)) = true from hk) with ⟨_, k1⟩ | ⟨u, l1, rfl, k1⟩
   . cases k1
   obtain ⟨t, a, b, c, d, y, rfl, k1⟩ := uO_true k1
   obtain ⟨k3, k1⟩ := tst_true k1
   have := zN k3; subst this
   have hl1 : toL l1 = [] := by
     rw [toL_cn] at hl
     exact List.length_eq_zero_iff.1 (by simpa [opdsOf] using hl)
   refine ⟨true, _, h, ts0, σ, wr, ?_, hr, rfl, Or.inr ⟨rfl, k1⟩⟩
   rw [toL_cn, hl1, toI_iface]
   simp only [opV, IOp.with, stepOp, get_c]
 | _ => cases hk
def setNth (i : Nat) (w x : U) (K : U -> Ans) : Ans := @Nat.rec (fun _ => U -> U -> (U -> Ans) -> Ans) (fun w x K => uC x false fun _ r => K (.cn w r)) (fun _ ih w x K => uC x false fun v r => ih w r fun r' => K (.cn v r')) i w x K
theorem setNth_true : ∀ {i : Nat} {w x : U} {K : U -> Ans}, setNth i w x K = true -> ∃ r, toL r = (toL x).set i (toI w) /\ K r = true := by
 intro i
 induction i with
 | zero =>
   intro w x K h
   rcases uC_true (show uC x false (fun _ r => K (.cn w r)) = true from h) with ⟨_, h2⟩ | ⟨v, r, rfl, h2⟩
   . cases h2
   . exact ⟨_, by rw [toL_cn, toL_cn]; rfl, h2⟩
 | succ i ih =>
   intro w x K h
   rcases uC_true (show uC x false (fun v r => setNth i w r fun r' => K (.cn v r')) = true from h) with ⟨_, h2⟩ | ⟨v, r, rfl, h2⟩
   . cases h2
   . obtain ⟨r', h3, h4⟩ := ih h2
     exact ⟨_, by rw [toL_cn, toL_cn, h3]; rfl, h4⟩
def extrK (i : Nat) (u : U) (K : U -> U -> Ans) : Ans := uO u fun t a _ _ _ x => tst (Nat.beq t 18) (nthK i x fun w => @Bool.rec (fun _ => Ans) (frc (un2U w) fun w' => K w' (.o 18 a 0 0 0 x)) (frc w fun w => frc (un2U w) fun w' => setNth i w' x fun x' => K w (.o 18 0 0 0 0 x')) (Nat.beq a 0))
theorem extrK_true {i : Nat} {u : U} {K : U -> U -> Ans} (h : extrK i u K = true) : ∃ us w l, toI u = .tup us /\ us[i]? = some (toI w) /\ toI l = .tup (us.set i (un2 (toI w))) /\ K w l = true := by
 obtain ⟨t, a, b, c, d, x, rfl, h2⟩ := uO_true h
 obtain ⟨h3, h4⟩ := tst_true h2
 have := zN h3; subst this
 obtain ⟨w, h5, h6⟩ := nthK_true h4
 rcases brec_true h6 with ⟨h7, h8⟩ | ⟨h7, h8⟩
 . have := zN h7; subst this
   rw [frc_eq, frc_eq] at h8
   obtain ⟨x', h9, h10⟩ := setNth_true h8
   refine ⟨toL x, w, _, by rw [toI_tup, if_pos rfl], h5, ?_, h10⟩
   rw [toI_tup, if_pos rfl, h9, un2U_ok]
 . have ha : a ≠ 0 := zE h7
   rw [frc_eq] at h8
   refine ⟨(toL x).map un2, un2U w, _, by rw [toI_tup, if_neg ha], by rw [List.getElem?_map, h5, un2U_ok]; rfl, ?_, h8⟩
   rw [toI_tup, if_neg ha, un2U_ok, un2_un2]
   congr 1
   apply List.ext_getElem?
   intro k
   rw [List.getElem?_set, List.getElem?_map]
   by_cases e : i = k
   . subst e
     rw [if_pos rfl, h5]
     have hi : i < (List.map un2 (toL x)).length := by
       rw [List.length_map]
       rcases Nat.lt_or_ge i (toL x).length with h | h
       . exact h
       . rw [List.getElem?_eq_none h] at h5; cases h5
     rw [if_pos hi]; rfl
   . rw [if_neg e]
def extrQ (i : Nat) (x : QOpd) (e : Env) (st : U) (K : U -> Env -> U -> Ans) : Ans := @QOpd.rec (fun _ => Nat -> Env -> U -> (U -> Env -> U -> Ans) -> Ans)
 (fun ix i e st K => opdK (.v ix) e st fun u e => extrK i u fun w _ => K w e st)
 (fun ix i e st K => getIx ix e fun u => extrK i u fun w l => setIx ix e l fun e => K w e st)
 (fun d i e st K => stK d st fun u => extrK i u fun w l => stSet d l st fun st => K w e st)
 (fun d i e st K => opdK (.u d) e st fun u e => extrK i u fun w _ => K w e st)
 (fun _ _ _ _ _ => false)
 (fun u i e st K => extrK i u fun w _ => K w e st) x i e st K
theorem extrQ_true {cf : CallF} {i : Nat} {x : XOpd} {o : XOper} {y : Opd} (ho : o.op = .extract y i) (hx : o.xs = [x]) {e : Env} {st : U} {h : H} {s : XS} (R : QR e st h s) {K : U -> Env -> U -> Ans} (hk : extrQ i (qopd x) e st K = true) :
   ∃ r e' st' s', xop cf o s = some ⟨false, toI r, s'⟩ /\ QR e' st' h s' /\ K r e' st' = true := by
 obtain ⟨op, xs, p, d, g⟩ := o
 simp only at ho hx
 subst ho hx
 cases x with
 | v j =>
   obtain ⟨u, vs', e', h1, h2, h3, h4⟩ := opdK_true (x := .v j) (show opdK (qopd (.v j)) e st (fun u e => extrK i u fun w _ => K w e st) = true from hk) R.v R.st
   obtain ⟨us, w, l, h5, h6, _, h7⟩ := extrK_true h4
   rw [h5] at h1
   exact ⟨w, e', st, { s with vs := vs' }, by simp only [xop, h1, h6], ⟨h2, R.st, by rw [h3]; exact R.ds, R.h⟩, h7⟩
 | m j =>
   have hk : getIx (ixOf j) e (fun u => extrK i u fun w l => setIx (ixOf j) e l fun e => K w e st) = true := hk
   rw [getIx_eq, ixN_of] at hk
   obtain ⟨us, w, l, h5, h6, h7, h8⟩ := extrK_true hk
   rw [setIx_eq, ixN_of] at h8
   have hne : eget e j ≠ .nl := fun e1 => by rw [e1] at h5; cases h5; simp at h6
   have hv := R.v j hne
   rw [h5] at hv
   refine ⟨w, _, st, { s with vs := aset j (.tup (us.set i (un2 (toI w)))) (aset j (un3 (.tup us)) s.vs) }, by simp only [xop, XOpd.get, hv, h6], ⟨?_, R.st, by rw [dsU_eset]; exact R.ds, R.h⟩, h8⟩
   intro k hk
   rw [eget_eset] at hk ⊢
   simp only [aget_aset]
   split
   . rename_i ek; rw [h7]
   . rename_i ek; rw [if_neg ek] at hk; exact R.v k hk
 | s d =>
   obtain ⟨u, h1, h2⟩ := stK_true (show stK d st (fun u => extrK i u fun w l => stSet d l st fun st => K w e st) = true from hk) R.st
   obtain ⟨us, w, l, h5, h6, h7, h8⟩ := extrK_true h2
   obtain ⟨st', h9, h10⟩ := stSet_true h8 R.st
   rw [h7] at h9
   rw [h5] at h1
   exact ⟨w, e, st', { s with st := s.st.set d (.tup (us.set i (un2 (toI w)))) }, by simp only [xop, XOpd.get, h1, h6], ⟨R.v, h9, R.ds, R.h⟩, h10⟩
 | u d =>
   obtain ⟨u, vs', e', h1, h2, h3, h4⟩ := opdK_true (x := .u d) (show opdK (qopd (.u d)) e st (fun u e => extrK i u fun w _ => K w e st) = true from hk) R.v R.st
   obtain ⟨us, w, l, h5, h6, _, h7⟩ := extrK_true h4
   rw [h5] at h1
   exact ⟨w, e', st, { s with vs := vs' }, by simp only [xop, h1, h6], ⟨h2, R.st, by rw [h3]; exact R.ds, R.h⟩, h7⟩
 | n d => cases hk
 | c v =>
   obtain ⟨us, w, l, h5, h6, _, h7⟩ := extrK_true (show extrK i (rep v) (fun w _ => K w e st) = true from hk)
   rw [rep_ok] at h5
   subst h5
   exact ⟨w, e, st, s, by simp only [xop, XOpd.get, h6], R, h7⟩
def one (xs : List QOpd) (K : QOpd -> Ans) : Ans := @List.rec QOpd (fun _ => (QOpd -> Ans) -> Ans) (fun _ => false) (fun x r _ K => @List.rec QOpd (fun _ => QOpd -> (QOpd -> Ans) -> Ans) (fun x K => K x) (fun _ _ _ _ _ => false) r x K) xs K
theorem one_true {xs : List XOpd} {K : QOpd -> Ans} (h : one (xs.map qopd) K = true) : ∃ x, xs = [x] /\ K (qopd x) = true := by
 match xs, h with
 | [], h => cases h
 | [x], h => exact ⟨x, rfl, h⟩
 | _ :: _ :: _, h => cases h
def two (xs : List QOpd) (K : QOpd -> QOpd -> Ans) : Ans := @List.rec QOpd (fun _ => (QOpd -> QOpd -> Ans) -> Ans) (fun _ => false) (fun x r _ K => one r fun y => K x y) xs K
theorem two_true {xs : List XOpd} {K : QOpd -> QOpd -> Ans} (h : two (xs.map qopd) K = true) : ∃ x y, xs = [x, y] /\ K (qopd x) (qopd y) = true := by
 cases xs with
 | nil => cases h
 | cons x xs =>
   obtain ⟨y, rfl, h2⟩ := one_true (show one (xs.map qopd) (fun y => K (qopd x) y) = true from h)
   exact ⟨x, y, rfl, h2⟩
abbrev NV := U -> Env -> U -> H -> Ans
abbrev PV := U -> Env -> H -> Ans
structure CC where
 c : CQ
 y : YQ
def viaL (f : U -> H -> (U -> H -> Ans) -> (U -> H -> Ans) -> Ans) (xs : List QOpd) (e : Env) (st : U) (h : H) (N : NV) (P : PV) : Ans := opdsK xs e st fun l e => f l h (fun r h => N r e st h) (fun r h => P r e h)
def opQ (q : QOp) (xs : List QOpd) (cq : CQ) (yq : YQ) (e : Env) (st : U) (h : H) (N : NV) (P : PV) : Ans := @QOp.rec (fun _ => List QOpd -> CQ -> YQ -> Env -> U -> H -> NV -> PV -> Ans)
 (fun f xs _ _ e st h N _ => one xs fun x => opdK x e st fun u e => f u fun r => N r e st h)
 (fun f xs _ _ e st h N _ => two xs fun x y => opdK x e st fun u e => opdK y e st fun v e => f u v fun r => N r e st h)
 (fun f xs _ _ e st h N _ => opdsK xs e st fun l e => f l fun r => N r e st h)
 (fun f xs _ _ e st h N _ => opdsK xs e st fun l e => uC l (f h fun r h => N r e st h) fun _ _ => false)
 (fun f xs _ _ e st h N _ => one xs fun x => opdK x e st fun u e => f u h fun r h => N r e st h)
 (fun f xs _ _ e st h N _ => two xs fun x y => opdK x e st fun u e => opdK y e st fun v e => f u v h fun r h => N r e st h)
 (fun f xs _ _ e st h N _ => opdsK xs e st fun l e => f l h fun r h => N r e st h)
 (fun g xs cq yq e st h N P => viaL (fun l h K P => callF' cq yq (.call g) l h K P) xs e st h N P)
 (fun g xs cq yq e st h N P => viaL (fun l h K P => callF' cq yq (.callp g) l h K P) xs e st h N P)
 (fun xs cq yq e st h N P => viaL (fun l h K P => callF' cq yq .callv l h K P) xs e st h N P)
 (fun tab xs cq yq e st h N P => viaL (fun l h K P => callF' cq yq (.inv tab) l h K P) xs e st h N P)
 (fun i xs _ _ e st h N _ => one xs fun x => extrQ i x e st fun w e st => N w e st h)
 (fun xs cq yq e st h N P => viaL (fun l h K P => callF' cq yq .pan l h K P) xs e st h N P)
 (fun _ _ _ _ _ _ _ _ => false) q xs cq yq e st h N P
theorem xop_of {cf : CallF} {o : XOper} {s : XS} {vals : List IVal} {vs : AL} {r : Res} (he : ¬ ∃ x i, o.op = .extract x i) (hg : xgetAll o.xs s.vs s.st = some (vals, vs)) (hr : opV cf o.op vals s.σ s.wr = some r) : xop cf o s = some ⟨r.pan, r.v, { s with vs := vs, σ := r.s.σ, wr := r.s.wr }⟩ := by
 rw [xop_ne he]; simp only [hg, hr]
theorem xgetAll_len : ∀ {xs : List XOpd} {vs vs' : AL} {st ws : List IVal}, xgetAll xs vs st = some (ws, vs') -> ws.length = xs.length := by
 intro xs
 induction xs with
 | nil => intro vs vs' st ws h; cases h; rfl
 | cons x xs ih =>
   intro vs vs' st ws h
   simp only [xgetAll] at h
   split at h
   . split at h
     . rename_i h2; cases h; simp [ih h2]
     . cases h
   . cases h
theorem opQ_true {cf : CallF} {cq : CQ} {yq : YQ} (hc : CYS cf cq yq) {o : XOper} {q : QOp} (hq : QOK o.op q) (hex : (∃ x i, o.op = .extract x i) -> ∃ i, q = .extr i) (hl : o.xs.length = (opdsOf o.op).length) {e : Env} {st : U} {h : H} {s : XS} (R : QR e st h s) {N : NV} {P : PV}
   (hk : opQ q (o.xs.map qopd) cq yq e st h N P = true) : ∃ r e' st' h' p s', xop cf o s = some ⟨p, toI r, s'⟩ /\ QR e' st' h' s' /\ h'.tr = h.tr /\ (p = false /\ N r e' st' h' = true \/ p = true /\ P r e' h' = true) := by
 have call : ∀ {q : QOp}, QOK o.op q -> (¬ ∃ x i, o.op = .extract x i) -> viaL (fun l h K P => callF' cq yq q l h K P) (o.xs.map qopd) e st h N P = true -> ∃ r e' st' h' p s', xop cf o s = some ⟨p, toI r, s'⟩ /\ QR e' st' h' s' /\ h'.tr = h.tr /\ (p = false /\ N r e' st' h' = true \/ p = true /\ P r e' h' = true) := by
   intro q hq hne hk
   obtain ⟨l, vs', e', h1, h2, h3, h4⟩ := opdsK_true hk R.v R.st
   have hlen := xgetAll_len h1
   obtain ⟨p, r, h', t, σ', wr', h5, h6, h7, h8⟩ := callF'_true hc hq R.h (by rw [hlen, hl]) h4
   exact ⟨r, e', st, h', p, _, xop_of hne h1 h5, ⟨h2, R.st, by rw [h3]; exact R.ds, h6⟩, h7, h8⟩
 cases q with
 | extr i =>
   obtain ⟨y, ho⟩ := hq
   obtain ⟨x, hx, h1⟩ := one_true (show one (o.xs.map qopd) (fun x => extrQ i x e st fun w e st => N w e st h) = true from hk)
   obtain ⟨r, e', st', s', h2, h3, h4⟩ := extrQ_true (cf := cf) ho hx R h1
   exact ⟨r, e', st', h, false, s', h2, h3, rfl, Or.inl ⟨rfl, h4⟩⟩
 | bad => cases hk
 | call g => exact call hq (fun h => by obtain ⟨i, e⟩ := hex h; cases e) hk
 | callp g => exact call hq (fun h => by obtain ⟨i, e⟩ := hex h; cases e) hk
 | callv => exact call hq (fun h => by obtain ⟨i, e⟩ := hex h; cases e) hk
 | inv tab => exact call hq (fun h => by obtain ⟨i, e⟩ := hex h; cases e) hk
 | pan => exact call hq (fun h => by obtain ⟨i, e⟩ := hex h; cases e) hk
 | p1 f =>
   have hne : ¬ ∃ x i, o.op = .extract x i := fun h => by obtain ⟨i, e⟩ := hex h; cases e
   obtain ⟨x, hx, h1⟩ := one_true (show one (o.xs.map qopd) (fun x => opdK x e st fun u e => f u fun r => N r e st h) = true from hk)
   obtain ⟨u, vs', e', h2, h3, h4, h5⟩ := opdK_true h1 R.v R.st
   obtain ⟨r, h6, h7⟩ := hq u _ h5
   obtain ⟨t, h6⟩ := h6 cf s.σ s.wr
   have hg : xgetAll o.xs s.vs s.st = some ([toI u], vs') := by rw [hx]; simp only [xgetAll, h2]
   exact ⟨r, e', st, h, false, _, xop_of hne hg h6, ⟨h3, R.st, by rw [h4]; exact R.ds, R.h⟩, rfl, Or.inl ⟨rfl, h7⟩⟩
 | p2 f =>
   have hne : ¬ ∃ x i, o.op = .extract x i := fun h => by obtain ⟨i, e⟩ := hex h; cases e
   obtain ⟨x, y, hx, h1⟩ := two_true (show two (o.xs.map qopd) (fun x y => opdK x e st fun u e => opdK y e st fun v e => f u v fun r => N r e st h) = true from hk)
   obtain ⟨u, vs', e', h2, h3, h4, h5⟩ := opdK_true h1 R.v R.st
   obtain ⟨v, vs2, e2, h6, h7, h8, h9⟩ := opdK_true h5 h3 R.st
   obtain ⟨r, h10, h11⟩ := hq u v _ h9
   obtain ⟨t, h10⟩ := h10 cf s.σ s.wr
   have hg : xgetAll o.xs s.vs s.st = some ([toI u, toI v], vs2) := by rw [hx]; simp only [xgetAll, h2, h6]
   exact ⟨r, e2, st, h, false, _, xop_of hne hg h10, ⟨h7, R.st, by rw [h8, h4]; exact R.ds, R.h⟩, rfl, Or.inl ⟨rfl, h11⟩⟩
 | pL f =>
   have hne : ¬ ∃ x i, o.op = .extract x i := fun h => by obtain ⟨i, e⟩ := hex h; cases e
   obtain ⟨l, vs', e', h1, h2, h3, h4⟩ := opdsK_true (show opdsK (o.xs.map qopd) e st (fun l e => f l fun r => N r e st h) = true from hk) R.v R.st
   obtain ⟨r, h5, h6⟩ := hq l _ h4 (by rw [xgetAll_len h1, hl])
   obtain ⟨t, h5⟩ := h5 cf s.σ s.wr
   exact ⟨r, e', st, h, false, _, xop_of hne h1 h5, ⟨h2, R.st, by rw [h3]; exact R.ds, R.h⟩, rfl, Or.inl ⟨rfl, h6⟩⟩
 | h0 f =>
   have hne : ¬ ∃ x i, o.op = .extract x i := fun h => by obtain ⟨i, e⟩ := hex h; cases e
   obtain ⟨l, vs', e', h1, h2, h3, h4⟩ := opdsK_true (show opdsK (o.xs.map qopd) e st (fun l e => uC l (f h fun r h => N r e st h) fun _ _ => false) = true from hk) R.v R.st
   rcases uC_true h4 with ⟨rfl, h5⟩ | ⟨_, _, _, h5⟩
   . obtain ⟨r, h', σ', wr', h6, h7, h8, h9⟩ := hq h _ s.σ s.wr R.h h5
     obtain ⟨t, h6⟩ := h6 cf
     exact ⟨r, e', st, h', false, _, xop_of hne h1 h6, ⟨h2, R.st, by rw [h3]; exact R.ds, h7⟩, h8, Or.inl ⟨rfl, h9⟩⟩
   . cases h5
 | h1 f =>
   have hne : ¬ ∃ x i, o.op = .extract x i := fun h => by obtain ⟨i, e⟩ := hex h; cases e
   obtain ⟨x, hx, h1⟩ := one_true (show one (o.xs.map qopd) (fun x => opdK x e st fun u e => f u h fun r h => N r e st h) = true from hk)
   obtain ⟨u, vs', e', h2, h3, h4, h5⟩ := opdK_true h1 R.v R.st
   obtain ⟨r, h', σ', wr', h6, h7, h8, h9⟩ := hq u h _ s.σ s.wr R.h h5
   obtain ⟨t, h6⟩ := h6 cf
   have hg : xgetAll o.xs s.vs s.st = some ([toI u], vs') := by rw [hx]; simp only [xgetAll, h2]
   exact ⟨r, e', st, h', false, _, xop_of hne hg h6, ⟨h3, R.st, by rw [h4]; exact R.ds, h7⟩, h8, Or.inl ⟨rfl, h9⟩⟩
 | h2 f =>
   have hne : ¬ ∃ x i, o.op = .extract x i := fun h => by obtain ⟨i, e⟩ := hex h; cases e
   obtain ⟨x, y, hx, h1⟩ := two_true (show two (o.xs.map qopd) (fun x y => opdK x e st fun u e => opdK y e st fun v e => f u v h fun r h => N r e st h) = true from hk)
   obtain ⟨u, vs', e', h2, h3, h4, h5⟩ := opdK_true h1 R.v R.st
   obtain ⟨v, vs2, e2, h6, h7, h8, h9⟩ := opdK_true h5 h3 R.st
   obtain ⟨r, h', σ', wr', h10, h11, h12, h13⟩ := hq u v h _ s.σ s.wr R.h h9
   obtain ⟨t, h10⟩ := h10 cf
   have hg : xgetAll o.xs s.vs s.st = some ([toI u, toI v], vs2) := by rw [hx]; simp only [xgetAll, h2, h6]
   exact ⟨r, e2, st, h', false, _, xop_of hne hg h10, ⟨h7, R.st, by rw [h8, h4]; exact R.ds, h11⟩, h12, Or.inl ⟨rfl, h13⟩⟩
 | hL f =>
   have hne : ¬ ∃ x i, o.op = .extract x i := fun h => by obtain ⟨i, e⟩ := hex h; cases e
   obtain ⟨l, vs', e', h1, h2, h3, h4⟩ := opdsK_true (show opdsK (o.xs.map qopd) e st (fun l e => f l h fun r h => N r e st h) = true from hk) R.v R.st
   obtain ⟨r, h', σ', wr', h5, h6, h7, h8⟩ := hq l h _ s.σ s.wr R.h h4 (by rw [xgetAll_len h1, hl])
   obtain ⟨t, h5⟩ := h5 cf
   exact ⟨r, e', st, h', false, _, xop_of hne h1 h5, ⟨h2, R.st, by rw [h3]; exact R.ds, h6⟩, h7, Or.inl ⟨rfl, h8⟩⟩
end
end Go.Idl
namespace Go.Idl
noncomputable section
set_option maxHeartbeats 100000
inductive QDst where
 | push
 | var (ix : Ix)
 | drop
def qdst : XDst -> QDst
 | .push => .push
 | .var i => .var (ixOf i)
 | .drop => .drop
inductive QOper where
 | mk (q : QOp) (xs : List QOpd) (pop : Nat) (dst : QDst) (g : Option (QOpd × Bool)) (nr qt : Bool) (rk : Nat)
def isNr : IOp -> Bool
 | .append br _ _ _ _ _ => !br
 | .conv _ _ => true
 | _ => false
def rdKind : IOp -> Nat
 | .load _ _ _ => 1
 | .lookup _ _ _ _ _ => 2
 | .lenM _ => 3
 | _ => 0
def qstep (o : XOper) : QOp := @Bool.rec (fun _ => QOp) .bad (qop o.op) (Nat.beq o.xs.length (opdsOf o.op).length)
def qg (g : Option (XOpd × Bool)) : Option (QOpd × Bool) := match g with | none => none | some (x, b) => some (qopd x, b)
def qoper (o : XOper) : QOper := .mk (qstep o) (o.xs.map qopd) o.pop (qdst o.dst) (qg o.g) (isNr o.op) (quiet o.op) (rdKind o.op)
theorem qop_extr {o : IOp} (h : ∃ x i, o = .extract x i) : ∃ i, qop o = .extr i := by
 obtain ⟨x, i, rfl⟩ := h
 exact ⟨i, rfl⟩
def putQ (pop : Nat) (dst : QDst) (r : U) (e : Env) (st : U) (h : H) (N : NK) : Ans := popK pop st fun st => @QDst.rec (fun _ => U -> Env -> U -> H -> NK -> Ans)
 (fun r e st h N => N e (.cn r st) h) (fun ix r e st h N => setIx ix e r fun e => N e st h) (fun _ e st h N => N e st h) dst r e st h N
theorem putQ_true {o : XOper} {r : U} {e : Env} {st : U} {h : H} {N : NK} {s : XS} (hk : putQ o.pop (qdst o.dst) r e st h N = true) (R : QR e st h s) : ∃ e' st', QR e' st' h (xput o (toI r) s) /\ N e' st' h = true := by
 obtain ⟨st1, h1, h2⟩ := popK_true hk R.st
 unfold xput
 cases hd : o.dst with
 | push =>
   rw [hd] at h2
   exact ⟨e, .cn r st1, ⟨R.v, (show toI r = toI r /\ StR st1 _ from ⟨rfl, h1⟩), R.ds, R.h⟩, h2⟩
 | var i =>
   rw [hd] at h2
   have h2 : setIx (ixOf i) e r (fun e => N e st1 h) = true := h2
   rw [setIx_eq, ixN_of] at h2
   exact ⟨_, st1, ⟨R.v.set i r, h1, by rw [dsU_eset]; exact R.ds, R.h⟩, h2⟩
 | drop =>
   rw [hd] at h2
   exact ⟨e, st1, ⟨R.v, h1, R.ds, R.h⟩, h2⟩
theorem toO_bool {t a b c d : Nat} {x : U} {v : Bool} : toI (.o t a b c d x) ≠ .bool v := by
 simp only [toI, toT]
 unfold toO
 split <;> (intro h; cases h)
theorem toO_ptr {t a b c d : Nat} {x : U} {id off : Nat} (h : toI (.o t a b c d x) = .ptr id off) : t = 1 /\ a = id := by
 simp only [toI, toT] at h
 unfold toO at h
 split at h <;> first | (cases h; exact ⟨rfl, rfl⟩) | cases h
theorem toO_map {t a b c d : Nat} {x : U} {id : Nat} (h : toI (.o t a b c d x) = .map id) : t = 3 /\ a = id := by
 simp only [toI, toT] at h
 unfold toO at h
 split at h <;> first | (cases h; exact ⟨rfl, rfl⟩) | cases h
def beqB (a b : Bool) : Bool := @Bool.rec (fun _ => Bool) (@Bool.rec (fun _ => Bool) true false b) b a
theorem beqB_eq (a b : Bool) : beqB a b = (a == b) := by cases a <;> cases b <;> rfl
def guardQ (g : Option (QOpd × Bool)) (e : Env) (st : U) (D S : Ans) : Ans := @Option.rec (QOpd × Bool) (fun _ => Env -> U -> Ans -> Ans -> Ans) (fun _ _ D _ => D)
 (fun p e st D S => opdK p.1 e st fun v _ => (@U.rec (fun _ => Bool -> Ans -> Ans -> Ans) (fun _ _ => fun _ _ S => S) (fun x => fun b D S => @Bool.rec (fun _ => Ans) S D (beqB x b)) (fun _ _ => fun _ _ S => S) (fun _ _ _ _ _ _ _ => fun _ _ S => S) (fun _ _ S => S) (fun _ _ _ _ => fun _ _ S => S) (fun _ _ _ _ _ _ => fun _ _ S => S) (fun v => fun _ _ _ => false) (fun _ _ _ _ _ _ _ => fun _ _ S => S) v) p.2 D S) g e st D S
theorem guardQ_true {g : Option (XOpd × Bool)} {e : Env} {st : U} {D S : Ans} {vs : AL} {l : List IVal} (h : guardQ (qg g) e st D S = true) (hv0 : VarQ e vs) (R : StR st l) : (xwant g vs l = some true /\ D = true) \/ (xwant g vs l = some false /\ S = true) := by
 cases g with
 | none => exact Or.inl ⟨rfl, h⟩
 | some p =>
   obtain ⟨d, b⟩ := p
   obtain ⟨v, _, _, h1, _, _, h2⟩ := opdK_true (show opdK (qopd d) e st (fun v _ => (@U.rec (fun _ => Bool -> Ans -> Ans -> Ans) (fun _ _ => fun _ _ S => S) (fun x => fun b D S => @Bool.rec (fun _ => Ans) S D (beqB x b)) (fun _ _ => fun _ _ S => S) (fun _ _ _ _ _ _ _ => fun _ _ S => S) (fun _ _ S => S) (fun _ _ _ _ => fun _ _ S => S) (fun _ _ _ _ _ _ => fun _ _ S => S) (fun v => fun _ _ _ => false) (fun _ _ _ _ _ _ _ => fun _ _ S => S) v) b D S) = true from h) hv0 R
   cases v with
   | b x =>
     rcases brec_true (show @Bool.rec (fun _ => Ans) S D (beqB x b) = true from h2) with ⟨h3, h4⟩ | ⟨h3, h4⟩
     . rw [beqB_eq] at h3
       exact Or.inl ⟨by simp only [xwant, h1, toI_b, h3], h4⟩
     . rw [beqB_eq] at h3
       exact Or.inr ⟨by simp only [xwant, h1, toI_b, h3], h4⟩
   | z v => cases h2
   | o t a b c d x =>
     refine Or.inr ⟨?_, h2⟩
     cases hv : toI (.o t a b c d x) with
     | bool q => exact absurd hv toO_bool
     | _ => simp only [xwant, h1, hv]
   | _ => exact Or.inr ⟨by simp only [xwant, h1]; rfl, h2⟩
theorem qstep_ok (o : XOper) : QOK o.op (qstep o) /\ ((∃ x i, o.op = .extract x i) -> ∃ i, qstep o = .extr i) /\ o.xs.length = (opdsOf o.op).length \/ qstep o = .bad := by
 unfold qstep
 rw [brec]
 split
 . rename_i h
   exact Or.inl ⟨qop_ok o.op, qop_extr, zN h⟩
 . exact Or.inr rfl
theorem doQ_true {cf : CallF} {cq : CQ} {yq : YQ} (hc : CYS cf cq yq) {o : XOper} {e : Env} {st : U} {h : H} {s : XS} (R : QR e st h s) {N : NV} {P : PV}
   (hk : opQ (qstep o) (o.xs.map qopd) cq yq e st h N P = true) : ∃ r e' st' h' p s', xop cf o s = some ⟨p, toI r, s'⟩ /\ QR e' st' h' s' /\ h'.tr = h.tr /\ (p = false /\ N r e' st' h' = true \/ p = true /\ P r e' h' = true) := by
 rcases qstep_ok o with ⟨h1, h2, h3⟩ | h1
 . exact opQ_true hc h1 h2 h3 R hk
 . rw [h1] at hk; cases hk
def runL (l : List QOper) (cq : CQ) (yq : YQ) (e : Env) (st : U) (h : H) (N : NK) (P : PV) : Ans := @List.rec QOper (fun _ => CQ -> YQ -> Env -> U -> H -> NK -> PV -> Ans)
 (fun _ _ e st h N _ => N e st h)
 (fun o _ ih cq yq e st h N P => @QOper.rec (fun _ => (CQ -> YQ -> Env -> U -> H -> NK -> PV -> Ans) -> CQ -> YQ -> Env -> U -> H -> NK -> PV -> Ans) (fun q xs pop dst g _ _ _ ih cq yq e st h N P =>
   guardQ g e st (opQ q xs cq yq e st h (fun r e st h => putQ pop dst r e st h fun e st h => ih cq yq e st h N P) P) (putQ pop dst undefU e st h fun e st h => ih cq yq e st h N P)) o ih cq yq e st h N P) l cq yq e st h N P
theorem runL_true {cf : CallF} {cq : CQ} {yq : YQ} (hc : CYS cf cq yq) : ∀ {l : List XOper} {e : Env} {st : U} {h : H} {s : XS} {N : NK} {P : PV}, QR e st h s -> runL (l.map qoper) cq yq e st h N P = true ->
   (∃ e' st' h' s', xrun cf l s = some (.normal, s') /\ QR e' st' h' s' /\ h'.tr = h.tr /\ N e' st' h' = true) \/ (∃ r e' st' h' s', xrun cf l s = some (.panic (toI r), s') /\ QR e' st' h' s' /\ h'.tr = h.tr /\ P r e' h' = true) := by
 intro l
 induction l with
 | nil => intro e st h s N P R hk; exact Or.inl ⟨e, st, h, s, rfl, R, rfl, hk⟩
 | cons o l ih =>
   intro e st h s N P R hk
   rcases guardQ_true (show guardQ (qg o.g) e st (opQ (qstep o) (o.xs.map qopd) cq yq e st h (fun r e st h => putQ o.pop (qdst o.dst) r e st h fun e st h => runL (l.map qoper) cq yq e st h N P) P) (putQ o.pop (qdst o.dst) undefU e st h fun e st h => runL (l.map qoper) cq yq e st h N P) = true from hk) R.v R.st with ⟨h1, h2⟩ | ⟨h1, h2⟩
   . obtain ⟨r, e', st', h', p, s', h3, R1, h4, h5⟩ := doQ_true hc R h2
     rcases h5 with ⟨rfl, h6⟩ | ⟨rfl, h6⟩
     . obtain ⟨e2, st2, R2, h7⟩ := putQ_true h6 R1
       rcases ih R2 h7 with ⟨e3, st3, h3', s3, g1, g2, g3, g4⟩ | ⟨r3, e3, st3, h3', s3, g1, g2, g3, g4⟩
       . exact Or.inl ⟨e3, st3, h3', s3, by simp only [xrun, h1, h3, g1], g2, g3.trans h4, g4⟩
       . exact Or.inr ⟨r3, e3, st3, h3', s3, by simp only [xrun, h1, h3, g1], g2, g3.trans h4, g4⟩
     . exact Or.inr ⟨r, e', st', h', s', by simp only [xrun, h1, h3], R1, h4, h6⟩
   . obtain ⟨e2, st2, R2, h7⟩ := putQ_true h2 R
     rw [undefU_ok] at R2
     rcases ih R2 h7 with ⟨e3, st3, h3', s3, g1, g2, g3, g4⟩ | ⟨r3, e3, st3, h3', s3, g1, g2, g3, g4⟩
     . exact Or.inl ⟨e3, st3, h3', s3, by simp only [xrun, h1, g1], g2, g3, g4⟩
     . exact Or.inr ⟨r3, e3, st3, h3', s3, by simp only [xrun, h1, g1], g2, g3, g4⟩
def comb (a b : Nat) : Nat := @Bool.rec (fun _ => Nat) (@Bool.rec (fun _ => Nat) (@Bool.rec (fun _ => Nat) b a (Nat.blt a b)) a (Nat.beq b 0)) b (Nat.beq a 0)
theorem comb_ok (a b n0 : Nat) : (comb a b = 0 \/ n0 < comb a b) ↔ ((a = 0 \/ n0 < a) /\ (b = 0 \/ n0 < b)) := by
 unfold comb
 rw [brec, brec, brec]
 split
 . rename_i h; have := zN h; subst this; simp
 . rename_i h1
   have h1 : a ≠ 0 := fun e => by subst e; exact h1 rfl
   split
   . rename_i h; have := zN h; subst this; simp
   . rename_i h2
     have h2 : b ≠ 0 := fun e => by subst e; exact h2 rfl
     split
     . rename_i h; have := blt_true h; omega
     . rename_i h
       have h : Nat.blt a b = false := by cases hh : Nat.blt a b with | false => rfl | true => exact absurd hh h
       have := blt_false h; omega
def joinW (tr : Bool) (a b : List Nat) : List Nat := @Bool.rec (fun _ => List Nat) b (a ++ b) tr
theorem HR.fresh {h : H} {σ : List IObj} {wr : List (Nat × Bool)} (R : HR h σ wr) (tr : Bool) (ws : List Nat) : HR ⟨h.n, h.t, 0, tr, ws⟩ σ [] := ⟨R.len, R.obs, fun _ p hp => (by cases hp), fun n0 => (by simp)⟩
theorem HR.join {h h' : H} {σ σ' : List IObj} {wr wr' : List (Nat × Bool)} (R : HR h σ wr) (R' : HR h' σ' wr') (ht : h.tr = true -> h'.tr = true) : HR ⟨h'.n, h'.t, comb h'.mn h.mn, h.tr, joinW h.tr h'.ws h.ws⟩ σ' (wr' ++ wr) := by
 refine ⟨R'.len, R'.obs, fun htr p hp => ?_, fun n0 => ?_⟩
 . have htr : h.tr = true := htr
   show p.1 ∈ joinW h.tr h'.ws h.ws
   rw [htr]
   rcases List.mem_append.1 hp with hp | hp
   . exact List.mem_append_left _ (R'.hwr (ht htr) p hp)
   . exact List.mem_append_right _ (R.hwr htr p hp)
 . rw [List.all_append, zA, R'.hmn n0, R.hmn n0]
   exact (comb_ok _ _ _).symm
def plainU (u : U) : Bool := (@U.rec (fun _ => Bool) (fun _ _ => true) (fun _ => true) (fun _ _ => true) (fun t a b c d x _ => notB (Nat.beq t 2)) (true) (fun _ _ _ _ => true) (fun _ _ _ _ _ _ => true) (fun v => false) (fun _ _ _ _ _ _ _ => true) u)
theorem plainU_ok {u : U} (h : plainU u = true) : ∀ e id off len, toI u ≠ .rs e id off len := by
 intro e id off len
 cases u with
 | o t a b c d x =>
   have h : notB (Nat.beq t 2) = true := h
   have h2 : t ≠ 2 := fun e => by subst e; cases h
   simp only [toI, toT]
   unfold toO
   split <;> first | (exact absurd rfl h2) | (intro h; cases h)
 | z v => cases h
 | _ => intro h; cases h
theorem noRsV_of {op : IOp} {l : U} (h : allU plainU l = true) : noRsV op (toL l) = true := by
 have hall : ∀ v ∈ toL l, ∀ e id off len, v ≠ .rs e id off len := by
   intro v hv
   have : ∀ {l : U}, allU plainU l = true -> ∀ v ∈ toL l, ∀ e id off len, v ≠ .rs e id off len := by
     intro l
     induction l with
     | cn u r _ ih =>
       intro h v hv
       have h : @Bool.rec (fun _ => Bool) false (allU plainU r) (plainU u) = true := h
       rw [brec] at h
       split at h
       . rename_i hu
         rw [toL_cn] at hv
         rcases List.mem_cons.1 hv with rfl | hv
         . exact plainU_ok hu
         . exact ih h v hv
       . cases h
     | _ => intro _ v hv; cases hv
   exact this h v hv
 unfold noRsV
 split
 . rfl
 . rename_i e; exact absurd rfl (hall _ (by rw [e]; exact List.mem_cons_of_mem _ List.mem_cons_self) _ _ _ _)
 . rename_i e; exact absurd rfl (hall _ (by rw [e]; exact List.mem_cons_self) _ _ _ _)
 . rfl
theorem noRsV_not {op : IOp} (h : isNr op = false) (vals : List IVal) : noRsV op vals = true := by
 cases op
 case append br _ _ _ _ _ => cases br <;> first | rfl | cases h
 all_goals first | rfl | cases h
structure QL where
 i : Nat
 rd : Option Nat
 ws : List Nat
 len : Nat
def rdQ (k : Nat) (l : U) (K : Option Nat -> Ans) : Ans := @Nat.rec (fun _ => U -> (Option Nat -> Ans) -> Ans) (fun _ K => K none)
 (fun k _ l K => uC l false fun u _ => (@U.rec (fun _ => Nat -> (Option Nat -> Ans) -> Ans) (fun _ _ => fun _ K => K none) (fun _ => fun _ K => K none) (fun _ _ => fun _ K => K none) (fun t a b c d x _ => fun k K => @Bool.rec (fun _ => Ans) (K none) (K (some a)) (Nat.beq t (@Bool.rec (fun _ => Nat) 3 1 (Nat.beq k 0)))) (fun _ K => K none) (fun _ _ _ _ => fun _ K => K none) (fun _ _ _ _ _ _ => fun _ K => K none) (fun v => fun _ _ => false) (fun _ _ _ _ _ _ _ => fun _ K => K none) u) k K) k l K
theorem rdV_0 {op : IOp} (h : rdKind op = 0) (vals : List IVal) : rdV op vals = none := by
 cases op <;> first | rfl | cases h
theorem rdV_load {m : Bool} {n : Option Nat} {x : Opd} {v : IVal} (h : ∀ id off, v ≠ .ptr id off) : rdV (.load m n x) [v] = none := by cases v <;> first | rfl | exact absurd rfl (h _ _)
theorem rdV_lookup {kk : Nat} {z : IVal} {ok : Bool} {x k : Opd} {v w : IVal} (h : ∀ id, v ≠ .map id) : rdV (.lookup kk z ok x k) [v, w] = none := by cases v <;> first | rfl | exact absurd rfl (h _)
theorem rdV_lenM {x : Opd} {v : IVal} (h : ∀ id, v ≠ .map id) : rdV (.lenM x) [v] = none := by cases v <;> first | rfl | exact absurd rfl (h _)
theorem rdQ_true {op : IOp} {l : U} {K : Option Nat -> Ans} (hl : (toL l).length = (opdsOf op).length) (h : rdQ (rdKind op) l K = true) : K (rdV op (toL l)) = true := by
 by_cases h0 : rdKind op = 0
 . rw [rdV_0 h0]
   rw [h0] at h
   exact h
 . have hcases : (∃ m n x, op = .load m n x) \/ (∃ kk z ok x k, op = .lookup kk z ok x k) \/ (∃ x, op = .lenM x) := by
     cases op <;> first | exact absurd rfl h0 | exact Or.inl ⟨_, _, _, rfl⟩ | exact Or.inr (Or.inl ⟨_, _, _, _, _, rfl⟩) | exact Or.inr (Or.inr ⟨_, rfl⟩)
   rcases hcases with ⟨m, n, x, rfl⟩ | ⟨kk, z, ok, x, k, rfl⟩ | ⟨x, rfl⟩
   . rcases uC_true (show uC l false (fun u _ => (@U.rec (fun _ => Nat -> (Option Nat -> Ans) -> Ans) (fun _ _ => fun _ K => K none) (fun _ => fun _ K => K none) (fun _ _ => fun _ K => K none) (fun t a b c d x _ => fun k K => @Bool.rec (fun _ => Ans) (K none) (K (some a)) (Nat.beq t (@Bool.rec (fun _ => Nat) 3 1 (Nat.beq k 0)))) (fun _ K => K none) (fun _ _ _ _ => fun _ K => K none) (fun _ _ _ _ _ _ => fun _ K => K none) (fun v => fun _ _ => false) (fun _ _ _ _ _ _ _ => fun _ K => K none) u) 0 K) = true from h) with ⟨_, h2⟩ | ⟨u, r, rfl, h2⟩
     . cases h2
     have hr : toL r = [] := List.length_eq_zero_iff.1 (by rw [toL_cn] at hl; simpa [opdsOf] using hl)
     rw [toL_cn, hr]
     cases u with
     | o t a b c d y =>
       rcases brec_true (show @Bool.rec (fun _ => Ans) (K none) (K (some a)) (Nat.beq t 1) = true from h2) with ⟨h3, h4⟩ | ⟨h3, h4⟩
       . have := zN h3; subst this; exact h4
       . have h3 := zE h3
         have e : rdV (.load m n x) [toI (.o t a b c d y)] = none := rdV_load fun id off e => h3 (toO_ptr e).1
         rw [e]; exact h4
     | z v => cases h2
     | _ => exact h2
   . rcases uC_true (show uC l false (fun u _ => (@U.rec (fun _ => Nat -> (Option Nat -> Ans) -> Ans) (fun _ _ => fun _ K => K none) (fun _ => fun _ K => K none) (fun _ _ => fun _ K => K none) (fun t a b c d x _ => fun k K => @Bool.rec (fun _ => Ans) (K none) (K (some a)) (Nat.beq t (@Bool.rec (fun _ => Nat) 3 1 (Nat.beq k 0)))) (fun _ K => K none) (fun _ _ _ _ => fun _ K => K none) (fun _ _ _ _ _ _ => fun _ K => K none) (fun v => fun _ _ => false) (fun _ _ _ _ _ _ _ => fun _ K => K none) u) 1 K) = true from h) with ⟨_, h2⟩ | ⟨u, r, rfl, h2⟩
     . cases h2
     obtain ⟨w, hr⟩ : ∃ w, toL r = [w] := List.length_eq_one_iff.1 (by rw [toL_cn] at hl; simpa [opdsOf] using hl)
     rw [toL_cn, hr]
     cases u with
     | o t a b c d y =>
       rcases brec_true (show @Bool.rec (fun _ => Ans) (K none) (K (some a)) (Nat.beq t 3) = true from h2) with ⟨h3, h4⟩ | ⟨h3, h4⟩
       . have := zN h3; subst this; exact h4
       . have h3 := zE h3
         have e : rdV (.lookup kk z ok x k) [toI (.o t a b c d y), w] = none := rdV_lookup fun id e => h3 (toO_map e).1
         rw [e]; exact h4
     | z v => cases h2
     | _ => exact h2
   . rcases uC_true (show uC l false (fun u _ => (@U.rec (fun _ => Nat -> (Option Nat -> Ans) -> Ans) (fun _ _ => fun _ K => K none) (fun _ => fun _ K => K none) (fun _ _ => fun _ K => K none) (fun t a b c d x _ => fun k K => @Bool.rec (fun _ => Ans) (K none) (K (some a)) (Nat.beq t (@Bool.rec (fun _ => Nat) 3 1 (Nat.beq k 0)))) (fun _ K => K none) (fun _ _ _ _ => fun _ K => K none) (fun _ _ _ _ _ _ => fun _ K => K none) (fun v => fun _ _ => false) (fun _ _ _ _ _ _ _ => fun _ K => K none) u) 2 K) = true from h) with ⟨_, h2⟩ | ⟨u, r, rfl, h2⟩
     . cases h2
     have hr : toL r = [] := List.length_eq_zero_iff.1 (by rw [toL_cn] at hl; simpa [opdsOf] using hl)
     rw [toL_cn, hr]
     cases u with
     | o t a b c d y =>
       rcases brec_true (show @Bool.rec (fun _ => Ans) (K none) (K (some a)) (Nat.beq t 3) = true from h2) with ⟨h3, h4⟩ | ⟨h3, h4⟩
       . have := zN h3; subst this; exact h4
       . have h3 := zE h3
         have e : rdV (.lenM x) [toI (.o t a b c d y)] = none := rdV_lenM fun id e => h3 (toO_map e).1
         rw [e]; exact h4
     | z v => cases h2
     | _ => exact h2
end
end Go.Idl
namespace Go.Idl
noncomputable section
set_option maxHeartbeats 100000
theorem xop_opds {cf : CallF} {o : XOper} {s : XS} {r : XRes} (h : xop cf o s = some r) : ∃ vals vs, xgetAll o.xs s.vs s.st = some (vals, vs) := by
 by_cases he : ∃ x i, o.op = .extract x i
 . obtain ⟨op, xs, p, d, g⟩ := o
   obtain ⟨x, i, e⟩ := he
   simp only at e
   subst e
   simp only [xop] at h
   split at h
   . split at h
     . rename_i us vs hg
       exact ⟨[.tup us], vs, by simp only [xgetAll, hg]⟩
     . cases h
   . cases h
 . rw [xop_ne he] at h
   split at h
   . rename_i hg; exact ⟨_, _, hg⟩
   . cases h
def nrQ (nr : Bool) (xs : List QOpd) (e : Env) (st : U) (K : Ans) : Ans := @Bool.rec (fun _ => Ans) K (opdsK xs e st fun l _ => tst (allU plainU l) K) nr
theorem nrQ_true {o : XOper} {e : Env} {st : U} {h : H} {s : XS} {K : Ans} (hk : nrQ (isNr o.op) (o.xs.map qopd) e st K = true) (R : QR e st h s) : K = true /\ ∀ vals vs, xgetAll o.xs s.vs s.st = some (vals, vs) -> noRsV o.op vals = true := by
 rcases brec_true hk with ⟨h1, h2⟩ | ⟨h1, h2⟩
 . obtain ⟨l, vs', e', h3, _, _, h4⟩ := opdsK_true h2 R.v R.st
   obtain ⟨h5, h6⟩ := tst_true h4
   refine ⟨h6, fun vals vs hg => ?_⟩
   rw [h3] at hg
   cases hg
   exact noRsV_of h5
 . exact ⟨h2, fun vals vs _ => noRsV_not h1 vals⟩
def apart (tr' : Bool) (q : QOp) (xs : List QOpd) (pop : Nat) (dst : QDst) (cq : CQ) (yq : YQ) (e : Env) (st : U) (h : H) (N : Env -> U -> H -> List Nat -> Ans) : Ans :=
 hK h fun n t mn tr ws => opQ q xs cq yq e st ⟨n, t, 0, tr', []⟩ (fun r e st h' => hK h' fun n' t' mn' _ ws' => fN (comb mn' mn) fun m => putQ pop dst r e st ⟨n', t', m, tr, joinW tr ws' ws⟩ fun e st h => N e st h ws') fun _ _ _ => false
theorem apart_true {cf : CallF} {cq : CQ} {yq : YQ} (hc : CYS cf cq yq) {o : XOper} {tr' : Bool} {e : Env} {st : U} {h : H} {s : XS} (R : QR e st h s) (htr : h.tr = true -> tr' = true) {N : Env -> U -> H -> List Nat -> Ans}
   (hk : apart tr' (qstep o) (o.xs.map qopd) o.pop (qdst o.dst) cq yq e st h N = true) :
   ∃ v s1 e' st' h' ws, xop cf o { s with wr := [] } = some ⟨false, v, s1⟩ /\ QR e' st' h' { xput o v s1 with wr := s1.wr ++ s.wr } /\ h'.tr = h.tr /\ (tr' = true -> ∀ p ∈ s1.wr, p.1 ∈ ws) /\ N e' st' h' ws = true := by
 unfold apart at hk
 rw [hK_eq] at hk
 have R0 : QR e st ⟨h.n, h.t, 0, tr', []⟩ { s with wr := [] } := ⟨R.v, R.st, R.ds, R.h.fresh tr' []⟩
 obtain ⟨r, e1, st1, h1, p, s1, h2, R1, h3, h4⟩ := doQ_true hc R0 hk
 rcases h4 with ⟨rfl, h5⟩ | ⟨_, h5⟩
 . rw [hK_eq, fN_eq] at h5
   have ht1 : h1.tr = tr' := h3
   have RJ : QR e1 st1 ⟨h1.n, h1.t, comb h1.mn h.mn, h.tr, joinW h.tr h1.ws h.ws⟩ { s1 with wr := s1.wr ++ s.wr } := ⟨R1.v, R1.st, R1.ds, R.h.join R1.h (fun h => by rw [ht1]; exact htr h)⟩
   obtain ⟨e', st', R2, h6⟩ := putQ_true h5 RJ
   refine ⟨toI r, s1, e', st', ⟨h1.n, h1.t, comb h1.mn h.mn, h.tr, joinW h.tr h1.ws h.ws⟩, h1.ws, h2, ?_, rfl, fun ht => R1.h.hwr (by rw [ht1]; exact ht), h6⟩
   have e0 : xput o (toI r) { s1 with wr := s1.wr ++ s.wr } = { xput o (toI r) s1 with wr := s1.wr ++ s.wr } := by
     unfold xput; cases o.dst <;> rfl
   rw [<- e0]; exact R2
 . cases h5
def runD (l : List QOper) (cq : CQ) (yq : YQ) (e : Env) (st : U) (h : H) (N : NK) : Ans := @List.rec QOper (fun _ => CQ -> YQ -> Env -> U -> H -> NK -> Ans)
 (fun _ _ e st h N => N e st h)
 (fun o _ ih cq yq e st h N => @QOper.rec (fun _ => (CQ -> YQ -> Env -> U -> H -> NK -> Ans) -> CQ -> YQ -> Env -> U -> H -> NK -> Ans) (fun q xs pop dst g nr _ _ ih cq yq e st h N =>
   guardQ g e st (nrQ nr xs e st (hK h fun _ _ _ tr _ => apart tr q xs pop dst cq yq e st h fun e st h _ => ih cq yq e st h N)) (putQ pop dst undefU e st h fun e st h => ih cq yq e st h N)) o ih cq yq e st h N) l cq yq e st h N
theorem runD_true {cf : CallF} {cq : CQ} {yq : YQ} (hc : CYS cf cq yq) : ∀ {l : List (Nat × XOper)} {e : Env} {st : U} {h : H} {s : XS} {N : NK}, QR e st h s -> runD ((l.map (·.2)).map qoper) cq yq e st h N = true ->
   ∃ e' st' h' s' log, xrunDraw cf l s = some (s', log) /\ QR e' st' h' s' /\ h'.tr = h.tr /\ N e' st' h' = true := by
 intro l
 induction l with
 | nil => intro e st h s N R hk; exact ⟨e, st, h, s, [], rfl, R, rfl, hk⟩
 | cons p l ih =>
   intro e st h s N R hk
   obtain ⟨i, o⟩ := p
   rcases guardQ_true (show guardQ (qg o.g) e st (nrQ (isNr o.op) (o.xs.map qopd) e st (hK h fun _ _ _ tr _ => apart tr (qstep o) (o.xs.map qopd) o.pop (qdst o.dst) cq yq e st h fun e st h _ => runD ((l.map (·.2)).map qoper) cq yq e st h N)) (putQ o.pop (qdst o.dst) undefU e st h fun e st h => runD ((l.map (·.2)).map qoper) cq yq e st h N) = true from hk) R.v R.st with ⟨h1, h2⟩ | ⟨h1, h2⟩
   . obtain ⟨h3, h4⟩ := nrQ_true h2 R
     rw [hK_eq] at h3
     obtain ⟨v, s1, e', st', h', ws, h5, R1, h6, _, h7⟩ := apart_true (cf := cf) hc R id h3
     obtain ⟨vals, vs, hg⟩ := xop_opds h5
     have hno := h4 vals vs hg
     obtain ⟨e2, st2, h2', s2, log, g1, g2, g3, g4⟩ := ih R1 h7
     have hg' : xgetAll o.xs s.vs s.st = some (vals, vs) := hg
     refine ⟨e2, st2, h2', s2, (i, ⟨rdV o.op vals, s1.wr, if quiet o.op then 0 else s.σ.length⟩) :: log, ?_, g2, g3.trans h6, g4⟩
     have hd : xstepD cf o s = some ({ xput o v s1 with wr := s1.wr ++ s.wr }, ⟨rdV o.op vals, s1.wr, if quiet o.op then 0 else s.σ.length⟩) := by
       unfold xstepD
       rw [h1]
       simp only [hg']
       rw [if_pos hno, h5]
     simp only [xrunDraw, hd, g1]
   . obtain ⟨e', st', R1, h7⟩ := putQ_true h2 R
     rw [undefU_ok] at R1
     obtain ⟨e2, st2, h2', s2, log, g1, g2, g3, g4⟩ := ih R1 h7
     refine ⟨e2, st2, h2', s2, (i, ⟨none, [], 0⟩) :: log, ?_, g2, g3, g4⟩
     have hd : xstepD cf o s = some (xput o undefI s, ⟨none, [], 0⟩) := by unfold xstepD; rw [h1]
     simp only [xrunDraw, hd, g1]
def QLR (q : QL) (p : Nat × DLog) : Prop := q.i = p.1 /\ q.rd = p.2.rd /\ q.len = p.2.len /\ ∀ w ∈ p.2.wr, w.1 ∈ q.ws
def LogR : List QL -> List (Nat × DLog) -> Prop
 | [], [] => True
 | q :: qs, p :: ps => QLR q p /\ LogR qs ps
 | _, _ => False
def okQ (x y : QL) : Bool := match x.rd with
 | none => true
 | some id => decide (id < y.len) && y.ws.all fun w => w != id
def pairsQ (pairs : List (Nat × Nat)) (ls : List QL) : Bool := pairs.all fun p => ls.all fun x => x.i != p.1 || ls.all fun y => y.i != p.2 || okQ x y
theorem LogR.mem : ∀ {qs : List QL} {ps : List (Nat × DLog)}, LogR qs ps -> ∀ p ∈ ps, ∃ q ∈ qs, QLR q p := by
 intro qs
 induction qs with
 | nil => intro ps h p hp; cases ps with
   | nil => cases hp
   | cons _ _ => exact h.elim
 | cons q qs ih =>
   intro ps h p hp
   cases ps with
   | nil => cases hp
   | cons p' ps =>
     rcases List.mem_cons.1 hp with rfl | hp
     . exact ⟨q, List.mem_cons_self, h.1⟩
     . obtain ⟨q', h1, h2⟩ := ih h.2 p hp
       exact ⟨q', List.mem_cons_of_mem _ h1, h2⟩
theorem pairsQ_ok {pairs : List (Nat × Nat)} {qs : List QL} {ps : List (Nat × DLog)} (hR : LogR qs ps) (h : pairsQ pairs qs = true) : pairsOK pairs ps = true := by
 unfold pairsOK
 rw [List.all_eq_true]
 intro p hp
 rw [List.all_eq_true]
 intro x hx
 obtain ⟨qx, hqx, hx1, hx2, hx3, hx4⟩ := hR.mem x hx
 have h1 := List.all_eq_true.1 (List.all_eq_true.1 h p hp) qx hqx
 rw [Bool.or_eq_true] at h1 ⊢
 rcases h1 with h1 | h1
 . exact Or.inl (by rw [<- hx1]; exact h1)
 . refine Or.inr ?_
   rw [List.all_eq_true]
   intro y hy
   obtain ⟨qy, hqy, hy1, hy2, hy3, hy4⟩ := hR.mem y hy
   have h2 := List.all_eq_true.1 h1 qy hqy
   rw [Bool.or_eq_true] at h2 ⊢
   rcases h2 with h2 | h2
   . exact Or.inl (by rw [<- hy1]; exact h2)
   . refine Or.inr ?_
     unfold okQ at h2
     unfold okPair
     rw [hx2] at h2
     cases hr : x.2.rd with
     | none => rfl
     | some id =>
       rw [hr] at h2
       simp only [zA, decide_eq_true_eq] at h2 ⊢
       refine ⟨by rw [<- hy3]; exact h2.1, ?_⟩
       rw [List.all_eq_true]
       intro w hw
       exact List.all_eq_true.1 h2.2 w.1 (hy4 w hw)
def runDL (l : List (Nat × QOper)) (cq : CQ) (yq : YQ) (e : Env) (st : U) (h : H) (N : Env -> U -> H -> List QL -> Ans) : Ans := @List.rec (Nat × QOper) (fun _ => CQ -> YQ -> Env -> U -> H -> (Env -> U -> H -> List QL -> Ans) -> Ans)
 (fun _ _ e st h N => N e st h [])
 (fun o _ ih cq yq e st h N => @QOper.rec (fun _ => Nat -> (CQ -> YQ -> Env -> U -> H -> (Env -> U -> H -> List QL -> Ans) -> Ans) -> CQ -> YQ -> Env -> U -> H -> (Env -> U -> H -> List QL -> Ans) -> Ans) (fun q xs pop dst g nr qt rk i ih cq yq e st h N =>
   guardQ g e st (opdsK xs e st fun l _ => tst (@Bool.rec (fun _ => Bool) true (allU plainU l) nr) (rdQ rk l fun rd => hK h fun n _ _ _ _ => apart true q xs pop dst cq yq e st h fun e st h ws => ih cq yq e st h fun e st h ls => N e st h (⟨i, rd, ws, @Bool.rec (fun _ => Nat) n 0 qt⟩ :: ls)))
     (putQ pop dst undefU e st h fun e st h => ih cq yq e st h fun e st h ls => N e st h (⟨i, none, [], 0⟩ :: ls))) o.2 o.1 ih cq yq e st h N) l cq yq e st h N
theorem runDL_true {cf : CallF} {cq : CQ} {yq : YQ} (hc : CYS cf cq yq) : ∀ {l : List (Nat × XOper)} {e : Env} {st : U} {h : H} {s : XS} {N : Env -> U -> H -> List QL -> Ans}, (∀ p ∈ l, p.2.xs.length = (opdsOf p.2.op).length) -> QR e st h s -> runDL (l.map fun p => (p.1, qoper p.2)) cq yq e st h N = true ->
   ∃ e' st' h' s' log ls, xrunDraw cf l s = some (s', log) /\ LogR ls log /\ QR e' st' h' s' /\ h'.tr = h.tr /\ N e' st' h' ls = true := by
 intro l
 induction l with
 | nil => intro e st h s N _ R hk; exact ⟨e, st, h, s, [], [], rfl, trivial, R, rfl, hk⟩
 | cons p l ih =>
   intro e st h s N hlen R hk
   obtain ⟨i, o⟩ := p
   have hlo : o.xs.length = (opdsOf o.op).length := hlen (i, o) List.mem_cons_self
   have hll : ∀ p ∈ l, p.2.xs.length = (opdsOf p.2.op).length := fun p hp => hlen p (List.mem_cons_of_mem _ hp)
   rcases guardQ_true (show guardQ (qg o.g) e st (opdsK (o.xs.map qopd) e st fun l' _ => tst (@Bool.rec (fun _ => Bool) true (allU plainU l') (isNr o.op)) (rdQ (rdKind o.op) l' fun rd => hK h fun n _ _ _ _ => apart true (qstep o) (o.xs.map qopd) o.pop (qdst o.dst) cq yq e st h fun e st h ws => runDL (l.map fun p => (p.1, qoper p.2)) cq yq e st h fun e st h ls => N e st h (⟨i, rd, ws, @Bool.rec (fun _ => Nat) n 0 (quiet o.op)⟩ :: ls)))
     (putQ o.pop (qdst o.dst) undefU e st h fun e st h => runDL (l.map fun p => (p.1, qoper p.2)) cq yq e st h fun e st h ls => N e st h (⟨i, none, [], 0⟩ :: ls)) = true from hk) R.v R.st with ⟨h1, h2⟩ | ⟨h1, h2⟩
   . obtain ⟨l', vs', e0, h3, _, _, h4⟩ := opdsK_true h2 R.v R.st
     obtain ⟨h5, h6⟩ := tst_true h4
     have h7 := rdQ_true (by rw [xgetAll_len h3, hlo]) h6
     rw [hK_eq] at h7
     have hno : noRsV o.op (toL l') = true := by
       cases hnr : isNr o.op with
       | true => rw [hnr] at h5; exact noRsV_of h5
       | false => exact noRsV_not hnr _
     obtain ⟨v, s1, e', st', h', ws, h8, R1, h9, h10, h11⟩ := apart_true (cf := cf) hc R (fun _ => rfl) h7
     obtain ⟨e2, st2, h2', s2, log, ls, g1, g2, g3, g4, g5⟩ := ih hll R1 h11
     refine ⟨e2, st2, h2', s2, (i, ⟨rdV o.op (toL l'), s1.wr, if quiet o.op then 0 else s.σ.length⟩) :: log, ⟨i, rdV o.op (toL l'), ws, @Bool.rec (fun _ => Nat) h.n 0 (quiet o.op)⟩ :: ls, ?_, And.intro ⟨rfl, rfl, ?_, h10 rfl⟩ g2, g3, g4.trans h9, g5⟩
     . have hd : xstepD cf o s = some ({ xput o v s1 with wr := s1.wr ++ s.wr }, ⟨rdV o.op (toL l'), s1.wr, if quiet o.op then 0 else s.σ.length⟩) := by
         unfold xstepD
         rw [h1]
         simp only [h3]
         rw [if_pos hno, h8]
       simp only [xrunDraw, hd, g1]
     . show @Bool.rec (fun _ => Nat) h.n 0 (quiet o.op) = if quiet o.op then 0 else s.σ.length
       rw [brec, R.h.len]
   . obtain ⟨e', st', R1, h7⟩ := putQ_true h2 R
     rw [undefU_ok] at R1
     obtain ⟨e2, st2, h2', s2, log, ls, g1, g2, g3, g4, g5⟩ := ih hll R1 h7
     refine ⟨e2, st2, h2', s2, (i, ⟨none, [], 0⟩) :: log, ⟨i, none, [], 0⟩ :: ls, ?_, And.intro ⟨rfl, rfl, rfl, fun w hw => by cases hw⟩ g2, g3, g4, g5⟩
     have hd : xstepD cf o s = some (xput o undefI s, ⟨none, [], 0⟩) := by unfold xstepD; rw [h1]
     simp only [xrunDraw, hd, g1]
end
end Go.Idl
namespace Go.Idl
noncomputable section
set_option maxHeartbeats 100000
theorem HR.congr {h : H} {σ : List IObj} {wr wr' : List (Nat × Bool)} (R : HR h σ wr) (hm : ∀ p, p ∈ wr' ↔ p ∈ wr) : HR h σ wr' := by
 refine ⟨R.len, R.obs, fun ht p hp => R.hwr ht p ((hm p).1 hp), fun n0 => ?_⟩
 rw [<- R.hmn n0, List.all_eq_true, List.all_eq_true]
 exact ⟨fun h p hp => h p ((hm p).2 hp), fun h p hp => h p ((hm p).1 hp)⟩
def filt (n m : Nat) : Nat := @Bool.rec (fun _ => Nat) (@Bool.rec (fun _ => Nat) 0 m (Nat.blt (Nat.sub m 1) n)) 0 (Nat.beq m 0)
theorem filt_ok {wr : List (Nat × Bool)} {m : Nat} (h : ∀ n0, (wr.all fun p => !p.2 || decide (n0 <= p.1)) = true ↔ (m = 0 \/ n0 < m)) (n n0 : Nat) :
   ((wr.filter fun p => decide (p.1 < n)).all fun p => !p.2 || decide (n0 <= p.1)) = true ↔ (filt n m = 0 \/ n0 < filt n m) := by
 have hall : ∀ n0, (m = 0 \/ n0 < m) -> ∀ p ∈ wr, p.2 = true -> n0 <= p.1 := by
   intro n0 h1 p hp h2
   have := List.all_eq_true.1 ((h n0).2 h1) p hp
   rw [h2] at this
   simpa using this
 unfold filt
 rw [brec, brec, nsub]
 split
 . rename_i hb
   have hm := zN hb
   subst hm
   refine ⟨fun _ => Or.inl rfl, fun _ => ?_⟩
   rw [List.all_eq_true]
   intro p hp
   have hp := (List.mem_filter.1 hp).1
   cases h2 : p.2 with
   | false => rfl
   | true =>
     have := hall (p.1 + 1) (Or.inl rfl) p hp h2
     omega
 . rename_i hb
   have hm : m ≠ 0 := fun e => by subst e; exact hb rfl
   split
   . rename_i h1
     have h1 := blt_true h1
     constructor
     . intro h2
       refine Or.inr ?_
       -- one that is marked has the least number
       have h3 : ¬ (wr.all fun p => !p.2 || decide (m <= p.1)) = true := by rw [h m]; omega
       rw [List.all_eq_true] at h3
       have h4 : ∃ p ∈ wr, p.2 = true /\ p.1 < m := by
         refine Classical.byContradiction fun hne => h3 fun p hp => ?_
         cases hp2 : p.2 with
         | false => rfl
         | true =>
           have : m <= p.1 := by
             rcases Nat.lt_or_ge p.1 m with hlt | hge
             . exact absurd ⟨p, hp, hp2, hlt⟩ hne
             . exact hge
           simpa using this
       obtain ⟨p, hp, hp2, hp3⟩ := h4
       have := List.all_eq_true.1 h2 p (List.mem_filter.2 ⟨hp, by simp; omega⟩)
       rw [hp2] at this
       simp at this
       omega
     . intro h2
       have h2 : n0 < m := by rcases h2 with h2 | h2; exact absurd h2 hm; exact h2
       rw [List.all_eq_true]
       intro p hp
       have hp := (List.mem_filter.1 hp).1
       cases hp2 : p.2 with
       | false => rfl
       | true => have := hall n0 (Or.inr h2) p hp hp2; simpa using this
   . rename_i h1
     have h1 : ¬ m - 1 < n := fun e => h1 (blt_iff.2 e)
     refine ⟨fun _ => Or.inl rfl, fun _ => ?_⟩
     rw [List.all_eq_true]
     intro p hp
     obtain ⟨hp, hpn⟩ := List.mem_filter.1 hp
     cases hp2 : p.2 with
     | false => rfl
     | true =>
       have := hall (m - 1) (Or.inr (by omega)) p hp hp2
       simp at hpn
       omega
def finQ (n mn : Nat) (tr : Bool) (ws : List Nat) (v : U) (h : H) (K : KH) : Ans := hK h fun n' t' mn' _ ws' => tst (Nat.ble n n')
 (@Bool.rec (fun _ => Ans) (fN (comb (filt n mn') mn) fun m => K v ⟨n', t', m, tr, joinW tr ws' ws⟩) (K v ⟨n, t', mn, tr, joinW tr ws' ws⟩)
   (@Bool.rec (fun _ => Bool) false (@Bool.rec (fun _ => Bool) (Nat.blt n mn') true (Nat.beq mn' 0)) (nr3U v)))
theorem finQ_true {h h' : H} {σ σ' : List IObj} {wr wr' : List (Nat × Bool)} (R : HR h σ wr) (R' : HR h' σ' wr') (ht : h'.tr = h.tr) {v : U} {K : KH} (hk : finQ h.n h.mn h.tr h.ws v h' K = true) (pan : Bool) :
   ∃ h2, HR h2 (finish σ.length pan (toI v) ⟨ts0, σ', wr'⟩).σ ((finish σ.length pan (toI v) ⟨ts0, σ', wr'⟩).wr ++ wr) /\ h2.tr = h.tr /\ K v h2 = true := by
 unfold finQ at hk
 rw [hK_eq] at hk
 obtain ⟨h1, h2⟩ := tst_true hk
 have h1 := ble_iff.1 h1
 have hws : ∀ {f : List (Nat × Bool)}, (∀ p ∈ f, p ∈ wr') -> h.tr = true -> ∀ p ∈ f ++ wr, p.1 ∈ joinW h.tr h'.ws h.ws := by
   intro f hf htr p hp
   rw [htr]
   rcases List.mem_append.1 hp with hp | hp
   . exact List.mem_append_left _ (R'.hwr (by rw [ht]; exact htr) p (hf p hp))
   . exact List.mem_append_right _ (R.hwr htr p hp)
 have hsub : ∀ p ∈ wr'.filter (fun p => decide (p.1 < σ.length)), p ∈ wr' := fun p hp => (List.mem_filter.1 hp).1
 have hlen := R.len
 rcases brec_true h2 with ⟨h3, h4⟩ | ⟨h3, h4⟩
 . -- all that nobody sees any more goes
   have h5 : nr3 (toI v) = true /\ (h'.mn = 0 \/ h.n < h'.mn) := by
     rw [brec] at h3
     split at h3
     . rename_i hn
       refine ⟨by rw [<- nr3U_ok]; exact hn, ?_⟩
       rw [brec] at h3
       split at h3
       . rename_i hb; exact Or.inl (zN hb)
       . exact Or.inr (blt_true h3)
     . cases h3
   have hall := (R'.hmn h.n).2 h5.2
   have hc : (nr3 (toI v) && wr'.all fun p => !p.2 || decide (σ.length <= p.1)) = true := by rw [h5.1, hlen, hall]; rfl
   have hf : finish σ.length pan (toI v) ⟨ts0, σ', wr'⟩ = ⟨pan, toI v, σ'.take σ.length, wr'.filter fun p => decide (p.1 < σ.length)⟩ := by
     unfold finish; simp only; rw [if_pos hc]
   rw [hf]
   refine ⟨⟨h.n, h'.t, h.mn, h.tr, joinW h.tr h'.ws h.ws⟩, ⟨?_, ?_, hws hsub, fun n0 => ?_⟩, rfl, h4⟩
   . show (σ'.take σ.length).length = h.n
     rw [List.length_take, hlen, R'.len]; omega
   . intro i ob hi
     rw [List.getElem?_take] at hi
     split at hi
     . exact R'.obs i ob hi
     . cases hi
   . rw [List.all_append, zA, R.hmn n0]
     refine ⟨fun h => h.2, fun h => ⟨?_, h⟩⟩
     rw [List.all_eq_true]
     intro p hp
     obtain ⟨hp1, hp2⟩ := List.mem_filter.1 hp
     have := List.all_eq_true.1 hall p hp1
     cases hp3 : p.2 with
     | false => rfl
     | true =>
       rw [hp3] at this
       simp at this hp2
       omega
 . rw [fN_eq] at h4
   have hc : ¬ (nr3 (toI v) && wr'.all fun p => !p.2 || decide (σ.length <= p.1)) = true := by
     rw [zA, hlen, R'.hmn h.n]
     rintro ⟨h5, h6⟩
     rw [nr3U_ok, h5] at h3
     have h3 : @Bool.rec (fun _ => Bool) (Nat.blt h.n h'.mn) true (Nat.beq h'.mn 0) = false := h3
     rw [brec] at h3
     split at h3
     . cases h3
     . rename_i hb
       have h3 := blt_false h3
       rcases h6 with h6 | h6
       . rw [h6] at hb; exact hb rfl
       . omega
   have hf : finish σ.length pan (toI v) ⟨ts0, σ', wr'⟩ = ⟨pan, toI v, σ', wr'.filter fun p => decide (p.1 < σ.length)⟩ := by
     unfold finish; simp only; rw [if_neg hc]
   rw [hf]
   refine ⟨⟨h'.n, h'.t, comb (filt h.n h'.mn) h.mn, h.tr, joinW h.tr h'.ws h.ws⟩, ⟨R'.len, R'.obs, hws hsub, fun n0 => ?_⟩, rfl, h4⟩
   rw [List.all_append, zA, R.hmn n0, filt_ok R'.hmn, hlen]
   exact (comb_ok _ _ _).symm
def shutQ (ds : U) : H -> (H -> Ans) -> Ans := @U.rec (fun _ => H -> (H -> Ans) -> Ans) (fun _ _ _ _ => false) (fun _ _ _ => false) (fun _ _ _ _ => false) (fun _ _ _ _ _ _ _ _ _ => false) (fun h K => K h)
 (fun v _ _ ih h K => uO v fun _ a _ _ _ _ => hget a h fun ob => uO ob fun t _ _ _ _ _ => tst (Nat.beq t 4) (hput a .nl false h fun h => ih h K)) (fun _ _ _ _ _ _ _ _ => false) (fun _ _ _ => false) (fun _ _ _ _ _ _ _ _ _ => false) ds
theorem shutQ_true : ∀ {ds : U} {l : List Nat} {h : H} {K : H -> Ans} {σ : List IObj} {wr : List (Nat × Bool)}, shutQ ds h K = true -> DsR ds l -> HR h σ wr ->
   ∃ σ' h', shut σ l = some σ' /\ HR h' σ' ((l.map fun id => (id, false)) ++ wr) /\ h'.tr = h.tr /\ K h' = true := by
 intro ds
 induction ds with
 | nl =>
   intro l h K σ wr hk hd R
   cases l with
   | nil => exact ⟨σ, h, rfl, R, rfl, hk⟩
   | cons _ _ => exact hd.elim
 | cn v r _ ih =>
   intro l h K σ wr hk hd R
   obtain ⟨t, a, b, c, d, x, rfl, h1⟩ := uO_true (show uO v (fun _ a _ _ _ _ => hget a h fun ob => uO ob fun t _ _ _ _ _ => tst (Nat.beq t 4) (hput a .nl false h fun h => shutQ r h K)) = true from hk)
   cases l with
   | nil => simp [DsR] at hd
   | cons id l =>
     have ht : t = 4 := by
       by_cases e : t = 4
       . exact e
       . exfalso
         unfold DsR at hd
         split at hd
         . rename_i e1 _; cases e1
         . rename_i e1 _; cases e1; exact e rfl
         . exact hd
     subst ht
     have hd1 : a = id /\ DsR r l := hd
     obtain ⟨rfl, hd2⟩ := hd1
     obtain ⟨ob, o, h2, h3, h4⟩ := hget_true R h1
     obtain ⟨t', a', b', c', d', x', rfl, h5⟩ := uO_true h4
     obtain ⟨h6, h7⟩ := tst_true h5
     have := zN h6; subst this
     have ho : o = .defr := h3.o
     subst ho
     obtain ⟨h', h8, _, h9, h10⟩ := hput_true R h7 (o := .dead) rfl
     obtain ⟨σ', h'', g1, g2, g3, g4⟩ := ih h10 hd2 h8
     refine ⟨σ', h'', by simp only [shut, h2]; exact g1, g2.congr fun p => ?_, g3.trans h9, g4⟩
     simp only [List.map_cons, List.mem_append, List.mem_cons]
     constructor
     . rintro ((h | h) | h)
       . exact Or.inr (Or.inl h)
       . exact Or.inl h
       . exact Or.inr (Or.inr h)
     . rintro (h | h | h)
       . exact Or.inl (Or.inr h)
       . exact Or.inl (Or.inl h)
       . exact Or.inr h
 | _ => intro l h K σ wr hk; cases hk
def cellQ (n : Option Nat) (u : U) (h : H) (K : U -> H -> Ans) : Ans := uO u fun t a b _ _ _ => tst (Nat.beq t 1) (hget a h fun ob => @Option.rec Nat (fun _ => Ans)
 (cellAt ob b fun v => frc v fun v => frc (un2U v) fun w => tst (isCellU v) (cellsPut ob b (.cn w .nl) fun ob' => hput a ob' false h fun h => K v h))
 (fun n => cellsAt ob n b fun r => mapK un1U r fun r' => cellsPut ob b r' fun ob' => hput a ob' false h fun h => K (.o 17 0 0 0 0 r) h) n)
theorem un3_ptr {v : IVal} {id off : Nat} (h : un3 v = .ptr id off) : v = .ptr id off := by
 cases v <;> simp only [un3, un2, un1] at h <;> first | exact h | cases h
theorem cellQ_true {n : Option Nat} {u : U} {h : H} {K : U -> H -> Ans} {σ : List IObj} {wr : List (Nat × Bool)} (R : HR h σ wr) (hk : cellQ n u h K = true) :
   ∃ id off cs v r h', toI u = .ptr id off /\ loadCell σ id = some cs /\ takeV n cs off = some v /\ toI r = v /\ HR h' (σ.set id (.cells (putCells cs off (un2 v).cells))) ((id, false) :: wr) /\ h'.tr = h.tr /\ K r h' = true := by
 obtain ⟨t, a, b, c, d, x, rfl, h1⟩ := uO_true hk
 obtain ⟨h2, h3⟩ := tst_true h1
 have := zN h2; subst this
 obtain ⟨ob, o, h4, h5, h6⟩ := hget_true R h3
 cases n with
 | none =>
   obtain ⟨t', a', b', c', d', x', cs, w, rfl, h7, h8, h9⟩ := cellAt_true (show cellAt ob b (fun v => frc v fun v => frc (un2U v) fun w => tst (isCellU v) (cellsPut ob b (.cn w .nl) fun ob' => hput a ob' false h fun h => K v h)) = true from h6)
   rw [frc_eq, frc_eq] at h9
   obtain ⟨h10, h11⟩ := tst_true h9
   obtain ⟨_, _, _, _, _, _, cs2, t2, a2, b2, c2, d2, x2, e1, e2, h12, h13, h14⟩ := cellsPut_true h11
   rw [h7] at e2
   cases e2
   have ho : o = .cells cs := h5.o.trans h7
   subst ho
   have hcell := isCellU_ok h10
   obtain ⟨h', h15, _, h16, h17⟩ := hput_true R h14 (o := .cells (putCells cs b (toL (.cn (un2U w) .nl)))) (ObR_cells h13)
   refine ⟨a, b, cs, toI w, w, h', rfl, loadCell_of h4, by simp only [takeV, h8], rfl, ?_, h16, h17⟩
   rw [cells_un2 hcell]
   rw [toL_cn, toL_nl, un2U_ok] at h15
   exact h15
 | some n =>
   obtain ⟨t', a', b', c', d', x', cs, r, rfl, h7, h8, h9, h10⟩ := cellsAt_true (show cellsAt ob n b (fun r => mapK un1U r fun r' => cellsPut ob b r' fun ob' => hput a ob' false h fun h => K (.o 17 0 0 0 0 r) h) = true from h6)
   obtain ⟨r', h11, h12⟩ := mapK_true un1U_ok h10
   obtain ⟨_, _, _, _, _, _, cs2, t2, a2, b2, c2, d2, x2, e1, e2, h13, h14, h15⟩ := cellsPut_true h12
   rw [h7] at e2
   cases e2
   have ho : o = .cells cs := h5.o.trans h7
   subst ho
   obtain ⟨h', h16, _, h17, h18⟩ := hput_true R h15 (o := .cells (putCells cs b (toL r'))) (ObR_cells h14)
   refine ⟨a, b, cs, .agg (toL r), .o 17 0 0 0 0 r, h', rfl, loadCell_of h4, by simp only [takeV]; rw [if_pos h8, h9], ?_, ?_, h17, h18⟩
   . rw [toI_agg, if_pos rfl]
   . rw [h11] at h16; exact h16
def resQ (rs : List RV) (e : Env) (h : H) (K : U -> H -> Ans) : Ans := @List.rec RV (fun _ => Env -> H -> (U -> H -> Ans) -> Ans) (fun _ h K => K .nl h)
 (fun r _ ih e h K => @RV.rec (fun _ => (Env -> H -> (U -> H -> Ans) -> Ans) -> Env -> H -> (U -> H -> Ans) -> Ans) (fun i ih e h K => opdK (.m (ixOf i)) e .nl fun u e => ih e h fun l h => K (.cn u l) h)
   (fun i n ih e h K => opdK (.v (ixOf i)) e .nl fun u e => cellQ n u h fun v h => ih e h fun l h => K (.cn v l) h) r ih e h K) rs e h K
theorem resQ_true : ∀ {rs : List RV} {e : Env} {h : H} {K : U -> H -> Ans} {vs : AL} {σ : List IObj} {wr : List (Nat × Bool)}, VarQ e vs -> HR h σ wr -> resQ rs e h K = true ->
   ∃ l σ' wr' h', xres rs vs σ wr = some (toL l, σ', wr') /\ HR h' σ' wr' /\ h'.tr = h.tr /\ K l h' = true := by
 intro rs
 induction rs with
 | nil => intro e h K vs σ wr hv R hk; exact ⟨.nl, σ, wr, h, rfl, R, rfl, hk⟩
 | cons r rs ih =>
   intro e h K vs σ wr hv R hk
   cases r with
   | t i =>
     obtain ⟨u, vs', e', h1, h2, _, h4⟩ := opdK_true (x := .m i) (show opdK (qopd (.m i)) e .nl (fun u e => resQ rs e h fun l h => K (.cn u l) h) = true from hk) hv (l := []) trivial
     simp only [XOpd.get] at h1
     split at h1
     . rename_i w hw
       simp only [zO, zP] at h1
       obtain ⟨rfl, rfl⟩ := h1
       obtain ⟨l, σ', wr', h', g1, g2, g3, g4⟩ := ih h2 R h4
       exact ⟨.cn u l, σ', wr', h', by simp only [xres, hw, g1]; rfl, g2, g3, g4⟩
     . cases h1
   | cell i n =>
     obtain ⟨u, vs', e', h1, h2, _, h4⟩ := opdK_true (x := .v i) (show opdK (qopd (.v i)) e .nl (fun u e => cellQ n u h fun v h => resQ rs e h fun l h => K (.cn v l) h) = true from hk) hv (l := []) trivial
     simp only [XOpd.get] at h1
     split at h1
     . rename_i w hw
       simp only [zO, zP] at h1
       obtain ⟨h1, rfl⟩ := h1
       obtain ⟨id, off, cs, v, r, h', g1, g2, g3, g4, g5, g6, g7⟩ := cellQ_true R h4
       rw [g1] at h1
       have := un3_ptr h1
       subst this
       obtain ⟨l, σ', wr', h'', k1, k2, k3, k4⟩ := ih h2 g5 g7
       exact ⟨.cn r l, σ', wr', h'', by simp only [xres, hw, g2, g3, k1]; rw [<- g4]; rfl, k2, k3.trans g6, k4⟩
     . cases h1
def tupQ (l : U) (K : U -> Ans) : Ans := uC l (K (.o 18 0 0 0 0 .nl)) fun u r => uC r (K u) fun _ _ => K (.o 18 0 0 0 0 l)
theorem tupQ_true {l : U} {K : U -> Ans} (h : tupQ l K = true) : ∃ v, toI v = tupV (toL l) /\ K v = true := by
 rcases uC_true h with ⟨rfl, h2⟩ | ⟨u, r, rfl, h2⟩
 . exact ⟨_, rfl, h2⟩
 . rcases uC_true h2 with ⟨rfl, h3⟩ | ⟨v, r', rfl, h3⟩
   . exact ⟨u, rfl, h3⟩
   . exact ⟨_, by rw [toI_tup, if_pos rfl]; rfl, h3⟩
def retQ (n mn : Nat) (tr : Bool) (ws : List Nat) (res : List RV) (e : Env) (h : H) (K : KH) : Ans := shutQ (dsU e) h fun h => resQ res e h fun l h => tst (allU ntU l) (tupQ l fun v => finQ n mn tr ws v h K)
theorem retQ_true {h h' : H} {e : Env} {s : XS} {σ : List IObj} {wr : List (Nat × Bool)} (R : HR h σ wr) (R' : QR e .nl h' s) (ht : h'.tr = h.tr) {res : List RV} {K : KH} (hk : retQ h.n h.mn h.tr h.ws res e h' K = true) :
   ∃ o r h2, xret σ.length res s = some o /\ o.pan = false /\ toI r = o.v /\ HR h2 o.σ (o.wr ++ wr) /\ h2.tr = h.tr /\ K r h2 = true := by
 obtain ⟨σ1, h1, g1, g2, g3, g4⟩ := shutQ_true hk R'.ds R'.h
 obtain ⟨l, σ2, wr2, h2, g5, g6, g7, g8⟩ := resQ_true R'.v g2 g4
 obtain ⟨g9, g10⟩ := tst_true g8
 obtain ⟨v, g11, g12⟩ := tupQ_true g10
 obtain ⟨h3, k1, k2, k3⟩ := finQ_true R g6 (by rw [g7, g3, ht]) g12 false
 have hnt := allU_imp (fun {x} hx => ntU_ok hx) g9
 rw [g11] at k1
 refine ⟨finish σ.length false (tupV (toL l)) ⟨ts0, σ2, wr2⟩, v, h3, ?_, ?_, ?_, k1, k2, k3⟩
 . simp only [xret, g1, g5]; rw [if_pos hnt]
 . unfold finish; simp only; split <;> rfl
 . unfold finish; simp only; rw [g11]; split <;> rfl
def nilE : Env := ⟨⟨.nl, .nl, .nl, .nl, .nl, .nl, .nl, .nl⟩, ⟨.nl, .nl, .nl, .nl, .nl, .nl, .nl, .nl⟩, ⟨.nl, .nl, .nl, .nl, .nl, .nl, .nl, .nl⟩, ⟨.nl, .nl, .nl, .nl, .nl, .nl, .nl, .nl⟩, ⟨.nl, .nl, .nl, .nl, .nl, .nl, .nl, .nl⟩, ⟨.nl, .nl, .nl, .nl, .nl, .nl, .nl, .nl⟩, ⟨.nl, .nl, .nl, .nl, .nl, .nl, .nl, .nl⟩, ⟨.nl, .nl, .nl, .nl, .nl, .nl, .nl, .nl⟩⟩
theorem tget_nl : ∀ (d k : Nat), tget d .nl k = .nl := by
 intro d k; cases d <;> rfl
theorem at_nl (j : Nat) : at' .nl j = .nl := tget_nl _ _
theorem nilE_get (j : Nat) : eget nilE j = .nl := by
 unfold eget
 split
 . have hr : ∀ i, (nilE.get i) = ⟨.nl, .nl, .nl, .nl, .nl, .nl, .nl, .nl⟩ := by intro i; unfold E8.get nilE; split <;> rfl
   rw [hr]
   unfold E8.get; split <;> rfl
 . exact at_nl j
def fillE (args : U) : Env -> Nat -> (Env -> Ans) -> Ans := @U.rec (fun _ => Env -> Nat -> (Env -> Ans) -> Ans) (fun _ _ _ _ _ => false) (fun _ _ _ _ => false) (fun _ _ _ _ _ => false) (fun _ _ _ _ _ _ _ _ _ _ => false) (fun e _ K => K e)
 (fun v _ _ ih e k K => setIx (ixOf k) e v fun e => ih e (Nat.succ k) K) (fun _ _ _ _ _ _ _ _ _ => false) (fun _ _ _ _ => false) (fun _ _ _ _ _ _ _ _ _ _ => false) args
theorem fillE_true : ∀ {args : U} {e : Env} {k : Nat} {K : Env -> Ans} {vs : AL}, fillE args e k K = true -> VarQ e vs -> ∃ e', VarQ e' (afill k (toL args) vs) /\ dsU e' = dsU e /\ K e' = true := by
 intro args
 induction args with
 | nl => intro e k K vs h hv; exact ⟨e, hv, rfl, h⟩
 | cn v r _ ih =>
   intro e k K vs h hv
   have h : setIx (ixOf k) e v (fun e => fillE r e (Nat.succ k) K) = true := h
   rw [setIx_eq, ixN_of] at h
   obtain ⟨e', h1, h2, h3⟩ := ih h (hv.set k v)
   exact ⟨e', h1, by rw [h2, dsU_eset], h3⟩
 | _ => intro e k K vs h; cases h
def setPs (ps : List Nat) (args : U) (e : Env) (K : Env -> Ans) : Ans := @List.rec Nat (fun _ => U -> Env -> (Env -> Ans) -> Ans) (fun l e K => uC l (K e) fun _ _ => false) (fun p _ ih l e K => uC l false fun v l => setIx (ixOf p) e v fun e => ih l e K) ps args e K
theorem setPs_true : ∀ {ps : List Nat} {args : U} {e : Env} {K : Env -> Ans} {vs : AL}, setPs ps args e K = true -> VarQ e vs -> ∃ e' vs', xsetAll vs ps (toL args) = some vs' /\ VarQ e' vs' /\ dsU e' = dsU e /\ K e' = true := by
 intro ps
 induction ps with
 | nil =>
   intro args e K vs h hv
   rcases uC_true h with ⟨rfl, h2⟩ | ⟨_, _, _, h2⟩
   . exact ⟨e, vs, rfl, hv, rfl, h2⟩
   . cases h2
 | cons p ps ih =>
   intro args e K vs h hv
   rcases uC_true (show uC args false (fun v l => setIx (ixOf p) e v fun e => setPs ps l e K) = true from h) with ⟨_, h2⟩ | ⟨v, l, rfl, h2⟩
   . cases h2
   . rw [setIx_eq, ixN_of] at h2
     obtain ⟨e', vs', h3, h4, h5, h6⟩ := ih h2 (hv.set p v)
     exact ⟨e', vs', h3, h4, by rw [h5, dsU_eset], h6⟩
def unS (v : U) (K : U -> Ans) : Ans := (@U.rec (fun _ => (U -> Ans) -> Ans) (fun k n => fun K => K (.i k n)) (fun x => fun K => K (.b x)) (fun l x => fun K => K (.s l x)) (fun t a b c d x _ => fun K => unK (.o t a b c d x) K) (fun K => K .nl) (fun _ _ _ _ => fun _ => false) (fun _ _ _ _ _ _ => fun _ => false) (fun v => fun K => unK (.z v) K) (fun _ _ _ _ _ _ _ => fun _ => false) v) K
def RelS (v w : U) : Prop := w ≠ .nl -> v ≠ .nl /\ toI w = un3 (toI v)
theorem unS_true {v : U} {K : U -> Ans} (h : unS v K = true) : ∃ w, RelS v w /\ K w = true := by
 cases v with
 | nl => exact ⟨.nl, fun h => absurd rfl h, h⟩
 | i k n => exact ⟨_, fun _ => ⟨by simp, rfl⟩, h⟩
 | b x => exact ⟨_, fun _ => ⟨by simp, rfl⟩, h⟩
 | s l x => exact ⟨_, fun _ => ⟨by simp, rfl⟩, h⟩
 | o t a b c d x => obtain ⟨_, w, h1, h2⟩ := unK_true (show unK (.o t a b c d x) K = true from h); exact ⟨w, fun _ => ⟨by simp, h1⟩, h2⟩
 | z v => obtain ⟨_, w, h1, h2⟩ := unK_true (show unK (.z v) K = true from h); exact ⟨w, fun _ => ⟨by simp, h1⟩, h2⟩
 | _ => cases h
def unRow (r : E8 U) (K : E8 U -> Ans) : Ans := @E8.rec U (fun _ => (E8 U -> Ans) -> Ans) (fun a b c d e f g h K => unS a fun a => unS b fun b => unS c fun c => unS d fun d => unS e fun e => unS f fun f => unS g fun g => unS h fun h => K ⟨a, b, c, d, e, f, g, h⟩) r K
theorem unRow_true {r : E8 U} {K : E8 U -> Ans} (h0 : unRow r K = true) : ∃ r', (∀ i, RelS (r.get i) (r'.get i)) /\ K r' = true := by
 obtain ⟨a, b, c, d, e, f, g, h⟩ := r
 obtain ⟨a', p0, h1⟩ := unS_true (show unS a (fun a => unS b fun b => unS c fun c => unS d fun d => unS e fun e => unS f fun f => unS g fun g => unS h fun h => K ⟨a, b, c, d, e, f, g, h⟩) = true from h0)
 obtain ⟨b', p1, h2⟩ := unS_true h1
 obtain ⟨c', p2, h3⟩ := unS_true h2
 obtain ⟨d', p3, h4⟩ := unS_true h3
 obtain ⟨e', p4, h5⟩ := unS_true h4
 obtain ⟨f', p5, h6⟩ := unS_true h5
 obtain ⟨g', p6, h7⟩ := unS_true h6
 obtain ⟨h', p7, h8⟩ := unS_true h7
 refine ⟨⟨a', b', c', d', e', f', g', h'⟩, fun i => ?_, h8⟩
 unfold E8.get
 split <;> assumption
def nlK (u : U) (K : Ans) : Ans := (@U.rec (fun _ => Ans -> Ans) (fun _ _ => fun _ => false) (fun _ => fun _ => false) (fun _ _ => fun _ => false) (fun _ _ _ _ _ _ _ => fun _ => false) (fun K => K) (fun _ _ _ _ => fun _ => false) (fun _ _ _ _ _ _ => fun _ => false) (fun _ => fun _ => false) (fun _ _ _ _ _ _ _ => fun _ => false) u) K
theorem nlK_true {u : U} {K : Ans} (h : nlK u K = true) : u = .nl /\ K = true := by cases u <;> first | exact ⟨rfl, h⟩ | cases h
def envUn (e : Env) (K : Env -> Ans) : Ans := @E8.rec (E8 U) (fun _ => (Env -> Ans) -> Ans) (fun r0 r1 r2 r3 r4 r5 r6 r7 K => unRow r0 fun r0 => unRow r1 fun r1 => unRow r2 fun r2 => unRow r3 fun r3 => unRow r4 fun r4 => unRow r5 fun r5 => unRow r6 fun r6 =>
 @E8.rec U (fun _ => (Env -> Ans) -> Ans) (fun a b c d e f _ h K => nlK h (unRow ⟨a, b, c, d, e, f, .nl, .nl⟩ fun r7 => @E8.rec U (fun _ => (Env -> Ans) -> Ans) (fun a b c d e f _ _ K => K ⟨r0, r1, r2, r3, r4, r5, r6, ⟨a, b, c, d, e, f, .nl, .nl⟩⟩) r7 K)) r7 K) e K
theorem envUn_true {e : Env} {K : Env -> Ans} (h0 : envUn e K = true) : ∃ e', (∀ j, RelS (eget e j) (eget e' j)) /\ dsU e' = .nl /\ K e' = true := by
 obtain ⟨r0, r1, r2, r3, r4, r5, r6, r7⟩ := e
 obtain ⟨a, b, c, d, e, f, g, h⟩ := r7
 obtain ⟨s0, p0, h1⟩ := unRow_true (show unRow r0 (fun r0 => unRow r1 fun r1 => unRow r2 fun r2 => unRow r3 fun r3 => unRow r4 fun r4 => unRow r5 fun r5 => unRow r6 fun r6 =>
   nlK h (unRow ⟨a, b, c, d, e, f, .nl, .nl⟩ fun r7 => @E8.rec U (fun _ => (Env -> Ans) -> Ans) (fun a b c d e f _ _ K => K ⟨r0, r1, r2, r3, r4, r5, r6, ⟨a, b, c, d, e, f, .nl, .nl⟩⟩) r7 K)) = true from h0)
 obtain ⟨s1, p1, h2⟩ := unRow_true h1
 obtain ⟨s2, p2, h3⟩ := unRow_true h2
 obtain ⟨s3, p3, h4⟩ := unRow_true h3
 obtain ⟨s4, p4, h5⟩ := unRow_true h4
 obtain ⟨s5, p5, h6⟩ := unRow_true h5
 obtain ⟨s6, p6, h7⟩ := unRow_true h6
 obtain ⟨rfl, h8⟩ := nlK_true h7
 obtain ⟨s7, p7, h9⟩ := unRow_true h8
 obtain ⟨a', b', c', d', e', f', g', h'⟩ := s7
 refine ⟨_, fun j => ?_, rfl, h9⟩
 unfold eget
 by_cases hj : j < 62
 . rw [if_pos hj, if_pos hj]
   have hrow : ∀ i, i < 7 -> ∀ k, RelS (((⟨r0, r1, r2, r3, r4, r5, r6, ⟨a, b, c, d, e, f, g, .nl⟩⟩ : Env).get i).get k) (((⟨s0, s1, s2, s3, s4, s5, s6, ⟨a', b', c', d', e', f', .nl, .nl⟩⟩ : Env).get i).get k) := by
     intro i hi k
     match i, hi with
     | 0, _ => exact p0 k
     | 1, _ => exact p1 k
     | 2, _ => exact p2 k
     | 3, _ => exact p3 k
     | 4, _ => exact p4 k
     | 5, _ => exact p5 k
     | 6, _ => exact p6 k
   by_cases h7 : j / 8 < 7
   . exact hrow _ h7 _
   . have e7 : j / 8 = 7 := by omega
     have hm : j % 8 < 6 := by omega
     rw [e7]
     have q := p7 (j % 8)
     match j % 8, hm, q with
     | 0, _, q => exact q
     | 1, _, q => exact q
     | 2, _, q => exact q
     | 3, _, q => exact q
     | 4, _, q => exact q
     | 5, _, q => exact q
 . rw [if_neg hj, if_neg hj]
   intro h
   exact absurd (at_nl j) h
theorem VarQ.un {e e' : Env} {vs : AL} (hv : VarQ e vs) (h : ∀ j, RelS (eget e j) (eget e' j)) : VarQ e' (aun vs) := by
 intro j hj
 obtain ⟨h1, h2⟩ := h j hj
 rw [aget_aun, hv j h1, h2]; rfl
end
end Go.Idl
namespace Go.Idl
noncomputable section
set_option maxHeartbeats 200000
abbrev RT := XCode -> Env -> U -> H -> NK -> XK -> Ans
def callB (fn : XFunc) (ih : RT) (args : U) (h : H) (K P : KH) : Ans := @XFunc.rec (fun _ => RT -> U -> H -> KH -> KH -> Ans) (fun nv body res ih args h K P =>
 tst (Nat.ble (lenU args) nv) (fillE args nilE 0 fun e => hK h fun n t mn tr ws => ih body e .nl ⟨n, t, 0, tr, []⟩ (fun e _ h' => retQ n mn tr ws res e h' K)
   (fun x u e h' => @Nat.rec (fun _ => U -> Env -> H -> KH -> KH -> Ans) (fun _ e h' K _ => retQ n mn tr ws res e h' K) (fun x _ u e h' _ P => tst (Nat.beq x 0) (nlK (dsU e) (finQ n mn tr ws u h' P))) x u e h' K P))) fn ih args h K P
def lpK (ob : U) (K : Nat -> List Nat -> XCode -> XCode -> U -> Nat -> Ans) : Ans := (@U.rec (fun _ => (Nat -> List Nat -> XCode -> XCode -> U -> Nat -> Ans) -> Ans) (fun _ _ => fun _ => false) (fun _ => fun _ => false) (fun _ _ => fun _ => false) (fun _ _ _ _ _ _ _ => fun _ => false) (fun _ => false) (fun _ _ _ _ => fun _ => false) (fun _ _ _ _ _ _ => fun _ => false) (fun _ => fun _ => false) (fun st ps p q e pd _ => fun K => K st ps p q e pd) ob) K
theorem lpK_true {ob : U} {K : Nat -> List Nat -> XCode -> XCode -> U -> Nat -> Ans} (h : lpK ob K = true) : ∃ st ps p q e pd, ob = .lp st ps p q e pd /\ K st ps p q e pd = true := by
 cases ob <;> first | exact ⟨_, _, _, _, _, _, rfl, h⟩ | cases h
def pdOf (x : Nat) : Nat := @Bool.rec (fun _ => Nat) x 1 (Nat.beq x 0)
def roundQ (ih : RT) (id : Nat) (args : U) (h : H) (K : KH) (_P : KH) : Ans := hget id h fun ob => lpK ob fun st ps p q e pd => tst (Nat.beq st 0) (envK e fun E => setPs ps args E fun E => hK h fun n t mn tr ws =>
 ih p E .nl ⟨n, t, 0, tr, []⟩ (fun e1 _ h1 => hget id h1 fun ob1 => lpK ob1 fun st1 ps1 p1 q1 eu1 pd1 => tst (Nat.beq st1 0) (hput id (.lp 1 ps1 p1 q1 eu1 pd1) false h1 fun h2 =>
   ih q e1 .nl h2 (fun _ _ h3 => hget id h3 fun ob3 => lpK ob3 fun _ ps3 p3 q3 eu3 _ => hput id (.lp 0 ps3 p3 q3 eu3 0) false h3 fun h4 => finQ n mn tr ws (.b true) h4 K)
     (fun x _ _ h3 => tst (notB (Nat.beq x 1)) (hget id h3 fun ob3 => lpK ob3 fun _ ps3 p3 q3 eu3 _ => fN (pdOf x) fun pd => hput id (.lp 2 ps3 p3 q3 eu3 pd) false h3 fun h4 => finQ n mn tr ws (.b false) h4 K)))) (fun _ _ _ _ => false))
def Done (tr : Bool) (N : NK) (X : XK) (x : IExit) (s : XS) : Prop := match x with
 | .normal => ∃ e st h, QR e st h s /\ h.tr = tr /\ N e st h = true
 | .ret => ∃ e h u, QR e .nl h s /\ h.tr = tr /\ X 0 u e h = true
 | .panic v => ∃ e h u, QR e .nl h s /\ h.tr = tr /\ toI u = v /\ X 1 u e h = true
 | .exit id => ∃ e h u, QR e .nl h s /\ h.tr = tr /\ X (id + 2) u e h = true
 | .goto _ => False
def Snd (F : XProg) (rt : RT) : Prop := ∀ c e st h N X s, QR e st h s -> rt c e st h N X = true -> ∃ x s', xevw F c s = some (x, s') /\ Done h.tr N X x s'
theorem call_cold {F : XProg} {ih : RT} (hs : Snd F ih) {g : FuncId} {fn : XFunc} (hF : F g = some fn) : CallS (xcfw F) (.f g) (callB fn ih) := by
 intro l h K P σ wr R hk
 rw [xcfw_f, hF]
 simp only
 . obtain ⟨nv, body, res⟩ := fn
   obtain ⟨h1, h2⟩ := tst_true (show tst (Nat.ble (lenU l) nv) (fillE l nilE 0 fun e => hK h fun n t mn tr ws => ih body e .nl ⟨n, t, 0, tr, []⟩ (fun e _ h' => retQ n mn tr ws res e h' K)
     (fun x u e h' => @Nat.rec (fun _ => U -> Env -> H -> KH -> KH -> Ans) (fun _ e h' K _ => retQ n mn tr ws res e h' K) (fun x _ u e h' _ P => tst (Nat.beq x 0) (nlK (dsU e) (finQ n mn tr ws u h' P))) x u e h' K P)) = true from hk)
   have h1 := ble_iff.1 h1
   rw [lenU_eq] at h1
   obtain ⟨e, h3, h4, h5⟩ := fillE_true h2 (vs := []) (fun j hj => absurd (nilE_get j) hj)
   rw [hK_eq] at h5
   have R0 : QR e .nl ⟨h.n, h.t, 0, h.tr, []⟩ ⟨afill 0 (toL l) [], [], [], σ, []⟩ := ⟨h3, trivial, by rw [h4]; exact trivial, R.fresh h.tr []⟩
   obtain ⟨x, s', h6, h7⟩ := hs _ _ _ _ _ _ _ R0 h5
   have hb : xlibOf body = none := by
     cases body with
     | lib p => rw [xevw_eq] at h6; cases h6
     | _ => rfl
   simp only [xcallI, hb]
   rw [if_pos h1, h6]
   cases x with
   | normal =>
     obtain ⟨e1, st1, h8, R1, ht, h9⟩ := h7
     obtain ⟨o, r, h10, g1, g2, g3, g4, g5, g6⟩ := retQ_true R R1.nl ht h9
     exact ⟨o, r, h10, g1, g3, g4, g5, Or.inl ⟨g2, g6⟩⟩
   | ret =>
     obtain ⟨e1, h8, u, R1, ht, h9⟩ := h7
     obtain ⟨o, r, h10, g1, g2, g3, g4, g5, g6⟩ := retQ_true R R1.nl ht h9
     exact ⟨o, r, h10, g1, g3, g4, g5, Or.inl ⟨g2, g6⟩⟩
   | panic v =>
     obtain ⟨e1, h8, u, R1, ht, hu, h9⟩ := h7
     obtain ⟨_, h10⟩ := tst_true (show tst (Nat.beq 0 0) (nlK (dsU e1) (finQ h.n h.mn h.tr h.ws u h8 P)) = true from h9)
     obtain ⟨h11, h12⟩ := nlK_true h10
     have hds : s'.ds = [] := by
       have := R1.ds
       rw [h11] at this
       cases hd : s'.ds with
       | nil => rfl
       | cons a b => rw [hd] at this; exact this.elim
     obtain ⟨h13, g1, g2, g3⟩ := finQ_true R R1.h ht h12 true
     rw [hu] at g1
     simp only [hds]
     refine ⟨_, u, h13, rfl, ?_, g1, g2, Or.inr ⟨?_, g3⟩⟩
     . unfold finish; simp only; split <;> exact hu
     . unfold finish; simp only; split <;> rfl
   | exit id =>
     obtain ⟨e1, h8, u, R1, ht, h9⟩ := h7
     obtain ⟨h10, _⟩ := tst_true (show tst (Nat.beq (id + 1) 0) _ = true from h9)
     cases h10
   | goto l => exact h7.elim
theorem ObR.lp {st : Nat} {ps : List Nat} {p q : XCode} {e : U} {pd : Nat} {ob : IObj} (h : ObR (.lp st ps p q e pd) ob) : ∃ l E, ob = .loop l /\ e = envU E /\ l.st = st /\ l.ps = ps /\ l.x.a = p /\ l.x.b = q /\ l.pend = pendI pd /\ VarQ E l.x.vs /\ dsU E = .nl := h
theorem round_ok {F : XProg} {ih : RT} (hs : Snd F ih) (id : Nat) : CallS (xcfw F) (.y id) (roundQ ih id) := by
 intro l h K P σ wr R hk
 rw [xcfw_y]
 unfold roundQ at hk
 obtain ⟨ob, o, h1, h2, h3⟩ := hget_true R hk
 obtain ⟨st, ps, p, q, eu, pd, rfl, h4⟩ := lpK_true h3
 obtain ⟨l0, E, rfl, rfl, e1, e2, e3, e4, e5, hv, hd⟩ := h2.lp
 obtain ⟨h5, h6⟩ := tst_true h4
 have h5 := zN h5
 have h7 := envK_true h6
 obtain ⟨E1, vs1, g1, g2, g3, h8⟩ := setPs_true h7 hv
 rw [hK_eq] at h8
 have R0 : QR E1 .nl ⟨h.n, h.t, 0, h.tr, []⟩ ⟨vs1, [], [], σ, []⟩ := ⟨g2, trivial, by rw [g3, hd]; exact trivial, R.fresh h.tr []⟩
 obtain ⟨x, s1, h9, h10⟩ := hs _ _ _ _ _ _ _ R0 h8
 cases x with
 | normal =>
   obtain ⟨e6, st6, h11, R1, ht1, h12⟩ := h10
   obtain ⟨ob1, o1, k1, k2, k3⟩ := hget_true R1.h h12
   obtain ⟨st1, ps1, p1, q1, eu1, pd1, rfl, k4⟩ := lpK_true k3
   obtain ⟨l1, E2, rfl, rfl, f1, f2, f3, f4, f5, hv1, hd1⟩ := k2.lp
   obtain ⟨k5, k6⟩ := tst_true k4
   have k5 := zN k5
   obtain ⟨h13, k7, _, k8, k9⟩ := hput_true R1.h k6 (o := .loop { l1 with st := 1 }) ⟨{ l1 with st := 1 }, E2, rfl, rfl, rfl, f2, f3, f4, f5, hv1, hd1⟩
   have R2 : QR e6 .nl h13 { s1 with st := [], σ := s1.σ.set id (.loop { l1 with st := 1 }), wr := (id, false) :: s1.wr } := ⟨R1.v, trivial, R1.ds, k7⟩
   obtain ⟨x2, s2, m1, m2⟩ := hs _ _ _ _ _ _ _ R2 k9
   have hst0 : l0.st = 0 := by rw [e1]; exact h5
   have hst1 : l1.st = 0 := by rw [f1]; exact k5
   have g1' : xsetAll l0.x.vs l0.ps (toL l) = some vs1 := by rw [e2]; exact g1
   have h9' : xevw F l0.x.a ⟨vs1, [], [], σ, []⟩ = some (.normal, s1) := by rw [e3]; exact h9
   have m1' : xevw F l0.x.b { s1 with st := [], σ := s1.σ.set id (.loop { l1 with st := 1 }), wr := (id, false) :: s1.wr } = some (x2, s2) := by rw [e4]; exact m1
   have fin : ∀ {st2 : Nat} {pd2 : Nat} {pe : Option IExit} {v : Bool} {h14 : H}, HR h14 s2.σ s2.wr -> h14.tr = h.tr -> pendI pd2 = pe ->
       (hget id h14 fun ob3 => lpK ob3 fun _ ps3 p3 q3 eu3 _ => hput id (.lp st2 ps3 p3 q3 eu3 pd2) false h14 fun h4 => finQ h.n h.mn h.tr h.ws (.b v) h4 K) = true ->
       ∃ l2, s2.σ[id]? = some (.loop l2) /\ ∃ h2, HR h2 (finish σ.length false (.bool v) ⟨ts0, s2.σ.set id (.loop { l2 with st := st2, pend := pe }), (id, false) :: s2.wr⟩).σ ((finish σ.length false (.bool v) ⟨ts0, s2.σ.set id (.loop { l2 with st := st2, pend := pe }), (id, false) :: s2.wr⟩).wr ++ wr) /\ h2.tr = h.tr /\ K (.b v) h2 = true := by
     intro st2 pd2 pe v h14 R3 ht3 hpe h15
     obtain ⟨ob3, o3, n1, n2, n3⟩ := hget_true R3 h15
     obtain ⟨st3, ps3, p3, q3, eu3, pd3, rfl, n4⟩ := lpK_true n3
     obtain ⟨l2, E3, rfl, rfl, w1, w2, w3, w4, w5, hv3, hd3⟩ := n2.lp
     obtain ⟨h16, n5, _, n6, n7⟩ := hput_true R3 n4 (o := .loop { l2 with st := st2, pend := pe }) ⟨{ l2 with st := st2, pend := pe }, E3, rfl, rfl, rfl, w2, w3, w4, hpe.symm, hv3, hd3⟩
     obtain ⟨h17, n8, n9, n10⟩ := finQ_true R n5 (n6.trans ht3) n7 false
     exact ⟨l2, n1, h17, n8, n9, n10⟩
   have out : ∀ {o : Out} {v : Bool} {h2 : H}, xround (xevw F) id (toL l) σ = some o -> o.pan = false -> o.v = .bool v -> HR h2 o.σ (o.wr ++ wr) -> h2.tr = h.tr -> K (.b v) h2 = true ->
       ∃ o r h', xround (xevw F) id (toL l) σ = some o /\ toI r = o.v /\ HR h' o.σ (o.wr ++ wr) /\ h'.tr = h.tr /\ (o.pan = false /\ K r h' = true \/ o.pan = true /\ P r h' = true) :=
     fun a b c d e f => ⟨_, .b _, _, a, c.symm, d, e, Or.inl ⟨b, f⟩⟩
   have htr2 : h13.tr = h.tr := k8.trans ht1
   have fv : ∀ {v : Bool} {σ0 : List IObj} {w0 : List (Nat × Bool)}, (finish σ.length false (.bool v) ⟨ts0, σ0, w0⟩).v = .bool v := by
     intro v σ0 w0; unfold finish; simp only; split <;> rfl
   have fp : ∀ {v : Bool} {σ0 : List IObj} {w0 : List (Nat × Bool)}, (finish σ.length false (.bool v) ⟨ts0, σ0, w0⟩).pan = false := by
     intro v σ0 w0; unfold finish; simp only; split <;> rfl
   cases x2 with
   | normal =>
     obtain ⟨e7, st7, h14, R3, ht3, h15⟩ := m2
     obtain ⟨l2, n1, h17, n8, n9, n10⟩ := fin (st2 := 0) (pd2 := 0) (pe := none) R3.h (ht3.trans htr2) rfl h15
     exact out (by unfold xround; simp only [h1, hst0, g1', h9', k1, hst1, m1', n1]) fp fv n8 n9 n10
   | ret =>
     obtain ⟨e7, h14, u, R3, ht3, h15⟩ := m2
     obtain ⟨_, h16⟩ := tst_true h15
     simp only [fN_eq] at h16
     obtain ⟨l2, n1, h17, n8, n9, n10⟩ := fin (st2 := 2) (pd2 := 1) (pe := some .ret) R3.h (ht3.trans htr2) rfl h16
     exact out (by unfold xround; simp only [h1, hst0, g1', h9', k1, hst1, m1', n1, isJump, if_true]) fp fv n8 n9 n10
   | exit i =>
     obtain ⟨e7, h14, u, R3, ht3, h15⟩ := m2
     obtain ⟨_, h16⟩ := tst_true h15
     simp only [fN_eq] at h16
     obtain ⟨l2, n1, h17, n8, n9, n10⟩ := fin (st2 := 2) (pd2 := i + 2) (pe := some (.exit i)) R3.h (ht3.trans htr2) rfl h16
     exact out (by unfold xround; simp only [h1, hst0, g1', h9', k1, hst1, m1', n1, isJump, if_true]) fp fv n8 n9 n10
   | panic v =>
     obtain ⟨e7, h14, u, R3, ht3, _, h15⟩ := m2
     obtain ⟨h16, _⟩ := tst_true h15
     cases h16
   | goto l => exact m2.elim
 | ret => obtain ⟨_, _, _, _, _, h12⟩ := h10; cases h12
 | panic v => obtain ⟨_, _, _, _, _, _, h12⟩ := h10; cases h12
 | exit i => obtain ⟨_, _, _, _, _, h12⟩ := h10; cases h12
 | goto l => exact h10.elim
end
end Go.Idl
namespace Go.Idl
noncomputable section
set_option maxHeartbeats 400000
def nilU : U := primU .nilIface
theorem nilU_ok : toI nilU = nilI := primU_ok _
def recQ (slot : Option Nat) (m : Option U) (e : Env) (K : Env -> Ans) : Ans := @Option.rec Nat (fun _ => Ans) (K e) (fun t => @Option.rec U (fun _ => Ans) (setIx (ixOf t) e nilU K) (fun u => unK u fun w => setIx (ixOf t) e w K) m) slot
theorem recQ_true {slot : Option Nat} {m : Option U} {e : Env} {K : Env -> Ans} {args : List IVal} (hv : VarQ e (afill 0 args [])) (hk : recQ slot m e K = true) : ∃ e', VarQ e' (xdvs slot args (m.map toI)) /\ dsU e' = dsU e /\ K e' = true := by
 cases slot with
 | none => exact ⟨e, hv, rfl, hk⟩
 | some t =>
   cases m with
   | none =>
     have hk : setIx (ixOf t) e nilU K = true := hk
     rw [setIx_eq, ixN_of] at hk
     refine ⟨_, ?_, dsU_eset _ _ _, hk⟩
     have := hv.set t nilU
     rw [nilU_ok] at this
     exact this
   | some u =>
     obtain ⟨_, w, h1, h2⟩ := unK_true (show unK u (fun w => setIx (ixOf t) e w K) = true from hk)
     rw [setIx_eq, ixN_of] at h2
     refine ⟨_, ?_, dsU_eset _ _ _, h2⟩
     have := hv.set t w
     rw [h1] at this
     exact this
def exitQ (slot : Option Nat) (m : Option U) (e : Env) (h : H) (X : XK) : Ans := @Option.rec Nat (fun _ => Ans) (@Option.rec U (fun _ => Ans) (X 0 .nl e h) (fun u => X 1 u e h) m) (fun _ => X 0 .nl e h) slot
theorem exitQ_true {slot : Option Nat} {m : Option U} {e : Env} {h : H} {N : NK} {X : XK} {s : XS} {tr : Bool} (R : QR e .nl h s) (ht : h.tr = tr) (hk : exitQ slot m e h X = true) : Done tr N X (exitI (slotM slot (m.map toI))) s := by
 cases slot with
 | none =>
   cases m with
   | none => exact ⟨e, h, .nl, R, ht, hk⟩
   | some u => exact ⟨e, h, u, R, ht, rfl, hk⟩
 | some t => exact ⟨e, h, .nl, R, ht, hk⟩
def finL (mn : Nat) (tr : Bool) (ws : List Nat) (slot : Option Nat) (m : Option U) (e1 : Env) (X : XK) (e' : Env) (h2 : H) : Ans := nlK (dsU e') (hK h2 fun n' t' mn' _ ws' => fN (comb mn' mn) fun k => exitQ slot m (dsSet e1 .nl) ⟨n', t', k, tr, joinW tr ws' ws⟩ X)
def leaveQ (ih : RT) (nv : Nat) (slot : Option Nat) (c : XCode) (args : U) (m : Option U) (e1 : Env) (h : H) (X : XK) : Ans :=
 shutQ (dsU e1) h fun h1 => tst (Nat.ble (lenU args) nv) (tst (slotLt slot nv) (fillE args nilE 0 fun ea => recQ slot m ea fun ea => hK h1 fun n t mn tr ws =>
   ih c ea .nl ⟨n, t, 0, tr, []⟩ (fun e' _ h2 => finL mn tr ws slot m e1 X e' h2) (fun x _ e' h2 => tst (Nat.beq x 0) (finL mn tr ws slot m e1 X e' h2))))
theorem leaveQ_true {F : XProg} {ih : RT} (hs : Snd F ih) {nv : Nat} {slot : Option Nat} {c : XCode} {args : U} {m : Option U} {e1 : Env} {h : H} {N : NK} {X : XK} {s : XS} {x : IExit} (R : QR e1 .nl h s) (hx : modeI x = some (m.map toI))
   (hk : leaveQ ih nv slot c args m e1 h X = true) : ∃ x' s', xleave (xevw F) nv slot c (toL args) x s = some (x', s') /\ Done h.tr N X x' s' := by
 obtain ⟨σ1, h1, g1, g2, g3, g4⟩ := shutQ_true hk R.ds R.h
 obtain ⟨g5, g6⟩ := tst_true g4
 obtain ⟨g7, g8⟩ := tst_true g6
 have g5 := ble_iff.1 g5
 rw [lenU_eq] at g5
 obtain ⟨ea, k1, k2, k3⟩ := fillE_true g8 (vs := []) (fun j hj => absurd (nilE_get j) hj)
 obtain ⟨eb, k4, k5, k6⟩ := recQ_true k1 k3
 rw [hK_eq] at k6
 have R0 : QR eb .nl ⟨h1.n, h1.t, 0, h1.tr, []⟩ ⟨xdvs slot (toL args) (m.map toI), [], [], σ1, []⟩ := ⟨k4, trivial, by rw [k5, k2]; exact trivial, g2.fresh h1.tr []⟩
 obtain ⟨y, s', h6, h7⟩ := hs _ _ _ _ _ _ _ R0 k6
 have fin : ∀ {e' : Env} {h2 : H}, QR e' .nl h2 s' -> h2.tr = h1.tr -> finL h1.mn h1.tr h1.ws slot m e1 X e' h2 = true ->
     s'.ds = [] /\ Done h.tr N X (exitI (slotM slot (m.map toI))) { s with st := [], ds := [], σ := s'.σ, wr := s'.wr ++ ((s.ds.map fun id => (id, false)) ++ s.wr) } := by
   intro e' h2 R2 ht hf
   obtain ⟨q1, q2⟩ := nlK_true hf
   rw [hK_eq, fN_eq] at q2
   have hds : s'.ds = [] := by
     have := R2.ds
     rw [q1] at this
     cases hd : s'.ds with
     | nil => rfl
     | cons a b => rw [hd] at this; exact this.elim
   refine ⟨hds, exitQ_true ⟨R.v.ds _, trivial, ?_, g2.join R2.h (fun hh => by rw [ht]; exact hh)⟩ g3 q2⟩
   rw [dsU_dsSet]
   exact trivial
 have out : ∀ {mm : Option IVal}, modeI y = some mm -> (∀ v, y ≠ .panic v) -> s'.ds = [] -> xleave (xevw F) nv slot c (toL args) x s = some (exitI (slotM slot (m.map toI)), { s with st := [], ds := [], σ := s'.σ, wr := s'.wr ++ ((s.ds.map fun id => (id, false)) ++ s.wr) }) := by
   intro mm hm hp hd
   unfold xleave
   simp only [hx, g1]
   rw [if_pos ⟨g5, g7⟩, h6]
   cases y with
   | panic v => exact absurd rfl (hp v)
   | normal => simp only [modeI, hd]
   | ret => simp only [modeI, hd]
   | exit i => cases hm
   | goto l => cases hm
 cases y with
 | normal =>
   obtain ⟨e', st', h2, R2, ht, h8⟩ := h7
   obtain ⟨hd, hD⟩ := fin R2.nl ht h8
   exact ⟨_, _, out rfl (fun v h => by cases h) hd, hD⟩
 | ret =>
   obtain ⟨e', h2, u, R2, ht, h8⟩ := h7
   obtain ⟨_, h9⟩ := tst_true (show tst (Nat.beq 0 0) (finL h1.mn h1.tr h1.ws slot m e1 X e' h2) = true from h8)
   obtain ⟨hd, hD⟩ := fin R2 ht h9
   exact ⟨_, _, out rfl (fun v h => by cases h) hd, hD⟩
 | panic v =>
   obtain ⟨e', h2, u, R2, ht, _, h8⟩ := h7
   obtain ⟨h9, _⟩ := tst_true (show tst (Nat.beq 1 0) (finL h1.mn h1.tr h1.ws slot m e1 X e' h2) = true from h8)
   cases h9
 | exit i =>
   obtain ⟨e', h2, u, R2, ht, h8⟩ := h7
   obtain ⟨h9, _⟩ := tst_true (show tst (Nat.beq (i + 2) 0) (finL h1.mn h1.tr h1.ws slot m e1 X e' h2) = true from h8)
   cases h9
 | goto l => exact h7.elim
def dfrQ (ih : RT) (cq : CQ) (yq : YQ) (l : List XOper) (x : XOpd) (xs : List XOpd) (g nv : Nat) (slot : Option Nat) (c b : XCode) (e : Env) (st : U) (h : H) (X : XK) : Ans :=
 runL (l.map qoper) cq yq e st h (fun e st h => opdsK ((x :: xs).map qopd) e st fun la e => uC la false fun u vl => uO u fun t g' nb _ _ y => tst (Nat.beq t 7) (tst (Nat.beq g' g) (tst (allU ntU vl) (nlK (dsU e) (mapK un2U vl fun vl => argsK nb y vl fun args =>
   ih b e .nl h (fun e1 _ h1 => leaveQ ih nv slot c args none e1 h1 X) (fun k u e1 h1 => @Nat.rec (fun _ => Ans) (leaveQ ih nv slot c args none e1 h1 X) (fun k _ => tst (Nat.beq k 0) (leaveQ ih nv slot c args (some u) e1 h1 X)) k)))))) (fun _ _ _ => false)
theorem dfrQ_true {F : XProg} {cq : CQ} {yq : YQ} (hc : CYS (xcfw F) cq yq) {ih : RT} (hs : Snd F ih) {l : List XOper} {x : XOpd} {xs : List XOpd} {g nv : Nat} {slot : Option Nat} {c b : XCode} {e : Env} {st : U} {h : H} {N : NK} {X : XK} {s : XS}
   (R : QR e st h s) (hk : dfrQ ih cq yq l x xs g nv slot c b e st h X = true) : ∃ x' s', xdfr (xevw F) (xcfw F) l x xs g nv slot c b s = some (x', s') /\ Done h.tr N X x' s' := by
 rcases runL_true hc R hk with ⟨e', st', h', s', h1, R1, h2, h3⟩ | ⟨r, e', st', h', s', h1, R1, h2, h3⟩
 . obtain ⟨la, vs', e2, k1, k2, k3, k4⟩ := opdsK_true h3 R1.v R1.st
   rcases uC_true k4 with ⟨_, k5⟩ | ⟨u, vl, rfl, k5⟩
   . cases k5
   obtain ⟨t, g', nb, d1, d2, y, rfl, k6⟩ := uO_true k5
   obtain ⟨k7, k8⟩ := tst_true k6
   have := zN k7; subst this
   obtain ⟨k9, k10⟩ := tst_true k8
   have := zN k9; subst this
   obtain ⟨k11, k12⟩ := tst_true k10
   obtain ⟨k13, k14⟩ := nlK_true k12
   obtain ⟨vl2, k15, k16⟩ := mapK_true un2U_ok k14
   obtain ⟨args, k17, k18⟩ := argsK_true k16
   have hnt := allU_imp (fun {x} hx => ntU_ok hx) k11
   have hds : s'.ds = [] := by
     have := R1.ds
     rw [<- k3, k13] at this
     cases hd : s'.ds with
     | nil => rfl
     | cons a b => rw [hd] at this; exact this.elim
   have R2 : QR e2 .nl h' { s' with vs := vs', st := [] } := ⟨k2, trivial, by rw [k3]; exact R1.ds, R1.h⟩
   rw [toL_cn, toI_fn] at k1
   rw [k15] at k17
   obtain ⟨x2, s2, q1, q2⟩ := hs _ _ _ _ _ _ _ R2 k18
   have out : ∀ {x' : IExit} {s3 : XS}, xleave (xevw F) nv slot c (toL args) x2 s2 = some (x', s3) -> xdfr (xevw F) (xcfw F) l x xs g' nv slot c b s = some (x', s3) := by
     intro x' s3 hl
     unfold xdfr
     simp only [h1, k1]
     rw [if_pos ⟨trivial, hnt, hds⟩, q1]
     simp only
     rw [<- k17]
     exact hl
   cases x2 with
   | normal =>
     obtain ⟨e3, st3, h4, R3, ht, h5⟩ := q2
     obtain ⟨x', s3, h6, h7⟩ := leaveQ_true (N := N) hs R3.nl (x := .normal) rfl h5
     exact ⟨x', s3, out h6, by rw [<- h2, <- ht]; exact h7⟩
   | ret =>
     obtain ⟨e3, h4, u, R3, ht, h5⟩ := q2
     obtain ⟨x', s3, h6, h7⟩ := leaveQ_true (N := N) hs R3 (x := .ret) (m := none) rfl h5
     exact ⟨x', s3, out h6, by rw [<- h2, <- ht]; exact h7⟩
   | panic v =>
     obtain ⟨e3, h4, u, R3, ht, hu, h5⟩ := q2
     obtain ⟨_, h6⟩ := tst_true (show tst (Nat.beq 0 0) (leaveQ ih nv slot c args (some u) e3 h4 X) = true from h5)
     obtain ⟨x', s3, h7, h8⟩ := leaveQ_true (N := N) hs R3 (x := .panic v) (m := some u) (by rw [<- hu]; rfl) h6
     exact ⟨x', s3, out h7, by rw [<- h2, <- ht]; exact h8⟩
   | exit i =>
     obtain ⟨e3, h4, u, R3, ht, h5⟩ := q2
     obtain ⟨h6, _⟩ := tst_true (show tst (Nat.beq (i + 1) 0) (leaveQ ih nv slot c args (some u) e3 h4 X) = true from h5)
     cases h6
   | goto l => exact q2.elim
 . cases h3
def stepG (cq : CQ) (yq : YQ) (ih : RT) (c : XCode) (e : Env) (st : U) (h : H) (N : NK) (X : XK) : Ans := @XCode.rec (fun _ => CQ -> YQ -> RT -> Env -> U -> H -> NK -> XK -> Ans)
 (fun _ _ _ e st h N _ => N e st h)
 (fun keep l cq yq ih e st h N X => runL (l.map qoper) cq yq e st h (fun e st h => N e (@Bool.rec (fun _ => U) .nl st keep) h) (fun u e h => X 1 u e h))
 (fun keep l ps cq yq ih e st h N _ => @List.rec (Nat × Nat) (fun _ => Ans)
   (runD ((l.map (·.2)).map qoper) cq yq e st h fun e st h => N e (@Bool.rec (fun _ => U) .nl st keep) h)
   (fun _ _ _ => tst (l.all fun p => Nat.beq p.2.xs.length (opdsOf p.2.op).length) (runDL (l.map fun p => (p.1, qoper p.2)) cq yq e st h fun e st h ls => tst (pairsQ ps ls) (N e (@Bool.rec (fun _ => U) .nl st keep) h))) ps)
 (fun a b _ _ _ _ ih e st h N X => ih a e st h (fun e st h => ih b e st h N X) X)
 (fun x a b _ _ _ _ ih e st h N X => opdK (qopd x) e st fun u _ => uB u fun t => @Bool.rec (fun _ => Ans) (ih b e .nl h N X) (ih a e .nl h N X) t)
 (fun id b _ _ _ ih e st h N X => ih b e st h N (fun x u e h => @Bool.rec (fun _ => Ans) (X x u e h) (N e .nl h) (Nat.beq x (Nat.add id 2))))
 (fun ks b _ _ _ ih e st h N X => @List.rec Nat (fun _ => Ans) (ih b e .nl h (fun e st h => ih (.loop [] b) e .nl h N X) X) (fun _ _ _ => false) ks)
 (fun id _ _ ih e st h N X => X (Nat.add id 2) .nl e h)
 (fun b _ _ _ ih e st h N X => ih b e st h N X)
 (fun _ _ ih e st h N X => X 0 .nl e h)
 (fun _ _ _ _ _ _ _ _ => false)
 (fun x ps a b _ _ cq yq ih e st h N X => opdK (qopd x) e st fun u _ => uO u fun t g nb _ _ x => tst (Nat.beq t 7) (envUn e fun e' => hpush (.o 4 0 0 0 0 .nl) h fun k h1 => hpush (.lp 0 ps a b (envU e') 0) h1 fun k1 h2 =>
   argsK nb x (.cn (.o 4 k1 0 0 0 .nl) .nl) fun args => cq g args h2 (fun _ h3 => hget k1 h3 fun ob => lpK ob fun st' _ _ _ _ pd => tst (notB (Nat.beq st' 1)) (hput k1 .nl false h3 fun h4 =>
     @Nat.rec (fun _ => Ans) (N (dsSet e (.cn (.o 4 k 0 0 0 .nl) (dsU e))) .nl h4) (fun pd' _ => X (@Bool.rec (fun _ => Nat) (Nat.succ pd') 0 (Nat.beq pd' 0)) .nl (dsSet e (.cn (.o 4 k 0 0 0 .nl) (dsU e))) h4) pd)) (fun _ _ => false)))
 (fun l x xs g nv slot c b _ _ cq yq ih e st h _ X => dfrQ ih cq yq l x xs g nv slot c b e st h X)
 (fun _ _ _ _ _ _ _ _ _ => false)
 c cq yq ih e st h N X
theorem stepG_ok {F : XProg} {cq : CQ} {yq : YQ} (hc : CYS (xcfw F) cq yq) {ih : RT} (hs : Snd F ih) : Snd F (stepG cq yq ih) := by
 intro c e st h N X s R hk
 rw [xevw_eq]
 cases c with
 | skip => exact ⟨.normal, s, rfl, e, st, h, R, rfl, hk⟩
 | exit id => exact ⟨.exit id, s, rfl, e, h, .nl, R.nl, rfl, hk⟩
 | ret => exact ⟨.ret, s, rfl, e, h, .nl, R.nl, rfl, hk⟩
 | stuck => cases hk
 | ops keep l =>
   have kst : ∀ {e' : Env} {st' : U} {h' : H} {s' : XS}, QR e' st' h' s' -> QR e' (@Bool.rec (fun _ => U) .nl st' keep) h' (if keep then s' else { s' with st := [] }) := by
     intro e' st' h' s' R'
     cases keep
     . exact ⟨R'.v, trivial, R'.ds, R'.h⟩
     . exact R'
   rcases runL_true hc R (show runL (l.map qoper) cq yq e st h (fun e st h => N e (@Bool.rec (fun _ => U) .nl st keep) h) (fun u e h => X 1 u e h) = true from hk) with ⟨e', st', h', s', h1, R1, h2, h3⟩ | ⟨r, e', st', h', s', h1, R1, h2, h3⟩
   . exact ⟨.normal, (if keep then s' else { s' with st := [] }), by simp only [xstep, h1], e', _, h', kst R1, h2, h3⟩
   . refine ⟨.panic (toI r), (if keep then s' else { s' with st := [] }), by simp only [xstep, h1], e', h', r, ?_, h2, rfl, h3⟩
     exact (kst R1).nl
 | draw keep l ps =>
   have kst : ∀ {e' : Env} {st' : U} {h' : H} {s' : XS}, QR e' st' h' s' -> QR e' (@Bool.rec (fun _ => U) .nl st' keep) h' (if keep then s' else { s' with st := [] }) := by
     intro e' st' h' s' R'
     cases keep
     . exact ⟨R'.v, trivial, R'.ds, R'.h⟩
     . exact R'
   cases ps with
   | nil =>
     obtain ⟨e', st', h', s', log, h1, R1, h2, h3⟩ := runD_true hc R (show runD ((l.map (·.2)).map qoper) cq yq e st h (fun e st h => N e (@Bool.rec (fun _ => U) .nl st keep) h) = true from hk)
     exact ⟨.normal, (if keep then s' else { s' with st := [] }), by simp only [xstep, h1]; rw [if_pos (show pairsOK [] log = true from rfl)], e', _, h', kst R1, h2, h3⟩
   | cons p ps =>
     obtain ⟨h0, h1⟩ := tst_true (show tst (l.all fun p => Nat.beq p.2.xs.length (opdsOf p.2.op).length) (runDL (l.map fun p => (p.1, qoper p.2)) cq yq e st h fun e st h ls => tst (pairsQ (p :: ps) ls) (N e (@Bool.rec (fun _ => U) .nl st keep) h)) = true from hk)
     have hlen : ∀ p ∈ l, p.2.xs.length = (opdsOf p.2.op).length := fun p hp => zN (List.all_eq_true.1 h0 p hp)
     obtain ⟨e', st', h', s', log, ls, h2, h3, R1, h4, h5⟩ := runDL_true hc hlen R h1
     obtain ⟨h6, h7⟩ := tst_true h5
     exact ⟨.normal, (if keep then s' else { s' with st := [] }), by simp only [xstep, h2]; rw [if_pos (pairsQ_ok h3 h6)], e', _, h', kst R1, h4, h7⟩
 | seq a b =>
   obtain ⟨x, s1, h1, h2⟩ := hs _ _ _ _ _ _ _ R (show ih a e st h (fun e st h => ih b e st h N X) X = true from hk)
   cases x with
   | normal =>
     obtain ⟨e', st', h', R1, h3, h4⟩ := h2
     obtain ⟨x2, s2, h5, h6⟩ := hs _ _ _ _ _ _ _ R1 h4
     rw [h3] at h6
     exact ⟨x2, s2, by simp only [xstep, h1]; exact h5, h6⟩
   | ret => exact ⟨.ret, s1, by simp only [xstep, h1], h2⟩
   | panic v => exact ⟨.panic v, s1, by simp only [xstep, h1], h2⟩
   | exit i => exact ⟨.exit i, s1, by simp only [xstep, h1], h2⟩
   | goto l => exact h2.elim
 | cond x a b =>
   obtain ⟨u, vs', e', h1, _, _, h4⟩ := opdK_true (show opdK (qopd x) e st (fun u _ => uB u fun t => @Bool.rec (fun _ => Ans) (ih b e .nl h N X) (ih a e .nl h N X) t) = true from hk) R.v R.st
   obtain ⟨t, rfl, h5⟩ := uB_true h4
   rw [toI_b] at h1
   have R1 : QR e .nl h { s with st := [] } := ⟨R.v, trivial, R.ds, R.h⟩
   cases t with
   | true =>
     obtain ⟨x2, s2, h6, h7⟩ := hs _ _ _ _ _ _ _ R1 (show ih a e .nl h N X = true from h5)
     exact ⟨x2, s2, by simp only [xstep, h1]; exact h6, h7⟩
   | false =>
     obtain ⟨x2, s2, h6, h7⟩ := hs _ _ _ _ _ _ _ R1 (show ih b e .nl h N X = true from h5)
     exact ⟨x2, s2, by simp only [xstep, h1]; exact h6, h7⟩
 | block id b =>
   obtain ⟨x, s1, h1, h2⟩ := hs _ _ _ _ _ _ _ R (show ih b e st h N (fun x u e h => @Bool.rec (fun _ => Ans) (X x u e h) (N e .nl h) (Nat.beq x (Nat.add id 2))) = true from hk)
   cases x with
   | normal => exact ⟨.normal, s1, by simp only [xstep, h1], h2⟩
   | ret =>
     obtain ⟨e', h', u, R1, h3, h4⟩ := h2
     exact ⟨.ret, s1, by simp only [xstep, h1], e', h', u, R1, h3, h4⟩
   | panic v =>
     obtain ⟨e', h', u, R1, h3, hu, h4⟩ := h2
     exact ⟨.panic v, s1, by simp only [xstep, h1], e', h', u, R1, h3, hu, h4⟩
   | exit i =>
     obtain ⟨e', h', u, R1, h3, h4⟩ := h2
     rcases brec_true h4 with ⟨h5, h6⟩ | ⟨h5, h6⟩
     . have := zN h5
       rw [nadd] at this
       exact ⟨.normal, s1, by simp only [xstep, h1]; rw [if_pos (by omega)], e', .nl, h', R1, h3, h6⟩
     . have := zE h5
       rw [nadd] at this
       exact ⟨.exit i, s1, by simp only [xstep, h1]; rw [if_neg (by omega)], e', h', u, R1, h3, h6⟩
   | goto l => exact h2.elim
 | loop ks b =>
   cases ks with
   | cons k ks => cases hk
   | nil =>
     have R1 : QR e .nl h { s with st := [] } := ⟨R.v, trivial, R.ds, R.h⟩
     obtain ⟨x, s1, h1, h2⟩ := hs _ _ _ _ _ _ _ R1 (show ih b e .nl h (fun e st h => ih (.loop [] b) e .nl h N X) X = true from hk)
     cases x with
     | normal =>
       obtain ⟨e', st', h', R2, h3, h4⟩ := h2
       obtain ⟨x2, s2, h5, h6⟩ := hs _ _ _ _ _ _ _ R2.nl h4
       rw [h3] at h6
       refine ⟨x2, s2, ?_, h6⟩
       simp only [xstep, List.isEmpty_nil, if_true, h1]
       exact h5
     | ret => exact ⟨.ret, s1, by simp only [xstep, List.isEmpty_nil, if_true, h1], h2⟩
     | panic v => exact ⟨.panic v, s1, by simp only [xstep, List.isEmpty_nil, if_true, h1], h2⟩
     | exit i => exact ⟨.exit i, s1, by simp only [xstep, List.isEmpty_nil, if_true, h1], h2⟩
     | goto l => exact h2.elim
 | scope b =>
   obtain ⟨x, s1, h1, h2⟩ := hs _ _ _ _ _ _ _ R (show ih b e st h N X = true from hk)
   cases x with
   | goto l => exact h2.elim
   | normal => exact ⟨.normal, s1, by simp only [xstep, h1], h2⟩
   | ret => exact ⟨.ret, s1, by simp only [xstep, h1], h2⟩
   | panic v => exact ⟨.panic v, s1, by simp only [xstep, h1], h2⟩
   | exit i => exact ⟨.exit i, s1, by simp only [xstep, h1], h2⟩
 | rangeF x ps a b =>
   obtain ⟨u, vs', e0, h1, _, _, h4⟩ := opdK_true (show opdK (qopd x) e st (fun u _ => uO u fun t g nb _ _ x => tst (Nat.beq t 7) (envUn e fun e' => hpush (.o 4 0 0 0 0 .nl) h fun k h1 => hpush (.lp 0 ps a b (envU e') 0) h1 fun k1 h2 =>
     argsK nb x (.cn (.o 4 k1 0 0 0 .nl) .nl) fun args => cq g args h2 (fun _ h3 => hget k1 h3 fun ob => lpK ob fun st' _ _ _ _ pd => tst (notB (Nat.beq st' 1)) (hput k1 .nl false h3 fun h4 =>
       @Nat.rec (fun _ => Ans) (N (dsSet e (.cn (.o 4 k 0 0 0 .nl) (dsU e))) .nl h4) (fun pd' _ => X (@Bool.rec (fun _ => Nat) (Nat.succ pd') 0 (Nat.beq pd' 0)) .nl (dsSet e (.cn (.o 4 k 0 0 0 .nl) (dsU e))) h4) pd)) (fun _ _ => false))) = true from hk) R.v R.st
   obtain ⟨t, g, nb, c, d, y, rfl, h5⟩ := uO_true h4
   obtain ⟨h6, h7⟩ := tst_true h5
   have := zN h6; subst this
   obtain ⟨e', h8, h9, h10⟩ := envUn_true h7
   obtain ⟨h11, k1, k2, k3⟩ := hpush_true R.h h10 (o := .defr) rfl
   obtain ⟨h12, k4, k5, k6⟩ := hpush_true k1 k3 (o := .loop ⟨0, ts0, ps, .skip, .skip, none, ⟨aun s.vs, a, b⟩⟩) ⟨⟨0, ts0, ps, .skip, .skip, none, ⟨aun s.vs, a, b⟩⟩, e', rfl, rfl, rfl, rfl, rfl, rfl, rfl, R.v.un h8, h9⟩
   obtain ⟨args, k7, k8⟩ := argsK_true k6
   obtain ⟨o, r, h13, m1, m2, m3, m4, m5⟩ := hc.c g args h12 _ _ _ _ k4 k8
   rcases m5 with ⟨m6, m7⟩ | ⟨_, m7⟩
   . obtain ⟨ob, ob', n1, n2, n3⟩ := hget_true m3 m7
     obtain ⟨st1, ps1, p1, q1, eu1, pd1, rfl, n4⟩ := lpK_true n3
     obtain ⟨l1, E2, rfl, rfl, f1, f2, f3, f4, f5, _, _⟩ := n2.lp
     obtain ⟨n5, n6⟩ := tst_true n4
     obtain ⟨h14, n7, _, n8, n9⟩ := hput_true m3 n6 (o := .dead) rfl
     have hst : ¬ l1.st = 1 := by
       rw [f1]; intro e; subst e; cases n5
     have hkk : (s.σ ++ [IObj.defr]).length = s.σ.length + 1 := by simp
     rw [hkk] at n1 n7 k7
     have hargs : toL args = (toL y).take nb ++ [.yl (s.σ.length + 1)] ++ (toL y).drop nb := by rw [k7]; rfl
     have hσ : s.σ ++ [IObj.defr] ++ [IObj.loop ⟨0, ts0, ps, .skip, .skip, none, ⟨aun s.vs, a, b⟩⟩] = s.σ ++ [.defr, .loop ⟨0, ts0, ps, .skip, .skip, none, ⟨aun s.vs, a, b⟩⟩] := by simp
     rw [hσ, hargs] at m1
     rw [toI_fn] at h1
     obtain ⟨pan, v, σ', wr'⟩ := o
     simp only at m6 m3 n1 n7
     subst m6
     have RE : QR (dsSet e (.cn (.o 4 s.σ.length 0 0 0 .nl) (dsU e))) .nl h14 { s with ds := s.σ.length :: s.ds, σ := σ'.set (s.σ.length + 1) .dead, wr := (s.σ.length + 1, false) :: (wr' ++ s.wr) } :=
       ⟨R.v.ds _, trivial, by rw [dsU_dsSet]; exact ⟨rfl, R.ds⟩, n7⟩
     have htr : h14.tr = h.tr := n8.trans (m4.trans (k5.trans k2))
     cases pd1 with
     | zero =>
       have hp : l1.pend = none := f5
       refine ⟨.normal, _, ?_, _, .nl, h14, RE, htr, n9⟩
       simp only [xstep, h1, m1, n1]
       rw [if_neg hst]
       simp only [hp]
     | succ pd =>
       have n9 : X (@Bool.rec (fun _ => Nat) (Nat.succ pd) 0 (Nat.beq pd 0)) .nl (dsSet e (.cn (.o 4 s.σ.length 0 0 0 .nl) (dsU e))) h14 = true := n9
       cases pd with
       | zero =>
         have hp : l1.pend = some .ret := f5
         refine ⟨.ret, _, ?_, _, h14, .nl, RE, htr, n9⟩
         simp only [xstep, h1, m1, n1]
         rw [if_neg hst]
         simp only [hp, isJump, if_true]
       | succ pd =>
         have hp : l1.pend = some (.exit pd) := f5
         refine ⟨.exit pd, _, ?_, _, h14, .nl, RE, htr, n9⟩
         simp only [xstep, h1, m1, n1]
         rw [if_neg hst]
         simp only [hp, isJump, if_true]
   . cases m7
 | dfr l x xs g nv slot c b => exact dfrQ_true (N := N) hc hs R (show dfrQ ih cq yq l x xs g nv slot c b e st h X = true from hk)
 | lib p => cases hk
def rqG (cq : CQ) (yq : YQ) (n : Nat) : RT := @Nat.rec (fun _ => RT) (fun _ _ _ _ _ _ => false) (fun _ ih c e st h N X => stepG cq yq ih c e st h N X) n
theorem rqG_ok {F : XProg} {cq : CQ} {yq : YQ} (hc : CYS (xcfw F) cq yq) : ∀ n, Snd F (rqG cq yq n) := by
 intro n
 induction n with
 | zero => intro c e st h N X s R hk; cases hk
 | succ n ih => exact stepG_ok hc ih
def coldF (n : Nat) (fn : XFunc) (cq : CQ) (yq : YQ) : U -> H -> KH -> KH -> Ans := callB fn (rqG cq yq n)
theorem coldF_ok {F : XProg} {cq : CQ} {yq : YQ} (hc : CYS (xcfw F) cq yq) (n : Nat) {g : FuncId} {fn : XFunc} (hF : F g = some fn) : CallS (xcfw F) (.f g) (coldF n fn cq yq) := call_cold (rqG_ok hc n) hF
def LibQ (p : List IVal -> Option IVal) (q : U -> (U -> Ans) -> Ans) : Prop := ∀ l K, q l K = true -> ∃ r, p (toL l) = some (toI r) /\ K r = true
def libF (q : U -> (U -> Ans) -> Ans) (_ : CQ) (_ : YQ) (l : U) (h : H) (K _P : KH) : Ans := q l fun r => K r h
theorem libF_ok {F : XProg} {p : List IVal -> Option IVal} {q : U -> (U -> Ans) -> Ans} (hq : LibQ p q) {cq : CQ} {yq : YQ} {g : FuncId} {nv : Nat} {res : List RV} (hF : F g = some ⟨nv, .lib p, res⟩) : CallS (xcfw F) (.f g) (libF q cq yq) := by
 intro l h K P σ wr R hk
 obtain ⟨r, h1, h2⟩ := hq l _ hk
 rw [xcfw_f, hF]
 exact ⟨⟨false, toI r, σ, []⟩, r, h, by simp only [xcallI, xlibOf, h1], rfl, R, rfl, Or.inl ⟨rfl, h2⟩⟩
def yqN (n m : Nat) (cq : CQ) : YQ := @Nat.rec (fun _ => YQ) (fun _ _ _ _ _ => false) (fun _ ih id => roundQ (rqG cq ih n) id) m
theorem yqN_ok {F : XProg} {cq : CQ} (hc : ∀ g, CallS (xcfw F) (.f g) (cq g)) (n : Nat) : ∀ m id, CallS (xcfw F) (.y id) (yqN n m cq id) := by
 intro m
 induction m with
 | zero => intro id l h K P σ wr R hk; cases hk
 | succ m ih => intro id; exact round_ok (rqG_ok ⟨hc, ih⟩ n) id
abbrev CF := CQ -> YQ -> U -> H -> KH -> KH -> Ans
inductive BT where
 | lf
 | nd (k : Nat) (f : CF) (l r : BT)
def BT.get (t : BT) (g : Nat) (cq : CQ) (yq : YQ) : U -> H -> KH -> KH -> Ans := @BT.rec (fun _ => U -> H -> KH -> KH -> Ans) (fun _ _ _ _ => false) (fun k f _ _ il ir a h K P => @Bool.rec (fun _ => Ans) (@Bool.rec (fun _ => Ans) (ir a h K P) (il a h K P) (Nat.blt g k)) (f cq yq a h K P) (Nat.beq g k)) t
def BT.OK (F : XProg) : BT -> Prop
 | .lf => True
 | .nd k f l r => (∀ cq yq, CYS (xcfw F) cq yq -> CallS (xcfw F) (.f k) (f cq yq)) /\ l.OK F /\ r.OK F
theorem BT.get_ok {F : XProg} {cq : CQ} {yq : YQ} (hc : CYS (xcfw F) cq yq) (g : Nat) : ∀ t : BT, t.OK F -> CallS (xcfw F) (.f g) (t.get g cq yq) := by
 intro t
 induction t with
 | lf => intro _ l h K P σ wr R hk; cases hk
 | nd k f l r il ir =>
   intro ho
   intro a h K P σ wr R hk
   rcases brec_true (show @Bool.rec (fun _ => Ans) (@Bool.rec (fun _ => Ans) (r.get g cq yq a h K P) (l.get g cq yq a h K P) (Nat.blt g k)) (f cq yq a h K P) (Nat.beq g k) = true from hk) with ⟨h1, h2⟩ | ⟨h1, h2⟩
   . have := zN h1; subst this
     exact ho.1 _ _ hc _ _ _ _ _ _ R h2
   . rcases brec_true h2 with ⟨h3, h4⟩ | ⟨h3, h4⟩
     . exact il ho.2.1 _ _ _ _ _ _ R h4
     . exact ir ho.2.2 _ _ _ _ _ _ R h4
def sysT (t : BT) (n m : Nat) (d : Nat) : CQ := @Nat.rec (fun _ => CQ) (fun _ _ _ _ _ => false) (fun _ ih g => t.get g ih (yqN n m ih)) d
theorem sysT_ok {F : XProg} {t : BT} (ht : t.OK F) (n m : Nat) : ∀ d g, CallS (xcfw F) (.f g) (sysT t n m d g) := by
 intro d
 induction d with
 | zero => intro g l h K P σ wr R hk; cases hk
 | succ d ih => intro g; exact BT.get_ok ⟨ih, yqN_ok ih n m⟩ g t ht
def sysTrue (t : BT) (n m d : Nat) (g : FuncId) : Ans := sysT t n m d g .nl emptyH (fun r _ => uB r fun b => b) (fun _ _ => false)
theorem sysTrue_ok {F : XProg} {t : BT} (ht : t.OK F) {n m d : Nat} {g : FuncId} (h : sysTrue t n m d g = true) : ∃ o, xcfw F (.f g) [] [] = some o /\ o.pan = false /\ o.v = .bool true := by
 obtain ⟨o, r, h', h1, h2, _, _, h3⟩ := sysT_ok ht n m d g .nl emptyH _ _ [] [] emptyH_ok h
 rcases h3 with ⟨h4, h5⟩ | ⟨_, h5⟩
 . obtain ⟨b, rfl, rfl⟩ := uB_true h5
   exact ⟨o, h1, h4, h2.symm⟩
 . cases h5
end
end Go.Idl
