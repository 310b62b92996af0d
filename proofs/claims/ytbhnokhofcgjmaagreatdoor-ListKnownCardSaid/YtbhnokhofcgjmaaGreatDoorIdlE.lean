/- The ideal machine and its evaluators, part 5; no conditions. -/
import Derived.LoopNIn
import Derived.Test.YtbhnokhofcgjmaaGreatDoorIdlD
set_option linter.unusedSectionVars false
set_option linter.unusedVariables false
set_option linter.unusedSimpArgs false
namespace Go.Idl
variable [Globs]
variable {P : Program} {a : Act} {g : Gh} {O : List Nat} {w : World} {s : St} {cf : jo}
def jh5 (P : Program) : ResultVar -> RV -> Bool
 | .tmp t, .t i => t == i
 | .cell t T, .cell i n => t == i && tyN P T n
 | _, _ => false
def VK (P : Program) : List ResultVar -> List RV -> Bool
 | [], [] => true
 | r :: rs, v :: vs => jh5 P r v && VK P rs vs
 | _, _ => false
def jdM (tmps : Array Value) (rs : List ResultVar) : Sem (List Value) := rs.mapM fun r => match r with
 | .tmp t => pure (tmps.getD t undef)
 | .cell a t => do loadVar t (<- asAddr (tmps.getD a undef))
theorem jci {tmps : Array Value} : jdM tmps [] = pure [] := by simp [jdM]
theorem jh4 {tmps : Array Value} {t : Nat} {rs : List ResultVar} : (jdM tmps (.tmp t :: rs)).run P w = ((jdM tmps rs).run P w).andThen fun us w' => .ok (tmps.getD t undef :: us) w' := by
 simp only [jdM, List.mapM_cons, Sem.run_bind, Sem.run_pure, Result.andThen_ok]
theorem jfJ {tmps : Array Value} {t : Nat} {T : TypeId} {rs : List ResultVar} {ad : Addr} (h : tmps.getD t undef = .pointer (some ad)) {u : Value} {w' : World} (hl : (loadVar T ad).run P w = .ok u w') :
   (jdM tmps (.cell t T :: rs)).run P w = ((jdM tmps rs).run P w').andThen fun us w' => .ok (u :: us) w' := by
 simp only [jdM, List.mapM_cons, Sem.run_bind, h, asAddr, Sem.run_pure, Result.andThen_ok, hl]
theorem jbi {tmps : Array Value} : ∀ {vs : List RV} {rs : List ResultVar} {l : jH} {s s' : St} {g : Gh} {O : List Nat} {w : World} {xs : List IVal}, VK P rs vs = true -> kR vs s = some (xs, s') -> WT s.ts tmps ->
   R g O (l ++ s.ts.roots tmps) s.σ w ->
   ∃ us : List Value, (jdM tmps rs).run P w = .ok us w /\ xs.length = us.length /\ WT s'.ts tmps /\
     R g O (xs.zip us ++ (l ++ s'.ts.roots tmps)) s'.σ w /\ ∃ wn, s'.wr = wn ++ s.wr /\ Keep s.σ s'.σ wn /\ wn.all (fun p => !p.2) = true := by
 intro vs
 induction vs with
 | nil =>
   intro rs l s s' g O w xs hok hrd hl hR;cases rs <;> simp [VK] at hok;simp [kR] at hrd;obtain ⟨rfl, rfl⟩ := hrd;exact ⟨[], by simp [jci, Sem.run_pure], rfl, hl, by simpa using hR, [], rfl, .refl _, rfl⟩
 | cons v vs ih =>
   intro rs l s s' g O w xs hok hrd hl hR
   cases rs with
   | nil => simp [VK] at hok
   | cons r rs =>
     simp only [VK, zA] at hok
     cases v with
     | t i =>
       simp only [kR] at hrd;split at hrd
       . rename_i x hx;split at hrd
         . rename_i ys s1 hrest;simp only [zO, zP] at hrd;obtain ⟨rfl, rfl⟩ := hrd;have hr : r = .tmp i := by cases r <;> simp [jh5] at hok; rw [hok.1]
           subst hr;have hm := jk (a := ⟨tmps, []⟩) (x := .m i) (r := .tmp i) (ts' := s.ts.set i (un3 x)) (v := x) (by simp [jl]) (by simp [Opd.get, hx]) hl hR;obtain ⟨us, h1, h2, h3, h4, wn, h5, h6, h7⟩ := ih (s := { s with ts := s.ts.set i (un3 x) }) (l := (x, (⟨tmps, []⟩ : Act).eval (.tmp i)) :: l) hok.2 hrest hm.2 (by simpa using hm.1);refine ⟨tmps.getD i undef :: us, ?_, by simp [h2], h3, ?_, wn, h5, h6, h7⟩
           . rw [jh4, h1, Result.andThen_ok]
           . refine h4.perm ?_;simp only [List.zip_cons_cons, List.cons_append, Act.eval];exact List.perm_middle
         . cases hrd
       . cases hrd
     | cell i n =>
       simp only [kR] at hrd;split at hrd
       . rename_i id off hx;split at hrd
         . rename_i cs hcs;split at hrd
           . rename_i z hz;split at hrd
             . rename_i ys s1 hrest;simp only [zO, zP] at hrd;obtain ⟨rfl, rfl⟩ := hrd;obtain ⟨T, hr, hT⟩ : ∃ T, r = .cell i T /\ tyN P T n = true := by
                 cases r with
                 | tmp t => simp [jh5] at hok
                 | cell t T => simp only [jh5, zA] at hok; exact ⟨T, by rw [eq_of_beq hok.1.1], hok.1.2⟩
               subst hr;obtain ⟨rest0, hp0, -⟩ := Ts.roots_get tmps hx;have hV0 : V g (.ptr id off) (tmps.getD i undef) := hR.vals (.ptr id off, tmps.getD i undef) (List.mem_append_right _ (hp0.mem_iff.2 (by simp)));obtain ⟨b, vU, hι⟩ := hV0.ptr_inv;obtain ⟨u, hrun, hR', hk, _⟩ := hR.loadMove hι (jI hcs) hT hz;obtain ⟨us, h1, h2, h3, h4, wn, h5, h6, h7⟩ := ih (s := { s with σ := s.σ.set id (.cells (ji cs off (un2 z).cells)), wr := (id, false) :: s.wr }) (l := (z, u) :: l) hok.2 hrest hl (by simpa using hR');refine ⟨u :: us, ?_, by simp [h2], h3, ?_, wn ++ [(id, false)], by rw [h5]; simp, hk.trans h6, by simp [h7]⟩
               . rw [jfJ vU hrun, h1, Result.andThen_ok]
               . refine h4.perm ?_;simp only [List.zip_cons_cons, List.cons_append];exact List.perm_middle
             . cases hrd
           . cases hrd
         . cases hrd
       . cases hrd
theorem R.merge {xs : List IVal} {us : List Value} {l : jH} {σ : List IObj} (h : R g O (xs.zip us ++ l) σ w) (hl : xs.length = us.length) (hnt : ∀ x ∈ xs, nt x = true) :
   R g O ((jdE xs, if hh : us.toArray.size = 1 then us.toArray[0] else .tuple us.toArray) :: l) σ w := by
 have hlist : xs.length = 1 \/ xs.length ≠ 1 := by omega
 rcases hlist with h1 | h1
 . obtain ⟨x, rfl⟩ := List.length_eq_one_iff.1 h1;obtain ⟨u, rfl⟩ := List.length_eq_one_iff.1 (hl ▸ h1);simpa [jdE] using h
 . have e : jdE xs = .tup xs := by
     cases xs with
     | nil => rfl
     | cons x xs => cases xs with
       | nil => simp at h1
       | cons y ys => rfl
   rw [e, dif_neg (by simp; omega)];have hV : V g (.tup xs) (.tuple us.toArray) := .tup xs us.toArray (by simpa using hl) (fun i x v hx hv => KB (vs := us) (fun p hp => h.vals p (by simp [hp])) hx (by simpa using hv)) hnt;have hown : jA (.tup xs) (.tuple us.toArray) = jR (xs.zip us) := by
     simp only [jA, jR]
     congr 1
     apply List.ext_getElem?;intro i;simp only [List.getElem?_zipWith, List.getElem?_map, List.zip]
     cases hx : xs[i]? with
     | none => simp
     | some x => cases hu : us[i]? with
       | none => simp [hu]
       | some u => simp [hu]; exact (Jn (hnt x (zM hx)) u).symm
   have e1 : jR ((.tup xs, .tuple us.toArray) :: l) = jR (xs.zip us ++ l) := by rw [vP, <- hown]; simp [jR]
   refine ⟨h.len, fun p hp => ?_, h.objo, by rw [e1]; exact h.nodup, by rw [e1]; exact h.sub, h.lt, h.claim, h.apart, h.spare, h.glob, h.zs⟩
   rcases List.mem_cons.1 hp with rfl | hp
   . exact hV
   . exact h.vals p (by simp [hp])
theorem OBJ.cut {b n : Nat} {x : IObj} (h : OBJ g w b x) (hr : RLO n x) : OBJ (g.cut n) w b x := by
 cases x with
 | cells cs =>
   obtain ⟨c, el, h1, h2, h3⟩ := h;exact ⟨c, el, h1, h2, fun i x v hx hv => ⟨(h3 i x v hx hv).1.cut n (hr x (zM hx)), (h3 i x v hx hv).2⟩⟩
 | map es =>
   obtain ⟨mes, clock, h1, h2, h3, h4⟩ := h;refine ⟨mes, clock, h1, h2, fun i e me he hm => ?_, h4⟩;obtain ⟨⟨q1, q2⟩, q3⟩ := h3 i e me he hm;have := hr e (zM he);exact ⟨⟨q1.cut n this.1, q2.cut n this.2⟩, q3⟩
 | loop L =>
   obtain ⟨r, h1, h2⟩ := h;exact ⟨r, h1, h2.st, h2.ps, h2.pend, h2.wt, h2.ds, fun p hp => ⟨(h2.vals p hp).1.cut n (hr p hp), (h2.vals p hp).2⟩, h2.code⟩
 | defr => exact h
 | it s pos => exact h
 | dead => trivial
theorem OBJ.rlo {b : Nat} {x : IObj} (h : OBJ g w b x) : RLO g.ι.length x := by
 cases x with
 | cells cs =>
   obtain ⟨c, el, h1, h2, h3⟩ := h;intro x hx;obtain ⟨i, hi⟩ := jx hx;obtain ⟨v, hv⟩ := Ku h2 hi;exact (h3 i x v hi hv).1.rl
 | map es =>
   obtain ⟨mes, clock, h1, h2, h3, _⟩ := h;intro e he;obtain ⟨i, hi⟩ := jx he;obtain ⟨me, hm⟩ := jZ h2.symm hi;obtain ⟨⟨q1, q2⟩, _⟩ := h3 i e me hi hm;exact ⟨q1.rl, q2.rl⟩
 | loop L =>
   obtain ⟨r, h1, h2⟩ := h;exact fun p hp => (h2.vals p hp).1.rl
 | defr => trivial
 | it s pos => trivial
 | dead => trivial
theorem RLO.le {n m : Nat} {x : IObj} (h : RLO n x) (hle : n <= m) : RLO m x := by
 cases x with
 | cells cs => exact fun x hx => (h x hx).le hle
 | map es => exact fun e he => ⟨(h e he).1.le hle, (h e he).2.le hle⟩
 | loop L => exact fun p hp => (h p hp).le hle
 | _ => trivial
theorem R.rlo {l : jH} {σ : List IObj} (h : R g O l σ w) {id : Nat} {o : IObj} (ho : σ[id]? = some o) : RLO σ.length o := by
 have hid' : id < g.ι.length := by rw [h.len]; exact jg ho
 have h1 := h.objo id (g.ι[id]) o (by simp [hid']) ho
 cases hb : g.ι[id] with
 | un zs =>
   rw [hb] at h1;obtain ⟨rfl, h2⟩ := h1;exact RLO.le (n := 0) h2 (Nat.zero_le _)
 | bk b => rw [hb] at h1; rw [<- h.len]; exact OBJ.rlo h1
theorem KZ {l : jH} {σ : List IObj} {g' : Gh} {O' : List Nat} {w' : World} {s' : St} {v : IVal} {v' : Value} {pan : Bool} (h : R g O l σ w) (hg : Grow O g w O' g' w') (hR : R g' O' [(v, v')] s'.σ w') (hk : Keep σ s'.σ s'.wr) :
   ∃ g'', Grow O g w O' g'' w' /\ R g'' O' [((jC σ.length pan v s').v, v')] (jC σ.length pan v s').σ w' /\ Keep σ (jC σ.length pan v s').σ (jC σ.length pan v s').wr /\ (jC σ.length pan v s').pan = pan := by
 have hkf : ∀ σ2 : List IObj, Keep σ σ2 s'.wr -> Keep σ σ2 (s'.wr.filter fun p => decide (p.1 < σ.length)) := by
   intro σ2 hk2;refine ⟨hk2.1, fun n hn hw ho => hk2.2 n hn (fun p hp hp2 => ?_) ho⟩
   by_cases hlt : p.1 < σ.length
   . exact hw p (List.mem_filter.2 ⟨hp, by simpa using hlt⟩) hp2
   . omega
 unfold jC;split
 . rename_i hcond;simp only [zA, List.all_eq_true] at hcond;obtain ⟨hnr, hwr⟩ := hcond;have hlow : ∀ id o, id < σ.length -> s'.σ[id]? = some o -> RLO σ.length o := by
     refine hk.2 σ.length (Nat.le_refl _) (fun p hp hp2 => ?_) (fun id o hid ho => ?_)
     . have := hwr p hp;simp only [Bool.or_eq_true, Bool.not_eq_true', decide_eq_true_eq] at this
       rcases this with h1 | h1
       . rw [h1] at hp2; cases hp2
       . exact h1
     . exact h.rlo ho
   have hι : (g'.cut σ.length).ι = g'.ι.take σ.length := rfl;have hSsub : (kM w' (g'.ι.take σ.length) (s'.σ.take σ.length)).Sublist (kM w' g'.ι s'.σ) := by
     simp only [kM];rw [<- List.take_zipWith];exact VY (List.take_sublist _ _)
   have hsub : (jR [(v, v')] ++ kM w' (g'.ι.take σ.length) (s'.σ.take σ.length)).Sublist (jR [(v, v')] ++ kM w' g'.ι s'.σ) := List.Sublist.append (.refl _) hSsub;have vU : ∀ {α : Type} {l : List α} {id : Nat} {x : α}, (l.take σ.length)[id]? = some x -> l[id]? = some x /\ id < σ.length := by
     intro α l id x hx;rw [List.getElem?_take] at hx;split at hx
     . exact ⟨hx, by assumption⟩
     . cases hx
   refine ⟨g'.cut σ.length, ⟨hg.size, hg.same, hg.mono, fun id b hb => ?_, hg.fresh, hg.code, hg.os, hg.tape, hg.output, hg.zm⟩, ⟨?_, fun p hp => ?_, fun id b o h1 h2 => ?_, hR.nodup.sublist hsub, fun b hb => hR.sub b (hsub.mem hb), hR.lt, hR.claim, fun id b o h1 h2 => hR.apart id b o (vU h1).1 (vU h2).1, hR.spare, hR.glob, hR.zs⟩, ?_, rfl⟩
   . rw [hι, List.getElem?_take, if_pos (by rw [<- h.len]; exact jg hb)];exact hg.preo id b hb
   . simp [Gh.cut, hR.len]
   . simp only [List.mem_singleton] at hp;subst hp;exact (hR.vals (v, v') (by simp)).cut _ ((hR.vals (v, v') (by simp)).norl _ hnr)
   . obtain ⟨q1, q2⟩ := vU h1;obtain ⟨q3, _⟩ := vU h2
     cases b with
     | un zs => exact hR.objo id (.un zs) o q1 q3
     | bk b => exact (hR.objs id b o q1 q3).cut (hlow id o q2 q3)
   . refine hkf _ ⟨by have := hk.1; simp only [List.length_take]; omega, fun n hn hw ho id o hid hgo => ?_⟩;exact hk.2 n hn hw ho id o hid (vU hgo).1
 . exact ⟨g', hg, hR, hkf _ hk, rfl⟩
theorem jcm {gfn : Func} {tmps : Array Value} {Rp : Ending -> World -> Prop} {F : Fence} {n : Nat} {l : jH} {u : FrameMode} {base : List Deferred} (hu : u ≠ .run) : ∀ (ds : List Nat) (σ σ' : List IObj) (ms : List Deferred) (w : World), shut σ ds = some σ' -> MarksR g ds ms -> R g O l σ w ->
   (∀ w', R g O l σ' w' -> Grow O g w O g w' -> LeavesInM F n P gfn tmps Rp base u w') -> LeavesInM F n P gfn tmps Rp (ms ++ base) u w := by
 intro ds
 induction ds with
 | nil =>
   intro σ σ' ms w hs hd hR hk;have : ms = [] := List.eq_nil_of_length_eq_zero (by simpa using hd.1);subst this;simp [shut] at hs;subst hs;exact hk w hR (.refl _ _ _)
 | cons id ds ih =>
   intro σ σ' ms w hs hd hR hk
   cases ms with
   | nil => have := hd.1; simp at this
   | cons d ms =>
     obtain ⟨b, hι, rfl⟩ := hd.2 0 id d rfl rfl;simp only [shut] at hs;split at hs
     . rename_i hσ;have hob : w.heap[b]? = some (.deferred (some [])) := hR.objs id b _ hι hσ;have hlt : b < w.heap.size := (Array.getElem?_eq_some_iff.1 hob).1;obtain ⟨hR', hG⟩ := hR.putObj (ob' := .dead) (x := .deferred none) hι hσ (by simp) hlt (by rw [hob]; simp) trivial (.inr rfl) rfl;refine ⟨hu, .inl ⟨b, _, rfl, run_takeDeferred hob, ?_⟩⟩;exact ih _ σ' ms _ hs ⟨by have := hd.1; simp at this; exact this, fun i id' d' h1 h2 => hd.2 (i + 1) id' d' (by simpa using h1) (by simpa using h2)⟩ hR' (fun w' k1 k2 => hk w' k1 (hG.trans k2))
     . cases hs
theorem Z8 : ∀ (ds : List Nat) (σ σ' : List IObj), shut σ ds = some σ' -> Keep σ σ' (ds.map fun id => (id, false)) := by
 intro ds
 induction ds with
 | nil => intro σ σ' h; simp [shut] at h; subst h; exact .refl _
 | cons id ds ih =>
   intro σ σ' h;simp only [shut] at h;split at h
   . have h1 := ih _ _ h;have h2 : Keep σ (σ.set id .dead) [(id, false)] := Keep.set fun n _ _ _ => trivial;have h3 := h2.trans h1;refine ⟨h3.1, fun n hn hw ho => h3.2 n hn (fun p hp hp2 => hw p ?_ hp2) ho⟩;simp only [List.mem_append, List.mem_singleton, List.map_cons, List.mem_cons] at hp ⊢
     rcases hp with hp | hp
     . exact .inr hp
     . exact .inl (by simpa using hp)
   . cases h
end Go.Idl
namespace Go.Idl
variable [Globs]
def plain : Opd -> Bool
 | .m _ => false
 | _ => true
def zx : Option Opd -> Bool
 | some x => plain x
 | none => true
theorem qC {x : Opd} (h : plain x = true) {ts ts' : Ts} {v : IVal} (hg : x.get ts = some (v, ts')) : ts' = ts := by
 cases x <;> simp [plain] at h <;> simp [Opd.get] at hg
 . split at hg
   . simp at hg; exact hg.2.symm
   . cases hg
 . exact hg.2.symm
theorem jc {x : Opd} {xs : List Opd} {ts ts' : Ts} {vs : List IVal} : getAll (x :: xs) ts = some (vs, ts') ↔ ∃ v t1 ws, x.get ts = some (v, t1) /\ getAll xs t1 = some (ws, ts') /\ vs = v :: ws := by
 simp only [getAll]
 constructor
 . intro h;split at h
   . rename_i v t1 hx;split at h
     . rename_i ws t2 hxs;simp at h;obtain ⟨rfl, rfl⟩ := h;exact ⟨v, t1, ws, hx, hxs, rfl⟩
     . cases h
   . cases h
 . rintro ⟨v, t1, ws, h1, h2, rfl⟩;simp [h1, h2]
theorem jd {ts ts' : Ts} {vs : List IVal} : getAll [] ts = some (vs, ts') ↔ vs = [] /\ ts' = ts := by
 simp only [getAll, zO, zP];exact ⟨fun h => ⟨h.1.symm, h.2.symm⟩, fun h => ⟨h.1.symm, h.2.symm⟩⟩
theorem kG {xs ys : List Opd} : ∀ {ts ts' : Ts} {vs : List IVal}, getAll (xs ++ ys) ts = some (vs, ts') ↔ ∃ v1 t1 v2, getAll xs ts = some (v1, t1) /\ getAll ys t1 = some (v2, ts') /\ vs = v1 ++ v2 := by
 induction xs with
 | nil =>
   intro ts ts' vs;simp only [List.nil_append, jd]
   constructor
   . intro h; exact ⟨[], ts, vs, ⟨rfl, rfl⟩, h, rfl⟩
   . rintro ⟨_, _, v2, ⟨rfl, rfl⟩, h, rfl⟩; exact h
 | cons x xs ih =>
   intro ts ts' vs;simp only [List.cons_append, jc, ih]
   constructor
   . rintro ⟨v, t1, _, h1, ⟨v1, t2, v2, h2, h3, rfl⟩, rfl⟩; exact ⟨v :: v1, t2, v2, ⟨v, t1, v1, h1, h2, rfl⟩, h3, rfl⟩
   . rintro ⟨_, t2, v2, ⟨v, t1, v1, h1, h2, rfl⟩, h3, rfl⟩; exact ⟨v, t1, _, h1, ⟨v1, t2, v2, h2, h3, rfl⟩, rfl⟩
def kt : IOp -> Bool
 | .pick _ a b => plain a && plain b
 | .sliceS _ lo hi => zx lo && zx hi
 | .sliceL _ _ lo hi mx => zx lo && (zx hi && zx mx)
 | .extract x _ => plain x
 | _ => true
theorem qm {lo : Option Opd} (hp : zx lo = true) {ts ts2 t1 t2 : Ts} {vs : List IVal} {d : Nat} (h1 : getAll lo.toList ts = some (vs, t1)) (h2 : getAll lo.toList ts2 = some (vs, t2)) :
   t1 = ts /\ t2 = ts2 /\ qL lo ts2 d = qL lo ts d := by
 cases lo with
 | none =>
   simp only [Option.toList, jd] at h1 h2;exact ⟨h1.2, h2.2, rfl⟩
 | some x =>
   simp only [Option.toList, jc, jd] at h1 h2;obtain ⟨v, t, ws, a1, ⟨rfl, rfl⟩, rfl⟩ := h1;obtain ⟨v', t', ws', b1, ⟨rfl, rfl⟩, e⟩ := h2;simp at e;subst e;have := qC hp a1;have := qC hp b1;subst t1 t2;refine ⟨rfl, rfl, ?_⟩;simp only [qL, a1, b1];cases v <;> rfl
theorem JU {cf : jo} {o : IOp} (hd : kt o = true) {s : St} {ts2 t1 t2 : Ts} {vs : List IVal} {r : Res}
   (h1 : getAll (je o) s.ts = some (vs, t1)) (h2 : getAll (je o) ts2 = some (vs, t2)) (hs : ja cf o s = some r) :
   r.s.ts = t1 /\ ja cf o { s with ts := ts2 } = some { r with s := { r.s with ts := t2 } } := by
 cases o
 case panic x =>
   simp only [je, jc, jd] at h1 h2;obtain ⟨v, t, ws, a1, ⟨rfl, rfl⟩, rfl⟩ := h1;obtain ⟨v', t', ws', b1, ⟨rfl, rfl⟩, e⟩ := h2;simp only [List.cons.injEq] at e;obtain ⟨rfl, -⟩ := e;simp only [ja, a1, b1, rv, jw] at hs ⊢
   repeat' split at hs
   all_goals first | (cases hs; done) | (simp only [zO] at hs; subst hs; simp_all; done) | (simp only [zO] at hs; subst hs; simp_all; obtain ⟨rfl, rfl⟩ := a2; simp_all; done)
 case clear zs x =>
   simp only [je, jc, jd] at h1 h2;obtain ⟨v, t, ws, a1, ⟨rfl, rfl⟩, rfl⟩ := h1;obtain ⟨v', t', ws', b1, ⟨rfl, rfl⟩, e⟩ := h2;simp only [List.cons.injEq] at e;obtain ⟨rfl, -⟩ := e;simp only [ja, a1, b1, rv, jw] at hs ⊢;split at hs
   . rename_i e1;simp only [zO, zP] at e1;obtain ⟨rfl, rfl⟩ := e1;simp only;split at hs
     . split at hs
       . rename_i hc;rw [if_pos hc];simp only [zO] at hs; subst hs; exact ⟨rfl, rfl⟩
       . cases hs
     . cases hs
   . rename_i e1;simp only [zO, zP] at e1;obtain ⟨rfl, rfl⟩ := e1;simp only [zO] at hs; subst hs; exact ⟨rfl, rfl⟩
   . cases hs
 case pur k xs =>
   simp only [je] at h1 h2;simp only [ja, h1, h2, rv] at hs ⊢;split at hs
   . rename_i hp; simp only [zO] at hs; subst hs; simp [hp]
   . cases hs
 case mem k xs =>
   simp only [je] at h1 h2;simp only [ja, h1, h2] at hs ⊢;split at hs
   . rename_i hp; simp only [zO] at hs; subst hs; simp [hp]
   . cases hs
 case mv x | box x | vOf G tab x | boxv x | load mvf n x | nilCheck x | isnil neg k x | un op x | conv c x | mkIface ty x | fieldAddr o x | field o n x | lenS x | lenL x | lenM x =>
   simp only [je, jc, jd] at h1 h2;obtain ⟨v, t, ws, a1, ⟨rfl, rfl⟩, rfl⟩ := h1;obtain ⟨v', t', ws', b1, ⟨rfl, rfl⟩, e⟩ := h2;simp only [List.cons.injEq] at e;obtain ⟨rfl, -⟩ := e;simp only [ja, a1, b1, rv, jw] at hs ⊢
   repeat' split at hs
   all_goals first | (cases hs; done) | (simp only [zO] at hs; subst hs; simp_all; done) | (simp only [zO] at hs; subst hs; simp_all; obtain ⟨rfl, rfl⟩ := a2; simp_all; done)
 case vSet G tab x y =>
   simp only [je, jc, jd] at h1 h2;obtain ⟨v, t, ws, a1, ⟨v2, t3, ws2, a2, ⟨rfl, rfl⟩, rfl⟩, rfl⟩ := h1;obtain ⟨v', t', ws', b1, ⟨v2', t3', ws2', b2, ⟨rfl, rfl⟩, rfl⟩, e⟩ := h2;simp only [List.cons.injEq] at e;obtain ⟨rfl, rfl, -⟩ := e;simp only [ja, a1, b1, jw] at hs ⊢;split at hs
   . rename_i e1;simp only [zO, zP] at e1;obtain ⟨rfl, rfl⟩ := e1;simp only [a2, b2] at hs ⊢;split at hs
     . rename_i e2;simp only [zO, zP] at e2;obtain ⟨rfl, rfl⟩ := e2;split at hs
       . rename_i q1 q2;simp only [q1, q2] at hs ⊢;split at hs
         . rename_i q3;rw [if_pos q3];split at hs
           . rename_i q4;split at hs
             . rename_i q5;rw [if_pos q5];simp only [zO] at hs; subst hs; exact ⟨rfl, rfl⟩
             . cases hs
           . cases hs
         . cases hs
       . cases hs
     . cases hs
   . cases hs
 case store n x y | bin op x y | eqa neg x y | eqb neg x y | mkSl br esz bytes zs x y | idxAddr esz x y | idxAddrA len esz x y | idxS x y | idxA len esz n x y | lookup kk z ok x y | append br str esz bytes x y =>
   simp only [je, jc, jd] at h1 h2;obtain ⟨v, t, ws, a1, ⟨v2, t3, ws2, a2, ⟨rfl, rfl⟩, rfl⟩, rfl⟩ := h1;obtain ⟨v', t', ws', b1, ⟨v2', t3', ws2', b2, ⟨rfl, rfl⟩, rfl⟩, e⟩ := h2;simp only [List.cons.injEq] at e;obtain ⟨rfl, rfl, -⟩ := e;simp only [ja, a1, b1, a2, b2, rv, jw] at hs ⊢
   repeat' split at hs
   all_goals first | (cases hs; done) | (simp only [zO] at hs; subst hs; simp_all; done) | (simp only [zO] at hs; subst hs; simp_all; obtain ⟨rfl, rfl⟩ := a2; simp_all; done)
 case copy str esz x y =>
   simp only [je, jc, jd] at h1 h2;obtain ⟨v, t, ws, a1, ⟨v2, t3, ws2, a2, ⟨rfl, rfl⟩, rfl⟩, rfl⟩ := h1;obtain ⟨v', t', ws', b1, ⟨v2', t3', ws2', b2, ⟨rfl, rfl⟩, rfl⟩, e⟩ := h2;simp only [List.cons.injEq] at e;obtain ⟨rfl, rfl, -⟩ := e;cases v <;> simp [ja, a1, b1, a2, b2, rv, jw] at hs ⊢;split at hs
   . split at hs
     . rename_i hc;obtain ⟨rfl, hc2⟩ := hc;simp only [zO] at hs; subst hs; simp_all
     . cases hs
   . cases hs
 case mapSet kk x y z =>
   simp only [je, jc, jd] at h1 h2;obtain ⟨v, t, ws, a1, ⟨v2, t3, ws2, a2, ⟨v3, t4, ws3, a3, ⟨rfl, rfl⟩, rfl⟩, rfl⟩, rfl⟩ := h1;obtain ⟨v', t', ws', b1, ⟨v2', t3', ws2', b2, ⟨v3', t4', ws3', b3, ⟨rfl, rfl⟩, rfl⟩, rfl⟩, e⟩ := h2;simp only [List.cons.injEq] at e;obtain ⟨rfl, rfl, rfl, -⟩ := e;cases v <;> simp [ja, a1, b1, a2, b2, a3, b3, rv] at hs ⊢;split at hs
   . split at hs
     . split at hs
       . simp only [zO] at hs; subst hs; simp_all
       . cases hs
     . cases hs
   . cases hs
 case build zs parts | buildSl esz xs | buildRs esz xs =>
   simp only [je] at h1 h2;simp only [ja, h1, h2, rv, stepCall, jQ] at hs ⊢
   repeat' split at hs
   all_goals first | (cases hs; done) | (simp only [zO] at hs; subst hs; simp_all; done) | (simp only [zO] at hs; subst hs; simp_all; obtain ⟨rfl, rfl⟩ := a2; simp_all; done)
 case minmax mx xs =>
   simp only [je] at h1 h2
   revert h1 h2 hs
   rcases vs with _ | ⟨v, _ | ⟨v2, _ | ⟨v3, vs⟩⟩⟩ <;> intro h1 h2 hs
   . simp [ja, h1] at hs
   . simp [ja, h1] at hs
   . cases v <;> cases v2 <;> simp [ja, h1, h2, rv] at hs ⊢;obtain ⟨hk, hs⟩ := hs;subst hs;simp [hk]
   . simp [ja, h1] at hs
 case call f xs | callp f xs =>
   simp only [je] at h1 h2;simp only [ja, h1, h2, rv, stepCall, jQ] at hs ⊢
   repeat' split at hs
   all_goals first | (cases hs; done) | (simp only [zO] at hs; subst hs; simp_all; done) | (simp only [zO] at hs; subst hs; simp_all; obtain ⟨rfl, rfl⟩ := a2; simp_all; done)
 case alloc zs | mkMap =>
   simp only [je, jd] at h1 h2;simp only [ja, zO] at hs ⊢;subst hs;simp [h1.2, h2.2]
 case extract x i =>
   simp only [je, jc, jd] at h1 h2;obtain ⟨v, t, ws, a1, ⟨rfl, rfl⟩, rfl⟩ := h1;obtain ⟨v', t', ws', b1, ⟨rfl, rfl⟩, e⟩ := h2;simp only [List.cons.injEq] at e;obtain ⟨rfl, -⟩ := e;simp only [kt] at hd;cases v <;> simp [ja, a1, b1, rv] at hs ⊢;split at hs
   . cases x <;> simp [plain] at hd hs ⊢ <;> (subst hs; simp_all)
   . cases hs
 case pick c x y =>
   simp only [je, jc, jd] at h1 h2;obtain ⟨v, t, ws, a1, ⟨v2, t3, ws2, a2, ⟨v3, t4, ws3, a3, ⟨rfl, rfl⟩, rfl⟩, rfl⟩, rfl⟩ := h1;obtain ⟨v', t', ws', b1, ⟨v2', t3', ws2', b2, ⟨v3', t4', ws3', b3, ⟨rfl, rfl⟩, rfl⟩, rfl⟩, e⟩ := h2;simp only [List.cons.injEq] at e;obtain ⟨rfl, rfl, rfl, -⟩ := e;simp only [kt, zA] at hd;have p1 := qC hd.1 a2;have p2 := qC hd.1 b2;subst p1 p2;have p1 := qC hd.2 a3;have p2 := qC hd.2 b3;subst p1 p2
   cases v with
   | bool b => cases b <;> simp [ja, a1, b1, a2, b2, a3, b3, rv] at hs ⊢ <;> (subst hs; simp)
   | _ => simp [ja, a1] at hs
 case mkFn f xs ys =>
   simp only [je, kG] at h1 h2;obtain ⟨v1, u1, v2, a1, a2, rfl⟩ := h1;obtain ⟨v1', u1', v2', b1, b2, e⟩ := h2;have hl : v1.length = v1'.length := by rw [j8 a1, j8 b1]
   obtain ⟨rfl, rfl⟩ := List.append_inj e hl;simp only [ja, a1, b1, a2, b2, rv] at hs ⊢;split at hs
   . rename_i hc;simp only [zO] at hs;subst hs;simp [hc]
   . cases hs
 case inv tab x xs =>
   simp only [je, jc] at h1 h2;obtain ⟨v, t, ws, a1, a2, rfl⟩ := h1;obtain ⟨v', t', ws', b1, b2, e⟩ := h2;simp only [List.cons.injEq] at e;obtain ⟨rfl, rfl⟩ := e;simp only [ja, a1, b1, stepCall, jQ] at hs ⊢
   repeat' split at hs
   all_goals first | (cases hs; done) | (simp only [zO] at hs; subst hs; simp_all; done)
 case callv f xs =>
   simp only [je, jc] at h1 h2;obtain ⟨v, t, ws, a1, a2, rfl⟩ := h1;obtain ⟨v', t', ws', b1, b2, e⟩ := h2;simp only [List.cons.injEq] at e;obtain ⟨rfl, rfl⟩ := e
   cases v with
   | fn gf us vs =>
     cases gf <;> simp [ja, a1, b1, a2, b2, stepCall, jQ] at hs ⊢;split at hs
     . rename_i hc;simp only [zO] at hs;subst hs;simp [hc]
     . cases hs
   | yl id =>
     simp [ja, a1, b1, a2, b2, stepCall, jQ] at hs ⊢;split at hs
     . rename_i hc;simp only [zO] at hs;subst hs;simp [hc]
     . cases hs
   | _ => simp [ja, a1] at hs
 case sliceS x lo hi =>
   simp only [je, jc, kG] at h1 h2;obtain ⟨v, t, ws, a1, ⟨w1, t3, w2, a2, a3, rfl⟩, rfl⟩ := h1;obtain ⟨v', t', ws', b1, ⟨w1', t3', w2', b2, b3, rfl⟩, e⟩ := h2;simp only [List.cons.injEq] at e;obtain ⟨rfl, e⟩ := e;obtain ⟨rfl, rfl⟩ := List.append_inj e (by rw [j8 a2, j8 b2]);simp only [kt, zA] at hd
   cases v with
   | str b =>
     obtain ⟨rfl, rfl, q1⟩ := qm (d := 0) hd.1 a2 b2;obtain ⟨rfl, rfl, q2⟩ := qm (d := b.length) hd.2 a3 b3;simp only [ja, a1, b1, rv, q1, q2] at hs ⊢;split at hs
     . split at hs
       . simp only [zO] at hs; subst hs; simp_all
       . cases hs
     . cases hs
   | _ => simp [ja, a1] at hs
 case sliceL esz x lo hi mx =>
   simp only [je, jc, kG] at h1 h2;obtain ⟨v, t, ws, a1, ⟨w1, t3, _, a2, ⟨w2, t4, w3, a3, a4, rfl⟩, rfl⟩, rfl⟩ := h1;obtain ⟨v', t', ws', b1, ⟨w1', t3', _, b2, ⟨w2', t4', w3', b3, b4, rfl⟩, rfl⟩, e⟩ := h2;simp only [List.cons.injEq] at e;obtain ⟨rfl, e⟩ := e;obtain ⟨rfl, e2⟩ := List.append_inj e (by rw [j8 a2, j8 b2]);obtain ⟨rfl, rfl⟩ := List.append_inj e2 (by rw [j8 a3, j8 b3]);simp only [kt, zA] at hd
   cases v with
   | sl own r xs =>
     obtain ⟨rfl, rfl, q1⟩ := qm (d := 0) hd.1 a2 b2;obtain ⟨rfl, rfl, q2⟩ := qm (d := xs.length) hd.2.1 a3 b3;obtain ⟨rfl, rfl, q3⟩ := qm (d := xs.length) hd.2.2 a4 b4;simp only [ja, a1, b1, rv, q1, q2, q3] at hs ⊢
     repeat' split at hs
     all_goals first | (cases hs; done) | (simp only [zO] at hs; subst hs; simp_all; done)
   | rs e id off len =>
     obtain ⟨rfl, rfl, q1⟩ := qm (d := 0) hd.1 a2 b2;obtain ⟨rfl, rfl, q2⟩ := qm (d := len) hd.2.1 a3 b3;obtain ⟨rfl, rfl, q3⟩ := qm (d := len) hd.2.2 a4 b4;simp only [ja, a1, b1, rv, q1, q2] at hs ⊢
     repeat' split at hs
     all_goals first | (cases hs; done) | (simp only [zO] at hs; subst hs; simp_all; done)
   | _ => simp [ja, a1] at hs
end Go.Idl
namespace Go.Idl
variable [Globs]
theorem jdf {cf : jo} {o : IOp} (hq : jz o = true) {s : St} {r : Res} (hn : YA o s = true) (hs : ja cf o s = some r) :
   r.s.σ = s.σ /\ r.s.wr = s.wr /\ ∀ σ2, (∀ id, Qc o s = some id -> σ2[id]? = s.σ[id]?) -> ja cf o { s with σ := σ2 } = some { r with s := { r.s with σ := σ2 } } := by
 cases o <;> simp only [jz, Bool.false_eq_true] at hq
 case load mvf n x =>
   simp only [Bool.not_eq_true'] at hq;subst hq;simp only [ja, rv, Qc] at hs ⊢
   cases hx : x.get s.ts with
   | none => simp [hx] at hs
   | some p =>
     obtain ⟨v, ts⟩ := p;cases v <;> simp [hx] at hs ⊢
     case ptr id off =>
       split at hs
       . rename_i cs hcs;split at hs
         . simp only [zO] at hs; subst hs;refine ⟨rfl, rfl, fun σ2 h2 => ?_⟩;have : jt σ2 id = jt s.σ id := by simp [jt, h2]
           simp_all
         . cases hs
       . cases hs
     case pv r cs off =>
       split at hs
       . simp only [zO] at hs; subst hs; simp_all
       . cases hs
 case lookup kk z ok x k | lenM x =>
   simp only [ja, rv, Qc] at hs ⊢
   cases hx : x.get s.ts with
   | none => simp [hx] at hs
   | some p =>
     obtain ⟨v, ts⟩ := p;cases v <;> simp [hx] at hs ⊢
     case map id =>
       refine ⟨?_, ?_, fun σ2 h2 => ?_⟩
       . repeat' split at hs
         all_goals first | (cases hs; done) | (simp only [zO] at hs; subst hs; rfl)
       . repeat' split at hs
         all_goals first | (cases hs; done) | (simp only [zO] at hs; subst hs; rfl)
       . rw [h2]
         repeat' split at hs
         all_goals first | (cases hs; done) | (simp only [zO] at hs; subst hs; simp_all; done)
 case append br str esz bytes x y =>
   simp only [Bool.not_eq_true'] at hq;subst hq;simp only [ja, rv, YA, Bool.false_eq_true, if_false, false_and] at hs hn ⊢
   cases hx : x.get s.ts with
   | none => simp [hx] at hs
   | some p =>
     obtain ⟨v, ts⟩ := p;simp only [hx] at hs hn
     cases hy : y.get ts with
     | none => simp [hy] at hs
     | some q =>
       obtain ⟨v2, ts2⟩ := q;simp only [hy] at hs hn;have he : ∀ σ2, qr str esz v2 σ2 = qr str esz v2 s.σ := by
         intro σ2;cases str <;> cases v2 <;> first | rfl | simp at hn
       refine ⟨?_, ?_, fun σ2 _ => ?_⟩
       . repeat' split at hs
         all_goals first | (cases hs; done) | (simp only [zO] at hs; subst hs; rfl)
       . repeat' split at hs
         all_goals first | (cases hs; done) | (simp only [zO] at hs; subst hs; rfl)
       . simp only [hy, he σ2]
         repeat' split at hs
         all_goals first | (cases hs; done) | (simp only [zO] at hs; subst hs; simp_all; done)
 case minmax mx xs =>
   simp only [ja, rv] at hs ⊢
   cases hx : getAll xs s.ts with
   | none => simp [hx] at hs
   | some p =>
     obtain ⟨vs, ts⟩ := p;simp only [hx] at hs
     rcases vs with _ | ⟨v, _ | ⟨v2, _ | ⟨v3, vs⟩⟩⟩
     . simp at hs
     . simp at hs
     . cases v <;> cases v2 <;> simp at hs ⊢;obtain ⟨hk, hs⟩ := hs;subst hs;simp [hk]
     . simp at hs
 all_goals
   simp only [ja, rv] at hs ⊢
   repeat' split at hs
   all_goals first | (cases hs; done) | (simp only [zO] at hs; subst hs; simp_all; done)
def Same (σ σ' : List IObj) (wr : List (Nat × Bool)) : Prop := ∀ id, id < σ.length -> (∀ p ∈ wr, p.1 ≠ id) -> σ'[id]? = σ[id]?
theorem Same.refl (σ : List IObj) : Same σ σ [] := fun _ _ _ => rfl
theorem Same.trans {σ σ1 σ2 : List IObj} {w1 w2 : List (Nat × Bool)} (h : Same σ σ1 w1) (k : Same σ1 σ2 w2) : Same σ σ2 (w2 ++ w1) := by
 intro id hid hw;have h1 := h id hid (fun p hp => hw p (by simp [hp]));have hlt : id < σ1.length := by
   rcases Nat.lt_or_ge id σ1.length with h2 | h2
   . exact h2
   . rw [List.getElem?_eq_none h2, List.getElem?_eq_getElem hid] at h1; cases h1
 rw [k id hlt (fun p hp => hw p (by simp [hp])), h1]
theorem Same.set (σ : List IObj) (i : Nat) (o : IObj) (b : Bool) : Same σ (σ.set i o) [(i, b)] := by
 intro id _ hw;have := hw (i, b) (by simp);rw [List.getElem?_set_ne this]
theorem Same.push (σ : List IObj) (o : IObj) : Same σ (σ ++ [o]) [] := by
 intro id hid _;rw [zL hid]
def zC (cf : jo) : Prop := ∀ f args σ out, cf f args σ = some out -> Same σ out.σ out.wr
theorem je8 {k : MemK} {vs : List IVal} {σ σ' : List IObj} {v : IVal} {wr : List (Nat × Bool)} (h : y6 k vs σ = some (v, σ', wr)) : Same σ σ' wr := by
 unfold y6 at h
 repeat' split at h
 all_goals first
   | (cases h; done)
   | (simp only [zO, zP] at h; obtain ⟨-, rfl, rfl⟩ := h; exact .refl _)
   | (simp only [zO, zP] at h; obtain ⟨-, rfl, rfl⟩ := h; exact .push _ _)
   | (simp only [zO, zP] at h; obtain ⟨-, rfl, rfl⟩ := h; exact .set _ _ _ _)
theorem zj {cf : jo} (hcf : zC cf) {o : IOp} {s : St} {r : Res} (hs : ja cf o s = some r) : ∃ wn, r.s.wr = wn ++ s.wr /\ Same s.σ r.s.σ wn := by
 have hcall : ∀ f vs ts, stepCall cf f vs ts s = some r -> ∃ wn, r.s.wr = wn ++ s.wr /\ Same s.σ r.s.σ wn := by
   intro f vs ts h;unfold stepCall at h;split at h
   . rename_i out hout;simp only [zO] at h;subst h;exact ⟨out.wr, rfl, hcf _ _ _ _ hout⟩
   . cases h
 cases o
 case alloc zs => simp only [ja, zO] at hs; subst hs; exact ⟨[], rfl, .push _ _⟩
 case mkMap => simp only [ja, zO] at hs; subst hs; exact ⟨[], rfl, .push _ _⟩
 case call f xs =>
   simp only [ja] at hs;split at hs
   . exact hcall _ _ _ hs
   . cases hs
 case callv f xs =>
   simp only [ja] at hs;split at hs
   . split at hs
     . exact hcall _ _ _ hs
     . cases hs
   . split at hs
     . exact hcall _ _ _ hs
     . cases hs
   . cases hs
 case inv tab x xs =>
   simp only [ja] at hs
   repeat' split at hs
   all_goals first
     | (cases hs; done)
     | exact hcall _ _ _ hs
 case mem k xs =>
   simp only [ja] at hs;split at hs
   . split at hs
     . rename_i hm; simp only [zO] at hs; subst hs; exact ⟨_, rfl, je8 hm⟩
     . cases hs
   . cases hs
 all_goals
   simp only [ja, rv, jw] at hs
   repeat' split at hs
   all_goals first
     | (cases hs; done)
     | (simp only [zO] at hs; subst hs; exact ⟨[], rfl, .refl _⟩)
     | (simp only [zO] at hs; subst hs; exact ⟨[], rfl, .push _ _⟩)
     | (simp only [zO] at hs; subst hs; exact ⟨[_], rfl, .set _ _ _ _⟩)
     | (simp only [zO] at hs; subst hs; exact ⟨[_], rfl, (Same.set _ _ .dead false).trans (.push _ _)⟩)
end Go.Idl
namespace Go.Idl
variable [Globs]
theorem Same.fin {σ σ' : List IObj} {wr : List (Nat × Bool)} (h : Same σ σ' wr) : Same σ (σ'.take σ.length) (wr.filter fun p => decide (p.1 < σ.length)) := by
 intro id hid hw;rw [List.getElem?_take, if_pos hid];refine h id hid fun p hp he => ?_;exact hw p (List.mem_filter.2 ⟨hp, by simp [he, hid]⟩) he
theorem Same.filter {σ σ' : List IObj} {wr : List (Nat × Bool)} (h : Same σ σ' wr) : Same σ σ' (wr.filter fun p => decide (p.1 < σ.length)) := by
 intro id hid hw;refine h id hid fun p hp he => ?_;exact hw p (List.mem_filter.2 ⟨hp, by simp [he, hid]⟩) he
def Chg (s s' : St) : Prop := ∃ wn, s'.wr = wn ++ s.wr /\ Same s.σ s'.σ wn
theorem Chg.refl (s : St) : Chg s s := ⟨[], rfl, .refl _⟩
theorem Chg.trans {s s1 s2 : St} (h : Chg s s1) (k : Chg s1 s2) : Chg s s2 := by
 obtain ⟨w1, h1, h2⟩ := h;obtain ⟨w2, k1, k2⟩ := k;exact ⟨w2 ++ w1, by rw [k1, h1, zS], h2.trans k2⟩
theorem jbg : ∀ {rs : List RV} {s s' : St} {vs : List IVal}, kR rs s = some (vs, s') -> Chg s s' := by
 intro rs
 induction rs with
 | nil => intro s s' vs h; simp [kR] at h; obtain ⟨-, rfl⟩ := h; exact .refl _
 | cons r rs ih =>
   intro s s' vs h
   cases r with
   | t i =>
     simp only [kR] at h;split at h
     . split at h
       . rename_i h1;simp only [zO, zP] at h;obtain ⟨-, rfl⟩ := h;have := ih h1;exact this
       . cases h
     . cases h
   | cell i n =>
     simp only [kR] at h
     repeat' split at h
     all_goals first | (cases h; done) | skip
     rename_i h1;simp only [zO, zP] at h;obtain ⟨-, rfl⟩ := h;exact Chg.trans ⟨[_], rfl, Same.set _ _ _ _⟩ (ih h1)
theorem XY {cf : jo} (hcf : zC cf) : ∀ {l : List IOper} {s s' : St} {x : IExit}, jY cf l s = some (x, s') -> Chg s s' := by
 intro l
 induction l with
 | nil => intro s s' x h; simp [jY] at h; obtain ⟨-, rfl⟩ := h; exact .refl _
 | cons o os ih =>
   intro s s' x h;simp only [jY] at h;split at h
   . split at h
     . rename_i v s1 h1;have h2 := ih h;exact Chg.trans (s1 := s1) (zj hcf h1) h2
     . rename_i v s1 h1;simp only [zO, zP] at h;obtain ⟨-, rfl⟩ := h;exact zj hcf h1
     . cases h
   . exact ih (s := { s with ts := ze s.ts o.dst ju }) h
   . cases h
theorem qF {cf : jo} (hcf : zC cf) {o : IOper} {s s' : St} {q : Option IVal} {l : DLog} (h : jG cf o s = some (q, s', l)) : s'.wr = l.wr ++ s.wr /\ Same s.σ s'.σ l.wr := by
 simp only [jG] at h;split at h
 . split at h
   . split at h
     . split at h
       . rename_i hs;obtain ⟨wn, h1, h2⟩ := zj hcf hs;simp only [zO, zP] at h;obtain ⟨rfl, rfl, rfl⟩ := h;simp only [List.append_nil] at h1;exact ⟨rfl, by rw [h1]; exact h2⟩
       . rename_i hs;obtain ⟨wn, h1, h2⟩ := zj hcf hs;simp only [zO, zP] at h;obtain ⟨rfl, rfl, rfl⟩ := h;simp only [List.append_nil] at h1;exact ⟨rfl, by rw [h1]; exact h2⟩
       . cases h
     . cases h
   . cases h
 . simp only [zO, zP] at h;obtain ⟨rfl, rfl, rfl⟩ := h;exact ⟨rfl, .refl _⟩
 . cases h
theorem jbk {cf : jo} (hcf : zC cf) : ∀ {l : List (Nat × IOper)} {s s' : St} {q : Option (IVal × List (Nat × Bool))} {ls : List (Nat × DLog)}, jv cf l s = some (q, s', ls) -> Chg s s' := by
 intro l
 induction l with
 | nil => intro s s' q x h; simp [jv] at h; obtain ⟨-, rfl, -⟩ := h; exact .refl _
 | cons o os ih =>
   intro s s' q x h;simp only [jv] at h;split at h
   . rename_i s1 lg h1;split at h
     . rename_i h2;simp only [zO, zP] at h;obtain ⟨rfl, rfl, -⟩ := h;exact Chg.trans ⟨_, qF hcf h1⟩ (ih h2)
     . cases h
   . rename_i h1;simp only [zO, zP] at h;obtain ⟨-, rfl, -⟩ := h;exact ⟨_, qF hcf h1⟩
   . cases h
theorem jaI {l : List (Nat × IOper)} {q : Option (IVal × List (Nat × Bool))} {s0 s s' : St} {x : IExit} (h : yy l q s = some (x, s')) (hc : Chg s0 s) : Chg s0 s' := by
 cases q with
 | none => simp only [yy, zO, zP] at h; obtain ⟨-, rfl⟩ := h; exact hc
 | some p =>
   simp only [yy, zO, zP] at h;obtain ⟨-, rfl⟩ := h;obtain ⟨wn, h1, h2⟩ := hc;exact ⟨wn, h1, h2⟩
def cfOf (F : IProg) (n : Nat) : jo := fun f args σ => match f with
 | .f f => match F f with
   | some fn => vW (eval F n) fn args σ
   | none => none
 | .y id => yi (eval F n) id args σ
theorem Z9 : ∀ (ds : List Nat) (σ σ' : List IObj), shut σ ds = some σ' -> Same σ σ' (ds.map fun id => (id, false)) := by
 intro ds
 induction ds with
 | nil => intro σ σ' h; simp [shut] at h; subst h; exact .refl _
 | cons id ds ih =>
   intro σ σ' h;simp only [shut] at h;split at h
   . have h3 := (Same.set σ id .dead false).trans (ih _ _ h);intro k hk hw;refine h3 k hk fun p hp => hw p ?_;simp only [List.mem_append, List.mem_singleton, List.map_cons, List.mem_cons] at hp ⊢
     rcases hp with hp | hp
     . exact .inr hp
     . exact .inl (by simpa using hp)
   . cases h
theorem Ym {pan : Bool} {v : IVal} {σ : List IObj} {s1 : St} (h : ∃ wn, s1.wr = wn ++ [] /\ Same σ s1.σ wn) : Same σ (jC σ.length pan v s1).σ (jC σ.length pan v s1).wr := by
 obtain ⟨wn, h1, h2⟩ := h;simp only [List.append_nil] at h1;subst h1;unfold jC;split
 . exact h2.fin
 . exact h2.filter
theorem jeY {ev : ICode -> St -> Option (IExit × St)} (hev : ∀ {c : ICode} {s s' : St} {x : IExit}, ev c s = some (x, s') -> Chg s s') {d : DInfo} {c : ICode} {args : List IVal} {x y : IExit} {s s' : St} (h : yI ev d c args x s = some (y, s')) : Chg s s' := by
 unfold yI at h;split at h
 . rename_i m σ1 hm hsh;unfold Ve at h;split at h
   . rename_i z s3 h3;have key : Chg s { s with ts := { s.ts with ds := [] }, σ := s3.σ, wr := s3.wr ++ ((s.ts.ds.map fun id => (id, false)) ++ s.wr) } := by
       obtain ⟨w3, q1, q2⟩ := hev h3;refine ⟨s3.wr ++ (s.ts.ds.map fun id => (id, false)), by simp, ?_⟩;refine (Z9 _ _ _ hsh).trans ?_;simp only [List.append_nil] at q1;rw [q1]; exact q2
     split at h
     . cases h
     . split at h
       . simp only [zO, zP] at h;obtain ⟨-, rfl⟩ := h;exact key
       . cases h
   . cases h
 . cases h
theorem jgX {F : IProg} : ∀ n, zC (cfOf F n) /\ ∀ {c : ICode} {s s' : St} {x : IExit}, eval F n c s = some (x, s') -> Chg s s' := by
 have hret : ∀ {σ : List IObj} {s1 : St} {res : List RV} {out : Out}, (∃ wn, s1.wr = wn ++ [] /\ Same σ s1.σ wn) -> jfL σ.length res s1 = some out -> Same σ out.σ out.wr := by
   intro σ s1 res out h0 h;obtain ⟨wn, q1, q2⟩ := h0;unfold jfL at h;split at h
   . rename_i σ1 hsh;split at h
     . rename_i vs s' hrd;split at h
       . simp only [zO] at h;subst h;obtain ⟨wn', k1, k2⟩ := jbg hrd;refine Ym ⟨wn' ++ ((s1.ts.ds.map fun id => (id, false)) ++ wn), ?_, ?_⟩
         . rw [k1]; simp only; rw [q1]; simp
         . exact (q2.trans (Z9 _ _ _ hsh)).trans k2
       . cases h
     . cases h
   . cases h
 have hcall : ∀ n, (∀ {c : ICode} {s s' : St} {x : IExit}, eval F n c s = some (x, s') -> Chg s s') -> zC (cfOf F n) := by
   intro n ih f args σ out h;unfold cfOf at h;split at h
   . split at h
     . unfold vW at h
       repeat' split at h
       all_goals first | (cases h; done) | skip
       . simp only [zO] at h; subst h; exact .refl _
       . rename_i h1; exact hret (ih h1) h
       . rename_i h1; exact hret (ih h1) h
       . rename_i h1 _ _;simp only [zO] at h;subst h;exact Ym (ih h1)
     . cases h
   . rename_i id;unfold yi at h;split at h
     . split at h
       . split at h
         . rename_i s1 h1;split at h
           . split at h
             . split at h
               . rename_i x s2 h2;split at h
                 . rename_i l2 _;have k0 : Chg { ts := ‹Ts›, σ := σ, wr := [] } s1 := ih h1;have k1 := ih h2;obtain ⟨w1, a1, a2⟩ := k0;obtain ⟨w2, b1, b2⟩ := k1;have key : ∀ (L : ILoop) (v : Bool), Same σ (jC σ.length false (.bool v) { s2 with σ := s2.σ.set id (.loop L), wr := (id, false) :: s2.wr }).σ (jC σ.length false (.bool v) { s2 with σ := s2.σ.set id (.loop L), wr := (id, false) :: s2.wr }).wr := by
                     intro L v;refine Ym ⟨[(id, false)] ++ (w2 ++ ([(id, false)] ++ w1)), ?_, ?_⟩
                     . simp only [b1, a1]; simp
                     . exact ((a2.trans (Same.set _ _ _ _)).trans b2).trans (Same.set _ _ _ _)
                   split at h
                   . simp only [zO] at h; subst h; exact key _ _
                   . split at h
                     . simp only [zO] at h; subst h; exact key _ _
                     . cases h
                 . cases h
               . cases h
             . cases h
           . cases h
         . cases h
       . cases h
     . cases h
 intro n
 suffices h : ∀ {c : ICode} {s s' : St} {x : IExit}, eval F n c s = some (x, s') -> Chg s s' from ⟨hcall n h, h⟩
 induction n with
 | zero => intro c s s' x h; simp [eval] at h
 | succ n ih =>
   have hcf := hcall n ih;have hcfe : (fun (f : Cal) (args : List IVal) (σ : List IObj) => match f with
     | .f f => match F f with
       | some fn => vW (eval F n) fn args σ
       | none => none
     | .y id => yi (eval F n) id args σ) = cfOf F n := rfl
   intro c s s' x h;cases c <;> simp only [eval, hcfe] at h
   case ops l => exact XY hcf h
   case draw l pairs =>
     split at h
     . rename_i h1;split at h
       . exact jaI h (jbk hcf h1)
       . cases h
     . cases h
   case seq a b =>
     split at h
     . rename_i h1; exact (ih h1).trans (ih h)
     . exact ih h
   case cond y a b =>
     repeat' split at h
     all_goals first | (cases h; done) | exact ih h
   case block id b =>
     split at h
     . rename_i h1;split at h
       . simp only [zO, zP] at h; obtain ⟨-, rfl⟩ := h; exact ih h1
       . simp only [zO, zP] at h; obtain ⟨-, rfl⟩ := h; exact ih h1
     . exact ih h
   case loop b =>
     split at h
     . rename_i h1; exact (ih h1).trans (ih h)
     . exact ih h
   case scope b =>
     split at h
     . cases h
     . exact ih h
   case rangeF y ps a b =>
     split at h
     . split at h
       . rename_i v σ1 wr1 hc;split at h
         . rename_i l hl;have k0 := hcf (.f _) _ _ _ hc;have k1 : ∀ (ts : Ts), Chg s { ts := ts, σ := σ1.set (s.σ.length + 1) .dead, wr := (s.σ.length + 1, false) :: (wr1 ++ s.wr) } := by
             intro ts;refine ⟨(s.σ.length + 1, false) :: wr1, by simp, ?_⟩;have a1 : Same s.σ (s.σ ++ [.defr, .loop ⟨0, { s.ts with t := s.ts.t.un, ds := [] }, ps, a, b, none, .none⟩]) [] := by
               intro id hid _;rw [zL hid]
             have := (a1.trans k0).trans (Same.set σ1 (s.σ.length + 1) .dead false);simpa using this
           split at h
           . cases h
           . split at h
             . simp only [zO, zP] at h; obtain ⟨-, rfl⟩ := h; exact k1 _
             . split at h
               . simp only [zO, zP] at h; obtain ⟨-, rfl⟩ := h; exact k1 _
               . cases h
         . cases h
       . cases h
     . cases h
   case stuck => cases h
   case dfr l x xs d c b =>
     split at h
     . rename_i s1 h1;split at h
       . split at h
         . split at h
           . split at h
             . rename_i x2 s2 h2;have k1 := XY hcf h1;have k2 := ih h2;exact k1.trans (Chg.trans ⟨k2.choose, k2.choose_spec.1, k2.choose_spec.2⟩ (jeY ih h))
             . cases h
           . cases h
         . cases h
       . cases h
     . cases h
   case lib p => cases h
   all_goals (simp only [zO, zP] at h; obtain ⟨-, rfl⟩ := h; exact .refl _)
end Go.Idl
namespace Go.Idl
variable [Globs]
def jfq : Opd -> List Nat
 | .t i => [i]
 | .m i => [i]
 | .c _ => []
def jb2 : Option (Nat × Bool) -> List Nat
 | some (t, _) => [t]
 | none => []
def qN (o : IOper) : List Nat := (je o.op).flatMap jfq ++ jb2 o.guard
theorem jhJ {x : Opd} {i : Nat} (h : i ∈ YE x) : i ∈ jfq x := by cases x <;> simp_all [YE, jfq]
theorem Kd {o : IOper} {i : Nat} (h : i ∈ vu o) : i ∈ qN o := by
 simp only [vu, List.mem_flatMap] at h;obtain ⟨x, hx, hi⟩ := h;exact List.mem_append_left _ (List.mem_flatMap.2 ⟨x, hx, jhJ hi⟩)
theorem Ts.get?_set_ne {ts : Ts} {i k : Nat} {v : IVal} (h : ts.slot i ≠ ts.slot k) : (ts.set i v).get? k = ts.get? k := by
 have h2 : (ts.set i v).slot k = ts.slot k := rfl;unfold Ts.get?;rw [h2];simp only [Ts.set, Tm.get_ne _ _ _ _ h]
theorem Ts.set_comm {ts : Ts} {i k : Nat} {v u : IVal} (h : ts.slot i ≠ ts.slot k) : (ts.set i v).set k u = (ts.set k u).set i v := by
 have h1 : (ts.set i v).slot k = ts.slot k := rfl;have h2 : (ts.set k u).slot i = ts.slot i := rfl;simp only [Ts.set] at *;rw [h1, h2, Tm.set_comm _ _ _ _ _ h]
def mv1 (ts : Ts) (i : Nat) : Ts := match ts.get? i with
 | some v => ts.set i (un3 v)
 | none => ts
def kg (ms : List Nat) (ts : Ts) : Ts := ms.foldl mv1 ts
theorem y7 {ts : Ts} {i : Nat} {v : IVal} (h : ts.get? i = some v) : mv1 ts i = ts.set i (un3 v) := by unfold mv1; rw [h]
theorem Ky {ts : Ts} {i : Nat} (h : ts.get? i = none) : mv1 ts i = ts := by unfold mv1; rw [h]
theorem Kz (ts : Ts) (i : Nat) : SameSh ts (mv1 ts i) := by unfold mv1; split <;> exact ⟨rfl, rfl, rfl⟩
theorem SameSh.slot {ts ts' : Ts} (h : SameSh ts ts') (k : Nat) : ts'.slot k = ts.slot k := by simp only [Ts.slot, h.1, h.2.1]
theorem qz (ms : List Nat) : ∀ (ts : Ts), SameSh ts (kg ms ts) := by
 induction ms with
 | nil => intro ts; exact .refl _
 | cons m ms ih => intro ts; exact (Kz _ _).trans (ih _)
theorem ji4 {ts : Ts} {i k : Nat} (h : ts.slot i ≠ ts.slot k) : (mv1 ts i).get? k = ts.get? k := by
 unfold mv1; split
 . exact Ts.get?_set_ne h
 . rfl
theorem ji3 {ts : Ts} {i : Nat} : (mv1 ts i).get? i = (ts.get? i).map un3 := by
 cases hv : ts.get? i with
 | none => rw [Ky hv, hv]; rfl
 | some v => rw [y7 hv, Ts.get?_set hv]; rfl
theorem jhx {ms : List Nat} : ∀ {ts : Ts} {k : Nat}, (∀ m ∈ ms, ts.slot m ≠ ts.slot k) -> (kg ms ts).get? k = ts.get? k := by
 induction ms with
 | nil => intro ts k _; rfl
 | cons m ms ih =>
   intro ts k h;refine (ih (ts := mv1 ts m) fun m' hm => ?_).trans (ji4 (h m (by simp)));rw [(Kz ts m).slot, (Kz ts m).slot]; exact h m' (by simp [hm])
theorem jff {ts : Ts} {i m : Nat} {v : IVal} (h : ts.slot i ≠ ts.slot m) : mv1 (ts.set i v) m = (mv1 ts m).set i v := by
 unfold mv1;rw [Ts.get?_set_ne h];split
 . rw [Ts.set_comm h]
 . rfl
theorem ZI {ms : List Nat} : ∀ {ts : Ts} {i : Nat} {v : IVal}, (∀ m ∈ ms, ts.slot i ≠ ts.slot m) -> kg ms (ts.set i v) = (kg ms ts).set i v := by
 induction ms with
 | nil => intro ts i v _; rfl
 | cons m ms ih =>
   intro ts i v h;simp only [kg, List.foldl_cons];rw [jff (h m (by simp))];refine ih (ts := mv1 ts m) fun m' hm => ?_;rw [(Kz ts m).slot, (Kz ts m).slot]; exact h m' (by simp [hm])
theorem jks {ts : Ts} {i m : Nat} (h : ts.slot i ≠ ts.slot m) : mv1 (mv1 ts i) m = mv1 (mv1 ts m) i := by
 have h1 : (mv1 ts m).get? i = ts.get? i := ji4 (Ne.symm h)
 cases hv : ts.get? i with
 | none =>
   rw [Ky hv, Ky (h1.trans hv)]
 | some v => rw [y7 hv, y7 (h1.trans hv), jff h]
theorem jfg {ms : List Nat} : ∀ {ts : Ts} {i : Nat}, (∀ m ∈ ms, ts.slot i ≠ ts.slot m) -> kg ms (mv1 ts i) = mv1 (kg ms ts) i := by
 induction ms with
 | nil => intro ts i _; rfl
 | cons m ms ih =>
   intro ts i h;simp only [kg, List.foldl_cons];rw [jks (h m (by simp))];refine ih (ts := mv1 ts m) fun m' hm => ?_;rw [(Kz ts m).slot, (Kz ts m).slot]; exact h m' (by simp [hm])
theorem jaZ {ks : List Nat} : ∀ {ms : List Nat} {ts : Ts}, (∀ k ∈ ks, ∀ m ∈ ms, ts.slot k ≠ ts.slot m) -> kg ms (kg ks ts) = kg ks (kg ms ts) := by
 induction ks with
 | nil => intro ms ts _; rfl
 | cons k ks ih =>
   intro ms ts h;simp only [kg, List.foldl_cons];have h1 := ih (ms := ms) (ts := mv1 ts k) (fun k' hk m hm => by rw [(Kz ts k).slot, (Kz ts k).slot]; exact h k' (by simp [hk]) m hm);have h2 := jfg (ts := ts) (h k (by simp));simp only [kg] at h1 h2;rw [h1, h2]
def Off (U : List Nat) (ts ts2 : Ts) : Prop := ∀ k ∈ U, ts.get? k = ts2.get? k
theorem Off.symm {U : List Nat} {ts ts2 : Ts} (h : Off U ts ts2) : Off U ts2 ts := fun k hk => (h k hk).symm
theorem Ts.get?_set_iff {ts : Ts} {i k : Nat} {v : IVal} (h : ts.get? i = some v) (y : IVal) (hk : k ≠ i) : (ts.set i y).get? k = ts.get? k := by
 by_cases hs : ts.slot i = ts.slot k
 . have h1 := Ts.get?_spec h;have h2 : (ts.set i y).slot k = ts.slot k := rfl;unfold Ts.get?;rw [h2, <- hs, h1];simp only [Ts.set, Tm.get_set, jaR h1, cond_true];have : Nat.beq i k = false := by
     cases hb : Nat.beq i k with
     | false => rfl
     | true => exact absurd (zN hb).symm hk
   rw [this]; rfl
 . exact Ts.get?_set_ne hs
theorem Off.mv1 {U : List Nat} {ts ts2 : Ts} (h : Off U ts ts2) (i : Nat) (hi : i ∈ U) : Off U (mv1 ts i) (mv1 ts2 i) := by
 intro k hk
 by_cases e : k = i
 . subst e; rw [ji3, ji3, h k hi]
 . cases hv : ts.get? i with
   | none => rw [Ky hv, Ky ((h i hi).symm.trans hv)]; exact h k hk
   | some v =>
     have hv2 := (h i hi).symm.trans hv;rw [y7 hv, y7 hv2, Ts.get?_set_iff hv _ e, Ts.get?_set_iff hv2 _ e];exact h k hk
theorem zW {U : List Nat} {x : Opd} (hx : ∀ i ∈ jfq x, i ∈ U) {ts ts2 ts' : Ts} {v : IVal} (h : Off U ts ts2) (hg : x.get ts = some (v, ts')) :
   ts' = kg (YE x) ts /\ x.get ts2 = some (v, kg (YE x) ts2) /\ Off U ts' (kg (YE x) ts2) := by
 cases x with
 | t i =>
   have hi := h i (hx i (by simp [jfq]));simp only [Opd.get, YE, kg, List.foldl_nil] at hg ⊢;rw [<- hi];split at hg
   . simp only [zO, zP] at hg; obtain ⟨rfl, rfl⟩ := hg;exact ⟨rfl, rfl, h⟩
   . cases hg
 | m i =>
   have hiU := hx i (by simp [jfq]);have hi := h i hiU;simp only [Opd.get, YE, kg, List.foldl_cons, List.foldl_nil] at hg ⊢;rw [<- hi];split at hg
   . rename_i v0 hv;simp only [zO, zP] at hg; obtain ⟨rfl, rfl⟩ := hg;have e1 := y7 hv;have e2 := y7 (hi.symm.trans hv);rw [e1, e2];refine ⟨rfl, rfl, ?_⟩;rw [<- e1, <- e2];exact h.mv1 i hiU
   . cases hg
 | c c =>
   simp only [Opd.get, zO, zP] at hg;obtain ⟨rfl, rfl⟩ := hg;exact ⟨rfl, rfl, h⟩
theorem K3 {U : List Nat} {xs : List Opd} : ∀ {ts ts2 ts' : Ts} {vs : List IVal}, (∀ i ∈ xs.flatMap jfq, i ∈ U) -> Off U ts ts2 -> getAll xs ts = some (vs, ts') ->
   ts' = kg (xs.flatMap YE) ts /\ getAll xs ts2 = some (vs, kg (xs.flatMap YE) ts2) := by
 induction xs with
 | nil =>
   intro ts ts2 ts' vs _ _ h;rw [jd] at h;obtain ⟨rfl, rfl⟩ := h;exact ⟨rfl, rfl⟩
 | cons x xs ih =>
   intro ts ts2 ts' vs hU ho h;rw [jc] at h;obtain ⟨v, t1, ws, h1, h2, rfl⟩ := h;obtain ⟨e1, e2, e3⟩ := zW (fun i hi => hU i (by simp [hi])) ho h1;obtain ⟨f1, f2⟩ := ih (fun i hi => hU i (by simp at hi ⊢; exact .inr hi)) e3 h2;have happ : ∀ t, kg ((x :: xs).flatMap YE) t = kg (xs.flatMap YE) (kg (YE x) t) := by
     intro t; simp [kg, List.foldl_append]
   refine ⟨by rw [happ, <- e1, f1], ?_⟩;rw [jc];exact ⟨v, _, ws, e2, by rw [happ]; exact f2, rfl⟩
theorem Kk {U : List Nat} {gd : Option (Nat × Bool)} (hU : ∀ i ∈ jb2 gd, i ∈ U) {ts ts2 : Ts} (h : Off U ts ts2) : ko gd ts2 = ko gd ts := by
 cases gd with
 | none => rfl
 | some p => obtain ⟨t, b⟩ := p; simp only [ko]; rw [h t (hU t (by simp [jb2]))]
theorem QZ {U : List Nat} {o : IOp} (hU : ∀ i ∈ (je o).flatMap jfq, i ∈ U) {s : St} {ts2 : Ts} {σ2 : List IObj} {wr2 : List (Nat × Bool)} (h : Off U s.ts ts2) {vs : List IVal} {ts' : Ts} (hg : getAll (je o) s.ts = some (vs, ts')) :
   Qc o { ts := ts2, σ := σ2, wr := wr2 } = Qc o s := by
 cases o <;> simp only [Qc]
 case load mvf n x | lookup kk z ok x k | lenM x | store n x y =>
   simp only [je, jc] at hg hU;obtain ⟨v, t1, ws, h1, h2, rfl⟩ := hg;obtain ⟨e1, e2, e3⟩ := zW (fun i hi => hU i (by simp [hi])) h h1;rw [h1, e2]; cases v <;> rfl
theorem YC {U : List Nat} {o : IOp} (hU : ∀ i ∈ (je o).flatMap jfq, i ∈ U) {s : St} {ts2 : Ts} {σ2 : List IObj} {wr2 : List (Nat × Bool)} (h : Off U s.ts ts2) {vs : List IVal} {ts' : Ts} (hg : getAll (je o) s.ts = some (vs, ts')) :
   YA o { ts := ts2, σ := σ2, wr := wr2 } = YA o s := by
 cases o <;> simp only [YA]
 case append br str esz bytes sv x =>
   simp only [je, jc] at hg hU;obtain ⟨v, t1, ws, h1, ⟨v2, t2, ws2, h2, h3, rfl⟩, rfl⟩ := hg;obtain ⟨e1, e2, e3⟩ := zW (fun i hi => hU i (by simp [hi])) h h1;obtain ⟨f1, f2, f3⟩ := zW (fun i hi => hU i (by simp [hi])) e3 h2
   cases br with
   | true => rfl
   | false => simp only [h1, e2, h2, f2]; cases v2 <;> rfl
 case conv c x =>
   simp only [je, jc] at hg hU;obtain ⟨v, t1, ws, h1, h2, rfl⟩ := hg;obtain ⟨e1, e2, e3⟩ := zW (fun i hi => hU i (by simp [hi])) h h1;rw [h1, e2]; cases v <;> rfl
end Go.Idl
namespace Go.Idl
variable [Globs]
theorem Off.refl (U : List Nat) (ts : Ts) : Off U ts ts := fun _ _ => rfl
theorem jaf {cf : jo} {o : IOper} {s s1 : St} {q : Option IVal} {l : DLog} (h : jG cf o s = some (q, s1, l)) : l.len <= s.σ.length := by
 simp only [jG] at h
 repeat' split at h
 all_goals first | (cases h; done) | skip
 all_goals
   simp only [zO, zP] at h;obtain ⟨-, -, rfl⟩ := h;simp
def putP (q : Option IVal) (ts : Ts) (d : Option Nat) (v : IVal) : Ts := match q with
 | none => ze ts d v
 | some _ => ts
theorem JT {cf : jo} {o : IOper} (hd : kt o.op = true) {s s1 : St} {q : Option IVal} {l : DLog} (h : jG cf o s = some (q, s1, l)) :
   ∃ v ms, (∀ m ∈ ms, m ∈ vu o) /\ s1.ts = putP q (kg ms s.ts) o.dst v /\ s1.wr = l.wr ++ s.wr /\
     ∀ ts2 wr2, Off (qN o) s.ts ts2 -> jG cf o ⟨ts2, s.σ, wr2⟩ = some (q, ⟨putP q (kg ms ts2) o.dst v, s1.σ, l.wr ++ wr2⟩, l) := by
 have hU1 : ∀ i ∈ (je o.op).flatMap jfq, i ∈ qN o := fun i hi => List.mem_append_left _ hi;have hU2 : ∀ i ∈ jb2 o.guard, i ∈ qN o := fun i hi => List.mem_append_right _ hi;simp only [jG] at h;split at h
 . rename_i hw;split at h
   . rename_i hn;split at h
     . rename_i p hg;obtain ⟨vs, t'⟩ := p;obtain ⟨e1, -⟩ := K3 hU1 (Off.refl _ s.ts) hg;split at h
       . rename_i v s' hs;simp only [zO, zP] at h;obtain ⟨rfl, rfl, rfl⟩ := h;obtain ⟨d1, -⟩ := JU hd (s := { s with wr := [] }) (ts2 := s.ts) hg hg hs;refine ⟨v, vu o, fun m hm => hm, ?_, rfl, fun ts2 wr2 ho => ?_⟩
         . simp only [putP] at d1 ⊢; rw [d1, e1]; rfl
         . obtain ⟨-, e2⟩ := K3 hU1 ho hg;obtain ⟨-, d2⟩ := JU hd (s := { s with wr := [] }) (ts2 := ts2) hg e2 hs;simp only [jG, Kk hU2 ho, hw, YC hU1 ho hg, QZ hU1 ho hg, hn, if_true, e2];simp only at d2;rw [d2];rfl
       . rename_i v s' hs;simp only [zO, zP] at h;obtain ⟨rfl, rfl, rfl⟩ := h;obtain ⟨d1, -⟩ := JU hd (s := { s with wr := [] }) (ts2 := s.ts) hg hg hs;refine ⟨v, vu o, fun m hm => hm, ?_, rfl, fun ts2 wr2 ho => ?_⟩
         . simp only [putP] at d1 ⊢; rw [d1, e1]; rfl
         . obtain ⟨-, e2⟩ := K3 hU1 ho hg;obtain ⟨-, d2⟩ := JU hd (s := { s with wr := [] }) (ts2 := ts2) hg e2 hs;simp only [jG, Kk hU2 ho, hw, YC hU1 ho hg, QZ hU1 ho hg, hn, if_true, e2];simp only at d2;rw [d2];rfl
       . cases h
     . cases h
   . cases h
 . rename_i hw;simp only [zO, zP] at h;obtain ⟨rfl, rfl, rfl⟩ := h;refine ⟨ju, [], fun m hm => (by cases hm), rfl, rfl, fun ts2 wr2 ho => ?_⟩;simp only [jG, Kk hU2 ho, hw];rfl
 . cases h
def vJ : IOp -> Bool
 | .call _ _ => true
 | .callv _ _ => true
 | .inv _ _ _ => true
 | .panic _ => true
 | _ => false
theorem ZU {o : IOp} (h : jz o = true) : vJ o = false := by cases o <;> first | rfl | cases h
theorem X4 {cf : jo} {o : IOp} {s : St} {r : Res} (hs : ja cf o s = some r) (hp : r.pan = true) : vJ o = true := by
 cases o
 case call f xs => rfl
 case callv f xs => rfl
 case inv tab x xs => rfl
 case panic x => rfl
 all_goals
   exfalso
   simp only [ja, rv] at hs
   repeat' split at hs
   all_goals first
     | (cases hs; done)
     | (simp only [zO] at hs; subst hs; cases hp; done)
theorem VV {cf : jo} {o : IOper} {s s1 : St} {v : IVal} {l : DLog} (h : jG cf o s = some (some v, s1, l)) : vJ o.op = true := by
 simp only [jG] at h;split at h
 . split at h
   . split at h
     . split at h
       . cases h
       . rename_i hs; exact X4 hs rfl
       . cases h
     . cases h
   . cases h
 . cases h
 . cases h
theorem qX {cf : jo} {o : IOper} (hq : jz o.op = true) {s s1 : St} {q : Option IVal} {l : DLog} (h : jG cf o s = some (q, s1, l)) :
   q = none /\ s1.σ = s.σ /\ l.wr = [] /\ ∀ σ2, (∀ id, l.rd = some id -> σ2[id]? = s.σ[id]?) -> jG cf o { s with σ := σ2 } = some (none, { s1 with σ := σ2 }, l) := by
 have hU1 : ∀ i ∈ (je o.op).flatMap jfq, i ∈ qN o := fun i hi => List.mem_append_left _ hi;simp only [jG] at h;split at h
 . rename_i hw;split at h
   . rename_i hn;split at h
     . rename_i p hg;obtain ⟨vs, t'⟩ := p;split at h
       . rename_i v s' hs;simp only [zO, zP] at h;obtain ⟨rfl, rfl, rfl⟩ := h;have hrd : ∀ σ2 wr2, Qc o.op { ts := s.ts, σ := σ2, wr := wr2 } = Qc o.op s := fun σ2 wr2 => QZ hU1 (Off.refl _ s.ts) hg;have hnr : ∀ σ2 wr2, YA o.op { ts := s.ts, σ := σ2, wr := wr2 } = YA o.op s := fun σ2 wr2 => YC hU1 (Off.refl _ s.ts) hg;obtain ⟨q1, q2, q3⟩ := jdf hq (s := { s with wr := [] }) ((hnr s.σ []).trans hn) hs;simp only at q1 q2;refine ⟨rfl, q1, q2, fun σ2 hσ => ?_⟩;have q4 := q3 σ2 (fun id hid => hσ id (by rw [<- hid]; exact (hrd s.σ []).symm));simp only at q4;simp only [jG, hw, hnr, hrd, hn, if_true, hg, q4, hq]
       . rename_i v s' hs;have h1 := X4 hs rfl;rw [ZU hq] at h1; cases h1
       . cases h
     . cases h
   . cases h
 . rename_i hw;simp only [zO, zP] at h;obtain ⟨rfl, rfl, rfl⟩ := h;refine ⟨rfl, rfl, rfl, fun σ2 hσ => ?_⟩;simp only [jG, hw, hq, if_true]
 . cases h
def Xj : IOp -> Bool
 | .store _ _ _ => true
 | _ => false
theorem Qv {cf : jo} {n : Nat} {x v : Opd} {s : St} {r : Res} (hs : ja cf (.store n x v) s = some r) :
   ∃ id ob b, Qc (.store n x v) s = some id /\ id < s.σ.length /\ r.s.σ = s.σ.set id ob /\ r.s.wr = (id, b) :: s.wr /\ r.pan = false /\
     ∀ σ2 : List IObj, σ2[id]? = s.σ[id]? -> ja cf (.store n x v) { s with σ := σ2 } = some { r with s := { r.s with σ := σ2.set id ob } } := by
 simp only [ja, jw] at hs;split at hs
 . rename_i id off ts hx;split at hs
   . rename_i u ts2 hv;split at hs
     . rename_i cs hc;split at hs
       . rename_i hif;simp only [zO] at hs;subst hs;have hlt : id < s.σ.length := by
           unfold jt at hc;split at hc
           . rename_i h1; exact jg h1
           . cases hc
         refine ⟨id, _, _, by simp only [Qc, hx], hlt, rfl, rfl, rfl, fun σ2 h2 => ?_⟩;have hc2 : jt σ2 id = some cs := by unfold jt at hc ⊢; rw [h2]; exact hc
         simp only [ja, hx, hv, hc2, jw];rw [if_pos hif]
       . cases hs
     . cases hs
   . cases hs
 . cases hs
theorem VW {cf : jo} {o : IOper} (ho : Xj o.op = true) {s s1 : St} {q : Option IVal} {l : DLog} (h : jG cf o s = some (q, s1, l)) :
   q = none /\ ((s1.σ = s.σ /\ ∀ σ2 : List IObj, σ2.length = s.σ.length -> jG cf o { s with σ := σ2 } = some (none, { s1 with σ := σ2 }, l)) \/
     ∃ id ob b, l.rd = some id /\ id < s.σ.length /\ s1.σ = s.σ.set id ob /\ l.wr = [(id, b)] /\
       ∀ σ2 : List IObj, σ2.length = s.σ.length -> σ2[id]? = s.σ[id]? -> jG cf o { s with σ := σ2 } = some (none, { s1 with σ := σ2.set id ob }, l)) := by
 obtain ⟨dst, op, gd⟩ := o;cases op <;> simp only [Xj, Bool.false_eq_true] at ho;rename_i n x v;simp only [jG] at h;split at h
 . rename_i hw;split at h
   . rename_i hn;split at h
     . rename_i p hg;have hrd : ∀ σ2 wr2, Qc (.store n x v) { ts := s.ts, σ := σ2, wr := wr2 } = Qc (.store n x v) s := fun σ2 wr2 => QZ (fun i hi => List.mem_append_left _ hi) (Off.refl (qN ⟨dst, .store n x v, gd⟩) s.ts) hg;split at h
       . rename_i u s' hs;simp only [zO, zP] at h;obtain ⟨rfl, rfl, rfl⟩ := h;obtain ⟨id, ob, b, k1, k2, k3, k4, -, k6⟩ := Qv hs;have k1 := (hrd s.σ []).symm.trans k1;simp only at k2 k3 k4 k6;refine ⟨rfl, .inr ⟨id, ob, b, k1, k2, k3, k4, fun σ2 hl h2 => ?_⟩⟩;have k7 := k6 σ2 h2;have hnr : YA (.store n x v) ⟨s.ts, σ2, s.wr⟩ = true := rfl;simp only [jG, hw, hnr, if_true, hg];rw [k7];simp only [hrd, hl]
       . rename_i u s' hs;obtain ⟨id, ob, b, k1, k2, k3, k4, k5, k6⟩ := Qv hs;cases k5
       . cases h
     . cases h
   . cases h
 . rename_i hw;simp only [zO, zP] at h;obtain ⟨rfl, rfl, rfl⟩ := h;refine ⟨rfl, .inl ⟨rfl, fun σ2 hl => ?_⟩⟩;simp only [jG, hw, hl]
 . cases h
def y5 : IOp -> Bool
 | .load _ _ _ => true
 | .lookup _ _ _ _ _ => true
 | .lenM _ => true
 | .store _ _ _ => true
 | _ => false
theorem jcp {cf : jo} {o : IOper} (hr : y5 o.op = false) {s s1 : St} {q : Option IVal} {l : DLog} (h : jG cf o s = some (q, s1, l)) : l.rd = none := by
 have hrd : Qc o.op s = none := by cases ho : o.op <;> simp [ho, y5] at hr <;> rfl
 simp only [jG] at h
 repeat' split at h
 all_goals first | (cases h; done) | skip
 all_goals
   simp only [zO, zP] at h;obtain ⟨-, -, rfl⟩ := h
   first | rfl | exact hrd
def XD (sl : Nat -> Nat) (d : Option Nat) (U : List Nat) : Bool := match d with
 | some k => U.all fun u => !(Nat.beq (sl k) (sl u))
 | none => true
def jjN (sl : Nat -> Nat) (d e : Option Nat) : Bool := match d, e with
 | some a, some b => !(Nat.beq (sl a) (sl b))
 | _, _ => true
def Xq (sl : Nat -> Nat) (i j : IOper) : Bool :=
 (kt i.op && kt j.op) && (((jz i.op || jz j.op) || (Xj i.op && Xj j.op)) && (jjN sl i.dst j.dst && ((XD sl i.dst (qN j) && XD sl j.dst (qN i)) &&
   ((vu i).all (fun k => XD sl (some k) (qN j)) && (vu j).all (fun k => XD sl (some k) (qN i))))))
theorem jfh {a b : Nat} (h : (!(Nat.beq a b)) = true) : a ≠ b := by
 intro e; subst e; simp at h
theorem yF {sl : Nat -> Nat} {k u : Nat} {U : List Nat} (h : XD sl (some k) U = true) (hu : u ∈ U) : sl k ≠ sl u := jfh (List.all_eq_true.1 h u hu)
theorem jgS {sl : Nat -> Nat} {a b : Nat} (h : jjN sl (some a) (some b) = true) : sl a ≠ sl b := jfh h
theorem ja8 {U : List Nat} {ts : Ts} {ms : List Nat} {d : Option Nat} {v : IVal} (h1 : XD ts.slot d U = true) (h2 : ∀ m ∈ ms, ∀ u ∈ U, ts.slot m ≠ ts.slot u) : Off U ts (ze (kg ms ts) d v) := by
 intro k hk;have h3 : (kg ms ts).get? k = ts.get? k := jhx fun m hm => h2 m hm k hk
 cases d with
 | none => exact h3.symm
 | some d =>
   have : (kg ms ts).slot d ≠ (kg ms ts).slot k := by
     rw [(qz ms ts).slot, (qz ms ts).slot]; exact yF h1 hk
   simp only [ze];rw [Ts.get?_set_ne this, h3]
theorem jhU {ts : Ts} {mi mj : List Nat} {di dj : Option Nat} {vi vj : IVal} (h0 : jjN ts.slot di dj = true) (h1 : ∀ k, di = some k -> ∀ m ∈ mj, ts.slot k ≠ ts.slot m) (h2 : ∀ k, dj = some k -> ∀ m ∈ mi, ts.slot k ≠ ts.slot m)
   (h3 : ∀ k ∈ mi, ∀ m ∈ mj, ts.slot k ≠ ts.slot m) :
   ze (kg mi (ze (kg mj ts) dj vj)) di vi = ze (kg mj (ze (kg mi ts) di vi)) dj vj := by
 have e1 : kg mi (ze (kg mj ts) dj vj) = ze (kg mi (kg mj ts)) dj vj := by
   cases dj with
   | none => rfl
   | some k => exact ZI fun m hm => by rw [(qz mj ts).slot, (qz mj ts).slot]; exact h2 k rfl m hm
 have e2 : kg mj (ze (kg mi ts) di vi) = ze (kg mj (kg mi ts)) di vi := by
   cases di with
   | none => rfl
   | some k => exact ZI fun m hm => by rw [(qz mi ts).slot, (qz mi ts).slot]; exact h1 k rfl m hm
 rw [e1, e2, jaZ h3]
 cases di with
 | none => rfl
 | some a => cases dj with
   | none => rfl
   | some b =>
     simp only [ze];refine Ts.set_comm ?_;rw [(qz mi _).slot, (qz mi _).slot, (qz mj _).slot, (qz mj _).slot];exact Ne.symm (jgS h0)
theorem VE {x y : DLog} {σ σ' : List IObj} (h : yg x y = true) (hl : y.len <= σ.length) (hs : Same σ σ' y.wr) : ∀ id, x.rd = some id -> σ'[id]? = σ[id]? := by
 intro id hid;unfold yg at h;rw [hid] at h;simp only [zA, decide_eq_true_eq, List.all_eq_true] at h;refine hs id (by omega) fun p hp e => ?_;have := h.2 p hp;simp [e] at this
theorem SameSh.putP {q : Option IVal} {ts : Ts} {d : Option Nat} {v : IVal} : SameSh ts (putP q ts d v) := by cases q with
 | none => exact .put
 | some _ => exact .refl _
theorem jio {cf : jo} {o : IOper} (hd : kt o.op = true) {s s1 : St} {q : Option IVal} {l : DLog} (h : jG cf o s = some (q, s1, l)) : SameSh s.ts s1.ts := by
 obtain ⟨v, ms, -, e, -⟩ := JT hd h;rw [e];exact (qz _ _).trans .putP
theorem jdy {cf : jo} (hcf : zC cf) {i j : IOper} {s s1 s2 : St} (hi : Xq s.ts.slot i j = true) {li lj : DLog} (h1 : jG cf i s = some (none, s1, li)) (h2 : jG cf j s1 = some (none, s2, lj))
   (hp1 : jz i.op = true -> jz j.op = false -> yg li lj = true) (hp2 : jz j.op = true -> jz i.op = false -> yg lj li = true) (hp3 : Xj i.op = true -> Xj j.op = true -> yg li lj = true) :
   ∃ t1 t2, jG cf j s = some (none, t1, lj) /\ jG cf i t1 = some (none, t2, li) /\ t2.ts = s2.ts /\ t2.σ = s2.σ := by
 simp only [Xq, zA, List.all_eq_true] at hi;obtain ⟨⟨di, dj⟩, hq, hne, ⟨hdi, hdj⟩, hmi, hmj⟩ := hi;obtain ⟨vi, mi, ki, ei, wi, Ti⟩ := JT di h1;obtain ⟨vj, mj, kj, ej, wj, Tj⟩ := JT dj h2;simp only [putP] at ei ej Ti Tj;have hmi' : ∀ m ∈ mi, ∀ u ∈ qN j, s.ts.slot m ≠ s.ts.slot u := fun m hm u hu => yF (hmi m (ki m hm)) hu;have hmj' : ∀ m ∈ mj, ∀ u ∈ qN i, s.ts.slot m ≠ s.ts.slot u := fun m hm u hu => yF (hmj m (kj m hm)) hu;have offj : Off (qN j) s1.ts s.ts := by rw [ei]; exact (ja8 hdi hmi').symm
 have offi : Off (qN i) s.ts (ze (kg mj s.ts) j.dst vj) := ja8 hdj hmj';have hts : ze (kg mi (ze (kg mj s.ts) j.dst vj)) i.dst vi = s2.ts := by
   rw [ej, ei];refine jhU hne (fun k hk m hm => ?_) (fun k hk m hm => ?_) (fun k hk m hm => hmi' k hk m (Kd (kj m hm)))
   . rw [hk] at hdi; exact yF hdi (Kd (kj m hm))
   . rw [hk] at hdj; exact yF hdj (Kd (ki m hm))
 have hj := Tj s.ts s.wr offj
 by_cases qi : jz i.op = true
 . obtain ⟨-, a1, a2, a3⟩ := qX qi h1;rw [a1] at hj;have hi2 := Ti _ (lj.wr ++ s.wr) offi;have hrd : ∀ id, li.rd = some id -> s2.σ[id]? = s.σ[id]? := by
     by_cases qj : jz j.op = true
     . intro id _; rw [(qX qj h2).2.1, a1]
     . have := VE (σ := s1.σ) (σ' := s2.σ) (hp1 qi (by simpa using qj)) (jaf h2) (qF hcf h2).2;intro id hid; rw [this id hid, a1]
   obtain ⟨-, -, -, b3⟩ := qX qi hi2;have hi3 := b3 s2.σ hrd;exact ⟨_, _, hj, hi3, hts, rfl⟩
 . by_cases qj : jz j.op = true
   . obtain ⟨-, a1, a2, a3⟩ := qX qj hj;have hrd := VE (σ := s.σ) (σ' := s1.σ) (hp2 qj (by simpa using qi)) (jaf h1) (qF hcf h1).2;have hj2 := a3 s.σ (fun id hid => (hrd id hid).symm);have hi2 := Ti _ (lj.wr ++ s.wr) offi;refine ⟨_, _, hj2, hi2, hts, ?_⟩;exact ((qX qj h2).2.1).symm
   . -- two stores
     have hss : Xj i.op = true /\ Xj j.op = true := by simpa [qi, qj] using hq
     obtain ⟨si, sj⟩ := hss;have hok := hp3 si sj;have hi2 := Ti _ (lj.wr ++ s.wr) offi;obtain ⟨-, hI⟩ := VW si hi2;obtain ⟨-, hJ⟩ := VW sj hj
     rcases hI with ⟨a1, a2⟩ | ⟨idi, obi, bi, a1, a2, a3, a4, a5⟩
     . simp only at a1;rw [a1] at hj;have hl2 : s2.σ.length = s.σ.length := by
         rcases hJ with ⟨b1, _⟩ | ⟨_, _, _, _, _, b3, _⟩
         . simp only at b1; rw [b1, a1]
         . simp only at b3; rw [b3, a1]; simp
       exact ⟨_, _, hj, a2 s2.σ hl2, hts, rfl⟩
     . simp only at a2 a3 a5
       rcases hJ with ⟨b1, b2⟩ | ⟨idj, obj, bj, b1, b2, b3, b4, b5⟩
       . simp only at b1;exact ⟨_, _, b2 s.σ (by rw [a3]; simp), hi2, hts, b1.symm⟩
       . simp only at b2 b3 b5;have hne2 : idi ≠ idj := by
           intro e;unfold yg at hok;rw [a1] at hok;simp [b4, e] at hok
         have hj2 := b5 s.σ (by rw [a3]; simp) (by rw [a3, List.getElem?_set_ne hne2]);refine ⟨_, _, hj2, a5 _ (by simp) (by rw [List.getElem?_set_ne (Ne.symm hne2)]), hts, ?_⟩;simp only;rw [b3, a3, List.set_comm _ _ hne2]
theorem jbE {cf : jo} {i j : IOper} {s s1 s2 : St} (hi : Xq s.ts.slot i j = true) {v : IVal} {li lj : DLog} (h1 : jG cf i s = some (none, s1, li)) (h2 : jG cf j s1 = some (some v, s2, lj)) :
   ∃ t1, jG cf j s = some (some v, t1, lj) /\ t1.σ = s2.σ := by
 simp only [Xq, zA, List.all_eq_true] at hi;obtain ⟨⟨di, dj⟩, hq, hne, ⟨hdi, hdj⟩, hmi, hmj⟩ := hi;obtain ⟨vi, mi, ki, ei, wi, Ti⟩ := JT di h1;obtain ⟨vj, mj, kj, ej, wj, Tj⟩ := JT dj h2;simp only [putP] at ei ej Ti Tj;have hmi' : ∀ m ∈ mi, ∀ u ∈ qN j, s.ts.slot m ≠ s.ts.slot u := fun m hm u hu => yF (hmi m (ki m hm)) hu;have offj : Off (qN j) s1.ts s.ts := by rw [ei]; exact (ja8 hdi hmi').symm
 have hj := Tj s.ts s.wr offj;have hp := VV h2;have qj : jz j.op = false := by
   cases hq2 : jz j.op with
   | false => rfl
   | true => rw [ZU hq2] at hp; cases hp
 have sj : Xj j.op = false := by
   cases ho : j.op <;> simp [ho, vJ, Xj] at hp ⊢
 have qi : jz i.op = true := by simpa [qj, sj] using hq
 obtain ⟨-, a1, -, -⟩ := qX qi h1;rw [a1] at hj;exact ⟨_, hj, rfl⟩
theorem jcq {cf : jo} {o : IOper} {s s1 t : St} {q : Option IVal} {l : DLog} (h : jG cf o s = some (q, s1, l)) (h1 : t.ts = s.ts) (h2 : t.σ = s.σ) : ∃ t1, jG cf o t = some (q, t1, l) /\ t1.ts = s1.ts /\ t1.σ = s1.σ := by
 have hrd : Qc o.op t = Qc o.op s := by cases ho : o.op <;> simp [Qc, h1]
 have hnr : YA o.op t = YA o.op s := by cases ho : o.op <;> simp [YA, h1]
 have hst : ({ t with wr := [] } : St) = { s with wr := [] } := by cases t; cases s; simp_all
 have hd : jG cf o t = match jG cf o s with
     | some (q, s1, l) => some (q, { s1 with wr := l.wr ++ t.wr }, l)
     | none => none := by
   simp only [jG, hrd, hnr, hst, h1, h2]
   rcases ko o.guard s.ts with _ | _ | _
   . rfl
   . rfl
   ·
     cases YA o.op s with
     | false => rfl
     | true =>
       cases getAll (je o.op) s.ts with
       | none => rfl
       | some p =>
         simp only [if_true]
         cases ja cf o.op { s with wr := [] } with
         | none => rfl
         | some r =>
           obtain ⟨pan, v, s'⟩ := r;cases pan <;> rfl
 rw [h] at hd;exact ⟨_, hd, rfl, rfl⟩
abbrev Pan := Option (IVal × List (Nat × Bool))
theorem runDraw_cons {cf : jo} {o : Nat × IOper} {os : List (Nat × IOper)} {s s' : St} {q : Pan} {ls : List (Nat × DLog)} : jv cf (o :: os) s = some (q, s', ls) ↔
   (∃ s1 l ls1, jG cf o.2 s = some (none, s1, l) /\ jv cf os s1 = some (q, s', ls1) /\ ls = (o.1, l) :: ls1) \/ (∃ v l, jG cf o.2 s = some (some v, s', l) /\ q = some (v, l.wr) /\ ls = []) := by
 constructor
 . intro h;simp only [jv] at h;split at h
   . rename_i s1 lg e1;split at h
     . rename_i s2 ls2 e2;simp only [zO, zP] at h;obtain ⟨rfl, rfl, rfl⟩ := h;exact .inl ⟨s1, lg, _, e1, e2, rfl⟩
     . cases h
   . rename_i v s1 l e1;simp only [zO, zP] at h;obtain ⟨rfl, rfl, rfl⟩ := h;exact .inr ⟨v, l, e1, rfl, rfl⟩
   . cases h
 . rintro (⟨s1, l, ls1, h1, h2, rfl⟩ | ⟨v, l, h1, rfl, rfl⟩)
   . simp [jv, h1, h2]
   . simp [jv, h1]
theorem jdm {cf : jo} : ∀ {l : List (Nat × IOper)} {s s' t : St} {q : Pan} {ls : List (Nat × DLog)}, jv cf l s = some (q, s', ls) -> t.ts = s.ts -> t.σ = s.σ -> ∃ t', jv cf l t = some (q, t', ls) /\ t'.ts = s'.ts /\ t'.σ = s'.σ := by
 intro l
 induction l with
 | nil => intro s s' t q ls h h1 h2; simp [jv] at h; obtain ⟨rfl, rfl, rfl⟩ := h; exact ⟨t, rfl, h1, h2⟩
 | cons o os ih =>
   intro s s' t q ls h h1 h2
   rcases runDraw_cons.1 h with ⟨s1, lg, ls2, e1, e2, rfl⟩ | ⟨v, lg, e1, rfl, rfl⟩
   . obtain ⟨t1, f1, f2, f3⟩ := jcq e1 h1 h2;obtain ⟨t2, g1, g2, g3⟩ := ih e2 f2 f3;exact ⟨t2, runDraw_cons.2 (.inl ⟨t1, lg, ls2, f1, g1, rfl⟩), g2, g3⟩
   . obtain ⟨t1, f1, f2, f3⟩ := jcq e1 h1 h2;exact ⟨t1, runDraw_cons.2 (.inr ⟨v, lg, f1, rfl, rfl⟩), f2, f3⟩
def XA (pairs : List (Nat × Nat)) (ls : List (Nat × DLog)) : Prop := ∀ x ∈ ls, ∀ y ∈ ls, (x.1, y.1) ∈ pairs -> yg x.2 y.2 = true
theorem jfw {pairs : List (Nat × Nat)} {ls : List (Nat × DLog)} (h : vw pairs ls = true) : XA pairs ls := by
 intro x hx y hy hp;simp only [vw, List.all_eq_true] at h;have h1 := h _ hp x hx;simp only [bne_self_eq_false, Bool.false_or, List.all_eq_true] at h1;have h2 := h1 y hy;simpa using h2
def q9 (sl : Nat -> Nat) (pairs : List (Nat × Nat)) (p q : Nat × IOper) : Bool :=
 Xq sl p.2 q.2 && (((!(jz p.2.op && y5 p.2.op) || (jz q.2.op || pairs.contains (p.1, q.1))) && (!(jz q.2.op && y5 q.2.op) || (jz p.2.op || pairs.contains (q.1, p.1)))) &&
   (!(Xj p.2.op && Xj q.2.op) || pairs.contains (p.1, q.1)))
theorem Zv {cf : jo} {pairs : List (Nat × Nat)} {sl : Nat -> Nat} {p q : Nat × IOper} (h : q9 sl pairs p q = true) {s1 s2 t1 t2 : St} {lp lq : DLog} (hp : jG cf p.2 s1 = some (none, t1, lp)) (hq : jG cf q.2 s2 = some (none, t2, lq))
   {ls : List (Nat × DLog)} (hP : XA pairs ls) (mp : (p.1, lp) ∈ ls) (mq : (q.1, lq) ∈ ls) :
   (jz p.2.op = true -> jz q.2.op = false -> yg lp lq = true) /\ (jz q.2.op = true -> jz p.2.op = false -> yg lq lp = true) /\ (Xj p.2.op = true -> Xj q.2.op = true -> yg lp lq = true) := by
 simp only [q9, zA] at h;obtain ⟨-, ⟨h1, h2⟩, h3⟩ := h;refine ⟨?_, ?_, ?_⟩
 . intro a b
   by_cases hr : y5 p.2.op = true
   . simp [a, b, hr] at h1; exact hP _ mp _ mq h1
   . have := jcp (by simpa using hr) hp; simp [yg, this]
 . intro a b
   by_cases hr : y5 q.2.op = true
   . simp [a, b, hr] at h2; exact hP _ mq _ mp h2
   . have := jcp (by simpa using hr) hq; simp [yg, this]
 . intro a b;simp [a, b] at h3; exact hP _ mp _ mq h3
theorem YI {cf : jo} (hcf : zC cf) {pairs : List (Nat × Nat)} {i : Nat × IOper} {post : List (Nat × IOper)} : ∀ {pre : List (Nat × IOper)} {s s' : St} {q : Pan} {ls : List (Nat × DLog)}, (∀ p ∈ pre, q9 s.ts.slot pairs p i = true /\ vJ p.2.op = false) -> XA pairs ls ->
   jv cf (pre ++ i :: post) s = some (q, s', ls) -> ∃ s'' ls', jv cf (i :: (pre ++ post)) s = some (q, s'', ls') /\ (q = none -> s''.ts = s'.ts) /\ s''.σ = s'.σ /\ ∀ x ∈ ls', x ∈ ls := by
 intro pre
 induction pre with
 | nil => intro s s' q ls _ _ h; exact ⟨s', ls, h, fun _ => rfl, rfl, fun _ hx => hx⟩
 | cons p pre ih =>
   intro s s' q ls hf hP h;simp only [List.cons_append] at h;have hfp := (hf p (by simp)).1;have hind : Xq s.ts.slot p.2 i.2 = true := by
     have := hfp;simp only [q9, zA] at this;exact this.1
   rcases runDraw_cons.1 h with ⟨s1, lp, ls1, e1, e2, rfl⟩ | ⟨v, lp, e1, -, -⟩
   . have hP1 : XA pairs ls1 := fun x hx y hy => hP x (by simp [hx]) y (by simp [hy]);have hdp : kt p.2.op = true := by
       simp only [Xq, zA] at hind;exact hind.1.1
     have hsl : s1.ts.slot = s.ts.slot := funext fun k => (jio hdp e1).slot k;obtain ⟨s2, ls2, f1, f2, f3, f4⟩ := ih (fun q hq => by rw [hsl]; exact hf q (by simp [hq])) hP1 e2
     rcases runDraw_cons.1 f1 with ⟨s3, li, ls3, g1, g2, rfl⟩ | ⟨v, li, g1, rfl, rfl⟩
     . have mi : (i.1, li) ∈ (p.1, lp) :: ls1 := List.mem_cons_of_mem _ (f4 _ (by simp));obtain ⟨d1, d2, d3⟩ := Zv hfp e1 g1 hP (by simp) mi;obtain ⟨t1, t2, k1, k2, k3, k4⟩ := jdy hcf hind e1 g1 d1 d2 d3;obtain ⟨t3, m1, m2, m3⟩ := jdm (t := t2) g2 k3 k4;refine ⟨t3, (i.1, li) :: (p.1, lp) :: ls3, ?_, fun hq => m2.trans (f2 hq), m3.trans f3, fun x hx => ?_⟩
       . refine runDraw_cons.2 (.inl ⟨t1, li, (p.1, lp) :: ls3, k1, ?_, rfl⟩);exact runDraw_cons.2 (.inl ⟨t2, lp, ls3, k2, m1, rfl⟩)
       . simp only [List.mem_cons] at hx ⊢
         rcases hx with hx | hx | hx
         . exact .inr (f4 x (by simp [hx]))
         . exact .inl hx
         . exact .inr (f4 x (by simp [hx]))
     . obtain ⟨t1, k1, k2⟩ := jbE hind e1 g1;refine ⟨t1, [], runDraw_cons.2 (.inr ⟨v, li, k1, rfl, rfl⟩), fun h => (by cases h), k2.trans f3, fun x hx => (by cases hx)⟩
   . have h1 := VV e1;rw [(hf p (by simp)).2] at h1; cases h1
theorem Tm.set_set (x y : Option (Nat × IVal)) : ∀ (t : Tm) (k : Nat), (t.set x k).set y k = t.set y k := by
 intro t
 induction t with
 | leaf => intro k; rfl
 | node l c r ihl ihr =>
   intro k
   cases h0 : Nat.beq k 0 with
   | true => simp [Tm.set, h0]
   | false => cases h1 : Nat.beq (k % 2) 1 <;> simp [Tm.set, h0, h1, ihl, ihr]
theorem jcK {ts : Ts} {i j : Nat} {v : IVal} (h : ts.slot i = ts.slot j) : (ts.set j v).clr i = ts.clr i := by
 have h1 : (ts.set j v).slot i = ts.slot i := rfl;simp only [Ts.clr, h1, h];simp only [Ts.set, Tm.set_set]
theorem jcL {ts : Ts} {i j : Nat} {v : IVal} (h : ts.slot i ≠ ts.slot j) : (ts.set j v).clr i = (ts.clr i).set j v := by
 have h1 : (ts.set j v).slot i = ts.slot i := rfl;have h2 : (ts.clr i).slot j = ts.slot j := rfl;simp only [Ts.clr, h1];simp only [Ts.clr] at h2;simp only [Ts.set, h2];rw [Tm.set_comm _ _ _ _ _ (Ne.symm h)]
theorem jbW : ∀ {X : List Nat} {ts : Ts} {j : Nat} {v : IVal}, j ∈ X -> (ts.set j v).clrs X = ts.clrs X := by
 intro X
 induction X with
 | nil => intro ts j v h; cases h
 | cons x X ih =>
   intro ts j v h;show ((ts.set j v).clr x).clrs X = (ts.clr x).clrs X
   by_cases hs : ts.slot x = ts.slot j
   . rw [jcK hs]
   . rw [jcL hs]
     rcases List.mem_cons.1 h with rfl | h
     . exact absurd rfl hs
     . exact ih h
theorem jgK {X : List Nat} {ts : Ts} {j : Nat} (h : j ∈ X) : (mv1 ts j).clrs X = ts.clrs X := by
 unfold mv1;split
 . exact jbW h
 . rfl
theorem jcM {X : List Nat} : ∀ {ms : List Nat} {ts : Ts}, (∀ m ∈ ms, m ∈ X) -> (kg ms ts).clrs X = ts.clrs X := by
 intro ms
 induction ms with
 | nil => intro ts _; rfl
 | cons m ms ih =>
   intro ts h;exact (ih (ts := mv1 ts m) fun k hk => h k (by simp [hk])).trans (jgK (h m (by simp)))
theorem jeg {X : List Nat} {q : Option IVal} {ts : Ts} {d : Option Nat} {v : IVal} (h : ∀ k, d = some k -> k ∈ X) : (putP q ts d v).clrs X = ts.clrs X := by
 cases q with
 | some _ => rfl
 | none => cases d with
   | none => rfl
   | some k => exact jbW (h k rfl)
def jdQ (X : List Nat) (o : IOper) : Prop := (∀ m ∈ vu o, m ∈ X) /\ ∀ k, o.dst = some k -> k ∈ X
theorem KM {cf : jo} {o : IOper} (hd : kt o.op = true) {s s1 : St} {q : Option IVal} {l : DLog} {X : List Nat} (hX : jdQ X o) (h : jG cf o s = some (q, s1, l)) : s1.ts.clrs X = s.ts.clrs X := by
 obtain ⟨v, ms, h1, e, -⟩ := JT hd h;rw [e, jeg hX.2, jcM fun m hm => hX.1 m (h1 m hm)]
theorem KO {l : List (Nat × IOper)} {p : Nat × IOper} (h : p ∈ l) : jdQ (qM l) p.2 := by
 refine ⟨fun m hm => ?_, fun k hk => ?_⟩
 . exact List.mem_flatMap.2 ⟨p, h, List.mem_append_right _ hm⟩
 . exact List.mem_flatMap.2 ⟨p, h, List.mem_append_left _ (by simp [hk])⟩
end Go.Idl
namespace Go.Idl
variable [Globs]
variable {P : Program} {g : Gh} {O : List Nat} {w : World}
structure GrowB (n : Nat) (O : List Nat) (g : Gh) (w : World) (O' : List Nat) (g' : Gh) (w' : World) : Prop where
 size : w.heap.size <= w'.heap.size
 same : ∀ b, b < w.heap.size -> b ∉ O -> w'.heap[b]? = w.heap[b]? /\ g'.T b = g.T b /\ ∀ o, g'.M b o = g.M b o
 mono : ∀ b o v, g.M b o = some v -> g'.M b o = some v
 preo : ∀ (id : Nat) b, id < n -> g.ι[id]? = some b -> g'.ι[id]? = some b
 fresh : ∀ b ∈ O', b ∈ O \/ w.heap.size <= b
 code : g'.C = g.C
 os : w'.os = w.os
 tape : w'.tape = w.tape
 output : w'.output = w.output
 zm : ∀ b, g.Z b <= g'.Z b
theorem GrowB.of {n : Nat} {O O' : List Nat} {g g' : Gh} {w w' : World} (h : Grow O g w O' g' w') : GrowB n O g w O' g' w' :=
 ⟨h.size, h.same, h.mono, fun id b _ hb => h.preo id b hb, h.fresh, h.code, h.os, h.tape, h.output, h.zm⟩
theorem GrowB.all {n : Nat} {O O' : List Nat} {g g' : Gh} {w w' : World} (h : GrowB n O g w O' g' w') (hn : g.ι.length <= n) : Grow O g w O' g' w' :=
 ⟨h.size, h.same, h.mono, fun id b hb => h.preo id b (Nat.lt_of_lt_of_le (jg hb) hn) hb, h.fresh, h.code, h.os, h.tape, h.output, h.zm⟩
theorem GrowB.trans {n : Nat} {O O' O'' : List Nat} {g g' g'' : Gh} {w w' w'' : World} (h : GrowB n O g w O' g' w') (k : GrowB n O' g' w' O'' g'' w'') : GrowB n O g w O'' g'' w'' := by
 refine ⟨Nat.le_trans h.size k.size, fun b hb hO => ?_, fun b o v hm => k.mono b o v (h.mono b o v hm), fun id b hid hb => k.preo id b hid (h.preo id b hid hb), fun b hb => ?_, k.code.trans h.code, k.os.trans h.os, k.tape.trans h.tape, k.output.trans h.output, fun b => Nat.le_trans (h.zm b) (k.zm b)⟩
 . have h1 := h.same b hb hO;have hO' : b ∉ O' := fun hm => by
     rcases h.fresh b hm with h2 | h2
     . exact hO h2
     . omega
   have h2 := k.same b (Nat.lt_of_lt_of_le hb h.size) hO';exact ⟨h2.1.trans h1.1, h2.2.1.trans h1.2.1, fun o => (h2.2.2 o).trans (h1.2.2 o)⟩
 . rcases k.fresh b hb with h1 | h1
   . exact h.fresh b h1
   . exact .inr (Nat.le_trans h.size h1)
def Gh.addUn (g : Gh) (zs : List IVal) : Gh := { g with ι := g.ι ++ [.un zs] }
theorem R.pushUn {l : jH} {σ : List IObj} {zs : List IVal} (h : R g O l σ w) (hz : ∀ x ∈ zs, RL 0 x) : R (g.addUn zs) O l (σ ++ [.cells zs]) w := by
 have hιm : ∀ (id b : Nat), g.ι[id]? = some (Blk.bk b) -> (g.addUn zs).ι[id]? = some (Blk.bk b) := fun id b hb => by
   simp only [Gh.addUn]; rw [zL (jg hb)]; exact hb
 have hS : kM w (g.addUn zs).ι (σ ++ [.cells zs]) = kM w g.ι σ := by
   simp only [kM, Gh.addUn];rw [List.zipWith_append h.len];simp [qU]
 refine ⟨by simp [Gh.addUn, h.len], fun p hp => (h.vals p hp).mono hιm (fun _ _ _ h => h) (fun _ _ => rfl), fun id b x h1 h2 => ?_, by rw [hS]; exact h.nodup, by rw [hS]; exact h.sub, h.lt, h.claim, fun id b x h1 h2 hm => ?_, h.spare, h.glob, h.zs⟩
 . rcases Kv h1 with h1' | ⟨h1', rfl⟩
   . have hid : id < σ.length := by rw [<- h.len]; exact jg h1'
     rw [zL hid] at h2
     cases b with
     | un ys => exact h.objo id (.un ys) x h1' h2
     | bk b => exact (h.objs id b x h1' h2).mono rfl hιm (fun _ _ _ h => h) rfl (fun _ _ => rfl)
   . rw [h1', h.len] at h2;simp at h2;subst h2;exact ⟨rfl, hz⟩
 . rcases Kv h1 with h1' | ⟨h1', hbk⟩
   . have hid : id < σ.length := by rw [<- h.len]; exact jg h1'
     rw [zL hid] at h2;exact h.apart id b x h1' h2 hm
   . cases hbk
theorem GrowB.addUn (n : Nat) (O : List Nat) (g : Gh) (w : World) (zs : List IVal) : GrowB n O g w O (g.addUn zs) w :=
 ⟨Nat.le_refl _, fun _ _ _ => ⟨rfl, rfl, fun _ => rfl⟩, fun _ _ _ h => h, fun id b _ hb => by simp only [Gh.addUn]; rw [zL (jg hb)]; exact hb, fun _ h => .inl h, rfl, rfl, rfl, rfl, fun _ => Nat.le_refl _⟩
def Gh.bear (g : Gh) (id b : Nat) : Gh := { g with ι := g.ι.set id (.bk b) }
theorem jbQ {id b : Nat} {zs : List IVal} (hι : g.ι[id]? = some (.un zs)) (j : Nat) (x : Blk) (hj : j ≠ id) (h : g.ι[j]? = some x) : (g.bear id b).ι[j]? = some x := by
 simp only [Gh.bear]; rw [List.getElem?_set_ne (Ne.symm hj)]; exact h
theorem Ze {id b : Nat} {zs : List IVal} (hι : g.ι[id]? = some (.un zs)) (j k : Nat) (h : g.ι[j]? = some (.bk k)) : (g.bear id b).ι[j]? = some (.bk k) :=
 jbQ hι j _ (fun e => by subst e; rw [hι] at h; cases h) h
theorem R.bear {l : jH} {σ : List IObj} {id b : Nat} {zs : List IVal} (h : R g O l σ w) (hb : b ∉ O) (hlt : b < w.heap.size) (hM : ∀ o, g.M b o = none) (hT : g.T b = none) (hι : g.ι[id]? = some (.un zs))
   (hob : OBJ (g.bear id b) w b (.cells zs)) (ho : kV w b (.cells zs) = [b]) : R (g.bear id b) (b :: O) l σ w := by
 have hidl : id < σ.length := by rw [<- h.len]; exact jg hι
 have hσ : σ[id]? = some (.cells zs) := by
   have h1 := h.objo id (.un zs) (σ[id]) hι (by simp [hidl]);rw [List.getElem?_eq_getElem hidl, h1.1]
 have hιm := fun (j k : Nat) (hj : g.ι[j]? = some (Blk.bk k)) => Ze (b := b) hι j k hj;have vU : (List.zipWith (qU w) g.ι σ)[id]? = some [] := by simp [List.getElem?_zipWith, hι, hσ, qU]
 have hzip : List.zipWith (qU w) (g.ι.set id (.bk b)) σ = (List.zipWith (qU w) g.ι σ).set id [b] := by
   apply List.ext_getElem?;intro j
   by_cases hj : j = id
   . subst hj;rw [List.getElem?_set_self (by have := jg hι; simp; omega)];simp only [List.getElem?_zipWith];rw [List.getElem?_set_self (jg hι), hσ];simp [qU, ho]
   . rw [List.getElem?_set_ne (Ne.symm hj)];simp only [List.getElem?_zipWith];rw [List.getElem?_set_ne (Ne.symm hj)]
 obtain ⟨r, hr1, hr2⟩ := yk (d := [b]) vU;have hp : (jR l ++ kM w (g.bear id b).ι σ).Perm (b :: (jR l ++ kM w g.ι σ)) := by
   have e1 : (kM w (g.bear id b).ι σ).Perm (b :: kM w g.ι σ) := by
     show ((List.zipWith (qU w) (g.ι.set id (.bk b)) σ).flatten).Perm (b :: (List.zipWith (qU w) g.ι σ).flatten);rw [hzip];exact hr2.trans (by simpa using (hr1.symm.cons b))
   exact (e1.append_left _).trans List.perm_middle
 refine ⟨by simp [Gh.bear, h.len], fun p hp' => (h.vals p hp').mono hιm (fun _ _ _ h => h) (fun _ _ => rfl), fun j k y h1 h2 => ?_, ?_, fun k hk => ?_, fun k hk => ?_, h.claim, fun j k y h1 h2 hm => ?_, fun k hk => ?_, h.glob, h.zs⟩
 . by_cases hj : j = id
   . subst hj;simp only [Gh.bear] at h1;rw [List.getElem?_set_self (jg hι)] at h1;cases h1;rw [hσ] at h2; cases h2;exact hob
   . simp only [Gh.bear] at h1;rw [List.getElem?_set_ne (Ne.symm hj)] at h1
     cases k with
     | un ys => exact h.objo j (.un ys) y h1 h2
     | bk k => exact (h.objs j k y h1 h2).mono rfl hιm (fun _ _ _ h => h) rfl (fun _ _ => rfl)
 . rw [hp.nodup_iff, List.nodup_cons];exact ⟨fun hm => hb (h.sub b hm), h.nodup⟩
 . rcases List.mem_cons.1 (hp.mem_iff.1 hk) with rfl | hk
   . simp
   . exact List.mem_cons_of_mem _ (h.sub k hk)
 . rcases List.mem_cons.1 hk with rfl | hk
   . exact hlt
   . exact h.lt k hk
 . by_cases hj : j = id
   . subst hj;simp only [Gh.bear] at h1;rw [List.getElem?_set_self (jg hι)] at h1;cases h1;exact hM
   . simp only [Gh.bear] at h1;rw [List.getElem?_set_ne (Ne.symm hj)] at h1;exact h.apart j k y h1 h2 hm
 . rcases List.mem_cons.1 hk with rfl | hk
   . intro ext top ht; simp [Gh.bear, hT] at ht
   . exact h.spare k hk
def Gh.born (g : Gh) (id k : Nat) : Gh := { g with ι := g.ι.set id (.bk k), T := fun b => if b = k then none else g.T b }
theorem R.born {l : jH} {σ : List IObj} {id : Nat} {zs : List IVal} {c : Array Value} {T : TypeId} (h : R g O l σ w) (hι : g.ι[id]? = some (.un zs)) (hc : Xi zs c.toList = true) :
   R (g.born id w.heap.size) (w.heap.size :: O) ((.ptr id 0, .pointer (some ⟨w.heap.size, 0, none⟩)) :: l) σ (w.alloc (.cells c T)) /\ ∀ n, n <= id -> GrowB n O g w (w.heap.size :: O) (g.born id w.heap.size) (w.alloc (.cells c T)) := by
 have h1 := h.allocW (.cells c T);have hk := h.notO;have h2 : R { g with T := fun b => if b = w.heap.size then none else g.T b } O l σ (w.alloc (.cells c T)) := by
   refine h1.ghost hk rfl rfl (fun _ _ _ => rfl) (fun _ _ h => h) (fun b hb => by simp [hb]) (fun o v hm => ?_);rw [h.noClaim o] at hm; cases hm
 have h3 : R (g.born id w.heap.size) (w.heap.size :: O) l σ (w.alloc (.cells c T)) := by
   refine h2.bear (id := id) (b := w.heap.size) (zs := zs) hk (by simp) h.noClaim (by simp) hι ?_ ?_
   . obtain ⟨q1, q2⟩ := yD (Gh.bear { g with T := fun b => if b = w.heap.size then none else g.T b } id w.heap.size) hc;exact ⟨c, T, jF w _, by have := q1; simp at this ⊢; omega, fun i x v hx hv => by
       obtain ⟨r1, _, r3⟩ := q2 i x v hx (by simpa using hv);exact ⟨r1, r3⟩⟩
   . simp only [kV, j7];rw [flatten_nil];intro d hd;obtain ⟨i, x, y, r1, r2, rfl⟩ := jN hd;exact ((yD g hc).2 i x y r1 r2).2.1
 refine ⟨h3.push (.ptr _ 0 _ ?_) rfl, fun n hn => ⟨by simp, fun b hb _ => ⟨JK w _ b hb, by simp [Gh.born]; omega, fun _ => rfl⟩, fun _ _ _ h => h, fun j b hj hb => ?_, fun b hb => ?_, rfl, rfl, rfl, rfl, fun _ => Nat.le_refl _⟩⟩
 . simp only [Gh.born]; rw [List.getElem?_set_self (jg hι)]
 . simp only [Gh.born]; rw [List.getElem?_set_ne (by omega)]; exact hb
 . rcases List.mem_cons.1 hb with rfl | hb
   . exact .inr (Nat.le_refl _)
   . exact .inl hb
theorem jjD {zs : List IVal} {vs : List Value} (h : Xi zs vs = true) : ∀ x ∈ zs, RL 0 x := by
 intro x hx;obtain ⟨i, hi⟩ := jx hx;obtain ⟨h1, h2⟩ := yD (⟨[], fun _ _ => none, fun _ => none, fun _ _ _ _ _ => True, fun _ => 0⟩ : Gh) h;obtain ⟨v, hv⟩ := jE h1 hi;exact (h2 i x v hi hv).1.rl
def yd (p : Nat × IOper) : Option (List IVal) := match p.2.op, p.2.guard with
 | .alloc zs, none => some zs
 | _, _ => none
theorem yZ {p : Nat × IOper} {zs : List IVal} (h : yd p = some zs) : p = (p.1, ⟨p.2.dst, .alloc zs, none⟩) := by
 obtain ⟨i, d, op, gd⟩ := p;unfold yd at h;simp only at h;split at h
 . cases h; rfl
 . cases h
def Xy : Nat -> List (Nat × IOper) -> List (Nat × IOper)
 | _, [] => []
 | b, p :: l => match yd p with
   | some _ => (p.1, ⟨p.2.dst, .mv (.c (.ptr b 0)), none⟩) :: Xy (b + 1) l
   | none => p :: l
def qI : Nat -> List (Nat × IOper) -> List (Nat × Nat × List IVal)
 | _, [] => []
 | b, p :: l => match yd p with
   | some zs => (p.1, b, zs) :: qI (b + 1) l
   | none => []
def qO (p : Nat × IOper) : Nat × IOper := match p with
 | (i, ⟨d, .mv (.c _), g⟩) => (i, ⟨d, .mv (.c (.bool true)), g⟩)
 | p => p
theorem jaO (sl : Nat -> Nat) (p q : Nat × IOper) : Xq sl (qO p).2 (qO q).2 = Xq sl p.2 q.2 := by
 have h : ∀ p : Nat × IOper, kt (qO p).2.op = kt p.2.op /\ jz (qO p).2.op = jz p.2.op /\ Xj (qO p).2.op = Xj p.2.op /\ (qO p).2.dst = p.2.dst /\ qN (qO p).2 = qN p.2 /\ vu (qO p).2 = vu p.2 := by
   intro p;unfold qO;split
   . exact ⟨rfl, rfl, rfl, rfl, rfl, rfl⟩
   . exact ⟨rfl, rfl, rfl, rfl, rfl, rfl⟩
 obtain ⟨a1, a2, a3, a4, a5, a6⟩ := h p;obtain ⟨b1, b2, b3, b4, b5, b6⟩ := h q;simp only [Xq, a1, a2, a3, a4, a5, a6, b1, b2, b3, b4, b5, b6]
theorem XF (sl : Nat -> Nat) (pairs : List (Nat × Nat)) (p q : Nat × IOper) : q9 sl pairs (qO p) (qO q) = q9 sl pairs p q /\ vJ (qO p).2.op = vJ p.2.op := by
 have h : ∀ p : Nat × IOper, (qO p).1 = p.1 /\ jz (qO p).2.op = jz p.2.op /\ Xj (qO p).2.op = Xj p.2.op /\ y5 (qO p).2.op = y5 p.2.op /\ vJ (qO p).2.op = vJ p.2.op := by
   intro p;unfold qO;split
   . exact ⟨rfl, rfl, rfl, rfl, rfl⟩
   . exact ⟨rfl, rfl, rfl, rfl, rfl⟩
 obtain ⟨a1, a2, a3, a4, a5⟩ := h p;obtain ⟨b1, b2, b3, b4, b5⟩ := h q;refine ⟨?_, a5⟩;simp only [q9, jaO, a1, a2, a3, a4, b1, b2, b3, b4]
theorem jcU : ∀ (l : List (Nat × IOper)) (b c : Nat), (Xy b l).map qO = (Xy c l).map qO := by
 intro l
 induction l with
 | nil => intro b c; rfl
 | cons p l ih =>
   intro b c;simp only [Xy]
   cases yd p with
   | some zs => simp only [List.map_cons]; rw [ih (b + 1) (c + 1)]; rfl
   | none => rfl
theorem Zn (p : Nat × IOper) : (qO p).1 = p.1 := by unfold qO; split <;> rfl
theorem Xs {r : Nat × IOper -> Nat × IOper -> Prop} (hr : ∀ p q, r (qO p) (qO q) ↔ r p q) {l l' : List (Nat × IOper)} (he : l.map qO = l'.map qO) (h : l.Pairwise r) : l'.Pairwise r := by
 have h1 : (l.map qO).Pairwise r := List.pairwise_map.2 (h.imp fun {p q} hpq => (hr p q).2 hpq);rw [he] at h1;exact (List.pairwise_map.1 h1).imp fun {p q} hpq => (hr p q).1 hpq
theorem jiD : ∀ (l : List (Nat × IOper)) (b : Nat), (Xy b l).map (·.1) = l.map (·.1) /\ (Xy b l).map (·.2.dst) = l.map (·.2.dst) := by
 intro l
 induction l with
 | nil => intro b; exact ⟨rfl, rfl⟩
 | cons p l ih =>
   intro b;simp only [Xy]
   cases yd p with
   | some zs =>
     simp only [List.map_cons];rw [(ih (b + 1)).1, (ih (b + 1)).2];exact ⟨rfl, rfl⟩
   | none => exact ⟨rfl, rfl⟩
theorem jdG : ∀ (l : List (Nat × IOper)) (b : Nat), qM (Xy b l) = qM l := by
 intro l
 induction l with
 | nil => intro b; rfl
 | cons p l ih =>
   intro b;simp only [Xy]
   cases hh : yd p with
   | some zs =>
     have h1 := ih (b + 1);have e := yZ hh;have h2 : vu p.2 = [] := by rw [e]; rfl
     simp only [qM] at h1 ⊢;simp only [List.flatMap_cons, h1, h2];rfl
   | none => rfl
theorem jcw : ∀ {l : List (Nat × IOper)} {b : Nat} {p : Nat × IOper}, p ∈ Xy b l -> p ∈ l \/ ∃ d id zs, (p.1, id, zs) ∈ qI b l /\ p = (p.1, ⟨d, .mv (.c (.ptr id 0)), none⟩) /\ (p.1, (⟨d, .alloc zs, none⟩ : IOper)) ∈ l := by
 intro l
 induction l with
 | nil => intro b p hp; cases hp
 | cons q l ih =>
   intro b p hp;simp only [Xy, qI] at hp ⊢
   cases hh : yd q with
   | some zs =>
     rw [hh] at hp;simp only at hp ⊢;have e := yZ hh
     rcases List.mem_cons.1 hp with rfl | hp
     . refine .inr ⟨q.2.dst, b, zs, by simp, rfl, ?_⟩;simp only;rw [<- e]; simp
     . rcases ih hp with h | ⟨d', id, zs', h1, h2, h3⟩
       . exact .inl (List.mem_cons_of_mem _ h)
       . exact .inr ⟨d', id, zs', List.mem_cons_of_mem _ h1, h2, List.mem_cons_of_mem _ h3⟩
   | none => rw [hh] at hp; exact .inl hp
theorem Kw : ∀ {l : List (Nat × IOper)} {b : Nat} {h : Nat × Nat × List IVal}, h ∈ qI b l -> (∃ d, (h.1, (⟨d, .alloc h.2.2, none⟩ : IOper)) ∈ l) /\ b <= h.2.1 := by
 intro l
 induction l with
 | nil => intro b h hm; cases hm
 | cons q l ih =>
   intro b h hm;simp only [qI] at hm
   cases hh : yd q with
   | some zs =>
     rw [hh] at hm;have e := yZ hh
     rcases List.mem_cons.1 hm with rfl | hm
     . refine ⟨⟨q.2.dst, ?_⟩, Nat.le_refl _⟩;simp only;rw [<- e]; simp
     . obtain ⟨⟨d', h1⟩, h2⟩ := ih hm;exact ⟨⟨d', List.mem_cons_of_mem _ h1⟩, by omega⟩
   | none => rw [hh] at hm; cases hm
theorem jeQ : ∀ {l : List (Nat × IOper)} {b : Nat} {h k : Nat × Nat × List IVal}, h ∈ qI b l -> k ∈ qI b l -> h.2.1 = k.2.1 -> h = k := by
 intro l
 induction l with
 | nil => intro b h k hm; cases hm
 | cons q l ih =>
   intro b h k hm km e;simp only [qI] at hm km
   cases hh : yd q with
   | some zs =>
     rw [hh] at hm km
     rcases List.mem_cons.1 hm with rfl | hm
     . rcases List.mem_cons.1 km with rfl | km
       . rfl
       . have := (Kw km).2;simp only at e; omega
     . rcases List.mem_cons.1 km with rfl | km
       . have := (Kw hm).2;simp only at e; omega
       . exact ih hm km e
   | none => rw [hh] at hm; cases hm
theorem jeP : ∀ (l : List (Nat × IOper)) (b c : Nat), (qI b l).map (·.1) = (qI c l).map (·.1) := by
 intro l
 induction l with
 | nil => intro b c; rfl
 | cons p l ih =>
   intro b c;simp only [qI]
   cases yd p with
   | some zs => simp only [List.map_cons]; rw [ih (b + 1) (c + 1)]
   | none => rfl
theorem Z1 {cf : jo} : ∀ {l : List (Nat × IOper)} {s s' : St} {q : Pan} {ls : List (Nat × DLog)}, jv cf l s = some (q, s', ls) ->
   ∃ ls0, jv cf (Xy s.σ.length l) { s with σ := s.σ ++ (qI s.σ.length l).map fun h => .cells h.2.2 } = some (q, s', ls0) /\ ∀ x ∈ ls0, x ∈ ls \/ (x.2 = ⟨none, [], 0⟩ /\ ∃ h ∈ qI s.σ.length l, x.1 = h.1) := by
 intro l
 induction l with
 | nil =>
   intro s s' q ls h;refine ⟨ls, ?_, fun x hx => .inl hx⟩;simpa [Xy, qI] using h
 | cons p l ih =>
   intro s s' q ls h;simp only [Xy, qI]
   cases hh : yd p with
   | some zs =>
     have e := yZ hh;have hst : jG cf ⟨p.2.dst, .alloc zs, none⟩ s = some (none, { ts := ze s.ts p.2.dst (.ptr s.σ.length 0), σ := s.σ ++ [.cells zs], wr := s.wr }, ⟨none, [], s.σ.length⟩) := by
       simp [jG, ko, YA, je, getAll, ja, Qc, jz]
     have e2 : p.2 = ⟨p.2.dst, .alloc zs, none⟩ := congrArg Prod.snd e
     rcases runDraw_cons.1 h with ⟨s1, li, ls1, h1, h2, rfl⟩ | ⟨v, li, h1, -, -⟩
     . rw [e2, hst] at h1;cases h1;obtain ⟨ls0, k1, k2⟩ := ih h2;simp only [List.length_append, List.length_singleton] at k1 k2;refine ⟨(p.1, ⟨none, [], 0⟩) :: ls0, ?_, fun x hx => ?_⟩
       . refine runDraw_cons.2 (.inl ⟨_, ⟨none, [], 0⟩, ls0, ?_, k1, rfl⟩);simp [jG, ko, YA, je, getAll, Opd.get, ja, rv, Qc, jz]
       . rcases List.mem_cons.1 hx with rfl | hx
         . exact .inr ⟨rfl, _, List.mem_cons_self, rfl⟩
         . rcases k2 x hx with h3 | ⟨h3, hh, h4, h5⟩
           . exact .inl (List.mem_cons_of_mem _ h3)
           . exact .inr ⟨h3, hh, List.mem_cons_of_mem _ h4, h5⟩
     . rw [e2, hst] at h1; cases h1
   | none => exact ⟨ls, by simpa using h, fun x hx => .inl hx⟩
end Go.Idl
namespace Go.Idl
variable [Globs] [Base]
variable {C0 : jaz} {P : Program} {a : Act} {g : Gh} {O : List Nat} {w : World} {s : St} {cf : jo}
def jgP (o : Oper) : List Nat := (o.after.toList.filter (Region.binds .any)).map (·.on)
def qK (ops : Array Oper) (k : Nat) : List Nat := match ops[k]? with
 | some o => jgP o
 | none => []
def jjt : List Oper -> List (List Nat) -> List (List Nat)
 | [], A => A
 | o :: os, A => jjt os (A ++ [(jgP o ++ (jgP o).flatMap fun d => A.getD d []).eraseDups])
def DC (ops : Array Oper) (L : Nat -> Prop) : Prop := ∀ k, L k -> ∀ d ∈ qK ops k, L d
def Anc (ops : Array Oper) (A : List (List Nat)) : Prop := ∀ q as, A[q]? = some as -> ∀ L : Nat -> Prop, DC ops L -> (∀ d ∈ qK ops q, L d) -> ∀ p ∈ as, L p
theorem Yx {l : List Nat} {x : Nat} (h : x ∈ l.eraseDups) : x ∈ l := by
 simpa using h
theorem jgC {ops : Array Oper} : ∀ {os pre : List Oper} {A : List (List Nat)}, ops.toList = pre ++ os -> A.length = pre.length -> Anc ops A -> Anc ops (jjt os A) := by
 intro os
 induction os with
 | nil => intro pre A _ _ h; exact h
 | cons o os ih =>
   intro pre A ho hl hA;refine ih (pre := pre ++ [o]) (by rw [ho]; simp) (by simp [hl]) ?_;intro q as hq L hL hd p hp
   by_cases hlt : q < A.length
   . rw [zL hlt] at hq;exact hA q as hq L hL hd p hp
   . have hqe : q = A.length := by
       have h1 := jg hq;simp at h1; omega
     subst hqe;simp only [List.getElem?_concat_length, zO] at hq;subst hq;have hat : qK ops A.length = jgP o := by
       have : ops[A.length]? = some o := by rw [<- Array.getElem?_toList, ho, hl]; simp
       simp [qK, this]
     rw [hat] at hd;have hp := Yx hp
     rcases List.mem_append.1 hp with hp | hp
     . exact hd p hp
     . obtain ⟨d, hdm, hpd⟩ := List.mem_flatMap.1 hp;rw [List.getD_eq_getElem?_getD] at hpd
       cases hAd : A[d]? with
       | none => rw [hAd] at hpd; cases hpd
       | some bs =>
         rw [hAd] at hpd;exact hA d bs hAd L hL (fun e he => hL d (hd d hdm) e he) p hpd
def pwB {α : Type} (r : α -> α -> Bool) : List α -> Bool
 | [] => true
 | x :: xs => xs.all (r x) && pwB r xs
theorem jch {α : Type} {r : α -> α -> Bool} : ∀ {l : List α}, pwB r l = true -> l.Pairwise (fun x y => r x y = true) := by
 intro l
 induction l with
 | nil => intro _; exact .nil
 | cons x xs ih =>
   intro h;simp only [pwB, zA, List.all_eq_true] at h;exact .cons h.1 (ih h.2)
def Ql (P : Program) (z : Shape) (ops : Array Oper) (l : List (Nat × IOper)) (pairs : List (Nat × Nat)) : Bool :=
 (Nat.beq l.length ops.size && (List.range ops.size).all fun k => (l.map (·.1)).contains k) && ((l.all fun p => match ops[p.1]? with
   | some o => KD P ops o p.2 && (jgP o).all (fun d => decide (d < ops.size) && !(Nat.beq d p.1))
   | none => false) && ((pwB (fun p q => !(Nat.beq p.1 q.1) && !((qK ops p.1).contains q.1)) l && (J1 z.n (l.map (·.2)) && l.all fun p => kt p.2.op)) &&
     (pwB (fun p q => ((jjt ops.toList []).getD q.1 []).contains p.1 || (!(vJ p.2.op) && q9 z.slot pairs p q)) (Xy 0 l) && (qI 0 l).all fun h => pairs.all fun p => !(Nat.beq p.2 h.1))))
theorem jag {ρ : Option Nat} {n i : Nat} {z : Shape} {ops : Array Oper} {Q : Exit -> Act -> World -> Prop} {K : Act -> World -> Prop} (hcf : CallOK P C0 cf) {o : Oper} {io : IOper} {s1 : St} {q : Option IVal} {l : DLog} (ho : ops[i]? = some o) (hok : KD P ops o io = true)
   (hds : ∀ d, io.dst = some d -> d < z.n) (hrun : jG cf io s = some (q, s1, l)) (hst : Stand C0 z g O s a w)
   (hK : q = none -> ∀ g' O' a' w', Goes g O s w g' O' s1 w' -> Stand C0 z g' O' s1 a' w' -> K a' w')
   (hP : ∀ v, q = some v -> ∀ g' O' w' v', Goes g O s w g' O' s1 w' -> R g' O' ((v, v') :: s1.ts.roots a.tmps) s1.σ w' -> DefsR g' s1.ts.ds a.defers -> WT s1.ts a.tmps -> Q (.panic [{ v := v', recovered := false }]) a w') : wpOpIn (WF ρ) n P ops Q i K a w := by
 obtain ⟨iod, iop, iog⟩ := io;simp only [KD, zA] at hok;obtain ⟨⟨hop, hdst⟩, hgd⟩ := hok;have hdst := eq_of_beq hdst;subst hdst;simp only [wpOpIn, ho];simp only [jG] at hrun;split at hrun
 . rename_i hwi;rw [if_pos (JX (o := o) (io := ⟨o.dst, iop, iog⟩) hgd hst hwi)];split at hrun
   . split at hrun
     . split at hrun
       . rename_i v s' hstep;simp only [zO, zP] at hrun;obtain ⟨rfl, rfl, rfl⟩ := hrun;refine jcd hcf hst.code hop (s := { s with wr := [] }) hstep hst.len hst.rel ρ n _ Q (fun _ v' w' hp => ?_) (fun h => by cases h);obtain ⟨g1, O1, wn, hg, hR, hl, hwr, hk⟩ := hp;have hsh := SameSh.step hstep;have hst1 := yM (N := z) (d := o.dst) (s := s') hR hl (by rw [hsh.2.2]; exact hst.defs.mono hg.pre) hst.size ⟨hsh.1.trans hst.sh.1, hsh.2.1.trans hst.sh.2⟩ (hg.code.trans hst.code) hds;simp only [List.append_nil] at hwr;exact hK rfl g1 O1 _ w' ⟨hg, ⟨s'.wr, rfl, by rw [hwr]; exact hk⟩⟩ ⟨hst1.rel, hst1.len, hst1.defs, hst1.size, hst1.sh, hst1.code⟩
       . rename_i v s' hstep;simp only [zO, zP] at hrun;obtain ⟨rfl, rfl, rfl⟩ := hrun;refine jcd hcf hst.code hop (s := { s with wr := [] }) hstep hst.len hst.rel ρ n _ Q (fun h => by cases h) (fun _ v' w' hp => ?_);obtain ⟨g1, O1, wn, hg, hR, hl, hwr, hk⟩ := hp;have hsh := SameSh.step hstep;simp only [List.append_nil] at hwr;exact hP v rfl g1 O1 w' v' ⟨hg, ⟨s'.wr, rfl, by rw [hwr]; exact hk⟩⟩ hR (by rw [hsh.2.2]; exact hst.defs.mono hg.pre) hl
       . cases hrun
     . cases hrun
   . cases hrun
 . rename_i hwi;rw [if_neg (by rw [JX (o := o) (io := ⟨o.dst, iop, iog⟩) hgd hst hwi]; simp)];simp only [zO, zP] at hrun;obtain ⟨rfl, rfl, rfl⟩ := hrun;have hR : R g O ((ju, undef) :: s.ts.roots a.tmps) s.σ w := hst.rel.push (ky g) rfl;have hst1 := yM (N := z) (d := o.dst) (s := s) hR hst.len hst.defs hst.size hst.sh hst.code hds;exact ⟨fun _ _ => trivial, hK rfl g O _ w ⟨.refl O g w, ⟨[], rfl, .refl _⟩⟩ hst1⟩
 . cases hrun
structure GoesB (n : Nat) (g : Gh) (O : List Nat) (s : St) (w : World) (g' : Gh) (O' : List Nat) (s' : St) (w' : World) : Prop where
 grow : GrowB n O g w O' g' w'
 keep : ∃ wn, s'.wr = wn ++ s.wr /\ Keep s.σ s'.σ wn
theorem GoesB.of {n : Nat} {g' : Gh} {O' : List Nat} {s' : St} {w' : World} (h : Goes g O s w g' O' s' w') : GoesB n g O s w g' O' s' w' := ⟨.of h.grow, h.keep⟩
theorem GoesB.trans {n : Nat} {g1 g2 g3 : Gh} {O1 O2 O3 : List Nat} {s1 s2 s3 : St} {w1 w2 w3 : World} (h : GoesB n g1 O1 s1 w1 g2 O2 s2 w2) (k : GoesB n g2 O2 s2 w2 g3 O3 s3 w3) : GoesB n g1 O1 s1 w1 g3 O3 s3 w3 := by
 obtain ⟨wn, h1, h2⟩ := h.keep;obtain ⟨wn', k1, k2⟩ := k.keep;exact ⟨h.grow.trans k.grow, ⟨wn' ++ wn, by rw [k1, h1, zS], h2.trans k2⟩⟩
def jdY (P : Program) (o : Oper) (d : Option Nat) (zs : List IVal) : Prop :=
 o.dst = d /\ o.guard = none /\ ∃ T i z, o.op = .alloc T /\ P.info? T = some i /\ i.zero = some z /\ Xi zs z.cells.toList = true
theorem Zd {ops : Array Oper} {o : Oper} {d : Option Nat} {zs : List IVal} (h : KD P ops o ⟨d, .alloc zs, none⟩ = true) : jdY P o d zs := by
 simp only [KD, zA] at h;obtain ⟨⟨hop, hdst⟩, hgd⟩ := h;have hg : o.guard = none := by
   unfold Yr at hgd;split at hgd
   . assumption
   . rename_i h1 h2; cases h2
   . cases hgd
 refine ⟨eq_of_beq hdst, hg, ?_⟩
 cases ho : o.op with
 | alloc T =>
   rw [ho] at hop;simp only [jmy] at hop;split at hop
   . rename_i i z hz;obtain ⟨z1, z2⟩ := kI hz;exact ⟨T, i, z, rfl, z1, z2, hop⟩
   . cases hop
 | _ => rw [ho] at hop; simp only [jmy] at hop; cases hop
theorem jgG {ρ : Option Nat} {n i k b : Nat} {z : Shape} {ops : Array Oper} {Q : Exit -> Act -> World -> Prop} {K : Act -> World -> Prop} {o : Oper} {d : Option Nat} {zs : List IVal} {s1 : St} {q : Option IVal} {l : DLog} (ho : ops[i]? = some o) (hh : jdY P o d zs)
   (hds : ∀ k, d = some k -> k < z.n) (hrun : jG cf ⟨d, .mv (.c (.ptr k 0)), none⟩ s = some (q, s1, l)) (hst : Stand C0 z g O s a w) (hι : g.ι[k]? = some (.un zs)) (hb : b <= k)
   (hK : ∀ O' a' w', GoesB b g O s w (g.born k w.heap.size) O' s1 w' -> Stand C0 z (g.born k w.heap.size) O' s1 a' w' -> K a' w') : q = none /\ wpOpIn (WF ρ) n P ops Q i K a w := by
 obtain ⟨hdst, hgd, T, ti, zv, hop, hi, hz, hc⟩ := hh;subst hdst;simp [jG, ko, YA, je, getAll, Opd.get, ja, rv, Qc, jz] at hrun;obtain ⟨rfl, rfl, -⟩ := hrun;refine ⟨rfl, ?_⟩;simp only [wpOpIn, ho];rw [if_pos (by simp [Region.wanted, hgd])];refine ⟨fun _ _ => trivial, ?_⟩;have hr : (execOp a.eval o).run P w = .ok (.value (.pointer (some ⟨w.heap.size, 0, none⟩))) (w.alloc (.cells zv.cells T)) := by
   simp [execOp, hop, Instr.alloc, zeroValue, typeInfo, hi, hz, yO]
 rw [Oper.semAt_eq _ _ _ (fun c h => by rw [hop] at h; cases h), hr];obtain ⟨hR, hG⟩ := hst.rel.born hι hc (T := T);have hpre : ∀ (id b' : Nat), g.ι[id]? = some (Blk.bk b') -> (g.born k w.heap.size).ι[id]? = some (Blk.bk b') := fun id b' h => Ze hι id b' h;have hst1 := yM (N := z) (d := o.dst) (s := s) (a := a) hR hst.len (hst.defs.mono hpre) hst.size hst.sh hst.code hds;exact hK _ _ _ ⟨hG b hb, ⟨[], rfl, .refl _⟩⟩ hst1
structure Reg (P : Program) (z : Shape) (ops : Array Oper) (hs : List (Nat × Nat × List IVal)) (l : List (Nat × IOper)) (pairs : List (Nat × Nat)) : Prop where
 len : l.length = ops.size
 cov : ∀ k, k < ops.size -> k ∈ l.map (·.1)
 ok : ∀ p ∈ l, ∃ o, ops[p.1]? = some o /\ (KD P ops o p.2 = true \/ ∃ d id zs, (p.1, id, zs) ∈ hs /\ p.2 = ⟨d, .mv (.c (.ptr id 0)), none⟩ /\ jdY P o d zs) /\ ∀ d ∈ jgP o, d < ops.size /\ d ≠ p.1
 ord : l.Pairwise fun p q => p.1 ≠ q.1 /\ q.1 ∉ qK ops p.1
 free : l.Pairwise fun p q => (∀ L : Nat -> Prop, DC ops L -> (∀ d ∈ qK ops q.1, L d) -> L p.1) \/ (q9 z.slot pairs p q = true /\ vJ p.2.op = false)
theorem jmG {n : Shape} {ops : Array Oper} {l : List (Nat × IOper)} {pairs : List (Nat × Nat)} (h : Ql P n ops l pairs = true) (b : Nat) : Reg P n ops (qI b l) (Xy b l) pairs /\ J1 n.n ((Xy b l).map (·.2)) = true /\ (∀ p ∈ Xy b l, kt p.2.op = true) /\ (∀ h ∈ qI b l, ∀ p ∈ pairs, p.2 ≠ h.1) /\ ∀ h ∈ qI b l, ∀ x ∈ h.2.2, RL 0 x := by
 simp only [Ql, zA] at h;obtain ⟨⟨h0, h1⟩, h2, ⟨h5, h3, h7⟩, h4, h8⟩ := h;have hok : ∀ p ∈ l, ∃ o, ops[p.1]? = some o /\ KD P ops o p.2 = true /\ ∀ d ∈ jgP o, d < ops.size /\ d ≠ p.1 := by
   intro p hp;have := List.all_eq_true.1 h2 p hp;split at this
   . rename_i o ho;simp only [zA, List.all_eq_true, decide_eq_true_eq] at this;refine ⟨o, ho, this.1, fun d hd => ⟨(this.2 d hd).1, fun e => ?_⟩⟩;have h6 := (this.2 d hd).2;subst e;simp at h6
   . cases this
 obtain ⟨v1, v2⟩ := jiD l b;have vlen : (Xy b l).length = l.length := by have := congrArg List.length v1; simpa using this
 refine ⟨⟨by rw [vlen]; exact zN h0, fun k hk => ?_, fun p hp => ?_, ?_, ?_⟩, ?_, fun p hp => ?_, fun hd hm p hp e => ?_, fun hd hm x hx => ?_⟩
 . rw [v1];have := List.all_eq_true.1 h1 k (List.mem_range.2 hk);simpa using this
 . rcases jcw hp with hp | ⟨d, id, zs, q1, q2, q3⟩
   . obtain ⟨o, k1, k2, k3⟩ := hok p hp;exact ⟨o, k1, .inl k2, k3⟩
   . obtain ⟨o, k1, k2, k3⟩ := hok _ q3;exact ⟨o, k1, .inr ⟨d, id, zs, q1, congrArg Prod.snd q2, Zd k2⟩, k3⟩
 . have h6 : l.Pairwise fun p q => p.1 ≠ q.1 /\ q.1 ∉ qK ops p.1 := (jch h5).imp fun {p q} hpq => by
     simp only [zA] at hpq;refine ⟨fun e => ?_, fun hm => ?_⟩
     . have h6 := hpq.1;rw [e] at h6;simp at h6
     . have h6 := hpq.2;rw [List.contains_iff_mem.2 hm] at h6;cases h6
   have h9 : (l.map (·.1)).Pairwise fun i j => i ≠ j /\ j ∉ qK ops i := List.pairwise_map.2 h6;rw [<- v1] at h9;exact List.pairwise_map.1 h9
 . refine Xs (fun p q => ?_) (jcU l 0 b) ((jch h4).imp fun {p q} hpq => ?_)
   . rw [Zn, Zn, (XF _ _ p q).1, (XF n.slot pairs p q).2]
   . simp only [Bool.or_eq_true] at hpq
     rcases hpq with hpq | hpq
     . left
       intro L hL hd;have hA : Anc ops (jjt ops.toList []) := jgC (pre := []) (by simp) rfl (fun q as hq => by simp at hq)
       cases hAq : (jjt ops.toList [])[q.1]? with
       | none => simp [List.getD_eq_getElem?_getD, hAq] at hpq
       | some as =>
         simp only [List.getD_eq_getElem?_getD, hAq, Option.getD_some, List.contains_iff_mem] at hpq;exact hA q.1 as hAq L hL hd p.1 hpq
     . rw [zA] at hpq;exact .inr ⟨hpq.2, by simpa using hpq.1⟩
 . simp only [J1, List.all_eq_true] at h3 ⊢;intro io hio;obtain ⟨p, hp, rfl⟩ := List.mem_map.1 hio;have h6 : p.2.dst ∈ l.map (·.2.dst) := by rw [<- v2]; exact List.mem_map_of_mem hp
   obtain ⟨p', hp', e⟩ := List.mem_map.1 h6;rw [<- e];exact h3 p'.2 (List.mem_map_of_mem hp')
 . rcases jcw hp with hp | ⟨d, id, zs, q1, q2, q3⟩
   . exact List.all_eq_true.1 h7 p hp
   . rw [q2]; rfl
 . have h9 : hd.1 ∈ (qI 0 l).map (·.1) := by rw [jeP l 0 b]; exact List.mem_map_of_mem hm
   obtain ⟨h', h10, h11⟩ := List.mem_map.1 h9;have h12 := List.all_eq_true.1 (List.all_eq_true.1 h8 h' h10) p hp;rw [h11, e] at h12;simp at h12
 . obtain ⟨⟨d, q1⟩, _⟩ := Kw hm;obtain ⟨o, _, k2, _⟩ := hok _ q1;obtain ⟨_, _, T, i, z, _, _, _, hc⟩ := Zd k2;exact jjD hc x hx
theorem jjv {ρ : Option Nat} {n : Nat} {z : Shape} {ops : Array Oper} {l : List (Nat × IOper)} {hs : List (Nat × Nat × List IVal)} {b : Nat} {pairs : List (Nat × Nat)} {Q : Exit -> Act -> World -> Prop} (hcf : CallOK P C0 cf) (hcs : zC cf) (hreg : Reg P z ops hs l pairs) (hdr : ∀ p ∈ l, kt p.2.op = true)
   (hsb : ∀ h ∈ hs, b <= h.2.1) (hsi : ∀ h ∈ hs, ∀ k ∈ hs, h.2.1 = k.2.1 -> h = k) :
   ∀ (fuel : Nat) (rem : List (Nat × IOper)) (listed : Array Bool) (g : Gh) (O : List Nat) (s s' : St) (q : Pan) (ls : List (Nat × DLog)) (a : Act) (w : World),
     rem.Sublist l -> listed.size = ops.size -> (∀ k, k < ops.size -> (listed.getD k true = false ↔ k ∈ rem.map (·.1))) -> DC ops (fun k => listed.getD k false = true) -> rem.length <= fuel ->
     J1 z.n (l.map (·.2)) = true -> jv cf rem s = some (q, s', ls) -> XA pairs ls -> Stand C0 z g O s a w -> (∀ h ∈ hs, h.1 ∈ rem.map (·.1) -> g.ι[h.2.1]? = some (.un h.2.2)) ->
     (q = none -> ∀ g' O' t' a' w', t'.ts = s'.ts -> t'.σ = s'.σ -> (∃ wn, t'.wr = wn ++ s.wr /\ ∀ p ∈ wn, ∃ x ∈ ls, p ∈ x.2.wr) -> GoesB b g O s w g' O' t' w' -> Stand C0 z g' O' t' a' w' -> Q .normal a' w') ->
     (∀ v lw, q = some (v, lw) -> ∀ g' O' t' a' w' v', t'.ts.clrs (qM l) = s.ts.clrs (qM l) -> t'.σ = s'.σ -> (∃ wn, t'.wr = wn ++ s.wr /\ ∀ p ∈ wn, p ∈ lw \/ ∃ x ∈ ls, p ∈ x.2.wr) -> GoesB b g O s w g' O' t' w' ->
       R g' O' ((v, v') :: t'.ts.roots a'.tmps) t'.σ w' -> DefsR g' t'.ts.ds a'.defers -> WT t'.ts a'.tmps -> Q (.panic [{ v := v', recovered := false }]) a' w') ->
     wpAnyIn (WF ρ) n P .any ops Q fuel listed a w := by
 have hlt : ∀ p ∈ l, p.1 < ops.size := fun p hp => by
   obtain ⟨o, ho, -⟩ := hreg.ok p hp;exact (Array.getElem?_eq_some_iff.1 ho).1
 have hunl : ∀ {rem : List (Nat × IOper)} {listed : Array Bool} {k : Nat}, listed.size = ops.size -> (∀ k, k < ops.size -> (listed.getD k true = false ↔ k ∈ rem.map (·.1))) -> k ∈ Region.ready .any ops listed -> k ∈ rem.map (·.1) := by
   intro rem listed k hsz hlist hk;obtain ⟨h1, o, h2, -⟩ := mem_ready.1 hk;exact (hlist k (Array.getElem?_eq_some_iff.1 h2).1).1 h1
 have hnil : ∀ {listed : Array Bool} {fuel : Nat} {a : Act} {w : World}, listed.size = ops.size -> (∀ k, k < ops.size -> (listed.getD k true = false ↔ k ∈ ([] : List (Nat × IOper)).map (·.1))) -> Q .normal a w -> wpAnyIn (WF ρ) n P .any ops Q fuel listed a w := by
   intro listed fuel a w hsz hlist hq;refine wpAnyIn_done ?_ hq fuel;exact List.eq_nil_iff_forall_not_mem.2 fun k hk => by have := hunl hsz hlist hk; cases this
 intro fuel
 induction fuel with
 | zero =>
   intro rem listed g O s s' q ls a w hsub hsz hlist hdc hlen hds hrun hP hst _ hQ _;have : rem = [] := List.eq_nil_of_length_eq_zero (by omega);subst this;simp [jv] at hrun;obtain ⟨rfl, rfl, rfl⟩ := hrun;exact hnil hsz hlist (hQ rfl g O s a w rfl rfl ⟨[], rfl, fun p hp => by cases hp⟩ (.of (.refl _ _ _ _)) hst)
 | succ fuel ih =>
   intro rem listed g O s s' q ls a w hsub hsz hlist hdc hlen hds hrun hP hst hpn hQ hQP
   cases rem with
   | nil =>
     simp [jv] at hrun;obtain ⟨rfl, rfl, rfl⟩ := hrun;exact hnil hsz hlist (hQ rfl g O s a w rfl rfl ⟨[], rfl, fun p hp => by cases hp⟩ (.of (.refl _ _ _ _)) hst)
   | cons hd tl =>
     generalize hrem : hd :: tl = rem at *;have hord : rem.Pairwise fun p q => p.1 ≠ q.1 /\ q.1 ∉ qK ops p.1 := List.Pairwise.sublist hsub hreg.ord;have hnd : (rem.map (·.1)).Nodup := List.pairwise_map.2 (hord.imp fun h => h.1);refine ⟨fun hr => ?_, fun i hi => ?_⟩
     . -- the first one is ready
       exfalso
       have hmem : hd ∈ rem := by rw [<- hrem]; simp
       have hml := hsub.subset hmem;obtain ⟨o, ho, -, hdeps⟩ := hreg.ok hd hml;have hready : hd.1 ∈ Region.ready .any ops listed := by
         rw [mem_ready];refine ⟨(hlist hd.1 (hlt hd hml)).2 (List.mem_map_of_mem hmem), o, ho, fun e he hb => ?_⟩;have hde : e.on ∈ jgP o := List.mem_map.2 ⟨e, List.mem_filter.2 ⟨by simpa using he, hb⟩, rfl⟩;have h1 := hdeps _ hde;have h2 : e.on < ops.size := h1.1;have h3 : e.on ∉ rem.map (·.1) := by
           intro hm;rw [<- hrem] at hm hord;simp only [List.map_cons, List.mem_cons] at hm
           rcases hm with hm | hm
           . exact h1.2 hm
           . obtain ⟨q, hq, e1⟩ := List.mem_map.1 hm;have h6 := ((List.pairwise_cons.1 hord).1 q hq).2;rw [e1] at h6;simp only [qK, ho] at h6;exact h6 hde
         have h4 : ¬ (listed.getD e.on true = false) := fun h => h3 ((hlist _ h2).1 h);have h5 : e.on < listed.size := by omega
         simp [h5] at h4 ⊢;exact h4
       rw [hr] at hready;cases hready
     . have him := hunl hsz hlist hi;obtain ⟨⟨i0, io⟩, hio, hie⟩ := List.mem_map.1 him;simp only at hie;subst hie;obtain ⟨pre, post, hsplit⟩ := List.append_of_mem hio;obtain ⟨-, o', ho', hafter⟩ := mem_ready.1 hi;obtain ⟨o, ho, hok, hdeps⟩ := hreg.ok _ (hsub.subset hio);simp only at ho;have : o' = o := by rw [ho] at ho'; exact (Option.some.inj ho').symm
       subst this;have hL : ∀ d ∈ qK ops i0, listed.getD d false = true := by
         intro d hd0;simp only [qK, ho, jgP, List.mem_map, List.mem_filter] at hd0;obtain ⟨e, ⟨he, hb⟩, rfl⟩ := hd0;exact hafter e (by simpa using he) hb
       have hfree : ∀ p ∈ pre, q9 s.ts.slot pairs p (i0, io) = true /\ vJ p.2.op = false := by
         intro p hp;have hsl : s.ts.slot = z.slot := funext fun k => by simp only [Ts.slot, Shape.slot, hst.sh.1, hst.sh.2]
         rw [hsl];have hpw : rem.Pairwise _ := List.Pairwise.sublist hsub hreg.free;rw [hsplit, List.pairwise_append] at hpw
         rcases hpw.2.2 p hp (i0, io) (by simp) with h1 | h1
         . have h2 := h1 (fun k => listed.getD k false = true) hdc hL;have hpm : p.1 ∈ rem.map (·.1) := by rw [hsplit]; simp; exact .inl ⟨_, hp⟩
           have hpl : p ∈ l := hsub.subset (by rw [hsplit]; simp [hp]);have h3 := (hlist p.1 (hlt p hpl)).2 hpm;have h4 : p.1 < listed.size := by rw [hsz]; exact hlt p hpl
           simp [h4] at h2 h3;rw [h2] at h3; cases h3
         . exact h1
       rw [hsplit] at hrun;obtain ⟨s'', ls', hrun', e1, e2, hperm⟩ := YI hcs hfree hP hrun;have hio_l := hsub.subset hio;have hds0 : ∀ d, io.dst = some d -> d < z.n := by
         intro d hd0;have := List.all_eq_true.1 hds io (List.mem_map.2 ⟨_, hio_l, rfl⟩);rw [hd0] at this;simpa using this
       have hilt : i0 < listed.size := by rw [hsz]; exact hlt _ hio_l
       rw [hsplit] at hnd;simp only [List.map_append, List.map_cons] at hnd;have hni : i0 ∉ (pre ++ post).map (·.1) := by
         have := (List.perm_middle (a := i0) (l₁ := pre.map (·.1)) (l₂ := post.map (·.1))).nodup_iff.1 hnd;simpa using (List.nodup_cons.1 this).1
       have hsubi : ∀ k, k ∈ (pre ++ post).map (·.1) -> k ∈ rem.map (·.1) := by
         intro k hk;rw [hsplit];simp only [List.map_append, List.map_cons, List.mem_append, List.mem_cons] at hk ⊢
         rcases hk with h | h
         . exact .inl h
         . exact .inr (.inr h)
       -- behind one that ended
       have next : ∀ {s1 : St} {li : DLog} {ls1 : List (Nat × DLog)}, jG cf io s = some (none, s1, li) -> jv cf (pre ++ post) s1 = some (q, s'', ls1) -> ls' = (i0, li) :: ls1 ->
           ∀ g1 O1 a1 w1, GoesB b g O s w g1 O1 s1 w1 -> Stand C0 z g1 O1 s1 a1 w1 -> (∀ h ∈ hs, h.1 ∈ (pre ++ post).map (·.1) -> g1.ι[h.2.1]? = some (.un h.2.2)) ->
           wpAnyIn (WF ρ) n P .any ops Q fuel (listed.setIfInBounds i0 true) a1 w1 := by
         intro s1 li ls1 hstep hrest hls g1 O1 a1 w1 hgo hst1 hpn1;subst hls;refine ih (pre ++ post) _ g1 O1 s1 s'' q ls1 a1 w1 ?_ (by simp [hsz]) ?_ ?_ ?_ ?_ hrest ?_ hst1 hpn1 ?_ ?_
         . refine List.Sublist.trans ?_ hsub;rw [hsplit]; exact List.Sublist.append_left (List.sublist_cons_self _ _) _
         . intro k hk
           by_cases hki : i0 = k
           . subst hki;simp only [hni, iff_false];simp [hilt]
           . rw [getD_set_ne true hki, hlist k hk, hsplit];simp only [List.map_append, List.map_cons, List.mem_append, List.mem_cons]
             constructor
             . rintro (h | h | h)
               . exact .inl h
               . exact absurd h.symm hki
               . exact .inr h
             . rintro (h | h)
               . exact .inl h
               . exact .inr (.inr h)
         . intro k hk d hd0
           by_cases hki : i0 = k
           . subst hki; exact getD_set_true (hL d hd0)
           . simp only [getD_set_ne false hki] at hk;exact getD_set_true (hdc k hk d hd0)
         . have : rem.length = (pre ++ post).length + 1 := by rw [hsplit]; simp; omega
           omega
         . exact hds
         . intro x hx y hy;exact hP x (hperm x (by simp [hx])) y (hperm y (by simp [hy]))
         . intro hq g' O' t' a' w' q1 q2 ⟨wn, q3, q4⟩ q5 q6;refine hQ hq g' O' t' a' w' (q1.trans (e1 hq)) (q2.trans e2) ⟨wn ++ li.wr, ?_, fun p hp => ?_⟩ (hgo.trans q5) q6
           . rw [q3, (qF hcs hstep).1, zS]
           . rcases List.mem_append.1 hp with hp | hp
             . obtain ⟨x, hx, hpx⟩ := q4 p hp;exact ⟨x, hperm x (by simp [hx]), hpx⟩
             . exact ⟨(i0, li), hperm _ (by simp), hp⟩
         . intro v lw hq g' O' t' a' w' v' q1 q2 ⟨wn, q3, q4⟩ q5 q6 q7 q8;refine hQP v lw hq g' O' t' a' w' v' (q1.trans (KM (hdr _ hio_l) (KO hio_l) hstep)) (q2.trans e2) ⟨wn ++ li.wr, ?_, fun p hp => ?_⟩ (hgo.trans q5) q6 q7 q8
           . rw [q3, (qF hcs hstep).1, zS]
           . rcases List.mem_append.1 hp with hp | hp
             . rcases q4 p hp with hp | ⟨x, hx, hpx⟩
               . exact .inl hp
               . exact .inr ⟨x, hperm x (by simp [hx]), hpx⟩
             . exact .inr ⟨(i0, li), hperm _ (by simp), hp⟩
       rcases hok with hok | ⟨d, id, zs, hh1, hh2, hh3⟩
       . rcases runDraw_cons.1 hrun' with ⟨s1, li, ls1, hstep, hrest, hls⟩ | ⟨v, li, hstep, rfl, rfl⟩
         . refine jag hcf ho hok hds0 hstep hst (fun _ g1 O1 a1 w1 hgo hst1 => ?_) (fun v h => by cases h);exact next hstep hrest hls g1 O1 a1 w1 (.of hgo) hst1 (fun h hm hk => hgo.grow.preo _ _ (hpn h hm (hsubi _ hk)))
         . refine jag hcf ho hok hds0 hstep hst (fun h => by cases h) (fun v0 h g1 O1 w1 v' hgo hR hD hW => ?_);cases h;exact hQP v li.wr rfl g1 O1 s'' a w1 v' (KM (hdr _ hio_l) (KO hio_l) hstep) e2 ⟨li.wr, (qF hcs hstep).1, fun p hp => .inl hp⟩ (.of hgo) hR hD hW
       . simp only at hh1 hh2;subst hh2;have hι := hpn _ hh1 (by rw [hsplit]; simp)
         rcases runDraw_cons.1 hrun' with ⟨s1, li, ls1, hstep, hrest, hls⟩ | ⟨v, li, hstep, _, _⟩
         . refine (jgG (K := wpAnyIn (WF ρ) n P .any ops Q fuel (listed.setIfInBounds i0 true)) ho hh3 hds0 hstep hst hι (hsb _ hh1) fun O1 a1 w1 hgo hst1 => ?_).2;refine next hstep hrest hls _ O1 a1 w1 hgo hst1 (fun h hm hk => ?_);refine jbQ hι _ _ (fun e => ?_) (hpn h hm (hsubi _ hk));have := hsi h hm _ hh1 e;subst this;exact hni hk
         . exfalso
           have := VV hstep;cases this
theorem jbm (hcs : zC cf) : ∀ {l : List (Nat × IOper)} {s s' : St} {q : Pan} {ls : List (Nat × DLog)}, jv cf l s = some (q, s', ls) -> ∃ wn, s'.wr = wn ++ s.wr /\ (∀ x ∈ ls, ∀ p ∈ x.2.wr, p ∈ wn) /\ ∀ v lw, q = some (v, lw) -> ∀ p ∈ lw, p ∈ wn := by
 intro l
 induction l with
 | nil => intro s s' q ls h; simp [jv] at h; obtain ⟨rfl, rfl, rfl⟩ := h; exact ⟨[], rfl, fun x hx => (by cases hx), fun v lw h => (by cases h)⟩
 | cons o os ih =>
   intro s s' q ls h
   rcases runDraw_cons.1 h with ⟨s1, li, ls1, h1, h2, rfl⟩ | ⟨v, li, h1, rfl, rfl⟩
   . obtain ⟨wn, h3, h4, h5⟩ := ih h2;refine ⟨wn ++ li.wr, by rw [h3, (qF hcs h1).1, zS], fun x hx p hp => ?_, fun v lw hq p hp => List.mem_append_left _ (h5 v lw hq p hp)⟩
     rcases List.mem_cons.1 hx with rfl | hx
     . exact List.mem_append_right _ hp
     . exact List.mem_append_left _ (h4 x hx p hp)
   . refine ⟨li.wr, (qF hcs h1).1, fun x hx => (by cases hx), fun v' lw h p hp => ?_⟩;cases h; exact hp
theorem jbl : ∀ {l l0 : List (Nat × IOper)} {s s' : St} {q : Pan} {ls : List (Nat × DLog)}, (∀ p ∈ l, p ∈ l0) -> (∀ p ∈ l0, kt p.2.op = true) -> jv cf l s = some (q, s', ls) -> s'.ts.clrs (qM l0) = s.ts.clrs (qM l0) := by
 intro l
 induction l with
 | nil => intro l0 s s' q ls _ _ h; simp [jv] at h; obtain ⟨rfl, rfl, rfl⟩ := h; rfl
 | cons o os ih =>
   intro l0 s s' q ls hl hd h;have ho := hl o (by simp)
   rcases runDraw_cons.1 h with ⟨s1, li, ls1, h1, h2, rfl⟩ | ⟨v, li, h1, rfl, rfl⟩
   . exact (ih (fun p hp => hl p (by simp [hp])) hd h2).trans (KM (hd o ho) (KO ho) h1)
   . exact KM (hd o ho) (KO ho) h1
theorem jjG (X : List Nat) : ∀ (ts : Ts), (ts.clrs X).ds = ts.ds := by
 induction X with
 | nil => intro ts; rfl
 | cons x X ih => intro ts; exact ih (ts.clr x)
theorem WT.clrs {tmps : Array Value} (X : List Nat) : ∀ {ts : Ts}, WT ts tmps -> WT (ts.clrs X) tmps := by
 induction X with
 | nil => intro ts h; exact h
 | cons x X ih =>
   intro ts h;refine ih (ts := ts.clr x) ?_;intro k p hp
   by_cases hk : ts.slot x = k
   . subst hk;simp only [Ts.clr, Tm.get_set] at hp;cases hb : ts.t.has (ts.slot x) <;> rw [hb] at hp <;> cases hp
   . simp only [Ts.clr] at hp;rw [Tm.get_ne _ _ _ _ hk] at hp;exact h k p hp
theorem R.clrs {tmps : Array Value} {p : IVal × Value} {σ : List IObj} (X : List Nat) : ∀ {ts : Ts}, R g O (p :: ts.roots tmps) σ w -> R g O (p :: (ts.clrs X).roots tmps) σ w := by
 induction X with
 | nil => intro ts h; exact h
 | cons x X ih =>
   intro ts h;refine ih (ts := ts.clr x) ?_;have h1 := (Tm.list_get ts.t (ts.slot x)).map fun p => (p.2, tmps.getD p.1 undef);simp only [List.map_append] at h1;have h2 : R g O (((ts.t.get (ts.slot x)).toList.map fun p => (p.2, tmps.getD p.1 undef)) ++ (p :: (ts.clr x).roots tmps)) σ w := by
     refine h.perm ((h1.cons p).trans ?_);exact (List.perm_middle (a := p)).symm
   exact R.drops h2
theorem R.drawn {l : jH} {σ : List IObj} (h : R g O l σ w) (k : Nat) : R g O l σ { w with drawn := k } :=
 ⟨h.len, h.vals, h.objo, h.nodup, h.sub, h.lt, h.claim, h.apart, h.spare, h.glob, h.zs⟩
theorem Grow.drawn {g' : Gh} {O' : List Nat} {w' : World} {k : Nat} (h : Grow O g { w with drawn := k } O' g' w') : Grow O g w O' g' w' :=
 ⟨h.size, h.same, h.mono, h.preo, h.fresh, h.code, h.os, h.tape, h.output, h.zm⟩
def Gh.addUns (g : Gh) : List (List IVal) -> Gh
 | [] => g
 | zs :: zss => (g.addUn zs).addUns zss
theorem jcB {n : Nat} : ∀ {zss : List (List IVal)} {g : Gh} {s : St} {a : Act} {z : Shape}, (∀ zs ∈ zss, ∀ x ∈ zs, RL 0 x) -> Stand C0 z g O s a w ->
   Stand C0 z (g.addUns zss) O { s with σ := s.σ ++ zss.map .cells } a w /\ GoesB n g O s w (g.addUns zss) O { s with σ := s.σ ++ zss.map .cells } w /\ ∀ (j : Nat) zs, zss[j]? = some zs -> (g.addUns zss).ι[s.σ.length + j]? = some (.un zs) := by
 intro zss
 induction zss with
 | nil =>
   intro g s a z _ hst;refine ⟨by simpa [Gh.addUns] using hst, ?_, fun j zs h => by simp at h⟩;have := GoesB.of (n := n) (Goes.refl g O s w);simpa [Gh.addUns] using this
 | cons zs zss ih =>
   intro g s a z hz hst;have hR := hst.rel.pushUn (hz zs (by simp));have hpre : ∀ (id b : Nat), g.ι[id]? = some (Blk.bk b) -> (g.addUn zs).ι[id]? = some (Blk.bk b) := fun id b hb => by
     simp only [Gh.addUn]; rw [zL (jg hb)]; exact hb
   have hst1 : Stand C0 z (g.addUn zs) O { s with σ := s.σ ++ [.cells zs] } a w := ⟨hR, hst.len, hst.defs.mono hpre, hst.size, hst.sh, hst.code⟩;obtain ⟨k1, k2, k3⟩ := ih (fun ys hy => hz ys (by simp [hy])) hst1;have e : s.σ ++ [IObj.cells zs] ++ zss.map .cells = s.σ ++ (zs :: zss).map .cells := by simp
   simp only [e] at k1 k2;have hgo : GoesB n g O s w (g.addUn zs) O { s with σ := s.σ ++ [.cells zs] } w := ⟨.addUn n O g w zs, ⟨[], rfl, Keep.snoc _ _⟩⟩;refine ⟨k1, hgo.trans k2, fun j ys hj => ?_⟩
   cases j with
   | zero =>
     simp only [List.getElem?_cons_zero, zO] at hj;subst hj;have h1 : (g.addUn zs).ι[s.σ.length]? = some (.un zs) := by
       simp only [Gh.addUn, <- hst.rel.len]; simp
     have h2 : ∀ (zss : List (List IVal)) (g : Gh) (i : Nat) x, g.ι[i]? = some x -> (g.addUns zss).ι[i]? = some x := by
       intro zss
       induction zss with
       | nil => intro g i x h; exact h
       | cons a l ih => intro g i x h; exact ih _ _ _ (by simp only [Gh.addUn]; rw [zL (jg h)]; exact h)
     exact h2 zss _ _ _ h1
   | succ j =>
     simp only [List.getElem?_cons_succ] at hj;have := k3 j ys hj;simp only [List.length_append, List.length_singleton] at this;rw [show s.σ.length + (j + 1) = s.σ.length + 1 + j by omega];exact this
theorem jeO : ∀ {l : List (Nat × IOper)} {b : Nat} {h : Nat × Nat × List IVal}, h ∈ qI b l -> ∃ j, h.2.1 = b + j /\ ((qI b l).map (·.2.2))[j]? = some h.2.2 := by
 intro l
 induction l with
 | nil => intro b h hm; cases hm
 | cons q l ih =>
   intro b h hm;simp only [qI] at hm ⊢
   cases hh : yd q with
   | some zs =>
     rw [hh] at hm
     rcases List.mem_cons.1 hm with rfl | hm
     . exact ⟨0, rfl, rfl⟩
     . obtain ⟨j, h1, h2⟩ := ih hm;exact ⟨j + 1, by omega, by simpa using h2⟩
   | none => rw [hh] at hm; cases hm
theorem jgR {ρ : Option Nat} {n id : Nat} {m : Shape} {ops : Array Oper} {l : List (Nat × IOper)} {pairs : List (Nat × Nat)} {Q : Exit -> Act -> World -> Prop} {s1 s' : St} {x : IExit} {q : Pan} {ls : List (Nat × DLog)} (hmx : P.follows .mixedOrders = true) (hcf : CallOK P C0 cf) (hcs : zC cf)
   (hok : Ql P m ops l pairs = true) (hrun : jv cf l s = some (q, s1, ls)) (hP : vw pairs ls = true) (hend : yy l q s1 = some (x, s')) (hst : Stand C0 m g O s a w) (haft : After C0 m g O s w x s' Q) :
   (Code.region id ops true).wpIn (WF ρ) n P Q a w := by
 obtain ⟨hreg, hds, hdr, hpr, hrl⟩ := jmG hok s.σ.length;obtain ⟨ls0, hrun0, hls0⟩ := Z1 hrun;have hP0 : XA pairs ls0 := by
   intro x hx y hy hp;have hy1 : y ∈ ls := by
     rcases hls0 y hy with h | ⟨_, hh, h1, h2⟩
     . exact h
     . exact absurd h2 (fun e => hpr hh h1 _ hp e)
   rcases hls0 x hx with h | ⟨h, _⟩
   . exact jfw hP x h y hy1 hp
   . rw [h]; rfl
 obtain ⟨hstU, hgoU, hunU⟩ := jcB (n := s.σ.length) (zss := (qI s.σ.length l).map (·.2.2)) (fun zs hz => by
   obtain ⟨h, hm, rfl⟩ := List.mem_map.1 hz;exact hrl h hm) hst
 have eσ : s.σ ++ ((qI s.σ.length l).map (·.2.2)).map IObj.cells = s.σ ++ (qI s.σ.length l).map fun h => IObj.cells h.2.2 := by simp
 rw [eσ] at hstU hgoU;generalize hgU : g.addUns ((qI s.σ.length l).map (·.2.2)) = gU at hstU hgoU hunU;generalize hsU : ({ s with σ := s.σ ++ (qI s.σ.length l).map fun h => IObj.cells h.2.2 } : St) = sU at hstU hgoU hrun0;have hwU : sU.wr = s.wr := by subst hsU; rfl
 have htU : sU.ts = s.ts := by subst hsU; rfl
 have hlen : (Xy s.σ.length l).length = ops.size := hreg.len;have hgl : g.ι.length <= s.σ.length := Nat.le_of_eq hst.rel.len;have keepOf : ∀ {wn : List (Nat × Bool)} {t' : St} {g' : Gh} {O' : List Nat} {w' : World} {k : Nat} {sE : St}, t'.σ = sE.σ -> t'.wr = wn ++ sU.wr -> sE.wr = s1.wr -> (∀ p ∈ wn, (∃ v lw, q = some (v, lw) /\ p ∈ lw) \/ ∃ x ∈ ls0, p ∈ x.2.wr) -> GoesB s.σ.length gU O sU { w with drawn := k } g' O' t' w' -> Goes g O s w g' O' sE w' := by
   intro wn t' g' O' w' k sE q2 q3 q0 q4 q5;obtain ⟨wt, r1, r2, r3⟩ := jbm hcs hrun0;have q6 := hgoU.trans (⟨⟨q5.grow.size, q5.grow.same, q5.grow.mono, q5.grow.preo, q5.grow.fresh, q5.grow.code, q5.grow.os, q5.grow.tape, q5.grow.output, q5.grow.zm⟩, q5.keep⟩ : GoesB s.σ.length gU O sU w g' O' t' w');obtain ⟨wk, k1, k2⟩ := q6.keep;have e : wk = wn := by
     have := k1.symm.trans q3;rw [hwU] at this;exact List.append_cancel_right this
   subst e;refine ⟨q6.grow.all hgl, ⟨wt, (q0.trans r1).trans (by rw [hwU]), ?_⟩⟩;rw [<- q2];refine ⟨k2.1, fun n hn hw ho => k2.2 n hn (fun p hp hp2 => ?_) ho⟩
   rcases q4 p hp with ⟨v, lw, hq, hpl⟩ | ⟨x, hx, hpx⟩
   . exact hw p (r3 v lw hq p hpl) hp2
   . exact hw p (r2 x hx p hpx) hp2
 refine wpIn_region_any hmx (jjv hcf hcs hreg hdr (b := s.σ.length) (fun h hm => (Kw hm).2) (fun h hm k km e => jeQ hm km e) ops.size _ _ gU O sU s1 q ls0 a _ (.refl _) (by simp) ?_ ?_ (by omega) ?_ hrun0 hP0 ?_ ?_ ?_ ?_)
 . intro k hk;exact ⟨fun _ => hreg.cov k hk, fun _ => by simp [hk]⟩
 . intro k hk
   exfalso
   simp only [Array.getD_eq_getD_getElem?, Array.getElem?_replicate] at hk;split at hk <;> simp at hk
 . exact hds
 . exact ⟨hstU.rel.drawn _, hstU.len, hstU.defs, hstU.size, hstU.sh, hstU.code⟩
 . intro h hm _;obtain ⟨j, h1, h2⟩ := jeO hm;rw [h1];exact hunU j _ h2
 . intro hq g' O' t' a' w' q1 q2 ⟨wn, q3, q4⟩ q5 q6;subst hq;simp only [yy, zO, zP] at hend;obtain ⟨rfl, rfl⟩ := hend;refine haft.1 _ g' O' a' w' rfl (keepOf q2 q3 rfl (fun p hp => .inr (q4 p hp)) q5) ⟨by rw [<- q1, <- q2]; exact q6.rel, by rw [<- q1]; exact q6.len, by rw [<- q1]; exact q6.defs, q6.size, by rw [<- q1]; exact q6.sh, q6.code⟩
 . intro v lw hq g' O' t' a' w' v' q1 q2 ⟨wn, q3, q4⟩ q5 q6 q7 q8;subst hq;simp only [yy, zO, zP] at hend;obtain ⟨rfl, rfl⟩ := hend;have hc := jbl (fun p hp => hp) hdr hrun0;rw [jdG] at q1 hc;have e : t'.ts.clrs (qM l) = (clrD l s1).ts := q1.trans hc.symm;have hds2 : t'.ts.ds = (clrD l s1).ts.ds := by rw [<- e, jjG]
   refine haft.2 v g' O' a' w' v' rfl (keepOf (sE := clrD l s1) q2 q3 rfl (fun p hp => ?_) q5) ?_ ?_ ?_
   . rcases q4 p hp with h | h
     . exact .inl ⟨v, lw, rfl, h⟩
     . exact .inr h
   . rw [<- e];show R g' O' _ s1.σ w';rw [<- q2];exact R.clrs _ q6
   . rw [<- hds2]; exact q7
   . rw [<- e]; exact WT.clrs _ q8
end Go.Idl
