/-
  Functions: results, what is handed back.
-/
import Derived.Test.YtkjcgfadojfeeaaIdlCode
import Derived.LoopNIn
set_option linter.unusedSectionVars false
set_option linter.unusedVariables false
set_option linter.unusedSimpArgs false
namespace Go.Idl
variable [Globs]

variable {P : Program} {a : Act} {g : Gh} {O : List Nat} {w : World} {s : St} {cf : CallF}

def resOK (P : Program) : ResultVar → RV → Bool
  | .tmp t, .t i => t == i
  | .cell t T, .cell i n => t == i && tyN P T n
  | _, _ => false

def ressOK (P : Program) : List ResultVar → List RV → Bool
  | [], [] => true
  | r :: rs, v :: vs => resOK P r v && ressOK P rs vs
  | _, _ => false

def resM (tmps : Array Value) (rs : List ResultVar) : Sem (List Value) := rs.mapM fun r => match r with
  | .tmp t => pure (tmps.getD t undef)
  | .cell a t => do loadVar t (← asAddr (tmps.getD a undef))

theorem resM_nil {tmps : Array Value} : resM tmps [] = pure [] := by simp [resM]
theorem resM_tmp {tmps : Array Value} {t : Nat} {rs : List ResultVar} : (resM tmps (.tmp t :: rs)).run P w = ((resM tmps rs).run P w).andThen fun us w' => .ok (tmps.getD t undef :: us) w' := by
  simp only [resM, List.mapM_cons, Sem.run_bind, Sem.run_pure, Result.andThen_ok]
theorem resM_cell {tmps : Array Value} {t : Nat} {T : TypeId} {rs : List ResultVar} {ad : Addr} (h : tmps.getD t undef = .pointer (some ad)) {u : Value} {w' : World} (hl : (loadVar T ad).run P w = .ok u w') :
    (resM tmps (.cell t T :: rs)).run P w = ((resM tmps rs).run P w').andThen fun us w' => .ok (u :: us) w' := by
  simp only [resM, List.mapM_cons, Sem.run_bind, h, asAddr, Sem.run_pure, Result.andThen_ok, hl]

theorem results_sim {tmps : Array Value} : ∀ {vs : List RV} {rs : List ResultVar} {l : Roots} {s s' : St} {g : Gh} {O : List Nat} {w : World} {xs : List IVal}, ressOK P rs vs = true → readRes vs s = some (xs, s') → WT s.ts tmps →
    R g O (l ++ s.ts.roots tmps) s.σ w →
    ∃ us : List Value, (resM tmps rs).run P w = .ok us w ∧ xs.length = us.length ∧ WT s'.ts tmps ∧
      R g O (xs.zip us ++ (l ++ s'.ts.roots tmps)) s'.σ w ∧ ∃ wn, s'.wr = wn ++ s.wr ∧ Keep s.σ s'.σ wn ∧ wn.all (fun p => !p.2) = true := by
  intro vs
  induction vs with
  | nil =>
    intro rs l s s' g O w xs hok hrd hl hR
    cases rs <;> simp [ressOK] at hok
    simp [readRes] at hrd
    obtain ⟨rfl, rfl⟩ := hrd
    exact ⟨[], by simp [resM_nil, Sem.run_pure], rfl, hl, by simpa using hR, [], rfl, .refl _, rfl⟩
  | cons v vs ih =>
    intro rs l s s' g O w xs hok hrd hl hR
    cases rs with
    | nil => simp [ressOK] at hok
    | cons r rs =>
      simp only [ressOK, Bool.and_eq_true] at hok
      cases v with
      | t i =>
        simp only [readRes] at hrd
        split at hrd
        · rename_i x hx
          split at hrd
          · rename_i ys s1 hrest
            simp only [Option.some.injEq, Prod.mk.injEq] at hrd
            obtain ⟨rfl, rfl⟩ := hrd
            have hr : r = .tmp i := by cases r <;> simp [resOK] at hok; rw [hok.1]
            subst hr
            have hm := get_sim (a := ⟨tmps, []⟩) (x := .m i) (r := .tmp i) (ts' := s.ts.set i (un3 x)) (v := x) (by simp [opdOK]) (by simp [Opd.get, hx]) hl hR
            obtain ⟨us, h1, h2, h3, h4, wn, h5, h6, h7⟩ := ih (s := { s with ts := s.ts.set i (un3 x) }) (l := (x, (⟨tmps, []⟩ : Act).eval (.tmp i)) :: l) hok.2 hrest hm.2 (by simpa using hm.1)
            refine ⟨tmps.getD i undef :: us, ?_, by simp [h2], h3, ?_, wn, h5, h6, h7⟩
            · rw [resM_tmp, h1, Result.andThen_ok]
            · refine h4.perm ?_
              simp only [List.zip_cons_cons, List.cons_append, Act.eval]
              exact List.perm_middle
          · cases hrd
        · cases hrd
      | cell i n =>
        simp only [readRes] at hrd
        split at hrd
        · rename_i id off hx
          split at hrd
          · rename_i cs hcs
            split at hrd
            · rename_i z hz
              split at hrd
              · rename_i ys s1 hrest
                simp only [Option.some.injEq, Prod.mk.injEq] at hrd
                obtain ⟨rfl, rfl⟩ := hrd
                obtain ⟨T, hr, hT⟩ : ∃ T, r = .cell i T ∧ tyN P T n = true := by
                  cases r with
                  | tmp t => simp [resOK] at hok
                  | cell t T => simp only [resOK, Bool.and_eq_true] at hok; exact ⟨T, by rw [eq_of_beq hok.1.1], hok.1.2⟩
                subst hr
                obtain ⟨rest0, hp0, -⟩ := Ts.roots_get tmps hx
                have hV0 : V g (.ptr id off) (tmps.getD i undef) := hR.vals (.ptr id off, tmps.getD i undef) (List.mem_append_right _ (hp0.mem_iff.2 (by simp)))
                obtain ⟨b, hget, hι⟩ := hV0.ptr_inv
                obtain ⟨u, hrun, hR', hk, _⟩ := hR.loadMove hι (loadCell_some hcs) hT hz
                obtain ⟨us, h1, h2, h3, h4, wn, h5, h6, h7⟩ := ih (s := { s with σ := s.σ.set id (.cells (putCells cs off (un2 z).cells)), wr := (id, false) :: s.wr }) (l := (z, u) :: l) hok.2 hrest hl (by simpa using hR')
                refine ⟨u :: us, ?_, by simp [h2], h3, ?_, wn ++ [(id, false)], by rw [h5]; simp, hk.trans h6, by simp [h7]⟩
                · rw [resM_cell hget hrun, h1, Result.andThen_ok]
                · refine h4.perm ?_
                  simp only [List.zip_cons_cons, List.cons_append]
                  exact List.perm_middle
              · cases hrd
            · cases hrd
          · cases hrd
        · cases hrd

theorem R.merge {xs : List IVal} {us : List Value} {l : Roots} {σ : List IObj} (h : R g O (xs.zip us ++ l) σ w) (hl : xs.length = us.length) (hnt : ∀ x ∈ xs, nt x = true) :
    R g O ((tupV xs, if hh : us.toArray.size = 1 then us.toArray[0] else .tuple us.toArray) :: l) σ w := by
  have hlist : xs.length = 1 ∨ xs.length ≠ 1 := by omega
  rcases hlist with h1 | h1
  · obtain ⟨x, rfl⟩ := List.length_eq_one_iff.1 h1
    obtain ⟨u, rfl⟩ := List.length_eq_one_iff.1 (hl ▸ h1)
    simpa [tupV] using h
  · have e : tupV xs = .tup xs := by
      cases xs with
      | nil => rfl
      | cons x xs => cases xs with
        | nil => simp at h1
        | cons y ys => rfl
    rw [e, dif_neg (by simp; omega)]
    have hV : V g (.tup xs) (.tuple us.toArray) := .tup xs us.toArray (by simpa using hl) (fun i x v hx hv => nt_of_get (vs := us) (fun p hp => h.vals p (by simp [hp])) hx (by simpa using hv)) hnt
    have hown : own3 (.tup xs) (.tuple us.toArray) = ownL (xs.zip us) := by
      simp only [own3, ownL]
      congr 1
      apply List.ext_getElem?
      intro i
      simp only [List.getElem?_zipWith, List.getElem?_map, List.zip]
      cases hx : xs[i]? with
      | none => simp
      | some x => cases hu : us[i]? with
        | none => simp [hu]
        | some u => simp [hu]; exact (own3_nt (hnt x (List.mem_of_getElem? hx)) u).symm
    have e1 : ownL ((.tup xs, .tuple us.toArray) :: l) = ownL (xs.zip us ++ l) := by rw [ownL_append, ← hown]; simp [ownL]
    refine ⟨h.len, fun p hp => ?_, h.objs, by rw [e1]; exact h.nodup, by rw [e1]; exact h.sub, h.lt, h.claim, h.apart, h.spare, h.glob⟩
    rcases List.mem_cons.1 hp with rfl | hp
    · exact hV
    · exact h.vals p (by simp [hp])

theorem OBJ.cut {b n : Nat} {x : IObj} (h : OBJ g w b x) (hr : RLO n x) : OBJ (g.cut n) w b x := by
  cases x with
  | cells cs =>
    obtain ⟨c, el, h1, h2, h3⟩ := h
    exact ⟨c, el, h1, h2, fun i x v hx hv => ⟨(h3 i x v hx hv).1.cut n (hr x (List.mem_of_getElem? hx)), (h3 i x v hx hv).2⟩⟩
  | map es =>
    obtain ⟨mes, clock, h1, h2, h3⟩ := h
    refine ⟨mes, clock, h1, h2, fun i e me he hm => ?_⟩
    obtain ⟨⟨q1, q2⟩, q3⟩ := h3 i e me he hm
    have := hr e (List.mem_of_getElem? he)
    exact ⟨⟨q1.cut n this.1, q2.cut n this.2⟩, q3⟩
  | loop L =>
    obtain ⟨r, h1, h2⟩ := h
    exact ⟨r, h1, h2.st, h2.ps, h2.pend, h2.wt, h2.ds, fun p hp => ⟨(h2.vals p hp).1.cut n (hr p hp), (h2.vals p hp).2⟩, h2.code⟩
  | defr => exact h
  | dead => trivial

theorem OBJ.rlo {b : Nat} {x : IObj} (h : OBJ g w b x) : RLO g.ι.length x := by
  cases x with
  | cells cs =>
    obtain ⟨c, el, h1, h2, h3⟩ := h
    intro x hx
    obtain ⟨i, hi⟩ := mem_idx hx
    obtain ⟨v, hv⟩ := get_of_size h2.symm hi
    exact (h3 i x v hi hv).1.rl
  | map es =>
    obtain ⟨mes, clock, h1, h2, h3⟩ := h
    intro e he
    obtain ⟨i, hi⟩ := mem_idx he
    obtain ⟨me, hm⟩ := get_of_size h2.symm hi
    obtain ⟨⟨q1, q2⟩, _⟩ := h3 i e me hi hm
    exact ⟨q1.rl, q2.rl⟩
  | loop L =>
    obtain ⟨r, h1, h2⟩ := h
    exact fun p hp => (h2.vals p hp).1.rl
  | defr => trivial
  | dead => trivial

/-- What nobody sees any more is left out. -/
theorem finish_sim {l : Roots} {σ : List IObj} {g' : Gh} {O' : List Nat} {w' : World} {s' : St} {v : IVal} {v' : Value} {pan : Bool} (h : R g O l σ w) (hg : Grow O g w O' g' w') (hR : R g' O' [(v, v')] s'.σ w') (hk : Keep σ s'.σ s'.wr) :
    ∃ g'', Grow O g w O' g'' w' ∧ R g'' O' [((finish σ.length pan v s').v, v')] (finish σ.length pan v s').σ w' ∧ Keep σ (finish σ.length pan v s').σ (finish σ.length pan v s').wr ∧ (finish σ.length pan v s').pan = pan := by
  have hkf : ∀ σ2 : List IObj, Keep σ σ2 s'.wr → Keep σ σ2 (s'.wr.filter fun p => decide (p.1 < σ.length)) := by
    intro σ2 hk2
    refine ⟨hk2.1, fun n hn hw ho => hk2.2 n hn (fun p hp hp2 => ?_) ho⟩
    by_cases hlt : p.1 < σ.length
    · exact hw p (List.mem_filter.2 ⟨hp, by simpa using hlt⟩) hp2
    · omega
  unfold finish
  split
  · rename_i hcond
    simp only [Bool.and_eq_true, List.all_eq_true] at hcond
    obtain ⟨hnr, hwr⟩ := hcond
    have hlow : ∀ id o, id < σ.length → s'.σ[id]? = some o → RLO σ.length o := by
      refine hk.2 σ.length (Nat.le_refl _) (fun p hp hp2 => ?_) (fun id o hid ho => ?_)
      · have := hwr p hp
        simp only [Bool.or_eq_true, Bool.not_eq_true', decide_eq_true_eq] at this
        rcases this with h1 | h1
        · rw [h1] at hp2; cases hp2
        · exact h1
      · have hid' : id < g.ι.length := by rw [h.len]; exact hid
        have := (h.objs id (g.ι[id]) o (by simp [hid']) ho).rlo
        rw [h.len] at this; exact this
    have hι : (g'.cut σ.length).ι = g'.ι.take σ.length := rfl
    have hSsub : (ownS w' (g'.ι.take σ.length) (s'.σ.take σ.length)).Sublist (ownS w' g'.ι s'.σ) := by
      simp only [ownS]
      rw [← List.take_zipWith]
      exact sub_flatten (List.take_sublist _ _)
    have hsub : (ownL [(v, v')] ++ ownS w' (g'.ι.take σ.length) (s'.σ.take σ.length)).Sublist (ownL [(v, v')] ++ ownS w' g'.ι s'.σ) := List.Sublist.append (.refl _) hSsub
    have hget : ∀ {α : Type} {l : List α} {id : Nat} {x : α}, (l.take σ.length)[id]? = some x → l[id]? = some x ∧ id < σ.length := by
      intro α l id x hx
      rw [List.getElem?_take] at hx
      split at hx
      · exact ⟨hx, by assumption⟩
      · cases hx
    refine ⟨g'.cut σ.length, ⟨hg.size, hg.same, hg.mono, fun id b hb => ?_, hg.fresh, hg.code, hg.os, hg.tape, hg.output⟩, ⟨?_, fun p hp => ?_, fun id b o h1 h2 => ?_, hR.nodup.sublist hsub, fun b hb => hR.sub b (hsub.mem hb), hR.lt, hR.claim, fun id b o h1 h2 => hR.apart id b o (hget h1).1 (hget h2).1, hR.spare, hR.glob⟩, ?_, rfl⟩
    · rw [hι, List.getElem?_take, if_pos (by rw [← h.len]; exact lt_of_get hb)]
      exact hg.pre id b hb
    · simp [Gh.cut, hR.len]
    · simp only [List.mem_singleton] at hp
      subst hp
      exact (hR.vals (v, v') (by simp)).cut _ ((hR.vals (v, v') (by simp)).norl _ hnr)
    · obtain ⟨q1, q2⟩ := hget h1
      obtain ⟨q3, _⟩ := hget h2
      exact (hR.objs id b o q1 q3).cut (hlow id o q2 q3)
    · refine hkf _ ⟨by have := hk.1; simp only [List.length_take]; omega, fun n hn hw ho id o hid hgo => ?_⟩
      exact hk.2 n hn hw ho id o hid (hget hgo).1
  · exact ⟨g', hg, hR, hkf _ hk, rfl⟩

/-! ### a record, a mark, another one in its place -/
theorem R.putObj {l : Roots} {σ : List IObj} {id b : Nat} {ob ob' : IObj} {x : Obj} (h : R g O l σ w) (hι : g.ι[id]? = some b) (hσ : σ[id]? = some ob) (hlive : ob ≠ .dead) (hb : b < w.heap.size) (hnc : ∀ c el fz, w.heap[b]? ≠ some (.cells c el fz))
    (hob : OBJ g (w.putObj b x) b ob') (ho : ownO (w.putObj b x) b ob' = [b] ∨ ownO (w.putObj b x) b ob' = []) (ho' : ownO w b ob = [b]) :
    R g O l (σ.set id ob') (w.putObj b x) ∧ Grow O g w O g (w.putObj b x) := by
  have hs : (w.putObj b x).heap.size = w.heap.size := by simp
  have hw : ∀ k, k ≠ b → (w.putObj b x).heap[k]? = w.heap[k]? := fun k hk => World.putObj_heap_other hk
  have hbO : b ∈ O := h.sub b (List.mem_append_right _ (ownS_mem hι hσ (by rw [ho']; simp)))
  refine ⟨?_, Grow.of_setRow g w hbO _ hw hs rfl rfl rfl⟩
  have h1 := h.push (undef_V g) rfl
  have h2 := h1.upd (y := undefI) (u := undef) (id := id) (b := b) (ob := ob) (ob' := ob') (w' := w.putObj b x) (undef_V g) hι hσ hlive hw hs (fun c el fz hc => absurd hc (hnc c el fz)) hob (by
    rw [ho']
    have e0 : own3 undefI undef = [] := rfl
    rw [e0, List.nil_append, List.nil_append]
    rcases ho with ho | ho
    · rw [ho]; exact SubP.refl _
    · rw [ho]; exact SubP.of_sub (by simp))
  exact h2.drop

/-- The function's marks, one behind the other. -/
theorem shut_sim {gfn : Func} {tmps : Array Value} {Rp : Ending → World → Prop} {F : Fence} {n : Nat} {l : Roots} : ∀ (ds : List Nat) (σ σ' : List IObj) (defers : List Deferred) (w : World), shut σ ds = some σ' → DefsR g ds defers → R g O l σ w →
    (∀ w', R g O l σ' w' → Grow O g w O g w' → LeavesIn F n P gfn tmps Rp [] .returning w') → LeavesInM F n P gfn tmps Rp defers .returning w := by
  intro ds
  induction ds with
  | nil =>
    intro σ σ' defers w hs hd hR hk
    have : defers = [] := List.eq_nil_of_length_eq_zero (by simpa using hd.1)
    subst this
    simp [shut] at hs
    subst hs
    exact hk w hR (.refl _ _ _)
  | cons id ds ih =>
    intro σ σ' defers w hs hd hR hk
    cases defers with
    | nil => have := hd.1; simp at this
    | cons d defers =>
      obtain ⟨b, hι, rfl⟩ := hd.2 0 id d rfl rfl
      simp only [shut] at hs
      split at hs
      · rename_i hσ
        have hob : w.heap[b]? = some (.deferred (some [])) := hR.objs id b _ hι hσ
        have hlt : b < w.heap.size := (Array.getElem?_eq_some_iff.1 hob).1
        obtain ⟨hR', hG⟩ := hR.putObj (ob' := .dead) (x := .deferred none) hι hσ (by simp) hlt (by rw [hob]; simp) trivial (.inr rfl) rfl
        refine ⟨by simp, .inl ⟨b, _, rfl, run_takeDeferred hob, ?_⟩⟩
        exact ih _ σ' defers _ hs ⟨by have := hd.1; simp at this; exact this, fun i id' d' h1 h2 => hd.2 (i + 1) id' d' (by simpa using h1) (by simpa using h2)⟩ hR' (fun w' k1 k2 => hk w' k1 (hG.trans k2))
      · cases hs

theorem shut_keep : ∀ (ds : List Nat) (σ σ' : List IObj), shut σ ds = some σ' → Keep σ σ' (ds.map fun id => (id, false)) := by
  intro ds
  induction ds with
  | nil => intro σ σ' h; simp [shut] at h; subst h; exact .refl _
  | cons id ds ih =>
    intro σ σ' h
    simp only [shut] at h
    split at h
    · have h1 := ih _ _ h
      have h2 : Keep σ (σ.set id .dead) [(id, false)] := Keep.set fun n _ _ _ => trivial
      have h3 := h2.trans h1
      refine ⟨h3.1, fun n hn hw ho => h3.2 n hn (fun p hp hp2 => hw p ?_ hp2) ho⟩
      simp only [List.mem_append, List.mem_singleton, List.map_cons, List.mem_cons] at hp ⊢
      rcases hp with hp | hp
      · exact .inr hp
      · exact .inl (by simpa using hp)
    · cases h

end Go.Idl
