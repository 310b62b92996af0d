/-
  Regions whose order is open, part six: all orders come to the same.
-/
import Derived.Test.YtkjcgfadojfeeaaIdlDraw5
set_option linter.unusedSectionVars false
set_option linter.unusedVariables false
set_option linter.unusedSimpArgs false
namespace Go.Idl
variable [Globs]

variable {C0 : CRel} {P : Program} {a : Act} {g : Gh} {O : List Nat} {w : World} {s : St} {cf : CallF}

def deps (o : Oper) : List Nat := (o.after.toList.filter (Region.binds .any)).map (·.on)
def depsAt (ops : Array Oper) (k : Nat) : List Nat := match ops[k]? with
  | some o => deps o
  | none => []

/-- Whatever must come ahead, through others too. -/
def ancs : List Oper → List (List Nat) → List (List Nat)
  | [], A => A
  | o :: os, A => ancs os (A ++ [(deps o ++ (deps o).flatMap fun d => A.getD d []).eraseDups])

def DC (ops : Array Oper) (L : Nat → Prop) : Prop := ∀ k, L k → ∀ d ∈ depsAt ops k, L d

def Anc (ops : Array Oper) (A : List (List Nat)) : Prop := ∀ q as, A[q]? = some as → ∀ L : Nat → Prop, DC ops L → (∀ d ∈ depsAt ops q, L d) → ∀ p ∈ as, L p

theorem mem_eraseDups {l : List Nat} {x : Nat} (h : x ∈ l.eraseDups) : x ∈ l := by
  simpa using h

theorem ancs_anc {ops : Array Oper} : ∀ {os pre : List Oper} {A : List (List Nat)}, ops.toList = pre ++ os → A.length = pre.length → Anc ops A → Anc ops (ancs os A) := by
  intro os
  induction os with
  | nil => intro pre A _ _ h; exact h
  | cons o os ih =>
    intro pre A ho hl hA
    refine ih (pre := pre ++ [o]) (by rw [ho]; simp) (by simp [hl]) ?_
    intro q as hq L hL hd p hp
    by_cases hlt : q < A.length
    · rw [List.getElem?_append_left hlt] at hq
      exact hA q as hq L hL hd p hp
    · have hqe : q = A.length := by
        have h1 := lt_of_get hq
        simp at h1; omega
      subst hqe
      simp only [List.getElem?_concat_length, Option.some.injEq] at hq
      subst hq
      have hat : depsAt ops A.length = deps o := by
        have : ops[A.length]? = some o := by rw [← Array.getElem?_toList, ho, hl]; simp
        simp [depsAt, this]
      rw [hat] at hd
      have hp := mem_eraseDups hp
      rcases List.mem_append.1 hp with hp | hp
      · exact hd p hp
      · obtain ⟨d, hdm, hpd⟩ := List.mem_flatMap.1 hp
        rw [List.getD_eq_getElem?_getD] at hpd
        cases hAd : A[d]? with
        | none => rw [hAd] at hpd; cases hpd
        | some bs =>
          rw [hAd] at hpd
          exact hA d bs hAd L hL (fun e he => hL d (hd d hdm) e he) p hpd

def pwB {α : Type} (r : α → α → Bool) : List α → Bool
  | [] => true
  | x :: xs => xs.all (r x) && pwB r xs

theorem pwB_spec {α : Type} {r : α → α → Bool} : ∀ {l : List α}, pwB r l = true → l.Pairwise (fun x y => r x y = true) := by
  intro l
  induction l with
  | nil => intro _; exact .nil
  | cons x xs ih =>
    intro h
    simp only [pwB, Bool.and_eq_true, List.all_eq_true] at h
    exact .cons h.1 (ih h.2)

def drawOK (P : Program) (z : Shape) (ops : Array Oper) (l : List (Nat × IOper)) (pairs : List (Nat × Nat)) : Bool :=
  (l.map (·.1) == List.range ops.size) && ((l.all fun p => match ops[p.1]? with
    | some o => operOK P ops o p.2 && (deps o).all (fun d => decide (d < p.1))
    | none => false) && (dstsOK z.n (l.map (·.2)) && pwB (fun p q => ((ancs ops.toList []).getD q.1 []).contains p.1 || freePair z.slot pairs p q) l))

theorem stepD_sim {ρ : Option Nat} {n i : Nat} {z : Shape} {ops : Array Oper} {Q : Exit → Act → World → Prop} {K : Act → World → Prop} (hcf : CallOK P C0 cf) {o : Oper} {io : IOper} {s1 : St} {l : DLog} (ho : ops[i]? = some o) (hok : operOK P ops o io = true)
    (hds : ∀ d, io.dst = some d → d < z.n) (hrun : stepD cf io s = some (s1, l)) (hst : Stand C0 z g O s a w)
    (hK : ∀ g' O' a' w', Goes g O s w g' O' s1 w' → Stand C0 z g' O' s1 a' w' → K a' w') : wpOpIn (WF ρ) n P ops Q i K a w := by
  obtain ⟨iod, iop, iog⟩ := io
  simp only [operOK, Bool.and_eq_true] at hok
  obtain ⟨⟨hop, hdst⟩, hgd⟩ := hok
  have hdst := eq_of_beq hdst
  subst hdst
  simp only [wpOpIn, ho]
  simp only [stepD] at hrun
  split at hrun
  · rename_i hwi
    rw [if_pos (wanted_sim (o := o) (io := ⟨o.dst, iop, iog⟩) hgd hst hwi)]
    split at hrun
    · split at hrun
      · split at hrun
        · rename_i v s' hstep
          simp only [Option.some.injEq, Prod.mk.injEq] at hrun
          obtain ⟨rfl, rfl⟩ := hrun
          refine op_res hcf hst.code hop (s := { s with wr := [] }) hstep hst.len hst.rel ρ n _ Q (fun _ v' w' hp => ?_) (fun h => by cases h)
          obtain ⟨g1, O1, wn, hg, hR, hl, hwr, hk⟩ := hp
          have hsh := SameSh.step hstep
          have hst1 := put_stand (N := z) (d := o.dst) (s := s') hR hl (by rw [hsh.2.2]; exact hst.defs.mono hg.pre) hst.size ⟨hsh.1.trans hst.sh.1, hsh.2.1.trans hst.sh.2⟩ (hg.code.trans hst.code) hds
          simp only [List.append_nil] at hwr
          exact hK g1 O1 _ w' ⟨hg, ⟨s'.wr, rfl, by rw [hwr]; exact hk⟩⟩ ⟨hst1.rel, hst1.len, hst1.defs, hst1.size, hst1.sh, hst1.code⟩
        · cases hrun
      · cases hrun
    · cases hrun
  · rename_i hwi
    rw [if_neg (by rw [wanted_sim (o := o) (io := ⟨o.dst, iop, iog⟩) hgd hst hwi]; simp)]
    simp only [Option.some.injEq, Prod.mk.injEq] at hrun
    obtain ⟨rfl, rfl⟩ := hrun
    have hR : R g O ((undefI, undef) :: s.ts.roots a.tmps) s.σ w := hst.rel.push (undef_V g) rfl
    have hst1 := put_stand (N := z) (d := o.dst) (s := s) hR hst.len hst.defs hst.size hst.sh hst.code hds
    exact ⟨fun _ _ => trivial, hK g O _ w ⟨.refl O g w, ⟨[], rfl, .refl _⟩⟩ hst1⟩
  · cases hrun

/-- Everything that is fixed for one region. -/
structure Reg (P : Program) (z : Shape) (ops : Array Oper) (l : List (Nat × IOper)) (pairs : List (Nat × Nat)) : Prop where
  idx : l.map (·.1) = List.range ops.size
  ok : ∀ p ∈ l, ∃ o, ops[p.1]? = some o ∧ operOK P ops o p.2 = true ∧ ∀ d ∈ deps o, d < p.1
  free : l.Pairwise fun p q => (∀ L : Nat → Prop, DC ops L → (∀ d ∈ depsAt ops q.1, L d) → L p.1) ∨ freePair z.slot pairs p q = true

theorem reg_of {n : Shape} {ops : Array Oper} {l : List (Nat × IOper)} {pairs : List (Nat × Nat)} (h : drawOK P n ops l pairs = true) : Reg P n ops l pairs ∧ dstsOK n.n (l.map (·.2)) = true := by
  simp only [drawOK, Bool.and_eq_true] at h
  obtain ⟨h1, h2, h3, h4⟩ := h
  refine ⟨⟨eq_of_beq h1, fun p hp => ?_, (pwB_spec h4).imp fun {p q} hpq => ?_⟩, h3⟩
  · have := List.all_eq_true.1 h2 p hp
    split at this
    · rename_i o ho
      simp only [Bool.and_eq_true, List.all_eq_true, decide_eq_true_eq] at this
      exact ⟨o, ho, this.1, this.2⟩
    · cases this
  · simp only [Bool.or_eq_true] at hpq
    rcases hpq with hpq | hpq
    · left
      intro L hL hd
      have hA : Anc ops (ancs ops.toList []) := ancs_anc (pre := []) (by simp) rfl (fun q as hq => by simp at hq)
      cases hAq : (ancs ops.toList [])[q.1]? with
      | none => simp [List.getD_eq_getElem?_getD, hAq] at hpq
      | some as =>
        simp only [List.getD_eq_getElem?_getD, hAq, Option.getD_some, List.contains_iff_mem] at hpq
        exact hA q.1 as hAq L hL hd p.1 hpq
    · exact .inr hpq

theorem dstsOK_mono {n m : Nat} {l : List IOper} (h : dstsOK n l = true) (hnm : n ≤ m) : dstsOK m l = true := by
  simp only [dstsOK, List.all_eq_true] at h ⊢
  intro io hio
  have := h io hio
  revert this
  cases io.dst with
  | none => exact fun _ => rfl
  | some d => simp; omega

theorem any_sim {ρ : Option Nat} {n : Nat} {z : Shape} {ops : Array Oper} {l : List (Nat × IOper)} {pairs : List (Nat × Nat)} {Q : Exit → Act → World → Prop} (hcf : CallOK P C0 cf) (hcs : CfSame cf) (hreg : Reg P z ops l pairs) :
    ∀ (fuel : Nat) (rem : List (Nat × IOper)) (listed : Array Bool) (g : Gh) (O : List Nat) (s s' : St) (ls : List (Nat × DLog)) (a : Act) (w : World),
      rem.Sublist l → listed.size = ops.size → (∀ k, k < ops.size → (listed.getD k true = false ↔ k ∈ rem.map (·.1))) → DC ops (fun k => listed.getD k false = true) → rem.length ≤ fuel →
      dstsOK z.n (l.map (·.2)) = true → runDraw cf rem s = some (s', ls) → PairsP pairs ls → Stand C0 z g O s a w →
      (∀ g' O' t' a' w', t'.ts = s'.ts → t'.σ = s'.σ → (∃ wn, t'.wr = wn ++ s.wr ∧ ∀ p ∈ wn, ∃ x ∈ ls, p ∈ x.2.wr) → Goes g O s w g' O' t' w' → Stand C0 z g' O' t' a' w' → Q .normal a' w') →
      wpAnyIn (WF ρ) n P .any ops Q fuel listed a w := by
  have hlt : ∀ p ∈ l, p.1 < ops.size := fun p hp => by
    obtain ⟨o, ho, -⟩ := hreg.ok p hp
    exact (Array.getElem?_eq_some_iff.1 ho).1
  have hunl : ∀ {rem : List (Nat × IOper)} {listed : Array Bool} {k : Nat}, listed.size = ops.size → (∀ k, k < ops.size → (listed.getD k true = false ↔ k ∈ rem.map (·.1))) → k ∈ Region.ready .any ops listed → k ∈ rem.map (·.1) := by
    intro rem listed k hsz hlist hk
    obtain ⟨h1, o, h2, -⟩ := mem_ready.1 hk
    exact (hlist k (Array.getElem?_eq_some_iff.1 h2).1).1 h1
  have hnil : ∀ {listed : Array Bool} {fuel : Nat} {a : Act} {w : World}, listed.size = ops.size → (∀ k, k < ops.size → (listed.getD k true = false ↔ k ∈ ([] : List (Nat × IOper)).map (·.1))) → Q .normal a w → wpAnyIn (WF ρ) n P .any ops Q fuel listed a w := by
    intro listed fuel a w hsz hlist hq
    refine wpAnyIn_done ?_ hq fuel
    exact List.eq_nil_iff_forall_not_mem.2 fun k hk => by have := hunl hsz hlist hk; cases this
  intro fuel
  induction fuel with
  | zero =>
    intro rem listed g O s s' ls a w hsub hsz hlist hdc hlen hds hrun hP hst hQ
    have : rem = [] := List.eq_nil_of_length_eq_zero (by omega)
    subst this
    simp [runDraw] at hrun
    obtain ⟨rfl, rfl⟩ := hrun
    exact hnil hsz hlist (hQ g O s a w rfl rfl ⟨[], rfl, fun p hp => by cases hp⟩ (.refl _ _ _ _) hst)
  | succ fuel ih =>
    intro rem listed g O s s' ls a w hsub hsz hlist hdc hlen hds hrun hP hst hQ
    cases rem with
    | nil =>
      simp [runDraw] at hrun
      obtain ⟨rfl, rfl⟩ := hrun
      exact hnil hsz hlist (hQ g O s a w rfl rfl ⟨[], rfl, fun p hp => by cases hp⟩ (.refl _ _ _ _) hst)
    | cons hd tl =>
      generalize hrem : hd :: tl = rem at *
      have hsort : (rem.map (·.1)).Pairwise (· < ·) := by
        refine List.Pairwise.sublist (hsub.map _) ?_
        rw [hreg.idx]; exact List.pairwise_lt_range
      have hnd : (rem.map (·.1)).Nodup := hsort.imp fun h => by omega
      refine ⟨fun hr => ?_, fun i hi => ?_⟩
      · -- the first one is ready
        exfalso
        have hmem : hd ∈ rem := by rw [← hrem]; simp
        have hml := hsub.subset hmem
        obtain ⟨o, ho, -, hdeps⟩ := hreg.ok hd hml
        have hready : hd.1 ∈ Region.ready .any ops listed := by
          rw [mem_ready]
          refine ⟨(hlist hd.1 (hlt hd hml)).2 (List.mem_map_of_mem hmem), o, ho, fun e he hb => ?_⟩
          have hde : e.on ∈ deps o := List.mem_map.2 ⟨e, List.mem_filter.2 ⟨by simpa using he, hb⟩, rfl⟩
          have h1 := hdeps _ hde
          have h2 : e.on < ops.size := Nat.lt_trans h1 (hlt hd hml)
          have h3 : e.on ∉ rem.map (·.1) := by
            intro hm
            rw [← hrem] at hm hsort
            simp only [List.map_cons, List.mem_cons] at hm
            rcases hm with hm | hm
            · omega
            · have := List.rel_of_pairwise_cons hsort hm
              simp only at this; omega
          have h4 : ¬ (listed.getD e.on true = false) := fun h => h3 ((hlist _ h2).1 h)
          have h5 : e.on < listed.size := by omega
          simp [h5] at h4 ⊢
          exact h4
        rw [hr] at hready
        cases hready
      · have him := hunl hsz hlist hi
        obtain ⟨⟨i0, io⟩, hio, hie⟩ := List.mem_map.1 him
        simp only at hie
        subst hie
        obtain ⟨pre, post, hsplit⟩ := List.append_of_mem hio
        obtain ⟨-, o', ho', hafter⟩ := mem_ready.1 hi
        obtain ⟨o, ho, hok, hdeps⟩ := hreg.ok _ (hsub.subset hio)
        simp only at ho
        have : o' = o := by rw [ho] at ho'; exact (Option.some.inj ho').symm
        subst this
        have hL : ∀ d ∈ depsAt ops i0, listed.getD d false = true := by
          intro d hd0
          simp only [depsAt, ho, deps, List.mem_map, List.mem_filter] at hd0
          obtain ⟨e, ⟨he, hb⟩, rfl⟩ := hd0
          exact hafter e (by simpa using he) hb
        have hfree : ∀ p ∈ pre, freePair s.ts.slot pairs p (i0, io) = true := by
          intro p hp
          have hsl : s.ts.slot = z.slot := funext fun k => by simp only [Ts.slot, Shape.slot, hst.sh.1, hst.sh.2]
          rw [hsl]
          have hpw : rem.Pairwise _ := List.Pairwise.sublist hsub hreg.free
          rw [hsplit, List.pairwise_append] at hpw
          rcases hpw.2.2 p hp (i0, io) (by simp) with h1 | h1
          · have h2 := h1 (fun k => listed.getD k false = true) hdc hL
            have hpm : p.1 ∈ rem.map (·.1) := by rw [hsplit]; simp; exact .inl ⟨_, hp⟩
            have hpl : p ∈ l := hsub.subset (by rw [hsplit]; simp [hp])
            have h3 := (hlist p.1 (hlt p hpl)).2 hpm
            have h4 : p.1 < listed.size := by rw [hsz]; exact hlt p hpl
            simp [h4] at h2 h3
            rw [h2] at h3; cases h3
          · exact h1
        rw [hsplit] at hrun
        obtain ⟨s'', ls', hrun', e1, e2, hperm⟩ := runDraw_front hcs hfree hP hrun
        obtain ⟨s1, li, ls1, hstep, hrest, rfl⟩ := runDraw_cons.1 hrun'
        have hio_l := hsub.subset hio
        have hds0 : ∀ d, io.dst = some d → d < z.n := by
          intro d hd0
          have := List.all_eq_true.1 hds io (List.mem_map.2 ⟨_, hio_l, rfl⟩)
          rw [hd0] at this
          simpa using this
        refine stepD_sim hcf ho hok hds0 hstep hst fun g1 O1 a1 w1 hgo hst1 => ?_
        have hilt : i0 < listed.size := by rw [hsz]; exact hlt _ hio_l
        rw [hsplit] at hnd
        simp only [List.map_append, List.map_cons] at hnd
        have hni : i0 ∉ (pre ++ post).map (·.1) := by
          have := (List.perm_middle (a := i0) (l₁ := pre.map (·.1)) (l₂ := post.map (·.1))).nodup_iff.1 hnd
          simpa using (List.nodup_cons.1 this).1
        refine ih (pre ++ post) _ g1 O1 s1 s'' ls1 a1 w1 ?_ (by simp [hsz]) ?_ ?_ ?_ ?_ hrest ?_ hst1 ?_
        · refine List.Sublist.trans ?_ hsub
          rw [hsplit]; exact List.Sublist.append_left (List.sublist_cons_self _ _) _
        · intro k hk
          by_cases hki : i0 = k
          · subst hki
            simp only [hni, iff_false]
            simp [hilt]
          · rw [getD_set_ne true hki, hlist k hk, hsplit]
            simp only [List.map_append, List.map_cons, List.mem_append, List.mem_cons]
            constructor
            · rintro (h | h | h)
              · exact .inl h
              · exact absurd h.symm hki
              · exact .inr h
            · rintro (h | h)
              · exact .inl h
              · exact .inr (.inr h)
        · intro k hk d hd0
          by_cases hki : i0 = k
          · subst hki; exact getD_set_true (hL d hd0)
          · simp only [getD_set_ne false hki] at hk
            exact getD_set_true (hdc k hk d hd0)
        · have : rem.length = (pre ++ post).length + 1 := by rw [hsplit]; simp; omega
          omega
        · exact hds
        · intro x hx y hy
          exact hP x (hperm.subset (by simp [hx])) y (hperm.subset (by simp [hy]))
        · intro g' O' t' a' w' q1 q2 ⟨wn, q3, q4⟩ q5 q6
          refine hQ g' O' t' a' w' (q1.trans e1) (q2.trans e2) ⟨wn ++ li.wr, ?_, fun p hp => ?_⟩ (hgo.trans q5) q6
          · rw [q3, (stepD_chg hcs hstep).1, List.append_assoc]
          · rcases List.mem_append.1 hp with hp | hp
            · obtain ⟨x, hx, hpx⟩ := q4 p hp
              exact ⟨x, hperm.subset (by simp [hx]), hpx⟩
            · exact ⟨(i0, li), hperm.subset (by simp), hp⟩

theorem runDraw_wrs (hcs : CfSame cf) : ∀ {l : List (Nat × IOper)} {s s' : St} {ls : List (Nat × DLog)}, runDraw cf l s = some (s', ls) → ∃ wn, s'.wr = wn ++ s.wr ∧ ∀ x ∈ ls, ∀ p ∈ x.2.wr, p ∈ wn := by
  intro l
  induction l with
  | nil => intro s s' ls h; simp [runDraw] at h; obtain ⟨rfl, rfl⟩ := h; exact ⟨[], rfl, fun x hx => by cases hx⟩
  | cons o os ih =>
    intro s s' ls h
    obtain ⟨s1, li, ls1, h1, h2, rfl⟩ := runDraw_cons.1 h
    obtain ⟨wn, h3, h4⟩ := ih h2
    refine ⟨wn ++ li.wr, by rw [h3, (stepD_chg hcs h1).1, List.append_assoc], fun x hx p hp => ?_⟩
    rcases List.mem_cons.1 hx with rfl | hx
    · exact List.mem_append_right _ hp
    · exact List.mem_append_left _ (h4 x hx p hp)

theorem R.drawn {l : Roots} {σ : List IObj} (h : R g O l σ w) (k : Nat) : R g O l σ { w with drawn := k } :=
  ⟨h.len, h.vals, h.objs, h.nodup, h.sub, h.lt, h.claim, h.apart, h.spare, h.glob⟩
theorem Grow.drawn {g' : Gh} {O' : List Nat} {w' : World} {k : Nat} (h : Grow O g { w with drawn := k } O' g' w') : Grow O g w O' g' w' :=
  ⟨h.size, h.same, h.mono, h.pre, h.fresh, h.code, h.os, h.tape, h.output⟩

theorem draw_sim {ρ : Option Nat} {n id : Nat} {m : Shape} {ops : Array Oper} {l : List (Nat × IOper)} {pairs : List (Nat × Nat)} {Q : Exit → Act → World → Prop} {s' : St} {ls : List (Nat × DLog)} (hmx : P.follows .mixedOrders = true) (hcf : CallOK P C0 cf) (hcs : CfSame cf)
    (hok : drawOK P m ops l pairs = true) (hrun : runDraw cf l s = some (s', ls)) (hP : pairsOK pairs ls = true) (hst : Stand C0 m g O s a w) (haft : After C0 m g O s w .normal s' Q) :
    (Code.region id ops true).wpIn (WF ρ) n P Q a w := by
  obtain ⟨hreg, hds⟩ := reg_of hok
  have hlen : l.length = ops.size := by have := congrArg List.length hreg.idx; simpa using this
  refine wpIn_region_any hmx (any_sim hcf hcs hreg ops.size l _ g O s s' ls a _ (.refl _) (by simp) ?_ ?_ (by omega) ?_ hrun (pairsP_of hP) ?_ ?_)
  · intro k hk
    rw [hreg.idx]
    simp [hk]
  · intro k hk
    exfalso
    simp only [Array.getD_eq_getD_getElem?, Array.getElem?_replicate] at hk
    split at hk <;> simp at hk
  · exact hds
  · exact ⟨hst.rel.drawn _, hst.len, hst.defs, hst.size, hst.sh, hst.code⟩
  · intro g' O' t' a' w' q1 q2 ⟨wn, q3, q4⟩ q5 q6
    obtain ⟨wt, r1, r2⟩ := runDraw_wrs hcs hrun
    obtain ⟨wk, k1, k2⟩ := q5.keep
    have e : wk = wn := by
      have := k1.symm.trans q3
      exact List.append_cancel_right this
    subst e
    refine haft.1 _ g' O' a' w' rfl ⟨q5.grow.drawn, ⟨wt, r1, ?_⟩⟩ ⟨by rw [← q1, ← q2]; exact q6.rel, by rw [← q1]; exact q6.len, by rw [← q1]; exact q6.defs, q6.size, by rw [← q1]; exact q6.sh, q6.code⟩
    rw [← q2]
    refine ⟨k2.1, fun n hn hw ho => k2.2 n hn (fun p hp hp2 => ?_) ho⟩
    obtain ⟨x, hx, hpx⟩ := q4 p hp
    exact hw p (r2 x hx p hpx) hp2

end Go.Idl
