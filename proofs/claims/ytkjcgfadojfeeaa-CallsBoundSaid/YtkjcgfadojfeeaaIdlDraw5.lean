/-
  Regions whose order is open, part five: one step, in any order.
-/
import Derived.Test.YtkjcgfadojfeeaaIdlDraw4
set_option linter.unusedSectionVars false
set_option linter.unusedVariables false
set_option linter.unusedSimpArgs false
namespace Go.Idl
variable [Globs]

theorem Off.refl (U : List Nat) (ts : Ts) : Off U ts ts := fun _ _ => rfl

theorem stepD_len {cf : CallF} {o : IOper} {s s1 : St} {l : DLog} (h : stepD cf o s = some (s1, l)) : l.len ≤ s.σ.length := by
  simp only [stepD] at h
  repeat' split at h
  all_goals first | (cases h; done) | skip
  all_goals
    simp only [Option.some.injEq, Prod.mk.injEq] at h
    obtain ⟨-, rfl⟩ := h
    simp

theorem stepD_ts {cf : CallF} {o : IOper} (hd : drawable o.op = true) {s s1 : St} {l : DLog} (h : stepD cf o s = some (s1, l)) :
    ∃ v ms, (∀ m ∈ ms, m ∈ movesOf o) ∧ s1.ts = putT (mvAll ms s.ts) o.dst v ∧ s1.wr = l.wr ++ s.wr ∧
      ∀ ts2 wr2, Off (usesOf o) s.ts ts2 → stepD cf o ⟨ts2, s.σ, wr2⟩ = some (⟨putT (mvAll ms ts2) o.dst v, s1.σ, l.wr ++ wr2⟩, l) := by
  have hU1 : ∀ i ∈ (opdsOf o.op).flatMap opdU, i ∈ usesOf o := fun i hi => List.mem_append_left _ hi
  have hU2 : ∀ i ∈ guardU o.guard, i ∈ usesOf o := fun i hi => List.mem_append_right _ hi
  simp only [stepD] at h
  split at h
  · rename_i hw
    split at h
    · rename_i hn
      split at h
      · rename_i p hg
        obtain ⟨vs, t'⟩ := p
        split at h
        · rename_i v s' hs
          simp only [Option.some.injEq, Prod.mk.injEq] at h
          obtain ⟨rfl, rfl⟩ := h
          obtain ⟨e1, -⟩ := getAll_off hU1 (Off.refl _ s.ts) hg
          obtain ⟨d1, -⟩ := stepOp_dep hd (s := { s with wr := [] }) (ts2 := s.ts) hg hg hs
          refine ⟨v, movesOf o, fun m hm => hm, ?_, rfl, fun ts2 wr2 ho => ?_⟩
          · simp only at d1 ⊢; rw [d1, e1]; rfl
          · obtain ⟨-, e2⟩ := getAll_off hU1 ho hg
            obtain ⟨-, d2⟩ := stepOp_dep hd (s := { s with wr := [] }) (ts2 := ts2) hg e2 hs
            simp only [stepD, wantedI_off hU2 ho, hw, noRs_off hU1 ho hg, rdOf_off hU1 ho hg, hn, if_true, e2]
            simp only at d2
            rw [d2]
            rfl
        · cases h
      · cases h
    · cases h
  · rename_i hw
    simp only [Option.some.injEq, Prod.mk.injEq] at h
    obtain ⟨rfl, rfl⟩ := h
    refine ⟨undefI, [], fun m hm => (by cases hm), rfl, rfl, fun ts2 wr2 ho => ?_⟩
    simp only [stepD, wantedI_off hU2 ho, hw]
    rfl
  · cases h

theorem stepD_quiet {cf : CallF} {o : IOper} (hq : quiet o.op = true) {s s1 : St} {l : DLog} (h : stepD cf o s = some (s1, l)) :
    s1.σ = s.σ ∧ l.wr = [] ∧ ∀ σ2, (∀ id, l.rd = some id → σ2[id]? = s.σ[id]?) → stepD cf o { s with σ := σ2 } = some ({ s1 with σ := σ2 }, l) := by
  have hU1 : ∀ i ∈ (opdsOf o.op).flatMap opdU, i ∈ usesOf o := fun i hi => List.mem_append_left _ hi
  simp only [stepD] at h
  split at h
  · rename_i hw
    split at h
    · rename_i hn
      split at h
      · rename_i p hg
        obtain ⟨vs, t'⟩ := p
        split at h
        · rename_i v s' hs
          simp only [Option.some.injEq, Prod.mk.injEq] at h
          obtain ⟨rfl, rfl⟩ := h
          have hrd : ∀ σ2 wr2, rdOf o.op { ts := s.ts, σ := σ2, wr := wr2 } = rdOf o.op s := fun σ2 wr2 => rdOf_off hU1 (Off.refl _ s.ts) hg
          have hnr : ∀ σ2 wr2, noRs o.op { ts := s.ts, σ := σ2, wr := wr2 } = noRs o.op s := fun σ2 wr2 => noRs_off hU1 (Off.refl _ s.ts) hg
          obtain ⟨q1, q2, q3⟩ := quiet_step hq (s := { s with wr := [] }) ((hnr s.σ []).trans hn) hs
          simp only at q1 q2
          refine ⟨q1, q2, fun σ2 hσ => ?_⟩
          have q4 := q3 σ2 (fun id hid => hσ id (by rw [← hid]; exact (hrd s.σ []).symm))
          simp only at q4
          simp only [stepD, hw, hnr, hrd, hn, if_true, hg, q4, hq]
        · cases h
      · cases h
    · cases h
  · rename_i hw
    simp only [Option.some.injEq, Prod.mk.injEq] at h
    obtain ⟨rfl, rfl⟩ := h
    refine ⟨rfl, rfl, fun σ2 hσ => ?_⟩
    simp only [stepD, hw]
  · cases h

def mayRead : IOp → Bool
  | .load _ _ _ => true
  | .lookup _ _ _ _ _ => true
  | .lenM _ => true
  | _ => false

theorem stepD_rd {cf : CallF} {o : IOper} (hr : mayRead o.op = false) {s s1 : St} {l : DLog} (h : stepD cf o s = some (s1, l)) : l.rd = none := by
  have hrd : rdOf o.op s = none := by cases ho : o.op <;> simp [ho, mayRead] at hr <;> rfl
  simp only [stepD] at h
  repeat' split at h
  all_goals first | (cases h; done) | skip
  all_goals
    simp only [Option.some.injEq, Prod.mk.injEq] at h
    obtain ⟨-, rfl⟩ := h
    first | rfl | exact hrd

def dstOff (sl : Nat → Nat) (d : Option Nat) (U : List Nat) : Bool := match d with
  | some k => U.all fun u => !(Nat.beq (sl k) (sl u))
  | none => true
def dstNe (sl : Nat → Nat) (d e : Option Nat) : Bool := match d, e with
  | some a, some b => !(Nat.beq (sl a) (sl b))
  | _, _ => true

def indep (sl : Nat → Nat) (i j : IOper) : Bool :=
  (drawable i.op && drawable j.op) && ((quiet i.op || quiet j.op) && (dstNe sl i.dst j.dst && ((dstOff sl i.dst (usesOf j) && dstOff sl j.dst (usesOf i)) &&
    ((movesOf i).all (fun k => dstOff sl (some k) (usesOf j)) && (movesOf j).all (fun k => dstOff sl (some k) (usesOf i))))))

theorem nbeq_ne {a b : Nat} (h : (!(Nat.beq a b)) = true) : a ≠ b := by
  intro e; subst e; simp at h
theorem dstOff_ne {sl : Nat → Nat} {k u : Nat} {U : List Nat} (h : dstOff sl (some k) U = true) (hu : u ∈ U) : sl k ≠ sl u := nbeq_ne (List.all_eq_true.1 h u hu)
theorem dstNe_ne {sl : Nat → Nat} {a b : Nat} (h : dstNe sl (some a) (some b) = true) : sl a ≠ sl b := nbeq_ne h

theorem off_put {U : List Nat} {ts : Ts} {ms : List Nat} {d : Option Nat} {v : IVal} (h1 : dstOff ts.slot d U = true) (h2 : ∀ m ∈ ms, ∀ u ∈ U, ts.slot m ≠ ts.slot u) : Off U ts (putT (mvAll ms ts) d v) := by
  intro k hk
  have h3 : (mvAll ms ts).get? k = ts.get? k := mvAll_ne fun m hm => h2 m hm k hk
  cases d with
  | none => exact h3.symm
  | some d =>
    have : (mvAll ms ts).slot d ≠ (mvAll ms ts).slot k := by
      rw [(mvAll_sh ms ts).slot, (mvAll_sh ms ts).slot]; exact dstOff_ne h1 hk
    simp only [putT]
    rw [Ts.get?_set_ne this, h3]

theorem put_comm {ts : Ts} {mi mj : List Nat} {di dj : Option Nat} {vi vj : IVal} (h0 : dstNe ts.slot di dj = true) (h1 : ∀ k, di = some k → ∀ m ∈ mj, ts.slot k ≠ ts.slot m) (h2 : ∀ k, dj = some k → ∀ m ∈ mi, ts.slot k ≠ ts.slot m)
    (h3 : ∀ k ∈ mi, ∀ m ∈ mj, ts.slot k ≠ ts.slot m) :
    putT (mvAll mi (putT (mvAll mj ts) dj vj)) di vi = putT (mvAll mj (putT (mvAll mi ts) di vi)) dj vj := by
  have e1 : mvAll mi (putT (mvAll mj ts) dj vj) = putT (mvAll mi (mvAll mj ts)) dj vj := by
    cases dj with
    | none => rfl
    | some k => exact mvAll_set fun m hm => by rw [(mvAll_sh mj ts).slot, (mvAll_sh mj ts).slot]; exact h2 k rfl m hm
  have e2 : mvAll mj (putT (mvAll mi ts) di vi) = putT (mvAll mj (mvAll mi ts)) di vi := by
    cases di with
    | none => rfl
    | some k => exact mvAll_set fun m hm => by rw [(mvAll_sh mi ts).slot, (mvAll_sh mi ts).slot]; exact h1 k rfl m hm
  rw [e1, e2, mvAll_mvAll h3]
  cases di with
  | none => rfl
  | some a => cases dj with
    | none => rfl
    | some b =>
      simp only [putT]
      refine Ts.set_comm ?_
      rw [(mvAll_sh mi _).slot, (mvAll_sh mi _).slot, (mvAll_sh mj _).slot, (mvAll_sh mj _).slot]
      exact Ne.symm (dstNe_ne h0)

theorem okPair_spec {x y : DLog} {σ σ' : List IObj} (h : okPair x y = true) (hl : y.len ≤ σ.length) (hs : Same σ σ' y.wr) : ∀ id, x.rd = some id → σ'[id]? = σ[id]? := by
  intro id hid
  unfold okPair at h
  rw [hid] at h
  simp only [Bool.and_eq_true, decide_eq_true_eq, List.all_eq_true] at h
  refine hs id (by omega) fun p hp e => ?_
  have := h.2 p hp
  simp [e] at this

theorem stepD_sh {cf : CallF} {o : IOper} (hd : drawable o.op = true) {s s1 : St} {l : DLog} (h : stepD cf o s = some (s1, l)) : SameSh s.ts s1.ts := by
  obtain ⟨v, ms, -, e, -⟩ := stepD_ts hd h
  rw [e]
  exact (mvAll_sh _ _).trans .put

theorem stepD_swap {cf : CallF} (hcf : CfSame cf) {i j : IOper} {s s1 s2 : St} (hi : indep s.ts.slot i j = true) {li lj : DLog} (h1 : stepD cf i s = some (s1, li)) (h2 : stepD cf j s1 = some (s2, lj))
    (hp1 : quiet i.op = true → quiet j.op = false → okPair li lj = true) (hp2 : quiet j.op = true → quiet i.op = false → okPair lj li = true) :
    ∃ t1 t2, stepD cf j s = some (t1, lj) ∧ stepD cf i t1 = some (t2, li) ∧ t2.ts = s2.ts ∧ t2.σ = s2.σ := by
  simp only [indep, Bool.and_eq_true, List.all_eq_true] at hi
  obtain ⟨⟨di, dj⟩, hq, hne, ⟨hdi, hdj⟩, hmi, hmj⟩ := hi
  obtain ⟨vi, mi, ki, ei, wi, Ti⟩ := stepD_ts di h1
  obtain ⟨vj, mj, kj, ej, wj, Tj⟩ := stepD_ts dj h2
  have hmi' : ∀ m ∈ mi, ∀ u ∈ usesOf j, s.ts.slot m ≠ s.ts.slot u := fun m hm u hu => dstOff_ne (hmi m (ki m hm)) hu
  have hmj' : ∀ m ∈ mj, ∀ u ∈ usesOf i, s.ts.slot m ≠ s.ts.slot u := fun m hm u hu => dstOff_ne (hmj m (kj m hm)) hu
  have offj : Off (usesOf j) s1.ts s.ts := by rw [ei]; exact (off_put hdi hmi').symm
  have offi : Off (usesOf i) s.ts (putT (mvAll mj s.ts) j.dst vj) := off_put hdj hmj'
  have hts : putT (mvAll mi (putT (mvAll mj s.ts) j.dst vj)) i.dst vi = s2.ts := by
    rw [ej, ei]
    refine put_comm hne (fun k hk m hm => ?_) (fun k hk m hm => ?_) (fun k hk m hm => hmi' k hk m (movesOf_sub (kj m hm)))
    · rw [hk] at hdi; exact dstOff_ne hdi (movesOf_sub (kj m hm))
    · rw [hk] at hdj; exact dstOff_ne hdj (movesOf_sub (ki m hm))
  have hj := Tj s.ts s.wr offj
  by_cases qi : quiet i.op = true
  · obtain ⟨a1, a2, a3⟩ := stepD_quiet qi h1
    rw [a1] at hj
    have hi2 := Ti _ (lj.wr ++ s.wr) offi
    have hrd : ∀ id, li.rd = some id → s2.σ[id]? = s.σ[id]? := by
      by_cases qj : quiet j.op = true
      · intro id _; rw [(stepD_quiet qj h2).1, a1]
      · have := okPair_spec (σ := s1.σ) (σ' := s2.σ) (hp1 qi (by simpa using qj)) (stepD_len h2) (stepD_chg hcf h2).2
        intro id hid; rw [this id hid, a1]
    obtain ⟨-, -, b3⟩ := stepD_quiet qi hi2
    have hi3 := b3 s2.σ hrd
    exact ⟨_, _, hj, hi3, hts, rfl⟩
  · have qj : quiet j.op = true := by simpa [qi] using hq
    obtain ⟨a1, a2, a3⟩ := stepD_quiet qj hj
    have hrd := okPair_spec (σ := s.σ) (σ' := s1.σ) (hp2 qj (by simpa using qi)) (stepD_len h1) (stepD_chg hcf h1).2
    have hj2 := a3 s.σ (fun id hid => (hrd id hid).symm)
    have hi2 := Ti _ (lj.wr ++ s.wr) offi
    refine ⟨_, _, hj2, hi2, hts, ?_⟩
    exact ((stepD_quiet qj h2).1).symm

theorem stepD_wr {cf : CallF} {o : IOper} {s s1 t : St} {l : DLog} (h : stepD cf o s = some (s1, l)) (h1 : t.ts = s.ts) (h2 : t.σ = s.σ) : ∃ t1, stepD cf o t = some (t1, l) ∧ t1.ts = s1.ts ∧ t1.σ = s1.σ := by
  have hrd : rdOf o.op t = rdOf o.op s := by cases ho : o.op <;> simp [rdOf, h1]
  have hnr : noRs o.op t = noRs o.op s := by cases ho : o.op <;> simp [noRs, h1]
  have hst : ({ t with wr := [] } : St) = { s with wr := [] } := by cases t; cases s; simp_all
  have hd : stepD cf o t = match stepD cf o s with
      | some (s1, l) => some ({ s1 with wr := l.wr ++ t.wr }, l)
      | none => none := by
    simp only [stepD, hrd, hnr, hst, h1, h2]
    rcases wantedI o.guard s.ts with _ | _ | _
    · rfl
    · rfl
    ·
      cases noRs o.op s with
      | false => rfl
      | true =>
        cases getAll (opdsOf o.op) s.ts with
        | none => rfl
        | some p =>
          simp only [if_true]
          cases stepOp cf o.op { s with wr := [] } with
          | none => rfl
          | some r =>
            obtain ⟨pan, v, s'⟩ := r
            cases pan <;> rfl
  rw [h] at hd
  exact ⟨_, hd, rfl, rfl⟩

theorem runDraw_wr {cf : CallF} : ∀ {l : List (Nat × IOper)} {s s' t : St} {ls : List (Nat × DLog)}, runDraw cf l s = some (s', ls) → t.ts = s.ts → t.σ = s.σ → ∃ t', runDraw cf l t = some (t', ls) ∧ t'.ts = s'.ts ∧ t'.σ = s'.σ := by
  intro l
  induction l with
  | nil => intro s s' t ls h h1 h2; simp [runDraw] at h; obtain ⟨rfl, rfl⟩ := h; exact ⟨t, rfl, h1, h2⟩
  | cons o os ih =>
    intro s s' t ls h h1 h2
    simp only [runDraw] at h
    split at h
    · rename_i s1 lg e1
      split at h
      · rename_i s2 ls2 e2
        simp only [Option.some.injEq, Prod.mk.injEq] at h
        obtain ⟨rfl, rfl⟩ := h
        obtain ⟨t1, f1, f2, f3⟩ := stepD_wr e1 h1 h2
        obtain ⟨t2, g1, g2, g3⟩ := ih e2 f2 f3
        exact ⟨t2, by simp [runDraw, f1, g1], g2, g3⟩
      · cases h
    · cases h

theorem runDraw_cons {cf : CallF} {o : Nat × IOper} {os : List (Nat × IOper)} {s s' : St} {ls : List (Nat × DLog)} : runDraw cf (o :: os) s = some (s', ls) ↔ ∃ s1 l ls1, stepD cf o.2 s = some (s1, l) ∧ runDraw cf os s1 = some (s', ls1) ∧ ls = (o.1, l) :: ls1 := by
  constructor
  · intro h
    simp only [runDraw] at h
    split at h
    · rename_i s1 lg e1
      split at h
      · rename_i s2 ls2 e2
        simp only [Option.some.injEq, Prod.mk.injEq] at h
        obtain ⟨rfl, rfl⟩ := h
        exact ⟨s1, lg, ls2, e1, e2, rfl⟩
      · cases h
    · cases h
  · rintro ⟨s1, l, ls1, h1, h2, rfl⟩
    simp [runDraw, h1, h2]

def PairsP (pairs : List (Nat × Nat)) (ls : List (Nat × DLog)) : Prop := ∀ x ∈ ls, ∀ y ∈ ls, (x.1, y.1) ∈ pairs → okPair x.2 y.2 = true

theorem pairsP_of {pairs : List (Nat × Nat)} {ls : List (Nat × DLog)} (h : pairsOK pairs ls = true) : PairsP pairs ls := by
  intro x hx y hy hp
  simp only [pairsOK, List.all_eq_true] at h
  have h1 := h _ hp x hx
  simp only [bne_self_eq_false, Bool.false_or, List.all_eq_true] at h1
  have h2 := h1 y hy
  simpa using h2

/-- Whether two operations may change places. -/
def freePair (sl : Nat → Nat) (pairs : List (Nat × Nat)) (p q : Nat × IOper) : Bool :=
  indep sl p.2 q.2 && ((!(quiet p.2.op && mayRead p.2.op) || (quiet q.2.op || pairs.contains (p.1, q.1))) && (!(quiet q.2.op && mayRead q.2.op) || (quiet p.2.op || pairs.contains (q.1, p.1))))

theorem freePair_dyn {cf : CallF} {pairs : List (Nat × Nat)} {sl : Nat → Nat} {p q : Nat × IOper} (h : freePair sl pairs p q = true) {s1 s2 t1 t2 : St} {lp lq : DLog} (hp : stepD cf p.2 s1 = some (t1, lp)) (hq : stepD cf q.2 s2 = some (t2, lq))
    {ls : List (Nat × DLog)} (hP : PairsP pairs ls) (mp : (p.1, lp) ∈ ls) (mq : (q.1, lq) ∈ ls) :
    (quiet p.2.op = true → quiet q.2.op = false → okPair lp lq = true) ∧ (quiet q.2.op = true → quiet p.2.op = false → okPair lq lp = true) := by
  simp only [freePair, Bool.and_eq_true] at h
  obtain ⟨-, h1, h2⟩ := h
  constructor
  · intro a b
    by_cases hr : mayRead p.2.op = true
    · simp [a, b, hr] at h1; exact hP _ mp _ mq h1
    · have := stepD_rd (by simpa using hr) hp; simp [okPair, this]
  · intro a b
    by_cases hr : mayRead q.2.op = true
    · simp [a, b, hr] at h2; exact hP _ mq _ mp h2
    · have := stepD_rd (by simpa using hr) hq; simp [okPair, this]

/-- An operation is taken ahead of those that may change places with it. -/
theorem runDraw_front {cf : CallF} (hcf : CfSame cf) {pairs : List (Nat × Nat)} {i : Nat × IOper} {post : List (Nat × IOper)} : ∀ {pre : List (Nat × IOper)} {s s' : St} {ls : List (Nat × DLog)}, (∀ p ∈ pre, freePair s.ts.slot pairs p i = true) → PairsP pairs ls →
    runDraw cf (pre ++ i :: post) s = some (s', ls) → ∃ s'' ls', runDraw cf (i :: (pre ++ post)) s = some (s'', ls') ∧ s''.ts = s'.ts ∧ s''.σ = s'.σ ∧ ls'.Perm ls := by
  intro pre
  induction pre with
  | nil => intro s s' ls _ _ h; exact ⟨s', ls, h, rfl, rfl, .refl _⟩
  | cons p pre ih =>
    intro s s' ls hf hP h
    simp only [List.cons_append] at h
    obtain ⟨s1, lp, ls1, e1, e2, rfl⟩ := runDraw_cons.1 h
    have hP1 : PairsP pairs ls1 := fun x hx y hy => hP x (by simp [hx]) y (by simp [hy])
    have hfp := hf p (by simp)
    have hdp : drawable p.2.op = true := by
      simp only [freePair, indep, Bool.and_eq_true] at hfp
      exact hfp.1.1.1
    have hsl : s1.ts.slot = s.ts.slot := funext fun k => (stepD_sh hdp e1).slot k
    obtain ⟨s2, ls2, f1, f2, f3, f4⟩ := ih (fun q hq => by rw [hsl]; exact hf q (by simp [hq])) hP1 e2
    obtain ⟨s3, li, ls3, g1, g2, rfl⟩ := runDraw_cons.1 f1
    have mi : (i.1, li) ∈ (p.1, lp) :: ls1 := List.mem_cons_of_mem _ (f4.subset (by simp))
    obtain ⟨d1, d2⟩ := freePair_dyn (hf p (by simp)) e1 g1 hP (by simp) mi
    have hind : indep s.ts.slot p.2 i.2 = true := by
      have := hf p (by simp)
      simp only [freePair, Bool.and_eq_true] at this
      exact this.1
    obtain ⟨t1, t2, k1, k2, k3, k4⟩ := stepD_swap hcf hind e1 g1 d1 d2
    obtain ⟨t3, m1, m2, m3⟩ := runDraw_wr (t := t2) g2 k3 k4
    refine ⟨t3, (i.1, li) :: (p.1, lp) :: ls3, ?_, m2.trans f2, m3.trans f3, ?_⟩
    · refine runDraw_cons.2 ⟨t1, li, (p.1, lp) :: ls3, k1, ?_, rfl⟩
      exact runDraw_cons.2 ⟨t2, lp, ls3, k2, m1, rfl⟩
    · exact (List.Perm.swap _ _ _).trans (f4.cons _)

end Go.Idl
