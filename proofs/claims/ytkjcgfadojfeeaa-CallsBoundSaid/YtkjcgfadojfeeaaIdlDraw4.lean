/-
  Regions whose order is open, part four: two steps change places.
-/
import Derived.Test.YtkjcgfadojfeeaaIdlDraw3
set_option linter.unusedSectionVars false
set_option linter.unusedVariables false
set_option linter.unusedSimpArgs false
namespace Go.Idl
variable [Globs]

def opdU : Opd → List Nat
  | .t i => [i]
  | .m i => [i]
  | .c _ => []
def opdM : Opd → List Nat
  | .m i => [i]
  | _ => []
def guardU : Option (Nat × Bool) → List Nat
  | some (t, _) => [t]
  | none => []
def usesOf (o : IOper) : List Nat := (opdsOf o.op).flatMap opdU ++ guardU o.guard
def movesOf (o : IOper) : List Nat := (opdsOf o.op).flatMap opdM

theorem opdM_sub {x : Opd} {i : Nat} (h : i ∈ opdM x) : i ∈ opdU x := by cases x <;> simp_all [opdM, opdU]
theorem movesOf_sub {o : IOper} {i : Nat} (h : i ∈ movesOf o) : i ∈ usesOf o := by
  simp only [movesOf, List.mem_flatMap] at h
  obtain ⟨x, hx, hi⟩ := h
  exact List.mem_append_left _ (List.mem_flatMap.2 ⟨x, hx, opdM_sub hi⟩)

theorem Ts.get?_set_ne {ts : Ts} {i k : Nat} {v : IVal} (h : ts.slot i ≠ ts.slot k) : (ts.set i v).get? k = ts.get? k := by
  have h2 : (ts.set i v).slot k = ts.slot k := rfl
  unfold Ts.get?
  rw [h2]
  simp only [Ts.set, Tm.get_ne _ _ _ _ h]
theorem Ts.set_comm {ts : Ts} {i k : Nat} {v u : IVal} (h : ts.slot i ≠ ts.slot k) : (ts.set i v).set k u = (ts.set k u).set i v := by
  have h1 : (ts.set i v).slot k = ts.slot k := rfl
  have h2 : (ts.set k u).slot i = ts.slot i := rfl
  simp only [Ts.set] at *
  rw [h1, h2, Tm.set_comm _ _ _ _ _ h]

def mv1 (ts : Ts) (i : Nat) : Ts := match ts.get? i with
  | some v => ts.set i (un3 v)
  | none => ts
def mvAll (ms : List Nat) (ts : Ts) : Ts := ms.foldl mv1 ts

theorem mv1_some {ts : Ts} {i : Nat} {v : IVal} (h : ts.get? i = some v) : mv1 ts i = ts.set i (un3 v) := by unfold mv1; rw [h]
theorem mv1_none {ts : Ts} {i : Nat} (h : ts.get? i = none) : mv1 ts i = ts := by unfold mv1; rw [h]
theorem mv1_sh (ts : Ts) (i : Nat) : SameSh ts (mv1 ts i) := by unfold mv1; split <;> exact ⟨rfl, rfl, rfl⟩
theorem SameSh.slot {ts ts' : Ts} (h : SameSh ts ts') (k : Nat) : ts'.slot k = ts.slot k := by simp only [Ts.slot, h.1, h.2.1]
theorem mvAll_sh (ms : List Nat) : ∀ (ts : Ts), SameSh ts (mvAll ms ts) := by
  induction ms with
  | nil => intro ts; exact .refl _
  | cons m ms ih => intro ts; exact (mv1_sh _ _).trans (ih _)
theorem mv1_ne {ts : Ts} {i k : Nat} (h : ts.slot i ≠ ts.slot k) : (mv1 ts i).get? k = ts.get? k := by
  unfold mv1; split
  · exact Ts.get?_set_ne h
  · rfl
theorem mv1_eq {ts : Ts} {i : Nat} : (mv1 ts i).get? i = (ts.get? i).map un3 := by
  cases hv : ts.get? i with
  | none => rw [mv1_none hv, hv]; rfl
  | some v => rw [mv1_some hv, Ts.get?_set hv]; rfl
theorem mvAll_ne {ms : List Nat} : ∀ {ts : Ts} {k : Nat}, (∀ m ∈ ms, ts.slot m ≠ ts.slot k) → (mvAll ms ts).get? k = ts.get? k := by
  induction ms with
  | nil => intro ts k _; rfl
  | cons m ms ih =>
    intro ts k h
    refine (ih (ts := mv1 ts m) fun m' hm => ?_).trans (mv1_ne (h m (by simp)))
    rw [(mv1_sh ts m).slot, (mv1_sh ts m).slot]; exact h m' (by simp [hm])

theorem mv1_set {ts : Ts} {i m : Nat} {v : IVal} (h : ts.slot i ≠ ts.slot m) : mv1 (ts.set i v) m = (mv1 ts m).set i v := by
  unfold mv1
  rw [Ts.get?_set_ne h]
  split
  · rw [Ts.set_comm h]
  · rfl
theorem mvAll_set {ms : List Nat} : ∀ {ts : Ts} {i : Nat} {v : IVal}, (∀ m ∈ ms, ts.slot i ≠ ts.slot m) → mvAll ms (ts.set i v) = (mvAll ms ts).set i v := by
  induction ms with
  | nil => intro ts i v _; rfl
  | cons m ms ih =>
    intro ts i v h
    simp only [mvAll, List.foldl_cons]
    rw [mv1_set (h m (by simp))]
    refine ih (ts := mv1 ts m) fun m' hm => ?_
    rw [(mv1_sh ts m).slot, (mv1_sh ts m).slot]; exact h m' (by simp [hm])
theorem mv1_mv1 {ts : Ts} {i m : Nat} (h : ts.slot i ≠ ts.slot m) : mv1 (mv1 ts i) m = mv1 (mv1 ts m) i := by
  have h1 : (mv1 ts m).get? i = ts.get? i := mv1_ne (Ne.symm h)
  cases hv : ts.get? i with
  | none =>
    rw [mv1_none hv, mv1_none (h1.trans hv)]
  | some v => rw [mv1_some hv, mv1_some (h1.trans hv), mv1_set h]
theorem mvAll_mv1 {ms : List Nat} : ∀ {ts : Ts} {i : Nat}, (∀ m ∈ ms, ts.slot i ≠ ts.slot m) → mvAll ms (mv1 ts i) = mv1 (mvAll ms ts) i := by
  induction ms with
  | nil => intro ts i _; rfl
  | cons m ms ih =>
    intro ts i h
    simp only [mvAll, List.foldl_cons]
    rw [mv1_mv1 (h m (by simp))]
    refine ih (ts := mv1 ts m) fun m' hm => ?_
    rw [(mv1_sh ts m).slot, (mv1_sh ts m).slot]; exact h m' (by simp [hm])
theorem mvAll_mvAll {ks : List Nat} : ∀ {ms : List Nat} {ts : Ts}, (∀ k ∈ ks, ∀ m ∈ ms, ts.slot k ≠ ts.slot m) → mvAll ms (mvAll ks ts) = mvAll ks (mvAll ms ts) := by
  induction ks with
  | nil => intro ms ts _; rfl
  | cons k ks ih =>
    intro ms ts h
    simp only [mvAll, List.foldl_cons]
    have h1 := ih (ms := ms) (ts := mv1 ts k) (fun k' hk m hm => by rw [(mv1_sh ts k).slot, (mv1_sh ts k).slot]; exact h k' (by simp [hk]) m hm)
    have h2 := mvAll_mv1 (ts := ts) (h k (by simp))
    simp only [mvAll] at h1 h2
    rw [h1, h2]

/-- They agree on these temporaries. -/
def Off (U : List Nat) (ts ts2 : Ts) : Prop := ∀ k ∈ U, ts.get? k = ts2.get? k
theorem Off.symm {U : List Nat} {ts ts2 : Ts} (h : Off U ts ts2) : Off U ts2 ts := fun k hk => (h k hk).symm
theorem Ts.get?_set_iff {ts : Ts} {i k : Nat} {v : IVal} (h : ts.get? i = some v) (y : IVal) (hk : k ≠ i) : (ts.set i y).get? k = ts.get? k := by
  by_cases hs : ts.slot i = ts.slot k
  · have h1 := Ts.get?_spec h
    have h2 : (ts.set i y).slot k = ts.slot k := rfl
    unfold Ts.get?
    rw [h2, ← hs, h1]
    simp only [Ts.set, Tm.get_set, get_has h1, cond_true]
    have : Nat.beq i k = false := by
      cases hb : Nat.beq i k with
      | false => rfl
      | true => exact absurd (Nat.eq_of_beq_eq_true hb).symm hk
    rw [this]; rfl
  · exact Ts.get?_set_ne hs
theorem Off.mv1 {U : List Nat} {ts ts2 : Ts} (h : Off U ts ts2) (i : Nat) (hi : i ∈ U) : Off U (mv1 ts i) (mv1 ts2 i) := by
  intro k hk
  by_cases e : k = i
  · subst e; rw [mv1_eq, mv1_eq, h k hi]
  · cases hv : ts.get? i with
    | none => rw [mv1_none hv, mv1_none ((h i hi).symm.trans hv)]; exact h k hk
    | some v =>
      have hv2 := (h i hi).symm.trans hv
      rw [mv1_some hv, mv1_some hv2, Ts.get?_set_iff hv _ e, Ts.get?_set_iff hv2 _ e]
      exact h k hk

theorem get_off {U : List Nat} {x : Opd} (hx : ∀ i ∈ opdU x, i ∈ U) {ts ts2 ts' : Ts} {v : IVal} (h : Off U ts ts2) (hg : x.get ts = some (v, ts')) :
    ts' = mvAll (opdM x) ts ∧ x.get ts2 = some (v, mvAll (opdM x) ts2) ∧ Off U ts' (mvAll (opdM x) ts2) := by
  cases x with
  | t i =>
    have hi := h i (hx i (by simp [opdU]))
    simp only [Opd.get, opdM, mvAll, List.foldl_nil] at hg ⊢
    rw [← hi]
    split at hg
    · simp only [Option.some.injEq, Prod.mk.injEq] at hg; obtain ⟨rfl, rfl⟩ := hg
      exact ⟨rfl, rfl, h⟩
    · cases hg
  | m i =>
    have hiU := hx i (by simp [opdU])
    have hi := h i hiU
    simp only [Opd.get, opdM, mvAll, List.foldl_cons, List.foldl_nil] at hg ⊢
    rw [← hi]
    split at hg
    · rename_i v0 hv
      simp only [Option.some.injEq, Prod.mk.injEq] at hg; obtain ⟨rfl, rfl⟩ := hg
      have e1 := mv1_some hv
      have e2 := mv1_some (hi.symm.trans hv)
      rw [e1, e2]
      refine ⟨rfl, rfl, ?_⟩
      rw [← e1, ← e2]
      exact h.mv1 i hiU
    · cases hg
  | c c =>
    simp only [Opd.get, Option.some.injEq, Prod.mk.injEq] at hg
    obtain ⟨rfl, rfl⟩ := hg
    exact ⟨rfl, rfl, h⟩

theorem getAll_off {U : List Nat} {xs : List Opd} : ∀ {ts ts2 ts' : Ts} {vs : List IVal}, (∀ i ∈ xs.flatMap opdU, i ∈ U) → Off U ts ts2 → getAll xs ts = some (vs, ts') →
    ts' = mvAll (xs.flatMap opdM) ts ∧ getAll xs ts2 = some (vs, mvAll (xs.flatMap opdM) ts2) := by
  induction xs with
  | nil =>
    intro ts ts2 ts' vs _ _ h
    rw [getAll_nil] at h
    obtain ⟨rfl, rfl⟩ := h
    exact ⟨rfl, rfl⟩
  | cons x xs ih =>
    intro ts ts2 ts' vs hU ho h
    rw [getAll_cons] at h
    obtain ⟨v, t1, ws, h1, h2, rfl⟩ := h
    obtain ⟨e1, e2, e3⟩ := get_off (fun i hi => hU i (by simp [hi])) ho h1
    obtain ⟨f1, f2⟩ := ih (fun i hi => hU i (by simp at hi ⊢; exact .inr hi)) e3 h2
    have happ : ∀ t, mvAll ((x :: xs).flatMap opdM) t = mvAll (xs.flatMap opdM) (mvAll (opdM x) t) := by
      intro t; simp [mvAll, List.foldl_append]
    refine ⟨by rw [happ, ← e1, f1], ?_⟩
    rw [getAll_cons]
    exact ⟨v, _, ws, e2, by rw [happ]; exact f2, rfl⟩

theorem wantedI_off {U : List Nat} {gd : Option (Nat × Bool)} (hU : ∀ i ∈ guardU gd, i ∈ U) {ts ts2 : Ts} (h : Off U ts ts2) : wantedI gd ts2 = wantedI gd ts := by
  cases gd with
  | none => rfl
  | some p => obtain ⟨t, b⟩ := p; simp only [wantedI]; rw [h t (hU t (by simp [guardU]))]

theorem rdOf_off {U : List Nat} {o : IOp} (hU : ∀ i ∈ (opdsOf o).flatMap opdU, i ∈ U) {s : St} {ts2 : Ts} {σ2 : List IObj} {wr2 : List (Nat × Bool)} (h : Off U s.ts ts2) {vs : List IVal} {ts' : Ts} (hg : getAll (opdsOf o) s.ts = some (vs, ts')) :
    rdOf o { ts := ts2, σ := σ2, wr := wr2 } = rdOf o s := by
  cases o <;> simp only [rdOf]
  case load mvf n x =>
    simp only [opdsOf, getAll_cons] at hg hU
    obtain ⟨v, t1, ws, h1, h2, rfl⟩ := hg
    obtain ⟨e1, e2, e3⟩ := get_off (fun i hi => hU i (by simp [hi])) h h1
    rw [h1, e2]; cases v <;> rfl
  case lookup kk z ok x k =>
    simp only [opdsOf, getAll_cons] at hg hU
    obtain ⟨v, t1, ws, h1, h2, rfl⟩ := hg
    obtain ⟨e1, e2, e3⟩ := get_off (fun i hi => hU i (by simp [hi])) h h1
    rw [h1, e2]; cases v <;> rfl
  case lenM x =>
    simp only [opdsOf, getAll_cons] at hg hU
    obtain ⟨v, t1, ws, h1, h2, rfl⟩ := hg
    obtain ⟨e1, e2, e3⟩ := get_off (fun i hi => hU i (by simp [hi])) h h1
    rw [h1, e2]; cases v <;> rfl

theorem noRs_off {U : List Nat} {o : IOp} (hU : ∀ i ∈ (opdsOf o).flatMap opdU, i ∈ U) {s : St} {ts2 : Ts} {σ2 : List IObj} {wr2 : List (Nat × Bool)} (h : Off U s.ts ts2) {vs : List IVal} {ts' : Ts} (hg : getAll (opdsOf o) s.ts = some (vs, ts')) :
    noRs o { ts := ts2, σ := σ2, wr := wr2 } = noRs o s := by
  cases o <;> simp only [noRs]
  case append br str esz bytes sv x =>
    simp only [opdsOf, getAll_cons] at hg hU
    obtain ⟨v, t1, ws, h1, ⟨v2, t2, ws2, h2, h3, rfl⟩, rfl⟩ := hg
    obtain ⟨e1, e2, e3⟩ := get_off (fun i hi => hU i (by simp [hi])) h h1
    obtain ⟨f1, f2, f3⟩ := get_off (fun i hi => hU i (by simp [hi])) e3 h2
    rw [h1, e2]; simp only [h2, f2]; cases v2 <;> rfl
  case conv c x =>
    simp only [opdsOf, getAll_cons] at hg hU
    obtain ⟨v, t1, ws, h1, h2, rfl⟩ := hg
    obtain ⟨e1, e2, e3⟩ := get_off (fun i hi => hU i (by simp [hi])) h h1
    rw [h1, e2]; cases v <;> rfl

end Go.Idl
