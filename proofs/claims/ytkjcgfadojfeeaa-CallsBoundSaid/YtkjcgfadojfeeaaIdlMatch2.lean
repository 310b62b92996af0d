/-
  Each operation that is the model's is met.
-/
import Derived.Test.YtkjcgfadojfeeaaIdlMatch
set_option linter.unusedSectionVars false
set_option linter.unusedVariables false
set_option linter.unusedSimpArgs false
namespace Go.Idl
variable [Globs]

variable {P : Program} {o : Oper} {a : Act} {g : Gh} {O : List Nat} {w : World} {s : St} {res : Res} {cf : CallF}

theorem toList_one {α : Type} {xs : Array α} {r : α} (h : xs.toList = [r]) : xs = #[r] := Array.toList_inj.1 (by simpa using h)
theorem toList_two {α : Type} {xs : Array α} {r q : α} (h : xs.toList = [r, q]) : xs = #[r, q] := Array.toList_inj.1 (by simpa using h)

theorem sizeIs_spec {T : TypeId} {n : Nat} (h : sizeIs P T n = true) : ∃ i, P.info? T = some i ∧ i.size = n := by
  unfold sizeIs at h
  split at h
  · exact ⟨_, by assumption, by simpa using h⟩
  · cases h

theorem callOK_res {c : Call} {io : IOp} {C0 : CRel} (hcf : CallOK P C0 cf) (hC : g.C = C0) (hop : o.op = .call c) (h : callOK P c io = true) (hs : stepOp cf io s = some res)
    (hl : WT s.ts a.tmps) (hR : R g O (s.ts.roots a.tmps) s.σ w) : OpRes P o a g O w s res := by
  have hd : ∀ c', o.op ≠ .defer c' := fun c' h => by rw [hop] at h; cases h
  unfold callOK at h
  split at h
  · simp only [Bool.and_eq_true] at h
    obtain ⟨h1, h2⟩ := h
    split at h1
    · rename_i hc
      simp only [Bool.and_eq_true, List.all_eq_true] at h1
      exact opRes_inv hcf hC hop hc h1.1 h2 h1.2 hs hl hR
    · cases h1
  · split at h
    · rename_i h1 h2
      simp only [Bool.and_eq_true] at h
      exact .of_val (sim_vOf hop h1 (toList_one h2) h.1 h.2 hs hl hR) hd
    · cases h
  · split at h
    · rename_i h1 h2
      simp only [Bool.and_eq_true] at h
      exact .of_val (sim_vSet hop h1 (toList_two h2) h.1 h.2.1 h.2.2 hs hl hR) hd
    · cases h
  · simp only [Bool.and_eq_true] at h
    obtain ⟨h1, h2⟩ := h
    split at h1
    · rename_i hc
      have := eq_of_beq h1
      subst this
      exact opRes_callStatic hcf hC hop hc h2 hs hl hR
    · cases h1
  · simp only [Bool.and_eq_true] at h
    obtain ⟨h1, h2⟩ := h
    split at h1
    · rename_i hc
      have := eq_of_beq h1
      subst this
      exact opRes_callp hcf hC hop hc h2 hs hl hR
    · cases h1
  · simp only [Bool.and_eq_true] at h
    obtain ⟨h1, h2⟩ := h
    split at h1
    · rename_i hc
      exact opRes_callv hcf hC hop hc h1 h2 hs hl hR
    · cases h1
  · split at h
    · rename_i h1 h2 h3
      simp only [Bool.and_eq_true] at h
      obtain ⟨h4, h5⟩ := h
      split at h5
      · rename_i hT; exact .of_val (sim_lenS hop h1 (toList_one h2) h3 h4 hT hs hl hR) hd
      · cases h5
    · cases h
  · split at h
    · rename_i h1 h2 h3
      simp only [Bool.and_eq_true] at h
      obtain ⟨h4, h5⟩ := h
      split at h5
      · rename_i hT; exact .of_val (sim_lenL hop h1 (toList_one h2) h3 h4 hT hs hl hR) hd
      · cases h5
    · cases h
  · split at h
    · rename_i h1 h2 h3
      simp only [Bool.and_eq_true] at h
      obtain ⟨h4, h5⟩ := h
      split at h5
      · rename_i hT; exact .of_val (sim_lenM hop h1 (toList_one h2) h3 h4 hT hs hl hR) hd
      · cases h5
    · cases h
  · split at h
    · rename_i h1 h2
      simp only [Bool.and_eq_true] at h
      obtain ⟨⟨h3, h4⟩, h5⟩ := h
      have := eq_of_beq h3
      subst this
      exact .of_val (sim_minmax hop h1 (toList_two h2) h4 h5 hs hl hR) hd
    · cases h
  · split at h
    · rename_i h1 h2 h3
      simp only [Bool.and_eq_true] at h
      obtain ⟨⟨h4, h5⟩, h6⟩ := h
      split at h6
      · rename_i he hu
        obtain ⟨e1, e2⟩ := elemInfo_spec he
        simp only [Bool.and_eq_true, Bool.not_eq_true'] at h6
        obtain ⟨⟨⟨h7, h8⟩, h9⟩, h10⟩ := h6
        have q1 := eq_of_beq h8
        have q2 := eq_of_beq h9
        subst q1 q2
        split at h10
        · rename_i hz
          obtain ⟨z1, z2⟩ := infoZ_spec hz
          rw [e2] at z1; cases z1
          refine .of_val (sim_append hop h1 (toList_two h2) (toList_two h3) h4 h5 e1 hu (fun k hk => ?_) e2 z2 (by simpa using h10) hs hl hR) hd
          subst hk; simp [isInt] at h7
        · cases h10
      · cases h6
    · cases h
  · cases h

theorem parts_range : ∀ (l : List (Nat × Operand)) (k : Nat), l.map (·.1) = List.range' k l.length → l = ((l.map (·.2)).zipIdx k).map fun p => (p.2, p.1) := by
  intro l
  induction l with
  | nil => intro k _; rfl
  | cons p l ih =>
    intro k h
    simp only [List.map_cons, List.length_cons, List.range'_succ, List.cons.injEq] at h
    simp only [List.map_cons, List.zipIdx_cons]
    rw [← ih (k + 1) h.2, ← h.1]

theorem nilSide_spec {ra rb r : Operand} (h : nilSide ra rb = some r) : (ra = r ∧ rb = .const (.slice none 0 0)) ∨ (rb = r ∧ ra = .const (.slice none 0 0)) := by
  unfold nilSide at h
  split at h
  · simp at h; exact .inl ⟨h, rfl⟩
  · simp at h; exact .inr ⟨h, rfl⟩
  · cases h

theorem hasAll_spec {want : Array (String × TypeId)} {t : TypeId} {b : Bool} (h : hasAll P want t b = true) : ∃ i, P.info? t = some i ∧ ((lacking want i.methods).isEmpty = b) := by
  unfold hasAll at h
  split at h
  · exact ⟨_, by assumption, by simpa using h⟩
  · cases h

theorem pur_res {k : PurK} {xs : List Opd} (h : purOK P o.op k xs = true) (hs : stepOp cf (.pur k xs) s = some res) (hl : WT s.ts a.tmps) (hR : R g O (s.ts.roots a.tmps) s.σ w) : OpRes P o a g O w s res := by
  unfold purOK at h
  split at h
  · rename_i hop
    simp only [Bool.and_eq_true] at h
    obtain ⟨h1, h2⟩ := h
    split at h1
    · rename_i hc; exact .of_val (sim_pur h2 (pur_ext hop hc h1) hs hl hR) (fun c h => by rw [hop] at h; cases h)
    · cases h1
  · rename_i hop
    split at h
    · rename_i hc
      simp only [Bool.and_eq_true, List.all_eq_true] at h
      obtain ⟨h1, h2⟩ := h
      refine .of_val (sim_pur h2 (pur_invX hop hc fun p hp => ?_) hs hl hR) (fun c h => by rw [hop] at h; cases h)
      have := h1 p hp
      split at this
      · rename_i f _
        simp only [Bool.and_eq_true] at this
        exact ⟨f, this⟩
      · cases this
    · cases h
  · rename_i hop
    simp only [Bool.and_eq_true, Bool.not_eq_true'] at h
    obtain ⟨h1, h2, h3, h4, h5⟩ := h
    rw [eq_of_beq h1] at hop
    exact .of_val (sim_pur h5 (pur_eqa hop (eq_of_beq h2) h3 h4) hs hl hR) (fun c h => by rw [hop] at h; cases h)
  · rename_i hop
    simp only [Bool.and_eq_true] at h
    obtain ⟨h1, h2, h3⟩ := h
    rw [eq_of_beq h1] at hop
    split at h2
    · rename_i hT
      split at h3
      · rename_i hn; exact .of_val (sim_pur h3 (pur_isnilS hop hT (nilSide_spec hn)) hs hl hR) (fun c h => by rw [hop] at h; cases h)
      · cases h3
    · cases h2
  · rename_i hop
    simp only [Bool.and_eq_true, List.all_eq_true] at h
    obtain ⟨h1, h2, h3, h4⟩ := h
    rw [eq_of_beq h1] at hop
    split at h2
    · rename_i hT
      refine .of_val (sim_pur h4 (pur_eqi hop hT fun p hp => ?_) hs hl hR) (fun c h => by rw [hop] at h; cases h)
      have := h3 p hp
      split at this
      · rename_i i d hi hd
        simp only [Bool.and_eq_true] at this
        exact ⟨i, d, hi, this.1, hd, this.2⟩
      · cases this
    · cases h2
  · rename_i hop
    simp only [Bool.and_eq_true] at h
    obtain ⟨h1, h2, h3⟩ := h
    split at h1
    · rename_i hS
      split at h1
      · rename_i he
        split at h2
        · rename_i hT; exact .of_val (sim_pur h3 (pur_text hop hS he hT) hs hl hR) (fun c h => by rw [hop] at h; cases h)
        · cases h2
      · cases h1
    · cases h1
  · rename_i hop
    simp only [Bool.and_eq_true] at h
    obtain ⟨h1, h2, h3⟩ := h
    split at h2
    · rename_i hT; exact .of_val (sim_pur h3 (pur_rune hop h1 hT) hs hl hR) (fun c h => by rw [hop] at h; cases h)
    · cases h2
  · rename_i hop
    simp only [Bool.and_eq_true] at h
    obtain ⟨h1, h2, h3, h4, h5⟩ := h
    have e1 := eq_of_beq h1
    have e2 := eq_of_beq h2
    subst e1 e2
    split at h4
    · rename_i hz
      obtain ⟨z1, z2⟩ := infoZ_spec hz
      split at h3
      · cases h3
      · rename_i d hne hA; exact .of_val (sim_pur h5 (pur_tyC hop hA (fun ms e => hne ms (by rw [e])) z1 z2 h4) hs hl hR) (fun c h => by rw [hop] at h; cases h)
      · cases h3
    · cases h4
  · rename_i hop
    simp only [Bool.and_eq_true] at h
    obtain ⟨h2, h3, h4, h5⟩ := h
    have e2 := eq_of_beq h2
    subst e2
    split at h4
    · rename_i hz
      obtain ⟨z1, z2⟩ := infoZ_spec hz
      split at h3
      · rename_i want hA
        simp only [Bool.and_eq_true, List.all_eq_true] at h3
        refine .of_val (sim_pur h5 (pur_tyI hop hA z1 z2 (fun t ht => ?_) (fun t ht => ?_)) hs hl hR) (fun c h => by rw [hop] at h; cases h)
        · obtain ⟨i, hi, hb⟩ := hasAll_spec (h3.1 t ht); exact ⟨i, hi, List.isEmpty_iff.1 hb⟩
        · obtain ⟨i, hi, hb⟩ := hasAll_spec (h3.2 t ht); exact ⟨i, hi, fun e => by rw [e] at hb; cases hb⟩
      · cases h3
    · cases h4
  · cases h

theorem op_res {io : IOp} {C0 : CRel} (hcf : CallOK P C0 cf) (hC : g.C = C0) (h : opOK P o.op io = true) (hs : stepOp cf io s = some res) (hl : WT s.ts a.tmps) (hR : R g O (s.ts.roots a.tmps) s.σ w) : OpRes P o a g O w s res := by
  unfold opOK at h
  split at h
  · exact pur_res h hs hl hR
  · rename_i hop; exact .of_val (sim_mv (.inl hop) h hs hl hR) (fun c h => by rw [hop] at h; cases h)
  · rename_i hop; exact .of_val (sim_mv (.inr hop) h hs hl hR) (fun c h => by rw [hop] at h; cases h)
  · rename_i hop
    simp only [Bool.and_eq_true] at h
    exact .of_val (sim_pick hop h.1.1 h.1.2 h.2 hs hl hR) (fun c h => by rw [hop] at h; cases h)
  · rename_i hop
    split at h
    · rename_i hz
      obtain ⟨z1, z2⟩ := infoZ_spec hz
      exact .of_val (sim_alloc hop z1 z2 h hs hl hR) (fun c h => by rw [hop] at h; cases h)
    · cases h
  · rename_i hop; exact .of_val (sim_box hop h hs hl hR) (fun c h => by rw [hop] at h; cases h)
  · rename_i hop; exact .of_val (sim_boxv hop h hs hl hR) (fun c h => by rw [hop] at h; cases h)
  · rename_i hop
    split at h
    · rename_i zc place hb
      simp only [Bool.and_eq_true] at h
      exact .of_val (sim_build (z := .agg zc) hop h.1 (fun ps cells hf => buildInfo_spec hb w ps cells hf) h.2 hs hl hR) (fun c h => by rw [hop] at h; cases h)
    · cases h
  · rename_i hop
    split at h
    · rename_i he
      obtain ⟨e1, e2⟩ := elemInfo_spec he
      simp only [Bool.and_eq_true] at h
      obtain ⟨⟨⟨⟨⟨h1, h2⟩, h3⟩, h4⟩, h5⟩, h6⟩ := h
      have q1 := eq_of_beq h1
      subst q1
      split at h6
      · rename_i hz
        obtain ⟨z1, z2⟩ := infoZ_spec hz
        rw [e2] at z1; cases z1
        refine .of_val (sim_buildSl hop (by rw [eq_of_beq h3]; simp) ?_ h5 e1 e2 z2 (by simpa using h6) (by simpa using h2) hs hl hR) (fun c h => by rw [hop] at h; cases h)
        have h4' := eq_of_beq h4
        refine parts_range _ 0 ?_
        rw [h4', List.range_eq_range']; simp
      · cases h6
    · cases h
  · rename_i hop
    split at h
    · rename_i he
      obtain ⟨e1, e2⟩ := elemInfo_spec he
      simp only [Bool.and_eq_true] at h
      obtain ⟨⟨⟨⟨⟨h1, h2⟩, h3⟩, h4⟩, h5⟩, h6⟩ := h
      have q1 := eq_of_beq h1
      subst q1
      split at h6
      · rename_i hz
        obtain ⟨z1, z2⟩ := infoZ_spec hz
        rw [e2] at z1; cases z1
        refine .of_val (sim_buildRs hop (by rw [eq_of_beq h3]; simp) ?_ h5 e1 e2 z2 (by simpa using h6) (by simpa using h2) hs hl hR) (fun c h => by rw [hop] at h; cases h)
        have h4' := eq_of_beq h4
        refine parts_range _ 0 ?_
        rw [h4', List.range_eq_range']; simp
      · cases h6
    · cases h
  · rename_i hop
    simp only [Bool.and_eq_true] at h
    exact .of_val (sim_load hop h.1 h.2 hs hl hR) (fun c h => by rw [hop] at h; cases h)
  · rename_i hop
    simp only [Bool.and_eq_true] at h
    obtain ⟨i, i1, i2⟩ := sizeIs_spec h.2
    exact .of_val (sim_store hop h.1.1 h.1.2 i1 i2 hs hl hR) (fun c h => by rw [hop] at h; cases h)
  · rename_i hop; exact .of_val (sim_nilCheck hop h hs hl hR) (fun c h => by rw [hop] at h; cases h)
  · rename_i hop
    simp only [Bool.and_eq_true] at h
    have q1 := eq_of_beq h.1.1
    subst q1
    exact .of_val (sim_bin hop h.1.2 h.2 hs hl hR) (fun c h => by rw [hop] at h; cases h)
  · rename_i hop
    simp only [Bool.and_eq_true] at h
    obtain ⟨⟨⟨h1, h2⟩, h3⟩, h4⟩ := h
    have q1 := eq_of_beq h1
    subst q1
    split at h4
    · rename_i hT; exact .of_val (sim_eqb hop h2 h3 hT hs hl hR) (fun c h => by rw [hop] at h; cases h)
    · cases h4
  · rename_i hop
    simp only [Bool.and_eq_true, Bool.or_eq_true] at h
    obtain ⟨⟨h1, h2⟩, h3⟩ := h
    have q1 := eq_of_beq h1
    subst q1
    unfold nilOK at h2
    split at h2
    · rename_i d hT
      simp only [Bool.and_eq_true, decide_eq_true_eq] at h2
      rcases h3 with ⟨h3, h4⟩ | ⟨h3, h4⟩
      · exact .of_val (sim_isnil hop (.inl ⟨rfl, isNilConst_spec h3⟩) h4 hT h2.1 hs hl hR) (fun c h => by rw [hop] at h; cases h)
      · exact .of_val (sim_isnil hop (.inr ⟨isNilConst_spec h3, rfl⟩) h4 hT h2.1 hs hl hR) (fun c h => by rw [hop] at h; cases h)
    · cases h2
  · rename_i hop
    simp only [Bool.and_eq_true] at h
    have q1 := eq_of_beq h.1
    subst q1
    exact .of_val (sim_un hop h.2 hs hl hR) (fun c h => by rw [hop] at h; cases h)
  · rename_i hop
    simp only [Bool.and_eq_true] at h
    obtain ⟨⟨h1, h2⟩, h3⟩ := h
    obtain ⟨ds, hds⟩ := Option.isSome_iff_exists.1 h2
    split at h3
    · rename_i hT
      have q1 := eq_of_beq h3
      subst q1
      exact .of_val (sim_convInt hop h1 hds hT hs hl hR) (fun c h => by rw [hop] at h; cases h)
    · cases h3
  · rename_i hop
    simp only [Bool.and_eq_true] at h
    obtain ⟨h1, h3⟩ := h
    split at h3
    · rename_i hS hT; exact .of_val (sim_convSame hop h1 hS hT hs hl hR) (fun c h => by rw [hop] at h; cases h)
    · cases h3
  · rename_i hop
    simp only [Bool.and_eq_true] at h
    obtain ⟨⟨h1, h2⟩, h3⟩ := h
    have q1 := eq_of_beq h1
    subst q1
    split at h3
    · cases h3
    · rename_i d hne hT; exact .of_val (sim_mkIface hop h2 hT (fun ms e => hne ms (by rw [e])) hs hl hR) (fun c h => by rw [hop] at h; cases h)
    · cases h3
  · rename_i hop
    simp only [Bool.and_eq_true] at h
    obtain ⟨⟨h1, h2⟩, h3⟩ := h
    have q1 := eq_of_beq h1
    subst q1
    exact .of_val (sim_mkFn hop h2 h3 hs hl hR) (fun c h => by rw [hop] at h; cases h)
  · rename_i hop; exact .of_val (sim_mkMap hop hs hl hR) (fun c h => by rw [hop] at h; cases h)
  · rename_i hop
    simp only [Bool.and_eq_true] at h
    obtain ⟨⟨h1, h2⟩, h3⟩ := h
    split at h3
    · rename_i he
      obtain ⟨e1, e2⟩ := elemInfo_spec he
      simp only [Bool.and_eq_true] at h3
      obtain ⟨⟨h4, h5⟩, h6⟩ := h3
      have q1 := eq_of_beq h4
      have q2 := eq_of_beq h5
      subst q1 q2
      split at h6
      · rename_i hz
        obtain ⟨z1, z2⟩ := infoZ_spec hz
        rw [e2] at z1; cases z1
        simp only [Bool.and_eq_true] at h6
        exact .of_val (sim_mkSl hop h1 h2 e1 e2 z2 h6.2 (by simpa using h6.1) hs hl hR) (fun c h => by rw [hop] at h; cases h)
      · cases h6
    · cases h3
  · rename_i hop
    simp only [Bool.and_eq_true] at h
    obtain ⟨⟨⟨h1, h2⟩, h3⟩, h4⟩ := h
    split at h4
    · rename_i hT; exact .of_val (sim_sliceS hop h1 h2 h3 hT hs hl hR) (fun c h => by rw [hop] at h; cases h)
    · cases h4
  · rename_i hop
    simp only [Bool.and_eq_true] at h
    obtain ⟨⟨⟨⟨⟨h1, h2⟩, h3⟩, h4⟩, h5⟩, h6⟩ := h
    split at h6
    · rename_i he
      obtain ⟨e1, e2⟩ := elemInfo_spec he
      have q1 := eq_of_beq h6
      subst q1
      refine .of_val (sim_sliceL hop h1 h2 h3 h4 ?_ e1 e2 hs hl hR) (fun c h => by rw [hop] at h; cases h)
      simp only [Bool.or_eq_true] at h5
      rcases h5 with h5 | h5
      · left; simpa using h5
      · right; intro e; rw [e] at h5; simp at h5
    · cases h6
  · rename_i hop
    simp only [Bool.and_eq_true] at h
    obtain ⟨h1, h2⟩ := h
    split at h2
    · rename_i hT
      split at h2
      · rename_i hf
        simp only [Bool.and_eq_true] at h2
        obtain ⟨h3, h4⟩ := h2
        have q1 := eq_of_beq h3
        subst q1
        split at h4
        · rename_i hi; exact .of_val (sim_fieldAddr hop h1 hT hf hi (by simpa using h4) hs hl hR) (fun c h => by rw [hop] at h; cases h)
        · cases h4
      · cases h2
    · cases h2
  · rename_i hop
    simp only [Bool.and_eq_true] at h
    obtain ⟨h1, h2⟩ := h
    split at h2
    · rename_i hT
      split at h2
      · rename_i hf
        simp only [Bool.and_eq_true] at h2
        obtain ⟨h3, h4⟩ := h2
        have q1 := eq_of_beq h3
        subst q1
        exact .of_val (sim_field hop h1 hT hf h4 hs hl hR) (fun c h => by rw [hop] at h; cases h)
      · cases h2
    · cases h2
  · rename_i hop
    simp only [Bool.and_eq_true] at h
    obtain ⟨⟨h1, h2⟩, h3⟩ := h
    split at h3
    · rename_i he
      obtain ⟨e1, e2⟩ := elemInfo_spec he
      have q1 := eq_of_beq h3
      subst q1
      exact .of_val (sim_idxAddr hop h1 h2 e1 e2 hs hl hR) (fun c h => by rw [hop] at h; cases h)
    · cases h3
  · rename_i hop
    simp only [Bool.and_eq_true] at h
    obtain ⟨⟨h1, h2⟩, h3⟩ := h
    split at h3
    · rename_i hT
      simp only [Bool.and_eq_true] at h3
      obtain ⟨h4, h5⟩ := h3
      have q1 := eq_of_beq h4
      subst q1
      obtain ⟨i, i1, i2⟩ := sizeIs_spec h5
      subst i2
      exact .of_val (sim_idxAddrA hop h1 h2 hT i1 hs hl hR) (fun c h => by rw [hop] at h; cases h)
    · cases h3
  · rename_i hop
    simp only [Bool.and_eq_true] at h
    obtain ⟨⟨h1, h2⟩, h3⟩ := h
    split at h3
    · rename_i hT; exact .of_val (sim_idxS hop h1 h2 hT hs hl hR) (fun c h => by rw [hop] at h; cases h)
    · cases h3
  · rename_i hop
    simp only [Bool.and_eq_true] at h
    obtain ⟨⟨h1, h2⟩, h3⟩ := h
    split at h3
    · rename_i hT
      simp only [Bool.and_eq_true] at h3
      obtain ⟨⟨h4, h5⟩, h6⟩ := h3
      have q1 := eq_of_beq h4
      subst q1
      obtain ⟨i, i1, i2⟩ := sizeIs_spec h5
      subst i2
      exact .of_val (sim_idxA hop h1 h2 hT i1 h6 hs hl hR) (fun c h => by rw [hop] at h; cases h)
    · cases h3
  · rename_i hop
    simp only [Bool.and_eq_true] at h
    obtain ⟨⟨⟨⟨h1, h2⟩, h3⟩, h4⟩, h5⟩ := h
    have q1 := eq_of_beq h1
    subst q1
    split at h5
    · rename_i hT
      split at h5
      · rename_i hK hz
        obtain ⟨z1, z2⟩ := infoZ_spec hz
        simp only [Bool.and_eq_true] at h5
        exact .of_val (sim_lookup hop h2 h3 hT hK h5.1 z1 z2 h5.2 h4 hs hl hR) (fun c h => by rw [hop] at h; cases h)
      · cases h5
    · cases h5
  · rename_i hop
    simp only [Bool.and_eq_true] at h
    obtain ⟨⟨⟨h1, h2⟩, h3⟩, h4⟩ := h
    split at h4
    · rename_i hT
      split at h4
      · rename_i hK; exact .of_val (sim_mapSet (.inl hop) h1 h2 h3 hT hK h4 hs hl hR) (fun c h => by rw [hop] at h; cases h)
      · cases h4
    · cases h4
  · rename_i hop
    simp only [Bool.and_eq_true] at h
    obtain ⟨⟨⟨h1, h2⟩, h3⟩, h4⟩ := h
    split at h4
    · rename_i hT
      split at h4
      · rename_i hK; exact .of_val (sim_mapSet (.inr hop) h1 h2 h3 hT hK h4 hs hl hR) (fun c h => by rw [hop] at h; cases h)
      · cases h4
    · cases h4
  · rename_i hop
    simp only [Bool.and_eq_true] at h
    have q1 := eq_of_beq h.1
    subst q1
    exact .of_val (sim_extract hop h.2 hs hl hR) (fun c h => by rw [hop] at h; cases h)
  · rename_i hop _; exact callOK_res hcf hC hop h hs hl hR
  · cases h

end Go.Idl
