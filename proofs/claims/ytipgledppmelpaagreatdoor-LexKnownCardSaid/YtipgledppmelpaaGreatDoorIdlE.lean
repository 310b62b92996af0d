/- The ideal machine and its evaluators, part 5; no conditions. -/
import Derived.LoopNIn
import Derived.Test.YtipgledppmelpaaGreatDoorIdlD
set_option linter.unusedSectionVars false
set_option linter.unusedVariables false
set_option linter.unusedSimpArgs false
namespace Go.Idl
variable [Globs]
variable {P : Program} {o : Oper} {a : Act} {g : Gh} {O : List Nat} {w : World} {s : St} {res : Res} {cf : CallF}
theorem toList_one {α : Type} {xs : Array α} {r : α} (h : xs.toList = [r]) : xs = #[r] := Array.toList_inj.1 (by simpa using h)
theorem toList_two {α : Type} {xs : Array α} {r q : α} (h : xs.toList = [r, q]) : xs = #[r, q] := Array.toList_inj.1 (by simpa using h)
theorem sizeIs_spec {T : TypeId} {n : Nat} (h : sizeIs P T n = true) : ∃ i, P.info? T = some i /\ i.size = n := by
 unfold sizeIs at h
 split at h
 . exact ⟨_, by assumption, by simpa using h⟩
 . cases h
theorem callOK_res {c : Call} {io : IOp} {C0 : CRel} (hcf : CallOK P C0 cf) (hC : g.C = C0) (hop : o.op = .call c) (h : callOK P c io = true) (hs : stepOp cf io s = some res)
   (hl : WT s.ts a.tmps) (hR : R g O (s.ts.roots a.tmps) s.σ w) : OpRes P o a g O w s res := by
 have hd : ∀ c', o.op ≠ .defer c' := fun c' h => by rw [hop] at h; cases h
 unfold callOK at h
 split at h
 . simp only [zA] at h
   obtain ⟨h1, h2⟩ := h
   split at h1
   . rename_i hc
     simp only [zA, List.all_eq_true] at h1
     exact opRes_inv hcf hC hop hc h1.1 h2 h1.2 hs hl hR
   . cases h1
 . split at h
   . rename_i h1 h2
     simp only [zA] at h
     exact .of_val (sim_vOf hop h1 (toList_one h2) h.1 h.2 hs hl hR) hd
   . cases h
 . split at h
   . rename_i h1 h2
     simp only [zA] at h
     exact .of_val (sim_vSet hop h1 (toList_two h2) h.1 h.2.1 h.2.2 hs hl hR) hd
   . cases h
 . simp only [zA] at h
   obtain ⟨h1, h2⟩ := h
   split at h1
   . rename_i hc
     have := eq_of_beq h1
     subst this
     exact opRes_callStatic hcf hC hop hc h2 hs hl hR
   . cases h1
 . simp only [zA] at h
   obtain ⟨h1, h2⟩ := h
   split at h1
   . rename_i hc
     have := eq_of_beq h1
     subst this
     exact opRes_callp hcf hC hop hc h2 hs hl hR
   . cases h1
 . simp only [zA] at h
   obtain ⟨h1, h2⟩ := h
   split at h1
   . rename_i hc
     exact opRes_callv hcf hC hop hc h1 h2 hs hl hR
   . cases h1
 . split at h
   . rename_i h1 h2 h3
     simp only [zA] at h
     obtain ⟨h4, h5⟩ := h
     split at h5
     . rename_i hT; exact .of_val (sim_lenS hop h1 (toList_one h2) h3 h4 hT hs hl hR) hd
     . cases h5
   . cases h
 . split at h
   . rename_i h1 h2 h3
     simp only [zA] at h
     obtain ⟨h4, h5⟩ := h
     split at h5
     . rename_i hT; exact .of_val (sim_lenL hop h1 (toList_one h2) h3 h4 hT hs hl hR) hd
     . cases h5
   . cases h
 . split at h
   . rename_i h1 h2 h3
     simp only [zA] at h
     obtain ⟨h4, h5⟩ := h
     split at h5
     . rename_i hT; exact .of_val (sim_lenM hop h1 (toList_one h2) h3 h4 hT hs hl hR) hd
     . cases h5
   . cases h
 . split at h
   . rename_i h1 h2 h3
     simp only [zA] at h
     obtain ⟨h4, h5⟩ := h
     split at h5
     . rename_i he
       obtain ⟨e1, e2⟩ := elemInfo_spec he
       split at h5
       . rename_i hz
         obtain ⟨z1, z2⟩ := infoZ_spec hz
         simp only [zA] at h5
         exact .of_val (sim_clear hop h1 (toList_one h2) h3 h4 e1 z1 z2 h5.2 (by simpa using h5.1) hs hl hR) hd
       . cases h5
     . cases h5
   . cases h
 . split at h
   . rename_i h1 h2
     simp only [zA] at h
     obtain ⟨⟨h3, h4⟩, h5⟩ := h
     have := eq_of_beq h3
     subst this
     exact .of_val (sim_minmax hop h1 (toList_two h2) h4 h5 hs hl hR) hd
   . cases h
 . split at h
   . rename_i h1 h2 h3
     simp only [zA] at h
     obtain ⟨⟨h4, h5⟩, h6⟩ := h
     split at h6
     . rename_i he hu
       obtain ⟨e1, e2⟩ := elemInfo_spec he
       simp only [zA, Bool.not_eq_true'] at h6
       obtain ⟨⟨⟨h7, h8⟩, h9⟩, h10⟩ := h6
       have q1 := eq_of_beq h8
       have q2 := eq_of_beq h9
       subst q1 q2
       split at h10
       . rename_i hz
         obtain ⟨z1, z2⟩ := infoZ_spec hz
         rw [e2] at z1; cases z1
         refine .of_val (sim_appendB hop h1 (toList_two h2) (toList_two h3) h4 h5 e1 hu (fun k hk => ?_) e2 z2 (by simpa using h10) hs hl hR) hd
         subst hk; simp [isInt] at h7
       . cases h10
     . cases h6
   . cases h
 . cases h
theorem parts_range : ∀ (l : List (Nat × Operand)) (k : Nat), l.map (·.1) = List.range' k l.length -> l = ((l.map (·.2)).zipIdx k).map fun p => (p.2, p.1) := by
 intro l
 induction l with
 | nil => intro k _; rfl
 | cons p l ih =>
   intro k h
   simp only [List.map_cons, List.length_cons, List.range'_succ, List.cons.injEq] at h
   simp only [List.map_cons, List.zipIdx_cons]
   rw [<- ih (k + 1) h.2, <- h.1]
theorem nilSide_spec {ra rb r : Operand} (h : nilSide ra rb = some r) : (ra = r /\ rb = .const (.slice none 0 0)) \/ (rb = r /\ ra = .const (.slice none 0 0)) := by
 unfold nilSide at h
 split at h
 . simp at h; exact .inl ⟨h, rfl⟩
 . simp at h; exact .inr ⟨h, rfl⟩
 . cases h
theorem hasAll_spec {want : Array (String × TypeId)} {t : TypeId} {b : Bool} (h : hasAll P want t b = true) : ∃ i, P.info? t = some i /\ ((lacking want i.methods).isEmpty = b) := by
 unfold hasAll at h
 split at h
 . exact ⟨_, by assumption, by simpa using h⟩
 . cases h
theorem pur_res {k : PurK} {xs : List Opd} (h : purOK P o.op k xs = true) (hs : stepOp cf (.pur k xs) s = some res) (hl : WT s.ts a.tmps) (hR : R g O (s.ts.roots a.tmps) s.σ w) : OpRes P o a g O w s res := by
 unfold purOK at h
 split at h
 . rename_i hop
   simp only [zA] at h
   obtain ⟨h1, h2⟩ := h
   split at h1
   . rename_i hc; exact .of_val (sim_pur h2 (pur_ext hop hc h1) hs hl hR) (fun c h => by rw [hop] at h; cases h)
   . cases h1
 . rename_i hop
   split at h
   . rename_i hc
     simp only [zA, List.all_eq_true] at h
     obtain ⟨h1, h2⟩ := h
     refine .of_val (sim_pur h2 (pur_invX hop hc fun p hp => ?_) hs hl hR) (fun c h => by rw [hop] at h; cases h)
     have := h1 p hp
     split at this
     . rename_i f _
       simp only [zA] at this
       exact ⟨f, this⟩
     . cases this
   . cases h
 . rename_i hop
   simp only [zA, Bool.not_eq_true'] at h
   obtain ⟨h1, h2, h3, h4, h5⟩ := h
   rw [eq_of_beq h1] at hop
   exact .of_val (sim_pur h5 (pur_eqa hop (eq_of_beq h2) h3 h4) hs hl hR) (fun c h => by rw [hop] at h; cases h)
 . rename_i hop
   simp only [zA] at h
   obtain ⟨h1, h2, h3⟩ := h
   rw [eq_of_beq h1] at hop
   split at h2
   . rename_i hT
     split at h3
     . rename_i hn; exact .of_val (sim_pur h3 (pur_isnilS hop hT (nilSide_spec hn)) hs hl hR) (fun c h => by rw [hop] at h; cases h)
     . cases h3
   . cases h2
 . rename_i hop
   simp only [zA, List.all_eq_true] at h
   obtain ⟨h1, h2, h3, h4⟩ := h
   rw [eq_of_beq h1] at hop
   split at h2
   . rename_i hT
     refine .of_val (sim_pur h4 (pur_eqi hop hT fun p hp => ?_) hs hl hR) (fun c h => by rw [hop] at h; cases h)
     have := h3 p hp
     split at this
     . rename_i i d hi hd
       simp only [zA] at this
       exact ⟨i, d, hi, this.1, hd, this.2⟩
     . cases this
   . cases h2
 . rename_i hop
   simp only [zA] at h
   obtain ⟨h1, h2, h3⟩ := h
   split at h1
   . rename_i hS
     split at h1
     . rename_i he
       split at h2
       . rename_i hT; exact .of_val (sim_pur h3 (pur_text hop hS he hT) hs hl hR) (fun c h => by rw [hop] at h; cases h)
       . cases h2
     . cases h1
   . cases h1
 . rename_i hop
   split at h
   . rename_i hr hq
     simp only [zA] at h
     have e1 := eq_of_beq h.1
     subst e1
     exact .of_val (sim_pur h.2 (pur_mkM hop hr hq) hs hl hR) (fun c h => by rw [hop] at h; cases h)
   . cases h
 . rename_i hop
   simp only [zA, List.all_eq_true] at h
   exact .of_val (sim_pur h.2 (pur_nilM hop h.1) hs hl hR) (fun c h => by rw [hop] at h; cases h)
 . rename_i hop
   simp only [zA] at h
   obtain ⟨h1, h2, h3⟩ := h
   split at h2
   . rename_i hT; exact .of_val (sim_pur h3 (pur_rune hop h1 hT) hs hl hR) (fun c h => by rw [hop] at h; cases h)
   . cases h2
 . rename_i hop
   simp only [zA] at h
   obtain ⟨h1, h2, h3, h4, h5⟩ := h
   have e1 := eq_of_beq h1
   have e2 := eq_of_beq h2
   subst e1 e2
   split at h4
   . rename_i hz
     obtain ⟨z1, z2⟩ := infoZ_spec hz
     split at h3
     . cases h3
     . rename_i d hne hA; exact .of_val (sim_pur h5 (pur_tyC hop hA (fun ms e => hne ms (by rw [e])) z1 z2 h4) hs hl hR) (fun c h => by rw [hop] at h; cases h)
     . cases h3
   . cases h4
 . rename_i hop
   simp only [zA] at h
   obtain ⟨h2, h3, h4, h5⟩ := h
   have e2 := eq_of_beq h2
   subst e2
   split at h4
   . rename_i hz
     obtain ⟨z1, z2⟩ := infoZ_spec hz
     split at h3
     . rename_i want hA
       simp only [zA, List.all_eq_true] at h3
       refine .of_val (sim_pur h5 (pur_tyI hop hA z1 z2 (fun t ht => ?_) (fun t ht => ?_)) hs hl hR) (fun c h => by rw [hop] at h; cases h)
       . obtain ⟨i, hi, hb⟩ := hasAll_spec (h3.1 t ht); exact ⟨i, hi, List.isEmpty_iff.1 hb⟩
       . obtain ⟨i, hi, hb⟩ := hasAll_spec (h3.2 t ht); exact ⟨i, hi, fun e => by rw [e] at hb; cases hb⟩
     . cases h3
   . cases h4
 . cases h
theorem op_res {io : IOp} {C0 : CRel} (hcf : CallOK P C0 cf) (hC : g.C = C0) (h : opOK P o.op io = true) (hs : stepOp cf io s = some res) (hl : WT s.ts a.tmps) (hR : R g O (s.ts.roots a.tmps) s.σ w) : OpRes P o a g O w s res := by
 unfold opOK at h
 split at h
 . exact pur_res h hs hl hR
 . exact mem_res h hs hl hR
 . rename_i hop; exact panic_res hop h hs hl hR
 . rename_i hop; exact .of_val (sim_mv (.inl hop) h hs hl hR) (fun c h => by rw [hop] at h; cases h)
 . rename_i hop; exact .of_val (sim_mv (.inr hop) h hs hl hR) (fun c h => by rw [hop] at h; cases h)
 . rename_i hop
   simp only [zA] at h
   exact .of_val (sim_pick hop h.1.1 h.1.2 h.2 hs hl hR) (fun c h => by rw [hop] at h; cases h)
 . rename_i hop
   split at h
   . rename_i hz
     obtain ⟨z1, z2⟩ := infoZ_spec hz
     exact .of_val (sim_alloc hop z1 z2 h hs hl hR) (fun c h => by rw [hop] at h; cases h)
   . cases h
 . rename_i hop; exact .of_val (sim_box hop h hs hl hR) (fun c h => by rw [hop] at h; cases h)
 . rename_i hop; exact .of_val (sim_boxv hop h hs hl hR) (fun c h => by rw [hop] at h; cases h)
 . rename_i hop
   split at h
   . rename_i zc place hb
     simp only [zA] at h
     exact .of_val (sim_build (z := .agg zc) hop h.1 (fun ps cells hf => buildInfo_spec hb w ps cells hf) h.2 hs hl hR) (fun c h => by rw [hop] at h; cases h)
   . cases h
 . rename_i hop
   split at h
   . rename_i he
     obtain ⟨e1, e2⟩ := elemInfo_spec he
     simp only [zA] at h
     obtain ⟨⟨⟨⟨⟨h1, h2⟩, h3⟩, h4⟩, h5⟩, h6⟩ := h
     have q1 := eq_of_beq h1
     subst q1
     split at h6
     . rename_i hz
       obtain ⟨z1, z2⟩ := infoZ_spec hz
       rw [e2] at z1; cases z1
       refine .of_val (sim_buildSl hop (by rw [eq_of_beq h3]; simp) ?_ h5 e1 e2 z2 (by simpa using h6) (by simpa using h2) hs hl hR) (fun c h => by rw [hop] at h; cases h)
       have h4' := eq_of_beq h4
       refine parts_range _ 0 ?_
       rw [h4', List.range_eq_range']; simp
     . cases h6
   . cases h
 . rename_i hop
   split at h
   . rename_i he
     obtain ⟨e1, e2⟩ := elemInfo_spec he
     simp only [zA] at h
     obtain ⟨⟨⟨⟨⟨h1, h2⟩, h3⟩, h4⟩, h5⟩, h6⟩ := h
     have q1 := eq_of_beq h1
     subst q1
     split at h6
     . rename_i hz
       obtain ⟨z1, z2⟩ := infoZ_spec hz
       rw [e2] at z1; cases z1
       refine .of_val (sim_buildRs hop (by rw [eq_of_beq h3]; simp) ?_ h5 e1 e2 z2 (by simpa using h6) (by simpa using h2) hs hl hR) (fun c h => by rw [hop] at h; cases h)
       have h4' := eq_of_beq h4
       refine parts_range _ 0 ?_
       rw [h4', List.range_eq_range']; simp
     . cases h6
   . cases h
 . rename_i hop
   simp only [zA] at h
   exact .of_val (sim_load hop h.1 h.2 hs hl hR) (fun c h => by rw [hop] at h; cases h)
 . rename_i hop
   simp only [zA] at h
   obtain ⟨i, i1, i2⟩ := sizeIs_spec h.2
   exact .of_val (sim_store hop h.1.1 h.1.2 i1 i2 hs hl hR) (fun c h => by rw [hop] at h; cases h)
 . rename_i hop; exact .of_val (sim_nilCheck hop h hs hl hR) (fun c h => by rw [hop] at h; cases h)
 . rename_i hop
   simp only [zA] at h
   have q1 := eq_of_beq h.1.1
   subst q1
   exact .of_val (sim_bin hop h.1.2 h.2 hs hl hR) (fun c h => by rw [hop] at h; cases h)
 . rename_i hop
   simp only [zA] at h
   obtain ⟨⟨⟨h1, h2⟩, h3⟩, h4⟩ := h
   have q1 := eq_of_beq h1
   subst q1
   split at h4
   . rename_i hT; exact .of_val (sim_eqb hop h2 h3 hT hs hl hR) (fun c h => by rw [hop] at h; cases h)
   . cases h4
 . rename_i hop
   simp only [zA, Bool.or_eq_true] at h
   obtain ⟨⟨h1, h2⟩, h3⟩ := h
   have q1 := eq_of_beq h1
   subst q1
   unfold nilOK at h2
   split at h2
   . rename_i d hT
     simp only [zA, decide_eq_true_eq] at h2
     rcases h3 with ⟨h3, h4⟩ | ⟨h3, h4⟩
     . exact .of_val (sim_isnil hop (.inl ⟨rfl, isNilConst_spec h3⟩) h4 hT h2.1 hs hl hR) (fun c h => by rw [hop] at h; cases h)
     . exact .of_val (sim_isnil hop (.inr ⟨isNilConst_spec h3, rfl⟩) h4 hT h2.1 hs hl hR) (fun c h => by rw [hop] at h; cases h)
   . cases h2
 . rename_i hop
   simp only [zA] at h
   have q1 := eq_of_beq h.1
   subst q1
   exact .of_val (sim_un hop h.2 hs hl hR) (fun c h => by rw [hop] at h; cases h)
 . rename_i hop
   simp only [zA] at h
   obtain ⟨⟨h1, h2⟩, h3⟩ := h
   obtain ⟨ds, hds⟩ := Option.isSome_iff_exists.1 h2
   split at h3
   . rename_i hT
     have q1 := eq_of_beq h3
     subst q1
     exact .of_val (sim_convInt hop h1 hds hT hs hl hR) (fun c h => by rw [hop] at h; cases h)
   . cases h3
 . rename_i hop
   simp only [zA] at h
   obtain ⟨h1, h3⟩ := h
   split at h3
   . rename_i hS hT; exact .of_val (sim_convSame hop h1 hS hT hs hl hR) (fun c h => by rw [hop] at h; cases h)
   . cases h3
 . rename_i hop
   simp only [zA] at h
   obtain ⟨h1, h3⟩ := h
   split at h3
   . rename_i hS hT
     split at h3
     . rename_i he
       exact .of_val (sim_convBytes hop h1 hS hT he hs hl hR) (fun c h => by rw [hop] at h; cases h)
     . cases h3
   . cases h3
 . rename_i hop
   simp only [zA] at h
   obtain ⟨⟨h1, h2⟩, h3⟩ := h
   have q1 := eq_of_beq h1
   subst q1
   split at h3
   . cases h3
   . rename_i d hne hT; exact .of_val (sim_mkIface hop h2 hT (fun ms e => hne ms (by rw [e])) hs hl hR) (fun c h => by rw [hop] at h; cases h)
   . cases h3
 . rename_i hop
   simp only [zA] at h
   obtain ⟨⟨h1, h2⟩, h3⟩ := h
   have q1 := eq_of_beq h1
   subst q1
   exact .of_val (sim_mkFn hop h2 h3 hs hl hR) (fun c h => by rw [hop] at h; cases h)
 . rename_i hop; exact .of_val (sim_mkMap hop hs hl hR) (fun c h => by rw [hop] at h; cases h)
 . rename_i hop
   simp only [zA] at h
   obtain ⟨⟨h1, h2⟩, h3⟩ := h
   split at h3
   . rename_i he
     obtain ⟨e1, e2⟩ := elemInfo_spec he
     simp only [zA] at h3
     obtain ⟨⟨h4, h5⟩, h6⟩ := h3
     have q1 := eq_of_beq h4
     have q2 := eq_of_beq h5
     subst q1 q2
     split at h6
     . rename_i hz
       obtain ⟨z1, z2⟩ := infoZ_spec hz
       rw [e2] at z1; cases z1
       simp only [zA] at h6
       exact .of_val (sim_mkSl hop h1 h2 e1 e2 z2 h6.2 (by simpa using h6.1) hs hl hR) (fun c h => by rw [hop] at h; cases h)
     . cases h6
   . cases h3
 . rename_i hop
   simp only [zA] at h
   obtain ⟨⟨⟨h1, h2⟩, h3⟩, h4⟩ := h
   split at h4
   . rename_i hT; exact .of_val (sim_sliceS hop h1 h2 h3 hT hs hl hR) (fun c h => by rw [hop] at h; cases h)
   . cases h4
 . rename_i hop
   simp only [zA] at h
   obtain ⟨⟨⟨⟨⟨h1, h2⟩, h3⟩, h4⟩, h5⟩, h6⟩ := h
   split at h6
   . rename_i he
     obtain ⟨e1, e2⟩ := elemInfo_spec he
     have q1 := eq_of_beq h6
     subst q1
     refine .of_val (sim_sliceL hop h1 h2 h3 h4 ?_ e1 e2 hs hl hR) (fun c h => by rw [hop] at h; cases h)
     simp only [Bool.or_eq_true] at h5
     rcases h5 with h5 | h5
     . left; simpa using h5
     . right; intro e; rw [e] at h5; simp at h5
   . cases h6
 . rename_i hop
   simp only [zA] at h
   obtain ⟨h1, h2⟩ := h
   split at h2
   . rename_i hT
     split at h2
     . rename_i hf
       simp only [zA] at h2
       obtain ⟨h3, h4⟩ := h2
       have q1 := eq_of_beq h3
       subst q1
       split at h4
       . rename_i hi; exact .of_val (sim_fieldAddr hop h1 hT hf hi (by simpa using h4) hs hl hR) (fun c h => by rw [hop] at h; cases h)
       . cases h4
     . cases h2
   . cases h2
 . rename_i hop
   simp only [zA] at h
   obtain ⟨h1, h2⟩ := h
   split at h2
   . rename_i hT
     split at h2
     . rename_i hf
       simp only [zA] at h2
       obtain ⟨h3, h4⟩ := h2
       have q1 := eq_of_beq h3
       subst q1
       exact .of_val (sim_field hop h1 hT hf h4 hs hl hR) (fun c h => by rw [hop] at h; cases h)
     . cases h2
   . cases h2
 . rename_i hop
   simp only [zA] at h
   obtain ⟨⟨h1, h2⟩, h3⟩ := h
   split at h3
   . rename_i he
     obtain ⟨e1, e2⟩ := elemInfo_spec he
     have q1 := eq_of_beq h3
     subst q1
     exact .of_val (sim_idxAddr hop h1 h2 e1 e2 hs hl hR) (fun c h => by rw [hop] at h; cases h)
   . cases h3
 . rename_i hop
   simp only [zA] at h
   obtain ⟨⟨h1, h2⟩, h3⟩ := h
   split at h3
   . rename_i hT
     simp only [zA] at h3
     obtain ⟨h4, h5⟩ := h3
     have q1 := eq_of_beq h4
     subst q1
     obtain ⟨i, i1, i2⟩ := sizeIs_spec h5
     subst i2
     exact .of_val (sim_idxAddrA hop h1 h2 hT i1 hs hl hR) (fun c h => by rw [hop] at h; cases h)
   . cases h3
 . rename_i hop
   simp only [zA] at h
   obtain ⟨⟨h1, h2⟩, h3⟩ := h
   split at h3
   . rename_i hT; exact .of_val (sim_idxS hop h1 h2 hT hs hl hR) (fun c h => by rw [hop] at h; cases h)
   . cases h3
 . rename_i hop
   simp only [zA] at h
   obtain ⟨⟨h1, h2⟩, h3⟩ := h
   split at h3
   . rename_i hT
     simp only [zA] at h3
     obtain ⟨⟨h4, h5⟩, h6⟩ := h3
     have q1 := eq_of_beq h4
     subst q1
     obtain ⟨i, i1, i2⟩ := sizeIs_spec h5
     subst i2
     exact .of_val (sim_idxA hop h1 h2 hT i1 h6 hs hl hR) (fun c h => by rw [hop] at h; cases h)
   . cases h3
 . rename_i hop
   simp only [zA] at h
   obtain ⟨⟨⟨⟨h1, h2⟩, h3⟩, h4⟩, h5⟩ := h
   have q1 := eq_of_beq h1
   subst q1
   split at h5
   . rename_i hT
     split at h5
     . rename_i hK hz
       obtain ⟨z1, z2⟩ := infoZ_spec hz
       simp only [zA] at h5
       exact .of_val (sim_lookup hop h2 h3 hT hK h5.1 z1 z2 h5.2 h4 hs hl hR) (fun c h => by rw [hop] at h; cases h)
     . cases h5
   . cases h5
 . rename_i hop
   simp only [zA] at h
   obtain ⟨⟨⟨h1, h2⟩, h3⟩, h4⟩ := h
   split at h4
   . rename_i hT
     split at h4
     . rename_i hK; exact .of_val (sim_mapSet (.inl hop) h1 h2 h3 hT hK h4 hs hl hR) (fun c h => by rw [hop] at h; cases h)
     . cases h4
   . cases h4
 . rename_i hop
   simp only [zA] at h
   obtain ⟨⟨⟨h1, h2⟩, h3⟩, h4⟩ := h
   split at h4
   . rename_i hT
     split at h4
     . rename_i hK; exact .of_val (sim_mapSet (.inr hop) h1 h2 h3 hT hK h4 hs hl hR) (fun c h => by rw [hop] at h; cases h)
     . cases h4
   . cases h4
 . rename_i hop
   simp only [zA] at h
   have q1 := eq_of_beq h.1
   subst q1
   exact .of_val (sim_extract hop h.2 hs hl hR) (fun c h => by rw [hop] at h; cases h)
 . rename_i hop _ _; exact callOK_res hcf hC hop h hs hl hR
 . cases h
end Go.Idl
namespace Go.Idl
variable [Globs]
variable {C0 : CRel} {P : Program} {a : Act} {g : Gh} {O : List Nat} {w : World} {s : St} {cf : CallF}
structure Shape where
 n : Nat
 nv : Nat
 m : Nat
def Shape.slot (z : Shape) (j : Nat) : Nat := bif Nat.blt j z.nv then j else z.nv + (j - z.nv) % z.m
def SameSh (ts ts' : Ts) : Prop := ts'.nv = ts.nv /\ ts'.m = ts.m /\ ts'.ds = ts.ds
theorem SameSh.refl (ts : Ts) : SameSh ts ts := ⟨rfl, rfl, rfl⟩
theorem SameSh.trans {a b c : Ts} (h : SameSh a b) (k : SameSh b c) : SameSh a c := ⟨k.1.trans h.1, k.2.1.trans h.2.1, k.2.2.trans h.2.2⟩
theorem SameSh.get {x : Opd} {ts ts' : Ts} {v : IVal} (h : x.get ts = some (v, ts')) : SameSh ts ts' := by
 cases x <;> simp only [Opd.get] at h
 . split at h <;> simp at h; obtain ⟨-, rfl⟩ := h; exact .refl _
 . split at h <;> simp at h; obtain ⟨-, rfl⟩ := h; exact ⟨rfl, rfl, rfl⟩
 . simp at h; obtain ⟨-, rfl⟩ := h; exact .refl _
theorem SameSh.getAll {xs : List Opd} : ∀ {ts ts' : Ts} {vs : List IVal}, Idl.getAll xs ts = some (vs, ts') -> SameSh ts ts' := by
 induction xs with
 | nil => intro ts ts' vs h; simp [Idl.getAll] at h; rw [h.2]; exact .refl _
 | cons x xs ih =>
   intro ts ts' vs h
   simp only [Idl.getAll] at h
   split at h
   . rename_i h1
     split at h
     . rename_i h2
       simp only [zO, zP] at h
       obtain ⟨-, rfl⟩ := h
       exact (SameSh.get h1).trans (ih h2)
     . cases h
   . cases h
theorem SameSh.fill : ∀ {vs : List IVal} {ts : Ts} {j : Nat}, SameSh ts (ts.fill j vs) := by
 intro vs
 induction vs with
 | nil => intro ts j; exact .refl _
 | cons v vs ih => intro ts j; exact SameSh.trans ⟨rfl, rfl, rfl⟩ ih
theorem SameSh.put {ts : Ts} {d : Option Nat} {v : IVal} : SameSh ts (putT ts d v) := by cases d <;> exact ⟨rfl, rfl, rfl⟩
theorem SameSh.stepCall {f : Cal} {vs : List IVal} {ts : Ts} {r : Res} (h : Idl.stepCall cf f vs ts s = some r) : r.s.ts = ts := by
 unfold Idl.stepCall at h
 split at h
 . simp only [zO] at h; subst h; rfl
 . cases h
theorem SameSh.step {o : IOp} {r : Res} (h : stepOp cf o s = some r) : SameSh s.ts r.s.ts := by
 cases o <;> simp only [stepOp, rv] at h
 case call f xs =>
   split at h
   . rename_i h1; rw [SameSh.stepCall h]; exact .getAll h1
   . cases h
 case callv f xs =>
   split at h
   . rename_i h0
     split at h
     . rename_i h1; rw [SameSh.stepCall h]; exact (SameSh.get h0).trans (.getAll h1)
     . cases h
   . rename_i h0
     split at h
     . rename_i h1; rw [SameSh.stepCall h]; exact (SameSh.get h0).trans (.getAll h1)
     . cases h
   . cases h
 case inv tab x xs =>
   repeat' split at h
   all_goals first | (cases h; done) | (rw [SameSh.stepCall h]; exact (SameSh.get (by assumption)).trans (.getAll (by assumption)))
 case extract x i =>
   split at h
   . rename_i h0
     split at h
     . split at h
       . simp only [zO] at h; subst h; exact (SameSh.get h0).trans ⟨rfl, rfl, rfl⟩
       . simp only [zO] at h; subst h; exact SameSh.get h0
     . cases h
   . cases h
 all_goals
   repeat' split at h
   all_goals first | (cases h; done) | (simp only [zO] at h; subst h; simp only; first | exact .refl _ | exact SameSh.get (by assumption) | exact SameSh.getAll (by assumption) | exact SameSh.trans (SameSh.get (by assumption)) (SameSh.get (by assumption)) | exact SameSh.trans (SameSh.getAll (by assumption)) (SameSh.getAll (by assumption)) | exact SameSh.trans (SameSh.get (by assumption)) (SameSh.trans (SameSh.get (by assumption)) (SameSh.get (by assumption))) | exact SameSh.trans (SameSh.get (by assumption)) ⟨rfl, rfl, rfl⟩)
class Base where
 B : List Deferred
def MarksR (g : Gh) (ds : List Nat) (ms : List Deferred) : Prop :=
 ms.length = ds.length /\ ∀ (i : Nat) id d, ds[i]? = some id -> ms[i]? = some d -> ∃ b, g.ι[id]? = some b /\ d = { target := .collected b, args := #[] }
def DefsR [Base] (g : Gh) (ds : List Nat) (defers : List Deferred) : Prop := ∃ ms, defers = ms ++ Base.B /\ MarksR g ds ms
theorem MarksR.mono {g g' : Gh} {ds : List Nat} {ms : List Deferred} (h : MarksR g ds ms) (hι : ∀ (id b : Nat), g.ι[id]? = some b -> g'.ι[id]? = some b) : MarksR g' ds ms :=
 ⟨h.1, fun i id d h1 h2 => let ⟨b, q1, q2⟩ := h.2 i id d h1 h2; ⟨b, hι _ _ q1, q2⟩⟩
theorem DefsR.mono [Base] {g g' : Gh} {ds : List Nat} {defers : List Deferred} (h : DefsR g ds defers) (hι : ∀ (id b : Nat), g.ι[id]? = some b -> g'.ι[id]? = some b) : DefsR g' ds defers :=
 let ⟨ms, e, h⟩ := h; ⟨ms, e, h.mono hι⟩
theorem DefsR.nil [Base] (g : Gh) : DefsR g [] Base.B := ⟨[], rfl, rfl, fun i id d h => by simp at h⟩
theorem DefsR.nil_iff [Base] {g : Gh} {defers : List Deferred} (h : DefsR g [] defers) : defers = Base.B := by
 obtain ⟨ms, rfl, h1, -⟩ := h
 have := List.eq_nil_of_length_eq_zero (by simpa using h1)
 subst this; rfl
theorem DefsR.mark [Base] {g : Gh} {ds : List Nat} {defers : List Deferred} {id b : Nat} (h : DefsR g ds defers) (hb : g.ι[id]? = some b) : DefsR g (id :: ds) ({ target := .collected b, args := #[] } :: defers) := by
 obtain ⟨ms, rfl, h1, h2⟩ := h
 refine ⟨_ :: ms, rfl, by simp [h1], fun i id' d q1 q2 => ?_⟩
 cases i with
 | zero => simp at q1 q2; subst q1 q2; exact ⟨b, hb, rfl⟩
 | succ i => simp at q1 q2; exact h2 i id' d q1 q2
variable [Base]
structure Stand (C0 : CRel) (N : Shape) (g : Gh) (O : List Nat) (s : St) (a : Act) (w : World) : Prop where
 rel : R g O (s.ts.roots a.tmps) s.σ w
 len : WT s.ts a.tmps
 defs : DefsR g s.ts.ds a.defers
 size : N.n <= a.tmps.size
 sh : s.ts.nv = N.nv /\ s.ts.m = N.m
 code : g.C = C0
structure Goes (g : Gh) (O : List Nat) (s : St) (w : World) (g' : Gh) (O' : List Nat) (s' : St) (w' : World) : Prop where
 grow : Grow O g w O' g' w'
 keep : ∃ wn, s'.wr = wn ++ s.wr /\ Keep s.σ s'.σ wn
theorem Goes.refl (g : Gh) (O : List Nat) (s : St) (w : World) : Goes g O s w g O s w := ⟨.refl O g w, ⟨[], rfl, .refl _⟩⟩
theorem Goes.trans {g1 g2 g3 : Gh} {O1 O2 O3 : List Nat} {s1 s2 s3 : St} {w1 w2 w3 : World} (h : Goes g1 O1 s1 w1 g2 O2 s2 w2) (k : Goes g2 O2 s2 w2 g3 O3 s3 w3) : Goes g1 O1 s1 w1 g3 O3 s3 w3 := by
 obtain ⟨wn, h1, h2⟩ := h.keep
 obtain ⟨wn', k1, k2⟩ := k.keep
 exact ⟨h.grow.trans k.grow, ⟨wn' ++ wn, by rw [k1, h1, zS], h2.trans k2⟩⟩
def exitOf : IExit -> Option Exit
 | .normal => some .normal
 | .exit id => some (.exit id)
 | .goto l => some (.goto l)
 | .ret => some .ret
 | .panic _ => none
def After (C0 : CRel) (N : Shape) (g : Gh) (O : List Nat) (s : St) (w : World) (x : IExit) (s' : St) (Q : Exit -> Act -> World -> Prop) : Prop :=
 (∀ e g' O' a' w', exitOf x = some e -> Goes g O s w g' O' s' w' -> Stand C0 N g' O' s' a' w' -> Q e a' w') /\
 (∀ v g' O' a' w' v', x = .panic v -> Goes g O s w g' O' s' w' -> R g' O' ((v, v') :: s'.ts.roots a'.tmps) s'.σ w' -> DefsR g' s'.ts.ds a'.defers -> WT s'.ts a'.tmps -> Q (.panic [{ v := v', recovered := false }]) a' w')
theorem After.of_goes {N : Shape} {g1 : Gh} {O1 : List Nat} {s1 : St} {w1 : World} {x : IExit} {s' : St} {Q : Exit -> Act -> World -> Prop} (h : After C0 N g O s w x s' Q) (hg : Goes g O s w g1 O1 s1 w1) : After C0 N g1 O1 s1 w1 x s' Q :=
 ⟨fun e g' O' a' w' he k st => h.1 e g' O' a' w' he (hg.trans k) st, fun v g' O' a' w' v' he k r d wt => h.2 v g' O' a' w' v' he (hg.trans k) r d wt⟩
def guardOK (ops : Array Oper) : Option (Nat × Bool) -> Option (Nat × Bool) -> Bool
 | none, none => true
 | some (j, b), some (t, b') => b == b' && (match ops[j]? with | some o => o.dst == some t | none => false)
 | _, _ => false
def operOK (P : Program) (ops : Array Oper) (o : Oper) (io : IOper) : Bool := opOK P o.op io.op && o.dst == io.dst && guardOK ops o.guard io.guard
def opersOK (P : Program) (ops : Array Oper) : List Oper -> List IOper -> Bool
 | [], [] => true
 | o :: os, io :: ios => operOK P ops o io && opersOK P ops os ios
 | _, _ => false
theorem V.bool_iff {x : IVal} {v : Value} (h : V g x v) (b : Bool) : v = .bool b ↔ x = .bool b := by
 cases h with
 | prim v hp => cases v <;> simp [okPrim] at hp ⊢
 | _ => simp
theorem wanted_sim {N : Shape} {ops : Array Oper} {o : Oper} {io : IOper} {bw : Bool} (h : guardOK ops o.guard io.guard = true) (hs : Stand C0 N g O s a w) (hw : wantedI io.guard s.ts = some bw) : Region.wanted o (yielded ops a.tmps) = bw := by
 unfold guardOK at h
 unfold wantedI at hw
 unfold Region.wanted
 split at h
 . rename_i h1 h2; rw [h2] at hw; simp at hw; simp [h1, hw]
 . rename_i j b t b' h1 h2
   simp only [zA] at h
   obtain ⟨h3, h4⟩ := h
   have := eq_of_beq h3
   subst this
   rw [h1]
   rw [h2] at hw
   simp only at hw ⊢
   split at h4
   . rename_i og hog
     have hdst : og.dst = some t := eq_of_beq h4
     simp only [yielded, hog, Option.bind_some, hdst]
     cases ht : s.ts.get? t with
     | none => simp [ht] at hw
     | some x =>
       rw [ht] at hw
       obtain ⟨rest, hp, -⟩ := Ts.roots_get a.tmps ht
       have hV : V g x (a.tmps.getD t undef) := hs.rel.vals (x, a.tmps.getD t undef) (hp.mem_iff.2 (by simp))
       have hlt := (hs.len _ _ (Ts.get?_spec ht)).2
       have hget : a.tmps[t]? = some (a.tmps.getD t undef) := by simp [hlt]
       rw [hget]
       generalize a.tmps.getD t undef = v at hV
       cases v with
       | bool b0 =>
         have := (hV.bool_iff b0).1 rfl
         subst this
         simp only [zO] at hw
         subst hw
         cases b0 <;> cases b <;> rfl
       | _ =>
         cases x with
         | bool b0 => have := (hV.bool_iff b0).2 rfl; cases this
         | _ => simp at hw; subst hw; cases b <;> rfl
   . cases h4
 . cases h
theorem put_stand {N : Shape} {d : Option Nat} {x : IVal} {v : Value} (hR : R g O ((x, v) :: s.ts.roots a.tmps) s.σ w) (hl : WT s.ts a.tmps) (hd : DefsR g s.ts.ds a.defers) (hN : N.n <= a.tmps.size) (hz : s.ts.nv = N.nv /\ s.ts.m = N.m) (hC : g.C = C0) (hlt : ∀ t, d = some t -> t < N.n) :
   Stand C0 N g O { s with ts := putT s.ts d x } (a.put d v) w := by
 cases d with
 | none => exact ⟨hR.drop, hl, hd, hN, hz, hC⟩
 | some t =>
   have ht : t < a.tmps.size := Nat.lt_of_lt_of_le (hlt t rfl) hN
   have hW := hl.set ht x
   refine ⟨?_, fun k p hp => by have := hW k p hp; simpa [Act.put, putT] using this, hd, by simpa [Act.put] using hN, hz, hC⟩
   obtain ⟨rest, ev, h1, h2⟩ := Ts.roots_put hl ht x v
   simp only [putT, Act.put]
   have h3 := hR.perm (h1.cons _)
   cases hb : s.ts.t.has (s.ts.slot t) with
   | true =>
     rw [hb] at h2
     refine R.perm (R.drops (l := ev) (h3.perm ?_)) (h2.symm)
     simpa using (List.perm_middle (a := (x, v)) (l₁ := ev) (l₂ := rest)).symm
   | false =>
     rw [hb] at h2
     exact R.perm (R.drops (l := ev) h3.drop) (by simpa using h2.symm)
def dstsOK (n : Nat) (ios : List IOper) : Bool := ios.all fun io => match io.dst with | some d => decide (d < n) | none => true
def Qk (P : Program) (ρ : Option Nat) (n : Nat) (ops : Array Oper) (Q : Exit -> Act -> World -> Prop) (tl : List Nat) : Exit -> Act -> World -> Prop := fun e a w => match e with
 | .normal => wpOpsIn (WF ρ) n P ops Q tl a w
 | e => Q e a w
theorem Qk_nil {ρ : Option Nat} {n : Nat} {ops : Array Oper} {Q : Exit -> Act -> World -> Prop} : Qk P ρ n ops Q [] = Q := by
 funext e a w
 cases e <;> rfl
theorem ops_simK {tl : List Nat} {more : List Oper} {ρ : Option Nat} {n : Nat} {N : Shape} {ops : Array Oper} {Q : Exit -> Act -> World -> Prop} (hcf : CallOK P C0 cf) : ∀ {ios : List IOper} {os pre : List Oper} {g : Gh} {O : List Nat} {s s' : St} {a : Act} {w : World} {x : IExit}, ops.toList = pre ++ (os ++ more) -> opersOK P ops os ios = true ->
   dstsOK N.n ios = true -> runOps cf ios s = some (x, s') -> Stand C0 N g O s a w -> After C0 N g O s w x s' (Qk P ρ n ops Q tl) -> wpOpsIn (WF ρ) n P ops Q (List.range' pre.length os.length ++ tl) a w := by
 intro ios
 induction ios with
 | nil =>
   intro os pre g O s s' a w x hops hok hds hrun hst haft
   cases os <;> simp [opersOK] at hok
   simp [runOps] at hrun
   obtain ⟨rfl, rfl⟩ := hrun
   exact haft.1 _ g O a w rfl (.refl _ _ _ _) hst
 | cons io ios ih =>
   intro os pre g O s s' a w x hops hok hds hrun hst haft
   cases os with
   | nil => simp [opersOK] at hok
   | cons o os =>
     simp only [opersOK, zA, operOK] at hok
     obtain ⟨⟨⟨hop, hdst⟩, hgd⟩, hrest⟩ := hok
     have hdst := eq_of_beq hdst
     obtain ⟨iod, iop, iog⟩ := io
     simp only at hop hdst hgd
     subst hdst
     simp only [dstsOK, List.all_cons, zA] at hds
     have hd0 : ∀ t, o.dst = some t -> t < N.n := by
       intro t ht
       have := hds.1
       rw [ht] at this
       simpa using this
     have hget : ops[pre.length]? = some o := by
       rw [<- Array.getElem?_toList, hops]; simp
     simp only [List.length_cons, List.range'_succ, List.cons_append, wpOpsIn, hget]
     have hnext : ops.toList = (pre ++ [o]) ++ (os ++ more) := by rw [hops]; simp
     have hlenp : (pre ++ [o]).length = pre.length + 1 := by simp
     simp only [runOps] at hrun
     split at hrun
     . rename_i hwi
       rw [if_pos (wanted_sim (o := o) (io := ⟨o.dst, iop, iog⟩) hgd hst hwi)]
       split at hrun
       . rename_i v s1 hstep
         refine op_res hcf hst.code hop hstep hst.len hst.rel ρ n _ Q (fun _ v' w' hp => ?_) (fun h => by cases h)
         obtain ⟨g1, O1, wn, hg, hR, hl, hwr, hk⟩ := hp
         have hst1 := put_stand (d := o.dst) (s := s1) hR hl (by rw [(SameSh.step hstep).2.2]; exact hst.defs.mono hg.pre) hst.size ⟨(SameSh.step hstep).1.trans hst.sh.1, (SameSh.step hstep).2.1.trans hst.sh.2⟩ (hg.code.trans hst.code) hd0
         rw [<- hlenp]
         exact ih hnext hrest hds.2 hrun hst1 (haft.of_goes ⟨hg, ⟨wn, hwr, hk⟩⟩)
       . rename_i v s1 hstep
         refine op_res hcf hst.code hop hstep hst.len hst.rel ρ n _ Q (fun h => by cases h) (fun _ v' w' hp => ?_)
         obtain ⟨g1, O1, wn, hg, hR, hl, hwr, hk⟩ := hp
         simp only [zO, zP] at hrun
         obtain ⟨rfl, rfl⟩ := hrun
         exact haft.2 v g1 O1 a w' v' rfl ⟨hg, ⟨wn, hwr, hk⟩⟩ hR (by rw [(SameSh.step hstep).2.2]; exact hst.defs.mono hg.pre) hl
       . cases hrun
     . rename_i hwi
       rw [if_neg (by rw [wanted_sim (o := o) (io := ⟨o.dst, iop, iog⟩) hgd hst hwi]; simp)]
       refine ⟨fun _ _ => trivial, ?_⟩
       have hR : R g O ((undefI, undef) :: s.ts.roots a.tmps) s.σ w := hst.rel.push (undef_V g) rfl
       have hst1 := put_stand (d := o.dst) (s := s) hR hst.len hst.defs hst.size hst.sh hst.code hd0
       rw [<- hlenp]
       exact ih hnext hrest hds.2 hrun hst1 (haft.of_goes ⟨.refl O g w, ⟨[], rfl, .refl _⟩⟩)
     . cases hrun
theorem ops_sim {ρ : Option Nat} {n : Nat} {N : Shape} {ops : Array Oper} {Q : Exit -> Act -> World -> Prop} (hcf : CallOK P C0 cf) {ios : List IOper} {os pre : List Oper} {g : Gh} {O : List Nat} {s s' : St} {a : Act} {w : World} {x : IExit} (hops : ops.toList = pre ++ os) (hok : opersOK P ops os ios = true)
   (hds : dstsOK N.n ios = true) (hrun : runOps cf ios s = some (x, s')) (hst : Stand C0 N g O s a w) (haft : After C0 N g O s w x s' Q) : wpOpsIn (WF ρ) n P ops Q (List.range' pre.length os.length) a w := by
 have := ops_simK (ρ := ρ) (n := n) (Q := Q) (tl := []) (more := []) hcf (by rw [List.append_nil]; exact hops) hok hds hrun hst (by rw [Qk_nil]; exact haft)
 simpa using this
end Go.Idl
namespace Go.Idl
variable [Globs]
variable {P : Program} {a : Act} {g : Gh} {O : List Nat} {w : World} {s : St} {cf : CallF}
def resOK (P : Program) : ResultVar -> RV -> Bool
 | .tmp t, .t i => t == i
 | .cell t T, .cell i n => t == i && tyN P T n
 | _, _ => false
def ressOK (P : Program) : List ResultVar -> List RV -> Bool
 | [], [] => true
 | r :: rs, v :: vs => resOK P r v && ressOK P rs vs
 | _, _ => false
def resM (tmps : Array Value) (rs : List ResultVar) : Sem (List Value) := rs.mapM fun r => match r with
 | .tmp t => pure (tmps.getD t undef)
 | .cell a t => do loadVar t (<- asAddr (tmps.getD a undef))
theorem resM_nil {tmps : Array Value} : resM tmps [] = pure [] := by simp [resM]
theorem resM_tmp {tmps : Array Value} {t : Nat} {rs : List ResultVar} : (resM tmps (.tmp t :: rs)).run P w = ((resM tmps rs).run P w).andThen fun us w' => .ok (tmps.getD t undef :: us) w' := by
 simp only [resM, List.mapM_cons, Sem.run_bind, Sem.run_pure, Result.andThen_ok]
theorem resM_cell {tmps : Array Value} {t : Nat} {T : TypeId} {rs : List ResultVar} {ad : Addr} (h : tmps.getD t undef = .pointer (some ad)) {u : Value} {w' : World} (hl : (loadVar T ad).run P w = .ok u w') :
   (resM tmps (.cell t T :: rs)).run P w = ((resM tmps rs).run P w').andThen fun us w' => .ok (u :: us) w' := by
 simp only [resM, List.mapM_cons, Sem.run_bind, h, asAddr, Sem.run_pure, Result.andThen_ok, hl]
theorem results_sim {tmps : Array Value} : ∀ {vs : List RV} {rs : List ResultVar} {l : Roots} {s s' : St} {g : Gh} {O : List Nat} {w : World} {xs : List IVal}, ressOK P rs vs = true -> readRes vs s = some (xs, s') -> WT s.ts tmps ->
   R g O (l ++ s.ts.roots tmps) s.σ w ->
   ∃ us : List Value, (resM tmps rs).run P w = .ok us w /\ xs.length = us.length /\ WT s'.ts tmps /\
     R g O (xs.zip us ++ (l ++ s'.ts.roots tmps)) s'.σ w /\ ∃ wn, s'.wr = wn ++ s.wr /\ Keep s.σ s'.σ wn /\ wn.all (fun p => !p.2) = true := by
 intro vs
 induction vs with
 | nil =>
   intro rs l s s' g O w xs hok hrd hl hR
   cases rs <;> simp [ressOK] at hok
   simp [readRes] at hrd
   obtain ⟨rfl, rfl⟩ := hrd
   exact ⟨[], by simp [resM_nil, Sem.run_pure], rfl, hl, by simpa using hR, [], rfl, .refl _, rfl⟩
 | cons v vs ih =>
   intro rs l s s' g O w xs hok hrd hl hR
   cases rs with
   | nil => simp [ressOK] at hok
   | cons r rs =>
     simp only [ressOK, zA] at hok
     cases v with
     | t i =>
       simp only [readRes] at hrd
       split at hrd
       . rename_i x hx
         split at hrd
         . rename_i ys s1 hrest
           simp only [zO, zP] at hrd
           obtain ⟨rfl, rfl⟩ := hrd
           have hr : r = .tmp i := by cases r <;> simp [resOK] at hok; rw [hok.1]
           subst hr
           have hm := get_sim (a := ⟨tmps, []⟩) (x := .m i) (r := .tmp i) (ts' := s.ts.set i (un3 x)) (v := x) (by simp [opdOK]) (by simp [Opd.get, hx]) hl hR
           obtain ⟨us, h1, h2, h3, h4, wn, h5, h6, h7⟩ := ih (s := { s with ts := s.ts.set i (un3 x) }) (l := (x, (⟨tmps, []⟩ : Act).eval (.tmp i)) :: l) hok.2 hrest hm.2 (by simpa using hm.1)
           refine ⟨tmps.getD i undef :: us, ?_, by simp [h2], h3, ?_, wn, h5, h6, h7⟩
           . rw [resM_tmp, h1, Result.andThen_ok]
           . refine h4.perm ?_
             simp only [List.zip_cons_cons, List.cons_append, Act.eval]
             exact List.perm_middle
         . cases hrd
       . cases hrd
     | cell i n =>
       simp only [readRes] at hrd
       split at hrd
       . rename_i id off hx
         split at hrd
         . rename_i cs hcs
           split at hrd
           . rename_i z hz
             split at hrd
             . rename_i ys s1 hrest
               simp only [zO, zP] at hrd
               obtain ⟨rfl, rfl⟩ := hrd
               obtain ⟨T, hr, hT⟩ : ∃ T, r = .cell i T /\ tyN P T n = true := by
                 cases r with
                 | tmp t => simp [resOK] at hok
                 | cell t T => simp only [resOK, zA] at hok; exact ⟨T, by rw [eq_of_beq hok.1.1], hok.1.2⟩
               subst hr
               obtain ⟨rest0, hp0, -⟩ := Ts.roots_get tmps hx
               have hV0 : V g (.ptr id off) (tmps.getD i undef) := hR.vals (.ptr id off, tmps.getD i undef) (List.mem_append_right _ (hp0.mem_iff.2 (by simp)))
               obtain ⟨b, hget, hι⟩ := hV0.ptr_inv
               obtain ⟨u, hrun, hR', hk, _⟩ := hR.loadMove hι (loadCell_some hcs) hT hz
               obtain ⟨us, h1, h2, h3, h4, wn, h5, h6, h7⟩ := ih (s := { s with σ := s.σ.set id (.cells (putCells cs off (un2 z).cells)), wr := (id, false) :: s.wr }) (l := (z, u) :: l) hok.2 hrest hl (by simpa using hR')
               refine ⟨u :: us, ?_, by simp [h2], h3, ?_, wn ++ [(id, false)], by rw [h5]; simp, hk.trans h6, by simp [h7]⟩
               . rw [resM_cell hget hrun, h1, Result.andThen_ok]
               . refine h4.perm ?_
                 simp only [List.zip_cons_cons, List.cons_append]
                 exact List.perm_middle
             . cases hrd
           . cases hrd
         . cases hrd
       . cases hrd
theorem R.merge {xs : List IVal} {us : List Value} {l : Roots} {σ : List IObj} (h : R g O (xs.zip us ++ l) σ w) (hl : xs.length = us.length) (hnt : ∀ x ∈ xs, nt x = true) :
   R g O ((tupV xs, if hh : us.toArray.size = 1 then us.toArray[0] else .tuple us.toArray) :: l) σ w := by
 have hlist : xs.length = 1 \/ xs.length ≠ 1 := by omega
 rcases hlist with h1 | h1
 . obtain ⟨x, rfl⟩ := List.length_eq_one_iff.1 h1
   obtain ⟨u, rfl⟩ := List.length_eq_one_iff.1 (hl ▸ h1)
   simpa [tupV] using h
 . have e : tupV xs = .tup xs := by
     cases xs with
     | nil => rfl
     | cons x xs => cases xs with
       | nil => simp at h1
       | cons y ys => rfl
   rw [e, dif_neg (by simp; omega)]
   have hV : V g (.tup xs) (.tuple us.toArray) := .tup xs us.toArray (by simpa using hl) (fun i x v hx hv => nt_of_get (vs := us) (fun p hp => h.vals p (by simp [hp])) hx (by simpa using hv)) hnt
   have hown : own3 (.tup xs) (.tuple us.toArray) = ownL (xs.zip us) := by
     simp only [own3, ownL]
     congr 1
     apply List.ext_getElem?
     intro i
     simp only [List.getElem?_zipWith, List.getElem?_map, List.zip]
     cases hx : xs[i]? with
     | none => simp
     | some x => cases hu : us[i]? with
       | none => simp [hu]
       | some u => simp [hu]; exact (own3_nt (hnt x (zM hx)) u).symm
   have e1 : ownL ((.tup xs, .tuple us.toArray) :: l) = ownL (xs.zip us ++ l) := by rw [ownL_append, <- hown]; simp [ownL]
   refine ⟨h.len, fun p hp => ?_, h.objs, by rw [e1]; exact h.nodup, by rw [e1]; exact h.sub, h.lt, h.claim, h.apart, h.spare, h.glob, h.zs⟩
   rcases List.mem_cons.1 hp with rfl | hp
   . exact hV
   . exact h.vals p (by simp [hp])
theorem OBJ.cut {b n : Nat} {x : IObj} (h : OBJ g w b x) (hr : RLO n x) : OBJ (g.cut n) w b x := by
 cases x with
 | cells cs =>
   obtain ⟨c, el, h1, h2, h3⟩ := h
   exact ⟨c, el, h1, h2, fun i x v hx hv => ⟨(h3 i x v hx hv).1.cut n (hr x (zM hx)), (h3 i x v hx hv).2⟩⟩
 | map es =>
   obtain ⟨mes, clock, h1, h2, h3⟩ := h
   refine ⟨mes, clock, h1, h2, fun i e me he hm => ?_⟩
   obtain ⟨⟨q1, q2⟩, q3⟩ := h3 i e me he hm
   have := hr e (zM he)
   exact ⟨⟨q1.cut n this.1, q2.cut n this.2⟩, q3⟩
 | loop L =>
   obtain ⟨r, h1, h2⟩ := h
   exact ⟨r, h1, h2.st, h2.ps, h2.pend, h2.wt, h2.ds, fun p hp => ⟨(h2.vals p hp).1.cut n (hr p hp), (h2.vals p hp).2⟩, h2.code⟩
 | defr => exact h
 | it s pos => exact h
 | dead => trivial
theorem OBJ.rlo {b : Nat} {x : IObj} (h : OBJ g w b x) : RLO g.ι.length x := by
 cases x with
 | cells cs =>
   obtain ⟨c, el, h1, h2, h3⟩ := h
   intro x hx
   obtain ⟨i, hi⟩ := mem_idx hx
   obtain ⟨v, hv⟩ := get_of_le h2 hi
   exact (h3 i x v hi hv).1.rl
 | map es =>
   obtain ⟨mes, clock, h1, h2, h3⟩ := h
   intro e he
   obtain ⟨i, hi⟩ := mem_idx he
   obtain ⟨me, hm⟩ := get_of_size h2.symm hi
   obtain ⟨⟨q1, q2⟩, _⟩ := h3 i e me hi hm
   exact ⟨q1.rl, q2.rl⟩
 | loop L =>
   obtain ⟨r, h1, h2⟩ := h
   exact fun p hp => (h2.vals p hp).1.rl
 | defr => trivial
 | it s pos => trivial
 | dead => trivial
theorem finish_sim {l : Roots} {σ : List IObj} {g' : Gh} {O' : List Nat} {w' : World} {s' : St} {v : IVal} {v' : Value} {pan : Bool} (h : R g O l σ w) (hg : Grow O g w O' g' w') (hR : R g' O' [(v, v')] s'.σ w') (hk : Keep σ s'.σ s'.wr) :
   ∃ g'', Grow O g w O' g'' w' /\ R g'' O' [((finish σ.length pan v s').v, v')] (finish σ.length pan v s').σ w' /\ Keep σ (finish σ.length pan v s').σ (finish σ.length pan v s').wr /\ (finish σ.length pan v s').pan = pan := by
 have hkf : ∀ σ2 : List IObj, Keep σ σ2 s'.wr -> Keep σ σ2 (s'.wr.filter fun p => decide (p.1 < σ.length)) := by
   intro σ2 hk2
   refine ⟨hk2.1, fun n hn hw ho => hk2.2 n hn (fun p hp hp2 => ?_) ho⟩
   by_cases hlt : p.1 < σ.length
   . exact hw p (List.mem_filter.2 ⟨hp, by simpa using hlt⟩) hp2
   . omega
 unfold finish
 split
 . rename_i hcond
   simp only [zA, List.all_eq_true] at hcond
   obtain ⟨hnr, hwr⟩ := hcond
   have hlow : ∀ id o, id < σ.length -> s'.σ[id]? = some o -> RLO σ.length o := by
     refine hk.2 σ.length (Nat.le_refl _) (fun p hp hp2 => ?_) (fun id o hid ho => ?_)
     . have := hwr p hp
       simp only [Bool.or_eq_true, Bool.not_eq_true', decide_eq_true_eq] at this
       rcases this with h1 | h1
       . rw [h1] at hp2; cases hp2
       . exact h1
     . have hid' : id < g.ι.length := by rw [h.len]; exact hid
       have := (h.objs id (g.ι[id]) o (by simp [hid']) ho).rlo
       rw [h.len] at this; exact this
   have hι : (g'.cut σ.length).ι = g'.ι.take σ.length := rfl
   have hSsub : (ownS w' (g'.ι.take σ.length) (s'.σ.take σ.length)).Sublist (ownS w' g'.ι s'.σ) := by
     simp only [ownS]
     rw [<- List.take_zipWith]
     exact sub_flatten (List.take_sublist _ _)
   have hsub : (ownL [(v, v')] ++ ownS w' (g'.ι.take σ.length) (s'.σ.take σ.length)).Sublist (ownL [(v, v')] ++ ownS w' g'.ι s'.σ) := List.Sublist.append (.refl _) hSsub
   have hget : ∀ {α : Type} {l : List α} {id : Nat} {x : α}, (l.take σ.length)[id]? = some x -> l[id]? = some x /\ id < σ.length := by
     intro α l id x hx
     rw [List.getElem?_take] at hx
     split at hx
     . exact ⟨hx, by assumption⟩
     . cases hx
   refine ⟨g'.cut σ.length, ⟨hg.size, hg.same, hg.mono, fun id b hb => ?_, hg.fresh, hg.code, hg.os, hg.tape, hg.output, hg.zm⟩, ⟨?_, fun p hp => ?_, fun id b o h1 h2 => ?_, hR.nodup.sublist hsub, fun b hb => hR.sub b (hsub.mem hb), hR.lt, hR.claim, fun id b o h1 h2 => hR.apart id b o (hget h1).1 (hget h2).1, hR.spare, hR.glob, hR.zs⟩, ?_, rfl⟩
   . rw [hι, List.getElem?_take, if_pos (by rw [<- h.len]; exact lt_of_get hb)]
     exact hg.pre id b hb
   . simp [Gh.cut, hR.len]
   . simp only [List.mem_singleton] at hp
     subst hp
     exact (hR.vals (v, v') (by simp)).cut _ ((hR.vals (v, v') (by simp)).norl _ hnr)
   . obtain ⟨q1, q2⟩ := hget h1
     obtain ⟨q3, _⟩ := hget h2
     exact (hR.objs id b o q1 q3).cut (hlow id o q2 q3)
   . refine hkf _ ⟨by have := hk.1; simp only [List.length_take]; omega, fun n hn hw ho id o hid hgo => ?_⟩
     exact hk.2 n hn hw ho id o hid (hget hgo).1
 . exact ⟨g', hg, hR, hkf _ hk, rfl⟩
theorem shut_sim {gfn : Func} {tmps : Array Value} {Rp : Ending -> World -> Prop} {F : Fence} {n : Nat} {l : Roots} {u : FrameMode} {base : List Deferred} (hu : u ≠ .run) : ∀ (ds : List Nat) (σ σ' : List IObj) (ms : List Deferred) (w : World), shut σ ds = some σ' -> MarksR g ds ms -> R g O l σ w ->
   (∀ w', R g O l σ' w' -> Grow O g w O g w' -> LeavesInM F n P gfn tmps Rp base u w') -> LeavesInM F n P gfn tmps Rp (ms ++ base) u w := by
 intro ds
 induction ds with
 | nil =>
   intro σ σ' ms w hs hd hR hk
   have : ms = [] := List.eq_nil_of_length_eq_zero (by simpa using hd.1)
   subst this
   simp [shut] at hs
   subst hs
   exact hk w hR (.refl _ _ _)
 | cons id ds ih =>
   intro σ σ' ms w hs hd hR hk
   cases ms with
   | nil => have := hd.1; simp at this
   | cons d ms =>
     obtain ⟨b, hι, rfl⟩ := hd.2 0 id d rfl rfl
     simp only [shut] at hs
     split at hs
     . rename_i hσ
       have hob : w.heap[b]? = some (.deferred (some [])) := hR.objs id b _ hι hσ
       have hlt : b < w.heap.size := (Array.getElem?_eq_some_iff.1 hob).1
       obtain ⟨hR', hG⟩ := hR.putObj (ob' := .dead) (x := .deferred none) hι hσ (by simp) hlt (by rw [hob]; simp) trivial (.inr rfl) rfl
       refine ⟨hu, .inl ⟨b, _, rfl, run_takeDeferred hob, ?_⟩⟩
       exact ih _ σ' ms _ hs ⟨by have := hd.1; simp at this; exact this, fun i id' d' h1 h2 => hd.2 (i + 1) id' d' (by simpa using h1) (by simpa using h2)⟩ hR' (fun w' k1 k2 => hk w' k1 (hG.trans k2))
     . cases hs
theorem shut_keep : ∀ (ds : List Nat) (σ σ' : List IObj), shut σ ds = some σ' -> Keep σ σ' (ds.map fun id => (id, false)) := by
 intro ds
 induction ds with
 | nil => intro σ σ' h; simp [shut] at h; subst h; exact .refl _
 | cons id ds ih =>
   intro σ σ' h
   simp only [shut] at h
   split at h
   . have h1 := ih _ _ h
     have h2 : Keep σ (σ.set id .dead) [(id, false)] := Keep.set fun n _ _ _ => trivial
     have h3 := h2.trans h1
     refine ⟨h3.1, fun n hn hw ho => h3.2 n hn (fun p hp hp2 => hw p ?_ hp2) ho⟩
     simp only [List.mem_append, List.mem_singleton, List.map_cons, List.mem_cons] at hp ⊢
     rcases hp with hp | hp
     . exact .inr hp
     . exact .inl (by simpa using hp)
   . cases h
end Go.Idl
namespace Go.Idl
variable [Globs]
def plain : Opd -> Bool
 | .m _ => false
 | _ => true
def plainO : Option Opd -> Bool
 | some x => plain x
 | none => true
theorem plain_get {x : Opd} (h : plain x = true) {ts ts' : Ts} {v : IVal} (hg : x.get ts = some (v, ts')) : ts' = ts := by
 cases x <;> simp [plain] at h <;> simp [Opd.get] at hg
 . split at hg
   . simp at hg; exact hg.2.symm
   . cases hg
 . exact hg.2.symm
theorem getAll_cons {x : Opd} {xs : List Opd} {ts ts' : Ts} {vs : List IVal} : getAll (x :: xs) ts = some (vs, ts') ↔ ∃ v t1 ws, x.get ts = some (v, t1) /\ getAll xs t1 = some (ws, ts') /\ vs = v :: ws := by
 simp only [getAll]
 constructor
 . intro h
   split at h
   . rename_i v t1 hx
     split at h
     . rename_i ws t2 hxs
       simp at h
       obtain ⟨rfl, rfl⟩ := h
       exact ⟨v, t1, ws, hx, hxs, rfl⟩
     . cases h
   . cases h
 . rintro ⟨v, t1, ws, h1, h2, rfl⟩
   simp [h1, h2]
theorem getAll_nil {ts ts' : Ts} {vs : List IVal} : getAll [] ts = some (vs, ts') ↔ vs = [] /\ ts' = ts := by
 simp only [getAll, zO, zP]
 exact ⟨fun h => ⟨h.1.symm, h.2.symm⟩, fun h => ⟨h.1.symm, h.2.symm⟩⟩
theorem getAll_append {xs ys : List Opd} : ∀ {ts ts' : Ts} {vs : List IVal}, getAll (xs ++ ys) ts = some (vs, ts') ↔ ∃ v1 t1 v2, getAll xs ts = some (v1, t1) /\ getAll ys t1 = some (v2, ts') /\ vs = v1 ++ v2 := by
 induction xs with
 | nil =>
   intro ts ts' vs
   simp only [List.nil_append, getAll_nil]
   constructor
   . intro h; exact ⟨[], ts, vs, ⟨rfl, rfl⟩, h, rfl⟩
   . rintro ⟨_, _, v2, ⟨rfl, rfl⟩, h, rfl⟩; exact h
 | cons x xs ih =>
   intro ts ts' vs
   simp only [List.cons_append, getAll_cons, ih]
   constructor
   . rintro ⟨v, t1, _, h1, ⟨v1, t2, v2, h2, h3, rfl⟩, rfl⟩; exact ⟨v :: v1, t2, v2, ⟨v, t1, v1, h1, h2, rfl⟩, h3, rfl⟩
   . rintro ⟨_, t2, v2, ⟨v, t1, v1, h1, h2, rfl⟩, h3, rfl⟩; exact ⟨v, t1, _, h1, ⟨v1, t2, v2, h2, h3, rfl⟩, rfl⟩
def drawable : IOp -> Bool
 | .pick _ a b => plain a && plain b
 | .sliceS _ lo hi => plainO lo && plainO hi
 | .sliceL _ _ lo hi mx => plainO lo && (plainO hi && plainO mx)
 | .extract x _ => plain x
 | .panic _ => false
 | .clear _ _ => false
 | _ => true
theorem optInt_dep {lo : Option Opd} (hp : plainO lo = true) {ts ts2 t1 t2 : Ts} {vs : List IVal} {d : Nat} (h1 : getAll lo.toList ts = some (vs, t1)) (h2 : getAll lo.toList ts2 = some (vs, t2)) :
   t1 = ts /\ t2 = ts2 /\ optInt lo ts2 d = optInt lo ts d := by
 cases lo with
 | none =>
   simp only [Option.toList, getAll_nil] at h1 h2
   exact ⟨h1.2, h2.2, rfl⟩
 | some x =>
   simp only [Option.toList, getAll_cons, getAll_nil] at h1 h2
   obtain ⟨v, t, ws, a1, ⟨rfl, rfl⟩, rfl⟩ := h1
   obtain ⟨v', t', ws', b1, ⟨rfl, rfl⟩, e⟩ := h2
   simp at e
   subst e
   have := plain_get hp a1
   have := plain_get hp b1
   subst t1 t2
   refine ⟨rfl, rfl, ?_⟩
   simp only [optInt, a1, b1]
   cases v <;> rfl
theorem stepOp_dep {cf : CallF} {o : IOp} (hd : drawable o = true) {s : St} {ts2 t1 t2 : Ts} {vs : List IVal} {r : Res}
   (h1 : getAll (opdsOf o) s.ts = some (vs, t1)) (h2 : getAll (opdsOf o) ts2 = some (vs, t2)) (hs : stepOp cf o s = some r) :
   r.s.ts = t1 /\ stepOp cf o { s with ts := ts2 } = some { r with s := { r.s with ts := t2 } } := by
 cases o
 case panic => simp [drawable] at hd
 case clear => simp [drawable] at hd
 case pur k xs =>
   simp only [opdsOf] at h1 h2
   simp only [stepOp, h1, h2, rv] at hs ⊢
   split at hs
   . rename_i hp; simp only [zO] at hs; subst hs; simp [hp]
   . cases hs
 case mem k xs =>
   simp only [opdsOf] at h1 h2
   simp only [stepOp, h1, h2] at hs ⊢
   split at hs
   . rename_i hp; simp only [zO] at hs; subst hs; simp [hp]
   . cases hs
 case mv x =>
   simp only [opdsOf, getAll_cons, getAll_nil] at h1 h2
   obtain ⟨v, t, ws, a1, ⟨rfl, rfl⟩, rfl⟩ := h1
   obtain ⟨v', t', ws', b1, ⟨rfl, rfl⟩, e⟩ := h2
   simp only [List.cons.injEq] at e
   obtain ⟨rfl, -⟩ := e
   simp only [stepOp, a1, b1, rv, markW] at hs ⊢
   repeat' split at hs
   all_goals first | (cases hs; done) | (simp only [zO] at hs; subst hs; simp_all; done) | (simp only [zO] at hs; subst hs; simp_all; obtain ⟨rfl, rfl⟩ := a2; simp_all; done)
 case box x =>
   simp only [opdsOf, getAll_cons, getAll_nil] at h1 h2
   obtain ⟨v, t, ws, a1, ⟨rfl, rfl⟩, rfl⟩ := h1
   obtain ⟨v', t', ws', b1, ⟨rfl, rfl⟩, e⟩ := h2
   simp only [List.cons.injEq] at e
   obtain ⟨rfl, -⟩ := e
   simp only [stepOp, a1, b1, rv, markW] at hs ⊢
   repeat' split at hs
   all_goals first | (cases hs; done) | (simp only [zO] at hs; subst hs; simp_all; done) | (simp only [zO] at hs; subst hs; simp_all; obtain ⟨rfl, rfl⟩ := a2; simp_all; done)
 case vOf G tab x =>
   simp only [opdsOf, getAll_cons, getAll_nil] at h1 h2
   obtain ⟨v, t, ws, a1, ⟨rfl, rfl⟩, rfl⟩ := h1
   obtain ⟨v', t', ws', b1, ⟨rfl, rfl⟩, e⟩ := h2
   simp only [List.cons.injEq] at e
   obtain ⟨rfl, -⟩ := e
   simp only [stepOp, a1, b1, rv, markW] at hs ⊢
   repeat' split at hs
   all_goals first | (cases hs; done) | (simp only [zO] at hs; subst hs; simp_all; done) | (simp only [zO] at hs; subst hs; simp_all; obtain ⟨rfl, rfl⟩ := a2; simp_all; done)
 case boxv x =>
   simp only [opdsOf, getAll_cons, getAll_nil] at h1 h2
   obtain ⟨v, t, ws, a1, ⟨rfl, rfl⟩, rfl⟩ := h1
   obtain ⟨v', t', ws', b1, ⟨rfl, rfl⟩, e⟩ := h2
   simp only [List.cons.injEq] at e
   obtain ⟨rfl, -⟩ := e
   simp only [stepOp, a1, b1, rv, markW] at hs ⊢
   repeat' split at hs
   all_goals first | (cases hs; done) | (simp only [zO] at hs; subst hs; simp_all; done) | (simp only [zO] at hs; subst hs; simp_all; obtain ⟨rfl, rfl⟩ := a2; simp_all; done)
 case load mvf n x =>
   simp only [opdsOf, getAll_cons, getAll_nil] at h1 h2
   obtain ⟨v, t, ws, a1, ⟨rfl, rfl⟩, rfl⟩ := h1
   obtain ⟨v', t', ws', b1, ⟨rfl, rfl⟩, e⟩ := h2
   simp only [List.cons.injEq] at e
   obtain ⟨rfl, -⟩ := e
   simp only [stepOp, a1, b1, rv, markW] at hs ⊢
   repeat' split at hs
   all_goals first | (cases hs; done) | (simp only [zO] at hs; subst hs; simp_all; done) | (simp only [zO] at hs; subst hs; simp_all; obtain ⟨rfl, rfl⟩ := a2; simp_all; done)
 case nilCheck x =>
   simp only [opdsOf, getAll_cons, getAll_nil] at h1 h2
   obtain ⟨v, t, ws, a1, ⟨rfl, rfl⟩, rfl⟩ := h1
   obtain ⟨v', t', ws', b1, ⟨rfl, rfl⟩, e⟩ := h2
   simp only [List.cons.injEq] at e
   obtain ⟨rfl, -⟩ := e
   simp only [stepOp, a1, b1, rv, markW] at hs ⊢
   repeat' split at hs
   all_goals first | (cases hs; done) | (simp only [zO] at hs; subst hs; simp_all; done) | (simp only [zO] at hs; subst hs; simp_all; obtain ⟨rfl, rfl⟩ := a2; simp_all; done)
 case isnil neg k x =>
   simp only [opdsOf, getAll_cons, getAll_nil] at h1 h2
   obtain ⟨v, t, ws, a1, ⟨rfl, rfl⟩, rfl⟩ := h1
   obtain ⟨v', t', ws', b1, ⟨rfl, rfl⟩, e⟩ := h2
   simp only [List.cons.injEq] at e
   obtain ⟨rfl, -⟩ := e
   simp only [stepOp, a1, b1, rv, markW] at hs ⊢
   repeat' split at hs
   all_goals first | (cases hs; done) | (simp only [zO] at hs; subst hs; simp_all; done) | (simp only [zO] at hs; subst hs; simp_all; obtain ⟨rfl, rfl⟩ := a2; simp_all; done)
 case un op x =>
   simp only [opdsOf, getAll_cons, getAll_nil] at h1 h2
   obtain ⟨v, t, ws, a1, ⟨rfl, rfl⟩, rfl⟩ := h1
   obtain ⟨v', t', ws', b1, ⟨rfl, rfl⟩, e⟩ := h2
   simp only [List.cons.injEq] at e
   obtain ⟨rfl, -⟩ := e
   simp only [stepOp, a1, b1, rv, markW] at hs ⊢
   repeat' split at hs
   all_goals first | (cases hs; done) | (simp only [zO] at hs; subst hs; simp_all; done) | (simp only [zO] at hs; subst hs; simp_all; obtain ⟨rfl, rfl⟩ := a2; simp_all; done)
 case conv c x =>
   simp only [opdsOf, getAll_cons, getAll_nil] at h1 h2
   obtain ⟨v, t, ws, a1, ⟨rfl, rfl⟩, rfl⟩ := h1
   obtain ⟨v', t', ws', b1, ⟨rfl, rfl⟩, e⟩ := h2
   simp only [List.cons.injEq] at e
   obtain ⟨rfl, -⟩ := e
   simp only [stepOp, a1, b1, rv, markW] at hs ⊢
   repeat' split at hs
   all_goals first | (cases hs; done) | (simp only [zO] at hs; subst hs; simp_all; done) | (simp only [zO] at hs; subst hs; simp_all; obtain ⟨rfl, rfl⟩ := a2; simp_all; done)
 case mkIface ty x =>
   simp only [opdsOf, getAll_cons, getAll_nil] at h1 h2
   obtain ⟨v, t, ws, a1, ⟨rfl, rfl⟩, rfl⟩ := h1
   obtain ⟨v', t', ws', b1, ⟨rfl, rfl⟩, e⟩ := h2
   simp only [List.cons.injEq] at e
   obtain ⟨rfl, -⟩ := e
   simp only [stepOp, a1, b1, rv, markW] at hs ⊢
   repeat' split at hs
   all_goals first | (cases hs; done) | (simp only [zO] at hs; subst hs; simp_all; done) | (simp only [zO] at hs; subst hs; simp_all; obtain ⟨rfl, rfl⟩ := a2; simp_all; done)
 case fieldAddr o x =>
   simp only [opdsOf, getAll_cons, getAll_nil] at h1 h2
   obtain ⟨v, t, ws, a1, ⟨rfl, rfl⟩, rfl⟩ := h1
   obtain ⟨v', t', ws', b1, ⟨rfl, rfl⟩, e⟩ := h2
   simp only [List.cons.injEq] at e
   obtain ⟨rfl, -⟩ := e
   simp only [stepOp, a1, b1, rv, markW] at hs ⊢
   repeat' split at hs
   all_goals first | (cases hs; done) | (simp only [zO] at hs; subst hs; simp_all; done) | (simp only [zO] at hs; subst hs; simp_all; obtain ⟨rfl, rfl⟩ := a2; simp_all; done)
 case field o n x =>
   simp only [opdsOf, getAll_cons, getAll_nil] at h1 h2
   obtain ⟨v, t, ws, a1, ⟨rfl, rfl⟩, rfl⟩ := h1
   obtain ⟨v', t', ws', b1, ⟨rfl, rfl⟩, e⟩ := h2
   simp only [List.cons.injEq] at e
   obtain ⟨rfl, -⟩ := e
   simp only [stepOp, a1, b1, rv, markW] at hs ⊢
   repeat' split at hs
   all_goals first | (cases hs; done) | (simp only [zO] at hs; subst hs; simp_all; done) | (simp only [zO] at hs; subst hs; simp_all; obtain ⟨rfl, rfl⟩ := a2; simp_all; done)
 case lenS x =>
   simp only [opdsOf, getAll_cons, getAll_nil] at h1 h2
   obtain ⟨v, t, ws, a1, ⟨rfl, rfl⟩, rfl⟩ := h1
   obtain ⟨v', t', ws', b1, ⟨rfl, rfl⟩, e⟩ := h2
   simp only [List.cons.injEq] at e
   obtain ⟨rfl, -⟩ := e
   simp only [stepOp, a1, b1, rv, markW] at hs ⊢
   repeat' split at hs
   all_goals first | (cases hs; done) | (simp only [zO] at hs; subst hs; simp_all; done) | (simp only [zO] at hs; subst hs; simp_all; obtain ⟨rfl, rfl⟩ := a2; simp_all; done)
 case lenL x =>
   simp only [opdsOf, getAll_cons, getAll_nil] at h1 h2
   obtain ⟨v, t, ws, a1, ⟨rfl, rfl⟩, rfl⟩ := h1
   obtain ⟨v', t', ws', b1, ⟨rfl, rfl⟩, e⟩ := h2
   simp only [List.cons.injEq] at e
   obtain ⟨rfl, -⟩ := e
   simp only [stepOp, a1, b1, rv, markW] at hs ⊢
   repeat' split at hs
   all_goals first | (cases hs; done) | (simp only [zO] at hs; subst hs; simp_all; done) | (simp only [zO] at hs; subst hs; simp_all; obtain ⟨rfl, rfl⟩ := a2; simp_all; done)
 case lenM x =>
   simp only [opdsOf, getAll_cons, getAll_nil] at h1 h2
   obtain ⟨v, t, ws, a1, ⟨rfl, rfl⟩, rfl⟩ := h1
   obtain ⟨v', t', ws', b1, ⟨rfl, rfl⟩, e⟩ := h2
   simp only [List.cons.injEq] at e
   obtain ⟨rfl, -⟩ := e
   simp only [stepOp, a1, b1, rv, markW] at hs ⊢
   repeat' split at hs
   all_goals first | (cases hs; done) | (simp only [zO] at hs; subst hs; simp_all; done) | (simp only [zO] at hs; subst hs; simp_all; obtain ⟨rfl, rfl⟩ := a2; simp_all; done)
 case vSet G tab x y =>
   simp only [opdsOf, getAll_cons, getAll_nil] at h1 h2
   obtain ⟨v, t, ws, a1, ⟨v2, t3, ws2, a2, ⟨rfl, rfl⟩, rfl⟩, rfl⟩ := h1
   obtain ⟨v', t', ws', b1, ⟨v2', t3', ws2', b2, ⟨rfl, rfl⟩, rfl⟩, e⟩ := h2
   simp only [List.cons.injEq] at e
   obtain ⟨rfl, rfl, -⟩ := e
   simp only [stepOp, a1, b1, markW] at hs ⊢
   split at hs
   . rename_i e1
     simp only [zO, zP] at e1
     obtain ⟨rfl, rfl⟩ := e1
     simp only [a2, b2] at hs ⊢
     split at hs
     . rename_i e2
       simp only [zO, zP] at e2
       obtain ⟨rfl, rfl⟩ := e2
       split at hs
       . rename_i q1 q2
         simp only [q1, q2] at hs ⊢
         split at hs
         . rename_i q3
           rw [if_pos q3]
           split at hs
           . rename_i q4
             split at hs
             . rename_i q5
               rw [if_pos q5]
               simp only [zO] at hs; subst hs; exact ⟨rfl, rfl⟩
             . cases hs
           . cases hs
         . cases hs
       . cases hs
     . cases hs
   . cases hs
 case store n x y =>
   simp only [opdsOf, getAll_cons, getAll_nil] at h1 h2
   obtain ⟨v, t, ws, a1, ⟨v2, t3, ws2, a2, ⟨rfl, rfl⟩, rfl⟩, rfl⟩ := h1
   obtain ⟨v', t', ws', b1, ⟨v2', t3', ws2', b2, ⟨rfl, rfl⟩, rfl⟩, e⟩ := h2
   simp only [List.cons.injEq] at e
   obtain ⟨rfl, rfl, -⟩ := e
   simp only [stepOp, a1, b1, a2, b2, rv, markW] at hs ⊢
   repeat' split at hs
   all_goals first | (cases hs; done) | (simp only [zO] at hs; subst hs; simp_all; done) | (simp only [zO] at hs; subst hs; simp_all; obtain ⟨rfl, rfl⟩ := a2; simp_all; done)
 case bin op x y =>
   simp only [opdsOf, getAll_cons, getAll_nil] at h1 h2
   obtain ⟨v, t, ws, a1, ⟨v2, t3, ws2, a2, ⟨rfl, rfl⟩, rfl⟩, rfl⟩ := h1
   obtain ⟨v', t', ws', b1, ⟨v2', t3', ws2', b2, ⟨rfl, rfl⟩, rfl⟩, e⟩ := h2
   simp only [List.cons.injEq] at e
   obtain ⟨rfl, rfl, -⟩ := e
   simp only [stepOp, a1, b1, a2, b2, rv, markW] at hs ⊢
   repeat' split at hs
   all_goals first | (cases hs; done) | (simp only [zO] at hs; subst hs; simp_all; done) | (simp only [zO] at hs; subst hs; simp_all; obtain ⟨rfl, rfl⟩ := a2; simp_all; done)
 case eqa neg x y =>
   simp only [opdsOf, getAll_cons, getAll_nil] at h1 h2
   obtain ⟨v, t, ws, a1, ⟨v2, t3, ws2, a2, ⟨rfl, rfl⟩, rfl⟩, rfl⟩ := h1
   obtain ⟨v', t', ws', b1, ⟨v2', t3', ws2', b2, ⟨rfl, rfl⟩, rfl⟩, e⟩ := h2
   simp only [List.cons.injEq] at e
   obtain ⟨rfl, rfl, -⟩ := e
   simp only [stepOp, a1, b1, a2, b2, rv, markW] at hs ⊢
   repeat' split at hs
   all_goals first | (cases hs; done) | (simp only [zO] at hs; subst hs; simp_all; done) | (simp only [zO] at hs; subst hs; simp_all; obtain ⟨rfl, rfl⟩ := a2; simp_all; done)
 case eqb neg x y =>
   simp only [opdsOf, getAll_cons, getAll_nil] at h1 h2
   obtain ⟨v, t, ws, a1, ⟨v2, t3, ws2, a2, ⟨rfl, rfl⟩, rfl⟩, rfl⟩ := h1
   obtain ⟨v', t', ws', b1, ⟨v2', t3', ws2', b2, ⟨rfl, rfl⟩, rfl⟩, e⟩ := h2
   simp only [List.cons.injEq] at e
   obtain ⟨rfl, rfl, -⟩ := e
   simp only [stepOp, a1, b1, a2, b2, rv, markW] at hs ⊢
   repeat' split at hs
   all_goals first | (cases hs; done) | (simp only [zO] at hs; subst hs; simp_all; done) | (simp only [zO] at hs; subst hs; simp_all; obtain ⟨rfl, rfl⟩ := a2; simp_all; done)
 case mkSl br esz bytes zs x y =>
   simp only [opdsOf, getAll_cons, getAll_nil] at h1 h2
   obtain ⟨v, t, ws, a1, ⟨v2, t3, ws2, a2, ⟨rfl, rfl⟩, rfl⟩, rfl⟩ := h1
   obtain ⟨v', t', ws', b1, ⟨v2', t3', ws2', b2, ⟨rfl, rfl⟩, rfl⟩, e⟩ := h2
   simp only [List.cons.injEq] at e
   obtain ⟨rfl, rfl, -⟩ := e
   simp only [stepOp, a1, b1, a2, b2, rv, markW] at hs ⊢
   repeat' split at hs
   all_goals first | (cases hs; done) | (simp only [zO] at hs; subst hs; simp_all; done) | (simp only [zO] at hs; subst hs; simp_all; obtain ⟨rfl, rfl⟩ := a2; simp_all; done)
 case idxAddr esz x y =>
   simp only [opdsOf, getAll_cons, getAll_nil] at h1 h2
   obtain ⟨v, t, ws, a1, ⟨v2, t3, ws2, a2, ⟨rfl, rfl⟩, rfl⟩, rfl⟩ := h1
   obtain ⟨v', t', ws', b1, ⟨v2', t3', ws2', b2, ⟨rfl, rfl⟩, rfl⟩, e⟩ := h2
   simp only [List.cons.injEq] at e
   obtain ⟨rfl, rfl, -⟩ := e
   simp only [stepOp, a1, b1, a2, b2, rv, markW] at hs ⊢
   repeat' split at hs
   all_goals first | (cases hs; done) | (simp only [zO] at hs; subst hs; simp_all; done) | (simp only [zO] at hs; subst hs; simp_all; obtain ⟨rfl, rfl⟩ := a2; simp_all; done)
 case idxAddrA len esz x y =>
   simp only [opdsOf, getAll_cons, getAll_nil] at h1 h2
   obtain ⟨v, t, ws, a1, ⟨v2, t3, ws2, a2, ⟨rfl, rfl⟩, rfl⟩, rfl⟩ := h1
   obtain ⟨v', t', ws', b1, ⟨v2', t3', ws2', b2, ⟨rfl, rfl⟩, rfl⟩, e⟩ := h2
   simp only [List.cons.injEq] at e
   obtain ⟨rfl, rfl, -⟩ := e
   simp only [stepOp, a1, b1, a2, b2, rv, markW] at hs ⊢
   repeat' split at hs
   all_goals first | (cases hs; done) | (simp only [zO] at hs; subst hs; simp_all; done) | (simp only [zO] at hs; subst hs; simp_all; obtain ⟨rfl, rfl⟩ := a2; simp_all; done)
 case idxS x y =>
   simp only [opdsOf, getAll_cons, getAll_nil] at h1 h2
   obtain ⟨v, t, ws, a1, ⟨v2, t3, ws2, a2, ⟨rfl, rfl⟩, rfl⟩, rfl⟩ := h1
   obtain ⟨v', t', ws', b1, ⟨v2', t3', ws2', b2, ⟨rfl, rfl⟩, rfl⟩, e⟩ := h2
   simp only [List.cons.injEq] at e
   obtain ⟨rfl, rfl, -⟩ := e
   simp only [stepOp, a1, b1, a2, b2, rv, markW] at hs ⊢
   repeat' split at hs
   all_goals first | (cases hs; done) | (simp only [zO] at hs; subst hs; simp_all; done) | (simp only [zO] at hs; subst hs; simp_all; obtain ⟨rfl, rfl⟩ := a2; simp_all; done)
 case idxA len esz n x y =>
   simp only [opdsOf, getAll_cons, getAll_nil] at h1 h2
   obtain ⟨v, t, ws, a1, ⟨v2, t3, ws2, a2, ⟨rfl, rfl⟩, rfl⟩, rfl⟩ := h1
   obtain ⟨v', t', ws', b1, ⟨v2', t3', ws2', b2, ⟨rfl, rfl⟩, rfl⟩, e⟩ := h2
   simp only [List.cons.injEq] at e
   obtain ⟨rfl, rfl, -⟩ := e
   simp only [stepOp, a1, b1, a2, b2, rv, markW] at hs ⊢
   repeat' split at hs
   all_goals first | (cases hs; done) | (simp only [zO] at hs; subst hs; simp_all; done) | (simp only [zO] at hs; subst hs; simp_all; obtain ⟨rfl, rfl⟩ := a2; simp_all; done)
 case lookup kk z ok x y =>
   simp only [opdsOf, getAll_cons, getAll_nil] at h1 h2
   obtain ⟨v, t, ws, a1, ⟨v2, t3, ws2, a2, ⟨rfl, rfl⟩, rfl⟩, rfl⟩ := h1
   obtain ⟨v', t', ws', b1, ⟨v2', t3', ws2', b2, ⟨rfl, rfl⟩, rfl⟩, e⟩ := h2
   simp only [List.cons.injEq] at e
   obtain ⟨rfl, rfl, -⟩ := e
   simp only [stepOp, a1, b1, a2, b2, rv, markW] at hs ⊢
   repeat' split at hs
   all_goals first | (cases hs; done) | (simp only [zO] at hs; subst hs; simp_all; done) | (simp only [zO] at hs; subst hs; simp_all; obtain ⟨rfl, rfl⟩ := a2; simp_all; done)
 case append br str esz bytes x y =>
   simp only [opdsOf, getAll_cons, getAll_nil] at h1 h2
   obtain ⟨v, t, ws, a1, ⟨v2, t3, ws2, a2, ⟨rfl, rfl⟩, rfl⟩, rfl⟩ := h1
   obtain ⟨v', t', ws', b1, ⟨v2', t3', ws2', b2, ⟨rfl, rfl⟩, rfl⟩, e⟩ := h2
   simp only [List.cons.injEq] at e
   obtain ⟨rfl, rfl, -⟩ := e
   simp only [stepOp, a1, b1, a2, b2, rv, markW] at hs ⊢
   repeat' split at hs
   all_goals first | (cases hs; done) | (simp only [zO] at hs; subst hs; simp_all; done) | (simp only [zO] at hs; subst hs; simp_all; obtain ⟨rfl, rfl⟩ := a2; simp_all; done)
 case copy str esz x y =>
   simp only [opdsOf, getAll_cons, getAll_nil] at h1 h2
   obtain ⟨v, t, ws, a1, ⟨v2, t3, ws2, a2, ⟨rfl, rfl⟩, rfl⟩, rfl⟩ := h1
   obtain ⟨v', t', ws', b1, ⟨v2', t3', ws2', b2, ⟨rfl, rfl⟩, rfl⟩, e⟩ := h2
   simp only [List.cons.injEq] at e
   obtain ⟨rfl, rfl, -⟩ := e
   cases v <;> simp [stepOp, a1, b1, a2, b2, rv, markW] at hs ⊢
   split at hs
   . split at hs
     . rename_i hc
       obtain ⟨rfl, hc2⟩ := hc
       simp only [zO] at hs; subst hs; simp_all
     . cases hs
   . cases hs
 case mapSet kk x y z =>
   simp only [opdsOf, getAll_cons, getAll_nil] at h1 h2
   obtain ⟨v, t, ws, a1, ⟨v2, t3, ws2, a2, ⟨v3, t4, ws3, a3, ⟨rfl, rfl⟩, rfl⟩, rfl⟩, rfl⟩ := h1
   obtain ⟨v', t', ws', b1, ⟨v2', t3', ws2', b2, ⟨v3', t4', ws3', b3, ⟨rfl, rfl⟩, rfl⟩, rfl⟩, e⟩ := h2
   simp only [List.cons.injEq] at e
   obtain ⟨rfl, rfl, rfl, -⟩ := e
   cases v <;> simp [stepOp, a1, b1, a2, b2, a3, b3, rv] at hs ⊢
   split at hs
   . split at hs
     . split at hs
       . simp only [zO] at hs; subst hs; simp_all
       . cases hs
     . cases hs
   . cases hs
 case build zs parts =>
   simp only [opdsOf] at h1 h2
   simp only [stepOp, h1, h2, rv, stepCall, addOut] at hs ⊢
   repeat' split at hs
   all_goals first | (cases hs; done) | (simp only [zO] at hs; subst hs; simp_all; done) | (simp only [zO] at hs; subst hs; simp_all; obtain ⟨rfl, rfl⟩ := a2; simp_all; done)
 case buildSl esz xs =>
   simp only [opdsOf] at h1 h2
   simp only [stepOp, h1, h2, rv, stepCall, addOut] at hs ⊢
   repeat' split at hs
   all_goals first | (cases hs; done) | (simp only [zO] at hs; subst hs; simp_all; done) | (simp only [zO] at hs; subst hs; simp_all; obtain ⟨rfl, rfl⟩ := a2; simp_all; done)
 case buildRs esz xs =>
   simp only [opdsOf] at h1 h2
   simp only [stepOp, h1, h2, rv, stepCall, addOut] at hs ⊢
   repeat' split at hs
   all_goals first | (cases hs; done) | (simp only [zO] at hs; subst hs; simp_all; done) | (simp only [zO] at hs; subst hs; simp_all; obtain ⟨rfl, rfl⟩ := a2; simp_all; done)
 case minmax mx xs =>
   simp only [opdsOf] at h1 h2
   revert h1 h2 hs
   rcases vs with _ | ⟨v, _ | ⟨v2, _ | ⟨v3, vs⟩⟩⟩ <;> intro h1 h2 hs
   . simp [stepOp, h1] at hs
   . simp [stepOp, h1] at hs
   . cases v <;> cases v2 <;> simp [stepOp, h1, h2, rv] at hs ⊢
     obtain ⟨hk, hs⟩ := hs
     subst hs
     simp [hk]
   . simp [stepOp, h1] at hs
 case call f xs =>
   simp only [opdsOf] at h1 h2
   simp only [stepOp, h1, h2, rv, stepCall, addOut] at hs ⊢
   repeat' split at hs
   all_goals first | (cases hs; done) | (simp only [zO] at hs; subst hs; simp_all; done) | (simp only [zO] at hs; subst hs; simp_all; obtain ⟨rfl, rfl⟩ := a2; simp_all; done)
 case callp f xs =>
   simp only [opdsOf] at h1 h2
   simp only [stepOp, h1, h2, rv, stepCall, addOut] at hs ⊢
   repeat' split at hs
   all_goals first | (cases hs; done) | (simp only [zO] at hs; subst hs; simp_all; done) | (simp only [zO] at hs; subst hs; simp_all; obtain ⟨rfl, rfl⟩ := a2; simp_all; done)
 case alloc zs =>
   simp only [opdsOf, getAll_nil] at h1 h2
   simp only [stepOp, zO] at hs ⊢
   subst hs
   simp [h1.2, h2.2]
 case mkMap =>
   simp only [opdsOf, getAll_nil] at h1 h2
   simp only [stepOp, zO] at hs ⊢
   subst hs
   simp [h1.2, h2.2]
 case extract x i =>
   simp only [opdsOf, getAll_cons, getAll_nil] at h1 h2
   obtain ⟨v, t, ws, a1, ⟨rfl, rfl⟩, rfl⟩ := h1
   obtain ⟨v', t', ws', b1, ⟨rfl, rfl⟩, e⟩ := h2
   simp only [List.cons.injEq] at e
   obtain ⟨rfl, -⟩ := e
   simp only [drawable] at hd
   cases v <;> simp [stepOp, a1, b1, rv] at hs ⊢
   split at hs
   . cases x <;> simp [plain] at hd hs ⊢ <;> (subst hs; simp_all)
   . cases hs
 case pick c x y =>
   simp only [opdsOf, getAll_cons, getAll_nil] at h1 h2
   obtain ⟨v, t, ws, a1, ⟨v2, t3, ws2, a2, ⟨v3, t4, ws3, a3, ⟨rfl, rfl⟩, rfl⟩, rfl⟩, rfl⟩ := h1
   obtain ⟨v', t', ws', b1, ⟨v2', t3', ws2', b2, ⟨v3', t4', ws3', b3, ⟨rfl, rfl⟩, rfl⟩, rfl⟩, e⟩ := h2
   simp only [List.cons.injEq] at e
   obtain ⟨rfl, rfl, rfl, -⟩ := e
   simp only [drawable, zA] at hd
   have p1 := plain_get hd.1 a2
   have p2 := plain_get hd.1 b2
   subst p1 p2
   have p1 := plain_get hd.2 a3
   have p2 := plain_get hd.2 b3
   subst p1 p2
   cases v with
   | bool b => cases b <;> simp [stepOp, a1, b1, a2, b2, a3, b3, rv] at hs ⊢ <;> (subst hs; simp)
   | _ => simp [stepOp, a1] at hs
 case mkFn f xs ys =>
   simp only [opdsOf, getAll_append] at h1 h2
   obtain ⟨v1, u1, v2, a1, a2, rfl⟩ := h1
   obtain ⟨v1', u1', v2', b1, b2, e⟩ := h2
   have hl : v1.length = v1'.length := by rw [getAll_len a1, getAll_len b1]
   obtain ⟨rfl, rfl⟩ := List.append_inj e hl
   simp only [stepOp, a1, b1, a2, b2, rv] at hs ⊢
   split at hs
   . rename_i hc
     simp only [zO] at hs
     subst hs
     simp [hc]
   . cases hs
 case inv tab x xs =>
   simp only [opdsOf, getAll_cons] at h1 h2
   obtain ⟨v, t, ws, a1, a2, rfl⟩ := h1
   obtain ⟨v', t', ws', b1, b2, e⟩ := h2
   simp only [List.cons.injEq] at e
   obtain ⟨rfl, rfl⟩ := e
   simp only [stepOp, a1, b1, stepCall, addOut] at hs ⊢
   repeat' split at hs
   all_goals first | (cases hs; done) | (simp only [zO] at hs; subst hs; simp_all; done)
 case callv f xs =>
   simp only [opdsOf, getAll_cons] at h1 h2
   obtain ⟨v, t, ws, a1, a2, rfl⟩ := h1
   obtain ⟨v', t', ws', b1, b2, e⟩ := h2
   simp only [List.cons.injEq] at e
   obtain ⟨rfl, rfl⟩ := e
   cases v with
   | fn gf us vs =>
     cases gf <;> simp [stepOp, a1, b1, a2, b2, stepCall, addOut] at hs ⊢
     split at hs
     . rename_i hc
       simp only [zO] at hs
       subst hs
       simp [hc]
     . cases hs
   | yl id =>
     simp [stepOp, a1, b1, a2, b2, stepCall, addOut] at hs ⊢
     split at hs
     . rename_i hc
       simp only [zO] at hs
       subst hs
       simp [hc]
     . cases hs
   | _ => simp [stepOp, a1] at hs
 case sliceS x lo hi =>
   simp only [opdsOf, getAll_cons, getAll_append] at h1 h2
   obtain ⟨v, t, ws, a1, ⟨w1, t3, w2, a2, a3, rfl⟩, rfl⟩ := h1
   obtain ⟨v', t', ws', b1, ⟨w1', t3', w2', b2, b3, rfl⟩, e⟩ := h2
   simp only [List.cons.injEq] at e
   obtain ⟨rfl, e⟩ := e
   obtain ⟨rfl, rfl⟩ := List.append_inj e (by rw [getAll_len a2, getAll_len b2])
   simp only [drawable, zA] at hd
   cases v with
   | str b =>
     obtain ⟨rfl, rfl, q1⟩ := optInt_dep (d := 0) hd.1 a2 b2
     obtain ⟨rfl, rfl, q2⟩ := optInt_dep (d := b.length) hd.2 a3 b3
     simp only [stepOp, a1, b1, rv, q1, q2] at hs ⊢
     split at hs
     . split at hs
       . simp only [zO] at hs; subst hs; simp_all
       . cases hs
     . cases hs
   | _ => simp [stepOp, a1] at hs
 case sliceL esz x lo hi mx =>
   simp only [opdsOf, getAll_cons, getAll_append] at h1 h2
   obtain ⟨v, t, ws, a1, ⟨w1, t3, _, a2, ⟨w2, t4, w3, a3, a4, rfl⟩, rfl⟩, rfl⟩ := h1
   obtain ⟨v', t', ws', b1, ⟨w1', t3', _, b2, ⟨w2', t4', w3', b3, b4, rfl⟩, rfl⟩, e⟩ := h2
   simp only [List.cons.injEq] at e
   obtain ⟨rfl, e⟩ := e
   obtain ⟨rfl, e2⟩ := List.append_inj e (by rw [getAll_len a2, getAll_len b2])
   obtain ⟨rfl, rfl⟩ := List.append_inj e2 (by rw [getAll_len a3, getAll_len b3])
   simp only [drawable, zA] at hd
   cases v with
   | sl own r xs =>
     obtain ⟨rfl, rfl, q1⟩ := optInt_dep (d := 0) hd.1 a2 b2
     obtain ⟨rfl, rfl, q2⟩ := optInt_dep (d := xs.length) hd.2.1 a3 b3
     obtain ⟨rfl, rfl, q3⟩ := optInt_dep (d := xs.length) hd.2.2 a4 b4
     simp only [stepOp, a1, b1, rv, q1, q2, q3] at hs ⊢
     repeat' split at hs
     all_goals first | (cases hs; done) | (simp only [zO] at hs; subst hs; simp_all; done)
   | rs e id off len =>
     obtain ⟨rfl, rfl, q1⟩ := optInt_dep (d := 0) hd.1 a2 b2
     obtain ⟨rfl, rfl, q2⟩ := optInt_dep (d := len) hd.2.1 a3 b3
     obtain ⟨rfl, rfl, q3⟩ := optInt_dep (d := len) hd.2.2 a4 b4
     simp only [stepOp, a1, b1, rv, q1, q2] at hs ⊢
     repeat' split at hs
     all_goals first | (cases hs; done) | (simp only [zO] at hs; subst hs; simp_all; done)
   | _ => simp [stepOp, a1] at hs
end Go.Idl
namespace Go.Idl
variable [Globs]
theorem quiet_step {cf : CallF} {o : IOp} (hq : quiet o = true) {s : St} {r : Res} (hn : noRs o s = true) (hs : stepOp cf o s = some r) :
   r.s.σ = s.σ /\ r.s.wr = s.wr /\ ∀ σ2, (∀ id, rdOf o s = some id -> σ2[id]? = s.σ[id]?) -> stepOp cf o { s with σ := σ2 } = some { r with s := { r.s with σ := σ2 } } := by
 cases o <;> simp only [quiet, Bool.false_eq_true] at hq
 case load mvf n x =>
   simp only [Bool.not_eq_true'] at hq
   subst hq
   simp only [stepOp, rv, rdOf] at hs ⊢
   cases hx : x.get s.ts with
   | none => simp [hx] at hs
   | some p =>
     obtain ⟨v, ts⟩ := p
     cases v <;> simp [hx] at hs ⊢
     case ptr id off =>
       split at hs
       . rename_i cs hcs
         split at hs
         . simp only [zO] at hs; subst hs
           refine ⟨rfl, rfl, fun σ2 h2 => ?_⟩
           have : loadCell σ2 id = loadCell s.σ id := by simp [loadCell, h2]
           simp_all
         . cases hs
       . cases hs
     case pv r cs off =>
       split at hs
       . simp only [zO] at hs; subst hs; simp_all
       . cases hs
 case lookup kk z ok x k =>
   simp only [stepOp, rv, rdOf] at hs ⊢
   cases hx : x.get s.ts with
   | none => simp [hx] at hs
   | some p =>
     obtain ⟨v, ts⟩ := p
     cases v <;> simp [hx] at hs ⊢
     case map id =>
       refine ⟨?_, ?_, fun σ2 h2 => ?_⟩
       . repeat' split at hs
         all_goals first | (cases hs; done) | (simp only [zO] at hs; subst hs; rfl)
       . repeat' split at hs
         all_goals first | (cases hs; done) | (simp only [zO] at hs; subst hs; rfl)
       . rw [h2]
         repeat' split at hs
         all_goals first | (cases hs; done) | (simp only [zO] at hs; subst hs; simp_all; done)
 case lenM x =>
   simp only [stepOp, rv, rdOf] at hs ⊢
   cases hx : x.get s.ts with
   | none => simp [hx] at hs
   | some p =>
     obtain ⟨v, ts⟩ := p
     cases v <;> simp [hx] at hs ⊢
     case map id =>
       refine ⟨?_, ?_, fun σ2 h2 => ?_⟩
       . repeat' split at hs
         all_goals first | (cases hs; done) | (simp only [zO] at hs; subst hs; rfl)
       . repeat' split at hs
         all_goals first | (cases hs; done) | (simp only [zO] at hs; subst hs; rfl)
       . rw [h2]
         repeat' split at hs
         all_goals first | (cases hs; done) | (simp only [zO] at hs; subst hs; simp_all; done)
 case append br str esz bytes x y =>
   simp only [Bool.not_eq_true'] at hq
   subst hq
   simp only [stepOp, rv, noRs, Bool.false_eq_true, if_false, false_and] at hs hn ⊢
   cases hx : x.get s.ts with
   | none => simp [hx] at hs
   | some p =>
     obtain ⟨v, ts⟩ := p
     simp only [hx] at hs hn
     cases hy : y.get ts with
     | none => simp [hy] at hs
     | some q =>
       obtain ⟨v2, ts2⟩ := q
       simp only [hy] at hs hn
       have he : ∀ σ2, elemsOf str esz v2 σ2 = elemsOf str esz v2 s.σ := by
         intro σ2
         cases str <;> cases v2 <;> first | rfl | simp at hn
       refine ⟨?_, ?_, fun σ2 _ => ?_⟩
       . repeat' split at hs
         all_goals first | (cases hs; done) | (simp only [zO] at hs; subst hs; rfl)
       . repeat' split at hs
         all_goals first | (cases hs; done) | (simp only [zO] at hs; subst hs; rfl)
       . simp only [hy, he σ2]
         repeat' split at hs
         all_goals first | (cases hs; done) | (simp only [zO] at hs; subst hs; simp_all; done)
 case minmax mx xs =>
   simp only [stepOp, rv] at hs ⊢
   cases hx : getAll xs s.ts with
   | none => simp [hx] at hs
   | some p =>
     obtain ⟨vs, ts⟩ := p
     simp only [hx] at hs
     rcases vs with _ | ⟨v, _ | ⟨v2, _ | ⟨v3, vs⟩⟩⟩
     . simp at hs
     . simp at hs
     . cases v <;> cases v2 <;> simp at hs ⊢
       obtain ⟨hk, hs⟩ := hs
       subst hs
       simp [hk]
     . simp at hs
 all_goals
   simp only [stepOp, rv] at hs ⊢
   repeat' split at hs
   all_goals first | (cases hs; done) | (simp only [zO] at hs; subst hs; simp_all; done)
def Same (σ σ' : List IObj) (wr : List (Nat × Bool)) : Prop := ∀ id, id < σ.length -> (∀ p ∈ wr, p.1 ≠ id) -> σ'[id]? = σ[id]?
theorem Same.refl (σ : List IObj) : Same σ σ [] := fun _ _ _ => rfl
theorem Same.trans {σ σ1 σ2 : List IObj} {w1 w2 : List (Nat × Bool)} (h : Same σ σ1 w1) (k : Same σ1 σ2 w2) : Same σ σ2 (w2 ++ w1) := by
 intro id hid hw
 have h1 := h id hid (fun p hp => hw p (by simp [hp]))
 have hlt : id < σ1.length := by
   rcases Nat.lt_or_ge id σ1.length with h2 | h2
   . exact h2
   . rw [List.getElem?_eq_none h2, List.getElem?_eq_getElem hid] at h1; cases h1
 rw [k id hlt (fun p hp => hw p (by simp [hp])), h1]
theorem Same.set (σ : List IObj) (i : Nat) (o : IObj) (b : Bool) : Same σ (σ.set i o) [(i, b)] := by
 intro id _ hw
 have := hw (i, b) (by simp)
 rw [List.getElem?_set_ne this]
theorem Same.push (σ : List IObj) (o : IObj) : Same σ (σ ++ [o]) [] := by
 intro id hid _
 rw [zL hid]
def CfSame (cf : CallF) : Prop := ∀ f args σ out, cf f args σ = some out -> Same σ out.σ out.wr
theorem memI_same {k : MemK} {vs : List IVal} {σ σ' : List IObj} {v : IVal} {wr : List (Nat × Bool)} (h : memI k vs σ = some (v, σ', wr)) : Same σ σ' wr := by
 unfold memI at h
 repeat' split at h
 all_goals first
   | (cases h; done)
   | (simp only [zO, zP] at h; obtain ⟨-, rfl, rfl⟩ := h; exact .refl _)
   | (simp only [zO, zP] at h; obtain ⟨-, rfl, rfl⟩ := h; exact .push _ _)
   | (simp only [zO, zP] at h; obtain ⟨-, rfl, rfl⟩ := h; exact .set _ _ _ _)
theorem stepOp_same {cf : CallF} (hcf : CfSame cf) {o : IOp} {s : St} {r : Res} (hs : stepOp cf o s = some r) : ∃ wn, r.s.wr = wn ++ s.wr /\ Same s.σ r.s.σ wn := by
 have hcall : ∀ f vs ts, stepCall cf f vs ts s = some r -> ∃ wn, r.s.wr = wn ++ s.wr /\ Same s.σ r.s.σ wn := by
   intro f vs ts h
   unfold stepCall at h
   split at h
   . rename_i out hout
     simp only [zO] at h
     subst h
     exact ⟨out.wr, rfl, hcf _ _ _ _ hout⟩
   . cases h
 cases o
 case alloc zs => simp only [stepOp, zO] at hs; subst hs; exact ⟨[], rfl, .push _ _⟩
 case mkMap => simp only [stepOp, zO] at hs; subst hs; exact ⟨[], rfl, .push _ _⟩
 case call f xs =>
   simp only [stepOp] at hs
   split at hs
   . exact hcall _ _ _ hs
   . cases hs
 case callv f xs =>
   simp only [stepOp] at hs
   split at hs
   . split at hs
     . exact hcall _ _ _ hs
     . cases hs
   . split at hs
     . exact hcall _ _ _ hs
     . cases hs
   . cases hs
 case inv tab x xs =>
   simp only [stepOp] at hs
   repeat' split at hs
   all_goals first
     | (cases hs; done)
     | exact hcall _ _ _ hs
 case mem k xs =>
   simp only [stepOp] at hs
   split at hs
   . split at hs
     . rename_i hm; simp only [zO] at hs; subst hs; exact ⟨_, rfl, memI_same hm⟩
     . cases hs
   . cases hs
 all_goals
   simp only [stepOp, rv, markW] at hs
   repeat' split at hs
   all_goals first
     | (cases hs; done)
     | (simp only [zO] at hs; subst hs; exact ⟨[], rfl, .refl _⟩)
     | (simp only [zO] at hs; subst hs; exact ⟨[], rfl, .push _ _⟩)
     | (simp only [zO] at hs; subst hs; exact ⟨[_], rfl, .set _ _ _ _⟩)
     | (simp only [zO] at hs; subst hs; exact ⟨[_], rfl, (Same.set _ _ .dead false).trans (.push _ _)⟩)
end Go.Idl
namespace Go.Idl
variable [Globs]
theorem Same.fin {σ σ' : List IObj} {wr : List (Nat × Bool)} (h : Same σ σ' wr) : Same σ (σ'.take σ.length) (wr.filter fun p => decide (p.1 < σ.length)) := by
 intro id hid hw
 rw [List.getElem?_take, if_pos hid]
 refine h id hid fun p hp he => ?_
 exact hw p (List.mem_filter.2 ⟨hp, by simp [he, hid]⟩) he
theorem Same.filter {σ σ' : List IObj} {wr : List (Nat × Bool)} (h : Same σ σ' wr) : Same σ σ' (wr.filter fun p => decide (p.1 < σ.length)) := by
 intro id hid hw
 refine h id hid fun p hp he => ?_
 exact hw p (List.mem_filter.2 ⟨hp, by simp [he, hid]⟩) he
def Chg (s s' : St) : Prop := ∃ wn, s'.wr = wn ++ s.wr /\ Same s.σ s'.σ wn
theorem Chg.refl (s : St) : Chg s s := ⟨[], rfl, .refl _⟩
theorem Chg.trans {s s1 s2 : St} (h : Chg s s1) (k : Chg s1 s2) : Chg s s2 := by
 obtain ⟨w1, h1, h2⟩ := h
 obtain ⟨w2, k1, k2⟩ := k
 exact ⟨w2 ++ w1, by rw [k1, h1, zS], h2.trans k2⟩
theorem readRes_chg : ∀ {rs : List RV} {s s' : St} {vs : List IVal}, readRes rs s = some (vs, s') -> Chg s s' := by
 intro rs
 induction rs with
 | nil => intro s s' vs h; simp [readRes] at h; obtain ⟨-, rfl⟩ := h; exact .refl _
 | cons r rs ih =>
   intro s s' vs h
   cases r with
   | t i =>
     simp only [readRes] at h
     split at h
     . split at h
       . rename_i h1
         simp only [zO, zP] at h
         obtain ⟨-, rfl⟩ := h
         have := ih h1
         exact this
       . cases h
     . cases h
   | cell i n =>
     simp only [readRes] at h
     repeat' split at h
     all_goals first | (cases h; done) | skip
     rename_i h1
     simp only [zO, zP] at h
     obtain ⟨-, rfl⟩ := h
     exact Chg.trans ⟨[_], rfl, Same.set _ _ _ _⟩ (ih h1)
theorem runOps_chg {cf : CallF} (hcf : CfSame cf) : ∀ {l : List IOper} {s s' : St} {x : IExit}, runOps cf l s = some (x, s') -> Chg s s' := by
 intro l
 induction l with
 | nil => intro s s' x h; simp [runOps] at h; obtain ⟨-, rfl⟩ := h; exact .refl _
 | cons o os ih =>
   intro s s' x h
   simp only [runOps] at h
   split at h
   . split at h
     . rename_i v s1 h1
       have h2 := ih h
       exact Chg.trans (s1 := s1) (stepOp_same hcf h1) h2
     . rename_i v s1 h1
       simp only [zO, zP] at h
       obtain ⟨-, rfl⟩ := h
       exact stepOp_same hcf h1
     . cases h
   . exact ih (s := { s with ts := putT s.ts o.dst undefI }) h
   . cases h
theorem stepD_chg {cf : CallF} (hcf : CfSame cf) {o : IOper} {s s' : St} {l : DLog} (h : stepD cf o s = some (s', l)) : s'.wr = l.wr ++ s.wr /\ Same s.σ s'.σ l.wr := by
 simp only [stepD] at h
 split at h
 . split at h
   . split at h
     . split at h
       . rename_i hs
         obtain ⟨wn, h1, h2⟩ := stepOp_same hcf hs
         simp only [zO, zP] at h
         obtain ⟨rfl, rfl⟩ := h
         simp only [List.append_nil] at h1
         exact ⟨rfl, by rw [h1]; exact h2⟩
       . cases h
     . cases h
   . cases h
 . simp only [zO, zP] at h
   obtain ⟨rfl, rfl⟩ := h
   exact ⟨rfl, .refl _⟩
 . cases h
theorem runDraw_chg {cf : CallF} (hcf : CfSame cf) : ∀ {l : List (Nat × IOper)} {s s' : St} {ls : List (Nat × DLog)}, runDraw cf l s = some (s', ls) -> Chg s s' := by
 intro l
 induction l with
 | nil => intro s s' x h; simp [runDraw] at h; obtain ⟨rfl, -⟩ := h; exact .refl _
 | cons o os ih =>
   intro s s' x h
   simp only [runDraw] at h
   split at h
   . rename_i s1 lg h1
     split at h
     . rename_i h2
       simp only [zO, zP] at h
       obtain ⟨rfl, -⟩ := h
       exact Chg.trans ⟨_, stepD_chg hcf h1⟩ (ih h2)
     . cases h
   . cases h
def cfOf (F : IProg) (n : Nat) : CallF := fun f args σ => match f with
 | .f f => match F f with
   | some fn => callI (eval F n) fn args σ
   | none => none
 | .y id => roundI (eval F n) id args σ
theorem shut_same : ∀ (ds : List Nat) (σ σ' : List IObj), shut σ ds = some σ' -> Same σ σ' (ds.map fun id => (id, false)) := by
 intro ds
 induction ds with
 | nil => intro σ σ' h; simp [shut] at h; subst h; exact .refl _
 | cons id ds ih =>
   intro σ σ' h
   simp only [shut] at h
   split at h
   . have h3 := (Same.set σ id .dead false).trans (ih _ _ h)
     intro k hk hw
     refine h3 k hk fun p hp => hw p ?_
     simp only [List.mem_append, List.mem_singleton, List.map_cons, List.mem_cons] at hp ⊢
     rcases hp with hp | hp
     . exact .inr hp
     . exact .inl (by simpa using hp)
   . cases h
theorem fin_same {pan : Bool} {v : IVal} {σ : List IObj} {s1 : St} (h : ∃ wn, s1.wr = wn ++ [] /\ Same σ s1.σ wn) : Same σ (finish σ.length pan v s1).σ (finish σ.length pan v s1).wr := by
 obtain ⟨wn, h1, h2⟩ := h
 simp only [List.append_nil] at h1
 subst h1
 unfold finish
 split
 . exact h2.fin
 . exact h2.filter
theorem leave_chg {ev : ICode -> St -> Option (IExit × St)} (hev : ∀ {c : ICode} {s s' : St} {x : IExit}, ev c s = some (x, s') -> Chg s s') {d : DInfo} {c : ICode} {args : List IVal} {x y : IExit} {s s' : St} (h : leaveI ev d c args x s = some (y, s')) : Chg s s' := by
 unfold leaveI at h
 split at h
 . rename_i m σ1 hm hsh
   unfold deferI at h
   split at h
   . rename_i z s3 h3
     have key : Chg s { s with ts := { s.ts with ds := [] }, σ := s3.σ, wr := s3.wr ++ ((s.ts.ds.map fun id => (id, false)) ++ s.wr) } := by
       obtain ⟨w3, q1, q2⟩ := hev h3
       refine ⟨s3.wr ++ (s.ts.ds.map fun id => (id, false)), by simp, ?_⟩
       refine (shut_same _ _ _ hsh).trans ?_
       simp only [List.append_nil] at q1
       rw [q1]; exact q2
     split at h
     . cases h
     . split at h
       . simp only [zO, zP] at h
         obtain ⟨-, rfl⟩ := h
         exact key
       . cases h
   . cases h
 . cases h
theorem eval_chg {F : IProg} : ∀ n, CfSame (cfOf F n) /\ ∀ {c : ICode} {s s' : St} {x : IExit}, eval F n c s = some (x, s') -> Chg s s' := by
 have hret : ∀ {σ : List IObj} {s1 : St} {res : List RV} {out : Out}, (∃ wn, s1.wr = wn ++ [] /\ Same σ s1.σ wn) -> retI σ.length res s1 = some out -> Same σ out.σ out.wr := by
   intro σ s1 res out h0 h
   obtain ⟨wn, q1, q2⟩ := h0
   unfold retI at h
   split at h
   . rename_i σ1 hsh
     split at h
     . rename_i vs s' hrd
       split at h
       . simp only [zO] at h
         subst h
         obtain ⟨wn', k1, k2⟩ := readRes_chg hrd
         refine fin_same ⟨wn' ++ ((s1.ts.ds.map fun id => (id, false)) ++ wn), ?_, ?_⟩
         . rw [k1]; simp only; rw [q1]; simp
         . exact (q2.trans (shut_same _ _ _ hsh)).trans k2
       . cases h
     . cases h
   . cases h
 have hcall : ∀ n, (∀ {c : ICode} {s s' : St} {x : IExit}, eval F n c s = some (x, s') -> Chg s s') -> CfSame (cfOf F n) := by
   intro n ih f args σ out h
   unfold cfOf at h
   split at h
   . split at h
     . unfold callI at h
       repeat' split at h
       all_goals first | (cases h; done) | skip
       . simp only [zO] at h; subst h; exact .refl _
       . rename_i h1; exact hret (ih h1) h
       . rename_i h1; exact hret (ih h1) h
       . rename_i h1 _ _
         simp only [zO] at h
         subst h
         exact fin_same (ih h1)
     . cases h
   . rename_i id
     unfold roundI at h
     split at h
     . split at h
       . split at h
         . rename_i s1 h1
           split at h
           . split at h
             . split at h
               . rename_i x s2 h2
                 split at h
                 . rename_i l2 _
                   have k0 : Chg { ts := ‹Ts›, σ := σ, wr := [] } s1 := ih h1
                   have k1 := ih h2
                   obtain ⟨w1, a1, a2⟩ := k0
                   obtain ⟨w2, b1, b2⟩ := k1
                   have key : ∀ (L : ILoop) (v : Bool), Same σ (finish σ.length false (.bool v) { s2 with σ := s2.σ.set id (.loop L), wr := (id, false) :: s2.wr }).σ (finish σ.length false (.bool v) { s2 with σ := s2.σ.set id (.loop L), wr := (id, false) :: s2.wr }).wr := by
                     intro L v
                     refine fin_same ⟨[(id, false)] ++ (w2 ++ ([(id, false)] ++ w1)), ?_, ?_⟩
                     . simp only [b1, a1]; simp
                     . exact ((a2.trans (Same.set _ _ _ _)).trans b2).trans (Same.set _ _ _ _)
                   split at h
                   . simp only [zO] at h; subst h; exact key _ _
                   . split at h
                     . simp only [zO] at h; subst h; exact key _ _
                     . cases h
                 . cases h
               . cases h
             . cases h
           . cases h
         . cases h
       . cases h
     . cases h
 intro n
 suffices h : ∀ {c : ICode} {s s' : St} {x : IExit}, eval F n c s = some (x, s') -> Chg s s' from ⟨hcall n h, h⟩
 induction n with
 | zero => intro c s s' x h; simp [eval] at h
 | succ n ih =>
   have hcf := hcall n ih
   have hcfe : (fun (f : Cal) (args : List IVal) (σ : List IObj) => match f with
     | .f f => match F f with
       | some fn => callI (eval F n) fn args σ
       | none => none
     | .y id => roundI (eval F n) id args σ) = cfOf F n := rfl
   intro c s s' x h
   cases c <;> simp only [eval, hcfe] at h
   case ops l => exact runOps_chg hcf h
   case draw l pairs =>
     split at h
     . rename_i h1
       split at h
       . simp only [zO, zP] at h
         obtain ⟨-, rfl⟩ := h
         exact runDraw_chg hcf h1
       . cases h
     . cases h
   case seq a b =>
     split at h
     . rename_i h1; exact (ih h1).trans (ih h)
     . exact ih h
   case cond y a b =>
     repeat' split at h
     all_goals first | (cases h; done) | exact ih h
   case block id b =>
     split at h
     . rename_i h1
       split at h
       . simp only [zO, zP] at h; obtain ⟨-, rfl⟩ := h; exact ih h1
       . simp only [zO, zP] at h; obtain ⟨-, rfl⟩ := h; exact ih h1
     . exact ih h
   case loop b =>
     split at h
     . rename_i h1; exact (ih h1).trans (ih h)
     . exact ih h
   case scope b =>
     split at h
     . cases h
     . exact ih h
   case rangeF y ps a b =>
     split at h
     . split at h
       . rename_i v σ1 wr1 hc
         split at h
         . rename_i l hl
           have k0 := hcf (.f _) _ _ _ hc
           have k1 : ∀ (ts : Ts), Chg s { ts := ts, σ := σ1.set (s.σ.length + 1) .dead, wr := (s.σ.length + 1, false) :: (wr1 ++ s.wr) } := by
             intro ts
             refine ⟨(s.σ.length + 1, false) :: wr1, by simp, ?_⟩
             have a1 : Same s.σ (s.σ ++ [.defr, .loop ⟨0, { s.ts with t := s.ts.t.un, ds := [] }, ps, a, b, none, .none⟩]) [] := by
               intro id hid _
               rw [zL hid]
             have := (a1.trans k0).trans (Same.set σ1 (s.σ.length + 1) .dead false)
             simpa using this
           split at h
           . cases h
           . split at h
             . simp only [zO, zP] at h; obtain ⟨-, rfl⟩ := h; exact k1 _
             . split at h
               . simp only [zO, zP] at h; obtain ⟨-, rfl⟩ := h; exact k1 _
               . cases h
         . cases h
       . cases h
     . cases h
   case stuck => cases h
   case dfr l x xs d c b =>
     split at h
     . rename_i s1 h1
       split at h
       . split at h
         . split at h
           . split at h
             . rename_i x2 s2 h2
               have k1 := runOps_chg hcf h1
               have k2 := ih h2
               exact k1.trans (Chg.trans ⟨k2.choose, k2.choose_spec.1, k2.choose_spec.2⟩ (leave_chg ih h))
             . cases h
           . cases h
         . cases h
       . cases h
     . cases h
   case lib p => cases h
   all_goals (simp only [zO, zP] at h; obtain ⟨-, rfl⟩ := h; exact .refl _)
end Go.Idl
namespace Go.Idl
variable [Globs]
def opdU : Opd -> List Nat
 | .t i => [i]
 | .m i => [i]
 | .c _ => []
def opdM : Opd -> List Nat
 | .m i => [i]
 | _ => []
def guardU : Option (Nat × Bool) -> List Nat
 | some (t, _) => [t]
 | none => []
def usesOf (o : IOper) : List Nat := (opdsOf o.op).flatMap opdU ++ guardU o.guard
def movesOf (o : IOper) : List Nat := (opdsOf o.op).flatMap opdM
theorem opdM_sub {x : Opd} {i : Nat} (h : i ∈ opdM x) : i ∈ opdU x := by cases x <;> simp_all [opdM, opdU]
theorem movesOf_sub {o : IOper} {i : Nat} (h : i ∈ movesOf o) : i ∈ usesOf o := by
 simp only [movesOf, List.mem_flatMap] at h
 obtain ⟨x, hx, hi⟩ := h
 exact List.mem_append_left _ (List.mem_flatMap.2 ⟨x, hx, opdM_sub hi⟩)
theorem Ts.get?_set_ne {ts : Ts} {i k : Nat} {v : IVal} (h : ts.slot i ≠ ts.slot k) : (ts.set i v).get? k = ts.get? k := by
 have h2 : (ts.set i v).slot k = ts.slot k := rfl
 unfold Ts.get?
 rw [h2]
 simp only [Ts.set, Tm.get_ne _ _ _ _ h]
theorem Ts.set_comm {ts : Ts} {i k : Nat} {v u : IVal} (h : ts.slot i ≠ ts.slot k) : (ts.set i v).set k u = (ts.set k u).set i v := by
 have h1 : (ts.set i v).slot k = ts.slot k := rfl
 have h2 : (ts.set k u).slot i = ts.slot i := rfl
 simp only [Ts.set] at *
 rw [h1, h2, Tm.set_comm _ _ _ _ _ h]
def mv1 (ts : Ts) (i : Nat) : Ts := match ts.get? i with
 | some v => ts.set i (un3 v)
 | none => ts
def mvAll (ms : List Nat) (ts : Ts) : Ts := ms.foldl mv1 ts
theorem mv1_some {ts : Ts} {i : Nat} {v : IVal} (h : ts.get? i = some v) : mv1 ts i = ts.set i (un3 v) := by unfold mv1; rw [h]
theorem mv1_none {ts : Ts} {i : Nat} (h : ts.get? i = none) : mv1 ts i = ts := by unfold mv1; rw [h]
theorem mv1_sh (ts : Ts) (i : Nat) : SameSh ts (mv1 ts i) := by unfold mv1; split <;> exact ⟨rfl, rfl, rfl⟩
theorem SameSh.slot {ts ts' : Ts} (h : SameSh ts ts') (k : Nat) : ts'.slot k = ts.slot k := by simp only [Ts.slot, h.1, h.2.1]
theorem mvAll_sh (ms : List Nat) : ∀ (ts : Ts), SameSh ts (mvAll ms ts) := by
 induction ms with
 | nil => intro ts; exact .refl _
 | cons m ms ih => intro ts; exact (mv1_sh _ _).trans (ih _)
theorem mv1_ne {ts : Ts} {i k : Nat} (h : ts.slot i ≠ ts.slot k) : (mv1 ts i).get? k = ts.get? k := by
 unfold mv1; split
 . exact Ts.get?_set_ne h
 . rfl
theorem mv1_eq {ts : Ts} {i : Nat} : (mv1 ts i).get? i = (ts.get? i).map un3 := by
 cases hv : ts.get? i with
 | none => rw [mv1_none hv, hv]; rfl
 | some v => rw [mv1_some hv, Ts.get?_set hv]; rfl
theorem mvAll_ne {ms : List Nat} : ∀ {ts : Ts} {k : Nat}, (∀ m ∈ ms, ts.slot m ≠ ts.slot k) -> (mvAll ms ts).get? k = ts.get? k := by
 induction ms with
 | nil => intro ts k _; rfl
 | cons m ms ih =>
   intro ts k h
   refine (ih (ts := mv1 ts m) fun m' hm => ?_).trans (mv1_ne (h m (by simp)))
   rw [(mv1_sh ts m).slot, (mv1_sh ts m).slot]; exact h m' (by simp [hm])
theorem mv1_set {ts : Ts} {i m : Nat} {v : IVal} (h : ts.slot i ≠ ts.slot m) : mv1 (ts.set i v) m = (mv1 ts m).set i v := by
 unfold mv1
 rw [Ts.get?_set_ne h]
 split
 . rw [Ts.set_comm h]
 . rfl
theorem mvAll_set {ms : List Nat} : ∀ {ts : Ts} {i : Nat} {v : IVal}, (∀ m ∈ ms, ts.slot i ≠ ts.slot m) -> mvAll ms (ts.set i v) = (mvAll ms ts).set i v := by
 induction ms with
 | nil => intro ts i v _; rfl
 | cons m ms ih =>
   intro ts i v h
   simp only [mvAll, List.foldl_cons]
   rw [mv1_set (h m (by simp))]
   refine ih (ts := mv1 ts m) fun m' hm => ?_
   rw [(mv1_sh ts m).slot, (mv1_sh ts m).slot]; exact h m' (by simp [hm])
theorem mv1_mv1 {ts : Ts} {i m : Nat} (h : ts.slot i ≠ ts.slot m) : mv1 (mv1 ts i) m = mv1 (mv1 ts m) i := by
 have h1 : (mv1 ts m).get? i = ts.get? i := mv1_ne (Ne.symm h)
 cases hv : ts.get? i with
 | none =>
   rw [mv1_none hv, mv1_none (h1.trans hv)]
 | some v => rw [mv1_some hv, mv1_some (h1.trans hv), mv1_set h]
theorem mvAll_mv1 {ms : List Nat} : ∀ {ts : Ts} {i : Nat}, (∀ m ∈ ms, ts.slot i ≠ ts.slot m) -> mvAll ms (mv1 ts i) = mv1 (mvAll ms ts) i := by
 induction ms with
 | nil => intro ts i _; rfl
 | cons m ms ih =>
   intro ts i h
   simp only [mvAll, List.foldl_cons]
   rw [mv1_mv1 (h m (by simp))]
   refine ih (ts := mv1 ts m) fun m' hm => ?_
   rw [(mv1_sh ts m).slot, (mv1_sh ts m).slot]; exact h m' (by simp [hm])
theorem mvAll_mvAll {ks : List Nat} : ∀ {ms : List Nat} {ts : Ts}, (∀ k ∈ ks, ∀ m ∈ ms, ts.slot k ≠ ts.slot m) -> mvAll ms (mvAll ks ts) = mvAll ks (mvAll ms ts) := by
 induction ks with
 | nil => intro ms ts _; rfl
 | cons k ks ih =>
   intro ms ts h
   simp only [mvAll, List.foldl_cons]
   have h1 := ih (ms := ms) (ts := mv1 ts k) (fun k' hk m hm => by rw [(mv1_sh ts k).slot, (mv1_sh ts k).slot]; exact h k' (by simp [hk]) m hm)
   have h2 := mvAll_mv1 (ts := ts) (h k (by simp))
   simp only [mvAll] at h1 h2
   rw [h1, h2]
def Off (U : List Nat) (ts ts2 : Ts) : Prop := ∀ k ∈ U, ts.get? k = ts2.get? k
theorem Off.symm {U : List Nat} {ts ts2 : Ts} (h : Off U ts ts2) : Off U ts2 ts := fun k hk => (h k hk).symm
theorem Ts.get?_set_iff {ts : Ts} {i k : Nat} {v : IVal} (h : ts.get? i = some v) (y : IVal) (hk : k ≠ i) : (ts.set i y).get? k = ts.get? k := by
 by_cases hs : ts.slot i = ts.slot k
 . have h1 := Ts.get?_spec h
   have h2 : (ts.set i y).slot k = ts.slot k := rfl
   unfold Ts.get?
   rw [h2, <- hs, h1]
   simp only [Ts.set, Tm.get_set, get_has h1, cond_true]
   have : Nat.beq i k = false := by
     cases hb : Nat.beq i k with
     | false => rfl
     | true => exact absurd (zN hb).symm hk
   rw [this]; rfl
 . exact Ts.get?_set_ne hs
theorem Off.mv1 {U : List Nat} {ts ts2 : Ts} (h : Off U ts ts2) (i : Nat) (hi : i ∈ U) : Off U (mv1 ts i) (mv1 ts2 i) := by
 intro k hk
 by_cases e : k = i
 . subst e; rw [mv1_eq, mv1_eq, h k hi]
 . cases hv : ts.get? i with
   | none => rw [mv1_none hv, mv1_none ((h i hi).symm.trans hv)]; exact h k hk
   | some v =>
     have hv2 := (h i hi).symm.trans hv
     rw [mv1_some hv, mv1_some hv2, Ts.get?_set_iff hv _ e, Ts.get?_set_iff hv2 _ e]
     exact h k hk
theorem get_off {U : List Nat} {x : Opd} (hx : ∀ i ∈ opdU x, i ∈ U) {ts ts2 ts' : Ts} {v : IVal} (h : Off U ts ts2) (hg : x.get ts = some (v, ts')) :
   ts' = mvAll (opdM x) ts /\ x.get ts2 = some (v, mvAll (opdM x) ts2) /\ Off U ts' (mvAll (opdM x) ts2) := by
 cases x with
 | t i =>
   have hi := h i (hx i (by simp [opdU]))
   simp only [Opd.get, opdM, mvAll, List.foldl_nil] at hg ⊢
   rw [<- hi]
   split at hg
   . simp only [zO, zP] at hg; obtain ⟨rfl, rfl⟩ := hg
     exact ⟨rfl, rfl, h⟩
   . cases hg
 | m i =>
   have hiU := hx i (by simp [opdU])
   have hi := h i hiU
   simp only [Opd.get, opdM, mvAll, List.foldl_cons, List.foldl_nil] at hg ⊢
   rw [<- hi]
   split at hg
   . rename_i v0 hv
     simp only [zO, zP] at hg; obtain ⟨rfl, rfl⟩ := hg
     have e1 := mv1_some hv
     have e2 := mv1_some (hi.symm.trans hv)
     rw [e1, e2]
     refine ⟨rfl, rfl, ?_⟩
     rw [<- e1, <- e2]
     exact h.mv1 i hiU
   . cases hg
 | c c =>
   simp only [Opd.get, zO, zP] at hg
   obtain ⟨rfl, rfl⟩ := hg
   exact ⟨rfl, rfl, h⟩
theorem getAll_off {U : List Nat} {xs : List Opd} : ∀ {ts ts2 ts' : Ts} {vs : List IVal}, (∀ i ∈ xs.flatMap opdU, i ∈ U) -> Off U ts ts2 -> getAll xs ts = some (vs, ts') ->
   ts' = mvAll (xs.flatMap opdM) ts /\ getAll xs ts2 = some (vs, mvAll (xs.flatMap opdM) ts2) := by
 induction xs with
 | nil =>
   intro ts ts2 ts' vs _ _ h
   rw [getAll_nil] at h
   obtain ⟨rfl, rfl⟩ := h
   exact ⟨rfl, rfl⟩
 | cons x xs ih =>
   intro ts ts2 ts' vs hU ho h
   rw [getAll_cons] at h
   obtain ⟨v, t1, ws, h1, h2, rfl⟩ := h
   obtain ⟨e1, e2, e3⟩ := get_off (fun i hi => hU i (by simp [hi])) ho h1
   obtain ⟨f1, f2⟩ := ih (fun i hi => hU i (by simp at hi ⊢; exact .inr hi)) e3 h2
   have happ : ∀ t, mvAll ((x :: xs).flatMap opdM) t = mvAll (xs.flatMap opdM) (mvAll (opdM x) t) := by
     intro t; simp [mvAll, List.foldl_append]
   refine ⟨by rw [happ, <- e1, f1], ?_⟩
   rw [getAll_cons]
   exact ⟨v, _, ws, e2, by rw [happ]; exact f2, rfl⟩
theorem wantedI_off {U : List Nat} {gd : Option (Nat × Bool)} (hU : ∀ i ∈ guardU gd, i ∈ U) {ts ts2 : Ts} (h : Off U ts ts2) : wantedI gd ts2 = wantedI gd ts := by
 cases gd with
 | none => rfl
 | some p => obtain ⟨t, b⟩ := p; simp only [wantedI]; rw [h t (hU t (by simp [guardU]))]
theorem rdOf_off {U : List Nat} {o : IOp} (hU : ∀ i ∈ (opdsOf o).flatMap opdU, i ∈ U) {s : St} {ts2 : Ts} {σ2 : List IObj} {wr2 : List (Nat × Bool)} (h : Off U s.ts ts2) {vs : List IVal} {ts' : Ts} (hg : getAll (opdsOf o) s.ts = some (vs, ts')) :
   rdOf o { ts := ts2, σ := σ2, wr := wr2 } = rdOf o s := by
 cases o <;> simp only [rdOf]
 case load mvf n x =>
   simp only [opdsOf, getAll_cons] at hg hU
   obtain ⟨v, t1, ws, h1, h2, rfl⟩ := hg
   obtain ⟨e1, e2, e3⟩ := get_off (fun i hi => hU i (by simp [hi])) h h1
   rw [h1, e2]; cases v <;> rfl
 case lookup kk z ok x k =>
   simp only [opdsOf, getAll_cons] at hg hU
   obtain ⟨v, t1, ws, h1, h2, rfl⟩ := hg
   obtain ⟨e1, e2, e3⟩ := get_off (fun i hi => hU i (by simp [hi])) h h1
   rw [h1, e2]; cases v <;> rfl
 case lenM x =>
   simp only [opdsOf, getAll_cons] at hg hU
   obtain ⟨v, t1, ws, h1, h2, rfl⟩ := hg
   obtain ⟨e1, e2, e3⟩ := get_off (fun i hi => hU i (by simp [hi])) h h1
   rw [h1, e2]; cases v <;> rfl
theorem noRs_off {U : List Nat} {o : IOp} (hU : ∀ i ∈ (opdsOf o).flatMap opdU, i ∈ U) {s : St} {ts2 : Ts} {σ2 : List IObj} {wr2 : List (Nat × Bool)} (h : Off U s.ts ts2) {vs : List IVal} {ts' : Ts} (hg : getAll (opdsOf o) s.ts = some (vs, ts')) :
   noRs o { ts := ts2, σ := σ2, wr := wr2 } = noRs o s := by
 cases o <;> simp only [noRs]
 case append br str esz bytes sv x =>
   simp only [opdsOf, getAll_cons] at hg hU
   obtain ⟨v, t1, ws, h1, ⟨v2, t2, ws2, h2, h3, rfl⟩, rfl⟩ := hg
   obtain ⟨e1, e2, e3⟩ := get_off (fun i hi => hU i (by simp [hi])) h h1
   obtain ⟨f1, f2, f3⟩ := get_off (fun i hi => hU i (by simp [hi])) e3 h2
   cases br with
   | true => rfl
   | false => simp only [h1, e2, h2, f2]; cases v2 <;> rfl
 case conv c x =>
   simp only [opdsOf, getAll_cons] at hg hU
   obtain ⟨v, t1, ws, h1, h2, rfl⟩ := hg
   obtain ⟨e1, e2, e3⟩ := get_off (fun i hi => hU i (by simp [hi])) h h1
   rw [h1, e2]; cases v <;> rfl
end Go.Idl
namespace Go.Idl
variable [Globs]
theorem Off.refl (U : List Nat) (ts : Ts) : Off U ts ts := fun _ _ => rfl
theorem stepD_len {cf : CallF} {o : IOper} {s s1 : St} {l : DLog} (h : stepD cf o s = some (s1, l)) : l.len <= s.σ.length := by
 simp only [stepD] at h
 repeat' split at h
 all_goals first | (cases h; done) | skip
 all_goals
   simp only [zO, zP] at h
   obtain ⟨-, rfl⟩ := h
   simp
theorem stepD_ts {cf : CallF} {o : IOper} (hd : drawable o.op = true) {s s1 : St} {l : DLog} (h : stepD cf o s = some (s1, l)) :
   ∃ v ms, (∀ m ∈ ms, m ∈ movesOf o) /\ s1.ts = putT (mvAll ms s.ts) o.dst v /\ s1.wr = l.wr ++ s.wr /\
     ∀ ts2 wr2, Off (usesOf o) s.ts ts2 -> stepD cf o ⟨ts2, s.σ, wr2⟩ = some (⟨putT (mvAll ms ts2) o.dst v, s1.σ, l.wr ++ wr2⟩, l) := by
 have hU1 : ∀ i ∈ (opdsOf o.op).flatMap opdU, i ∈ usesOf o := fun i hi => List.mem_append_left _ hi
 have hU2 : ∀ i ∈ guardU o.guard, i ∈ usesOf o := fun i hi => List.mem_append_right _ hi
 simp only [stepD] at h
 split at h
 . rename_i hw
   split at h
   . rename_i hn
     split at h
     . rename_i p hg
       obtain ⟨vs, t'⟩ := p
       split at h
       . rename_i v s' hs
         simp only [zO, zP] at h
         obtain ⟨rfl, rfl⟩ := h
         obtain ⟨e1, -⟩ := getAll_off hU1 (Off.refl _ s.ts) hg
         obtain ⟨d1, -⟩ := stepOp_dep hd (s := { s with wr := [] }) (ts2 := s.ts) hg hg hs
         refine ⟨v, movesOf o, fun m hm => hm, ?_, rfl, fun ts2 wr2 ho => ?_⟩
         . simp only at d1 ⊢; rw [d1, e1]; rfl
         . obtain ⟨-, e2⟩ := getAll_off hU1 ho hg
           obtain ⟨-, d2⟩ := stepOp_dep hd (s := { s with wr := [] }) (ts2 := ts2) hg e2 hs
           simp only [stepD, wantedI_off hU2 ho, hw, noRs_off hU1 ho hg, rdOf_off hU1 ho hg, hn, if_true, e2]
           simp only at d2
           rw [d2]
           rfl
       . cases h
     . cases h
   . cases h
 . rename_i hw
   simp only [zO, zP] at h
   obtain ⟨rfl, rfl⟩ := h
   refine ⟨undefI, [], fun m hm => (by cases hm), rfl, rfl, fun ts2 wr2 ho => ?_⟩
   simp only [stepD, wantedI_off hU2 ho, hw]
   rfl
 . cases h
theorem stepD_quiet {cf : CallF} {o : IOper} (hq : quiet o.op = true) {s s1 : St} {l : DLog} (h : stepD cf o s = some (s1, l)) :
   s1.σ = s.σ /\ l.wr = [] /\ ∀ σ2, (∀ id, l.rd = some id -> σ2[id]? = s.σ[id]?) -> stepD cf o { s with σ := σ2 } = some ({ s1 with σ := σ2 }, l) := by
 have hU1 : ∀ i ∈ (opdsOf o.op).flatMap opdU, i ∈ usesOf o := fun i hi => List.mem_append_left _ hi
 simp only [stepD] at h
 split at h
 . rename_i hw
   split at h
   . rename_i hn
     split at h
     . rename_i p hg
       obtain ⟨vs, t'⟩ := p
       split at h
       . rename_i v s' hs
         simp only [zO, zP] at h
         obtain ⟨rfl, rfl⟩ := h
         have hrd : ∀ σ2 wr2, rdOf o.op { ts := s.ts, σ := σ2, wr := wr2 } = rdOf o.op s := fun σ2 wr2 => rdOf_off hU1 (Off.refl _ s.ts) hg
         have hnr : ∀ σ2 wr2, noRs o.op { ts := s.ts, σ := σ2, wr := wr2 } = noRs o.op s := fun σ2 wr2 => noRs_off hU1 (Off.refl _ s.ts) hg
         obtain ⟨q1, q2, q3⟩ := quiet_step hq (s := { s with wr := [] }) ((hnr s.σ []).trans hn) hs
         simp only at q1 q2
         refine ⟨q1, q2, fun σ2 hσ => ?_⟩
         have q4 := q3 σ2 (fun id hid => hσ id (by rw [<- hid]; exact (hrd s.σ []).symm))
         simp only at q4
         simp only [stepD, hw, hnr, hrd, hn, if_true, hg, q4, hq]
       . cases h
     . cases h
   . cases h
 . rename_i hw
   simp only [zO, zP] at h
   obtain ⟨rfl, rfl⟩ := h
   refine ⟨rfl, rfl, fun σ2 hσ => ?_⟩
   simp only [stepD, hw]
 . cases h
def mayRead : IOp -> Bool
 | .load _ _ _ => true
 | .lookup _ _ _ _ _ => true
 | .lenM _ => true
 | _ => false
theorem stepD_rd {cf : CallF} {o : IOper} (hr : mayRead o.op = false) {s s1 : St} {l : DLog} (h : stepD cf o s = some (s1, l)) : l.rd = none := by
 have hrd : rdOf o.op s = none := by cases ho : o.op <;> simp [ho, mayRead] at hr <;> rfl
 simp only [stepD] at h
 repeat' split at h
 all_goals first | (cases h; done) | skip
 all_goals
   simp only [zO, zP] at h
   obtain ⟨-, rfl⟩ := h
   first | rfl | exact hrd
def dstOff (sl : Nat -> Nat) (d : Option Nat) (U : List Nat) : Bool := match d with
 | some k => U.all fun u => !(Nat.beq (sl k) (sl u))
 | none => true
def dstNe (sl : Nat -> Nat) (d e : Option Nat) : Bool := match d, e with
 | some a, some b => !(Nat.beq (sl a) (sl b))
 | _, _ => true
def indep (sl : Nat -> Nat) (i j : IOper) : Bool :=
 (drawable i.op && drawable j.op) && ((quiet i.op || quiet j.op) && (dstNe sl i.dst j.dst && ((dstOff sl i.dst (usesOf j) && dstOff sl j.dst (usesOf i)) &&
   ((movesOf i).all (fun k => dstOff sl (some k) (usesOf j)) && (movesOf j).all (fun k => dstOff sl (some k) (usesOf i))))))
theorem nbeq_ne {a b : Nat} (h : (!(Nat.beq a b)) = true) : a ≠ b := by
 intro e; subst e; simp at h
theorem dstOff_ne {sl : Nat -> Nat} {k u : Nat} {U : List Nat} (h : dstOff sl (some k) U = true) (hu : u ∈ U) : sl k ≠ sl u := nbeq_ne (List.all_eq_true.1 h u hu)
theorem dstNe_ne {sl : Nat -> Nat} {a b : Nat} (h : dstNe sl (some a) (some b) = true) : sl a ≠ sl b := nbeq_ne h
theorem off_put {U : List Nat} {ts : Ts} {ms : List Nat} {d : Option Nat} {v : IVal} (h1 : dstOff ts.slot d U = true) (h2 : ∀ m ∈ ms, ∀ u ∈ U, ts.slot m ≠ ts.slot u) : Off U ts (putT (mvAll ms ts) d v) := by
 intro k hk
 have h3 : (mvAll ms ts).get? k = ts.get? k := mvAll_ne fun m hm => h2 m hm k hk
 cases d with
 | none => exact h3.symm
 | some d =>
   have : (mvAll ms ts).slot d ≠ (mvAll ms ts).slot k := by
     rw [(mvAll_sh ms ts).slot, (mvAll_sh ms ts).slot]; exact dstOff_ne h1 hk
   simp only [putT]
   rw [Ts.get?_set_ne this, h3]
theorem put_comm {ts : Ts} {mi mj : List Nat} {di dj : Option Nat} {vi vj : IVal} (h0 : dstNe ts.slot di dj = true) (h1 : ∀ k, di = some k -> ∀ m ∈ mj, ts.slot k ≠ ts.slot m) (h2 : ∀ k, dj = some k -> ∀ m ∈ mi, ts.slot k ≠ ts.slot m)
   (h3 : ∀ k ∈ mi, ∀ m ∈ mj, ts.slot k ≠ ts.slot m) :
   putT (mvAll mi (putT (mvAll mj ts) dj vj)) di vi = putT (mvAll mj (putT (mvAll mi ts) di vi)) dj vj := by
 have e1 : mvAll mi (putT (mvAll mj ts) dj vj) = putT (mvAll mi (mvAll mj ts)) dj vj := by
   cases dj with
   | none => rfl
   | some k => exact mvAll_set fun m hm => by rw [(mvAll_sh mj ts).slot, (mvAll_sh mj ts).slot]; exact h2 k rfl m hm
 have e2 : mvAll mj (putT (mvAll mi ts) di vi) = putT (mvAll mj (mvAll mi ts)) di vi := by
   cases di with
   | none => rfl
   | some k => exact mvAll_set fun m hm => by rw [(mvAll_sh mi ts).slot, (mvAll_sh mi ts).slot]; exact h1 k rfl m hm
 rw [e1, e2, mvAll_mvAll h3]
 cases di with
 | none => rfl
 | some a => cases dj with
   | none => rfl
   | some b =>
     simp only [putT]
     refine Ts.set_comm ?_
     rw [(mvAll_sh mi _).slot, (mvAll_sh mi _).slot, (mvAll_sh mj _).slot, (mvAll_sh mj _).slot]
     exact Ne.symm (dstNe_ne h0)
theorem okPair_spec {x y : DLog} {σ σ' : List IObj} (h : okPair x y = true) (hl : y.len <= σ.length) (hs : Same σ σ' y.wr) : ∀ id, x.rd = some id -> σ'[id]? = σ[id]? := by
 intro id hid
 unfold okPair at h
 rw [hid] at h
 simp only [zA, decide_eq_true_eq, List.all_eq_true] at h
 refine hs id (by omega) fun p hp e => ?_
 have := h.2 p hp
 simp [e] at this
theorem stepD_sh {cf : CallF} {o : IOper} (hd : drawable o.op = true) {s s1 : St} {l : DLog} (h : stepD cf o s = some (s1, l)) : SameSh s.ts s1.ts := by
 obtain ⟨v, ms, -, e, -⟩ := stepD_ts hd h
 rw [e]
 exact (mvAll_sh _ _).trans .put
theorem stepD_swap {cf : CallF} (hcf : CfSame cf) {i j : IOper} {s s1 s2 : St} (hi : indep s.ts.slot i j = true) {li lj : DLog} (h1 : stepD cf i s = some (s1, li)) (h2 : stepD cf j s1 = some (s2, lj))
   (hp1 : quiet i.op = true -> quiet j.op = false -> okPair li lj = true) (hp2 : quiet j.op = true -> quiet i.op = false -> okPair lj li = true) :
   ∃ t1 t2, stepD cf j s = some (t1, lj) /\ stepD cf i t1 = some (t2, li) /\ t2.ts = s2.ts /\ t2.σ = s2.σ := by
 simp only [indep, zA, List.all_eq_true] at hi
 obtain ⟨⟨di, dj⟩, hq, hne, ⟨hdi, hdj⟩, hmi, hmj⟩ := hi
 obtain ⟨vi, mi, ki, ei, wi, Ti⟩ := stepD_ts di h1
 obtain ⟨vj, mj, kj, ej, wj, Tj⟩ := stepD_ts dj h2
 have hmi' : ∀ m ∈ mi, ∀ u ∈ usesOf j, s.ts.slot m ≠ s.ts.slot u := fun m hm u hu => dstOff_ne (hmi m (ki m hm)) hu
 have hmj' : ∀ m ∈ mj, ∀ u ∈ usesOf i, s.ts.slot m ≠ s.ts.slot u := fun m hm u hu => dstOff_ne (hmj m (kj m hm)) hu
 have offj : Off (usesOf j) s1.ts s.ts := by rw [ei]; exact (off_put hdi hmi').symm
 have offi : Off (usesOf i) s.ts (putT (mvAll mj s.ts) j.dst vj) := off_put hdj hmj'
 have hts : putT (mvAll mi (putT (mvAll mj s.ts) j.dst vj)) i.dst vi = s2.ts := by
   rw [ej, ei]
   refine put_comm hne (fun k hk m hm => ?_) (fun k hk m hm => ?_) (fun k hk m hm => hmi' k hk m (movesOf_sub (kj m hm)))
   . rw [hk] at hdi; exact dstOff_ne hdi (movesOf_sub (kj m hm))
   . rw [hk] at hdj; exact dstOff_ne hdj (movesOf_sub (ki m hm))
 have hj := Tj s.ts s.wr offj
 by_cases qi : quiet i.op = true
 . obtain ⟨a1, a2, a3⟩ := stepD_quiet qi h1
   rw [a1] at hj
   have hi2 := Ti _ (lj.wr ++ s.wr) offi
   have hrd : ∀ id, li.rd = some id -> s2.σ[id]? = s.σ[id]? := by
     by_cases qj : quiet j.op = true
     . intro id _; rw [(stepD_quiet qj h2).1, a1]
     . have := okPair_spec (σ := s1.σ) (σ' := s2.σ) (hp1 qi (by simpa using qj)) (stepD_len h2) (stepD_chg hcf h2).2
       intro id hid; rw [this id hid, a1]
   obtain ⟨-, -, b3⟩ := stepD_quiet qi hi2
   have hi3 := b3 s2.σ hrd
   exact ⟨_, _, hj, hi3, hts, rfl⟩
 . have qj : quiet j.op = true := by simpa [qi] using hq
   obtain ⟨a1, a2, a3⟩ := stepD_quiet qj hj
   have hrd := okPair_spec (σ := s.σ) (σ' := s1.σ) (hp2 qj (by simpa using qi)) (stepD_len h1) (stepD_chg hcf h1).2
   have hj2 := a3 s.σ (fun id hid => (hrd id hid).symm)
   have hi2 := Ti _ (lj.wr ++ s.wr) offi
   refine ⟨_, _, hj2, hi2, hts, ?_⟩
   exact ((stepD_quiet qj h2).1).symm
theorem stepD_wr {cf : CallF} {o : IOper} {s s1 t : St} {l : DLog} (h : stepD cf o s = some (s1, l)) (h1 : t.ts = s.ts) (h2 : t.σ = s.σ) : ∃ t1, stepD cf o t = some (t1, l) /\ t1.ts = s1.ts /\ t1.σ = s1.σ := by
 have hrd : rdOf o.op t = rdOf o.op s := by cases ho : o.op <;> simp [rdOf, h1]
 have hnr : noRs o.op t = noRs o.op s := by cases ho : o.op <;> simp [noRs, h1]
 have hst : ({ t with wr := [] } : St) = { s with wr := [] } := by cases t; cases s; simp_all
 have hd : stepD cf o t = match stepD cf o s with
     | some (s1, l) => some ({ s1 with wr := l.wr ++ t.wr }, l)
     | none => none := by
   simp only [stepD, hrd, hnr, hst, h1, h2]
   rcases wantedI o.guard s.ts with _ | _ | _
   . rfl
   . rfl
   ·
     cases noRs o.op s with
     | false => rfl
     | true =>
       cases getAll (opdsOf o.op) s.ts with
       | none => rfl
       | some p =>
         simp only [if_true]
         cases stepOp cf o.op { s with wr := [] } with
         | none => rfl
         | some r =>
           obtain ⟨pan, v, s'⟩ := r
           cases pan <;> rfl
 rw [h] at hd
 exact ⟨_, hd, rfl, rfl⟩
theorem runDraw_wr {cf : CallF} : ∀ {l : List (Nat × IOper)} {s s' t : St} {ls : List (Nat × DLog)}, runDraw cf l s = some (s', ls) -> t.ts = s.ts -> t.σ = s.σ -> ∃ t', runDraw cf l t = some (t', ls) /\ t'.ts = s'.ts /\ t'.σ = s'.σ := by
 intro l
 induction l with
 | nil => intro s s' t ls h h1 h2; simp [runDraw] at h; obtain ⟨rfl, rfl⟩ := h; exact ⟨t, rfl, h1, h2⟩
 | cons o os ih =>
   intro s s' t ls h h1 h2
   simp only [runDraw] at h
   split at h
   . rename_i s1 lg e1
     split at h
     . rename_i s2 ls2 e2
       simp only [zO, zP] at h
       obtain ⟨rfl, rfl⟩ := h
       obtain ⟨t1, f1, f2, f3⟩ := stepD_wr e1 h1 h2
       obtain ⟨t2, g1, g2, g3⟩ := ih e2 f2 f3
       exact ⟨t2, by simp [runDraw, f1, g1], g2, g3⟩
     . cases h
   . cases h
theorem runDraw_cons {cf : CallF} {o : Nat × IOper} {os : List (Nat × IOper)} {s s' : St} {ls : List (Nat × DLog)} : runDraw cf (o :: os) s = some (s', ls) ↔ ∃ s1 l ls1, stepD cf o.2 s = some (s1, l) /\ runDraw cf os s1 = some (s', ls1) /\ ls = (o.1, l) :: ls1 := by
 constructor
 . intro h
   simp only [runDraw] at h
   split at h
   . rename_i s1 lg e1
     split at h
     . rename_i s2 ls2 e2
       simp only [zO, zP] at h
       obtain ⟨rfl, rfl⟩ := h
       exact ⟨s1, lg, ls2, e1, e2, rfl⟩
     . cases h
   . cases h
 . rintro ⟨s1, l, ls1, h1, h2, rfl⟩
   simp [runDraw, h1, h2]
def PairsP (pairs : List (Nat × Nat)) (ls : List (Nat × DLog)) : Prop := ∀ x ∈ ls, ∀ y ∈ ls, (x.1, y.1) ∈ pairs -> okPair x.2 y.2 = true
theorem pairsP_of {pairs : List (Nat × Nat)} {ls : List (Nat × DLog)} (h : pairsOK pairs ls = true) : PairsP pairs ls := by
 intro x hx y hy hp
 simp only [pairsOK, List.all_eq_true] at h
 have h1 := h _ hp x hx
 simp only [bne_self_eq_false, Bool.false_or, List.all_eq_true] at h1
 have h2 := h1 y hy
 simpa using h2
def freePair (sl : Nat -> Nat) (pairs : List (Nat × Nat)) (p q : Nat × IOper) : Bool :=
 indep sl p.2 q.2 && ((!(quiet p.2.op && mayRead p.2.op) || (quiet q.2.op || pairs.contains (p.1, q.1))) && (!(quiet q.2.op && mayRead q.2.op) || (quiet p.2.op || pairs.contains (q.1, p.1))))
theorem freePair_dyn {cf : CallF} {pairs : List (Nat × Nat)} {sl : Nat -> Nat} {p q : Nat × IOper} (h : freePair sl pairs p q = true) {s1 s2 t1 t2 : St} {lp lq : DLog} (hp : stepD cf p.2 s1 = some (t1, lp)) (hq : stepD cf q.2 s2 = some (t2, lq))
   {ls : List (Nat × DLog)} (hP : PairsP pairs ls) (mp : (p.1, lp) ∈ ls) (mq : (q.1, lq) ∈ ls) :
   (quiet p.2.op = true -> quiet q.2.op = false -> okPair lp lq = true) /\ (quiet q.2.op = true -> quiet p.2.op = false -> okPair lq lp = true) := by
 simp only [freePair, zA] at h
 obtain ⟨-, h1, h2⟩ := h
 constructor
 . intro a b
   by_cases hr : mayRead p.2.op = true
   . simp [a, b, hr] at h1; exact hP _ mp _ mq h1
   . have := stepD_rd (by simpa using hr) hp; simp [okPair, this]
 . intro a b
   by_cases hr : mayRead q.2.op = true
   . simp [a, b, hr] at h2; exact hP _ mq _ mp h2
   . have := stepD_rd (by simpa using hr) hq; simp [okPair, this]
theorem runDraw_front {cf : CallF} (hcf : CfSame cf) {pairs : List (Nat × Nat)} {i : Nat × IOper} {post : List (Nat × IOper)} : ∀ {pre : List (Nat × IOper)} {s s' : St} {ls : List (Nat × DLog)}, (∀ p ∈ pre, freePair s.ts.slot pairs p i = true) -> PairsP pairs ls ->
   runDraw cf (pre ++ i :: post) s = some (s', ls) -> ∃ s'' ls', runDraw cf (i :: (pre ++ post)) s = some (s'', ls') /\ s''.ts = s'.ts /\ s''.σ = s'.σ /\ ls'.Perm ls := by
 intro pre
 induction pre with
 | nil => intro s s' ls _ _ h; exact ⟨s', ls, h, rfl, rfl, .refl _⟩
 | cons p pre ih =>
   intro s s' ls hf hP h
   simp only [List.cons_append] at h
   obtain ⟨s1, lp, ls1, e1, e2, rfl⟩ := runDraw_cons.1 h
   have hP1 : PairsP pairs ls1 := fun x hx y hy => hP x (by simp [hx]) y (by simp [hy])
   have hfp := hf p (by simp)
   have hdp : drawable p.2.op = true := by
     simp only [freePair, indep, zA] at hfp
     exact hfp.1.1.1
   have hsl : s1.ts.slot = s.ts.slot := funext fun k => (stepD_sh hdp e1).slot k
   obtain ⟨s2, ls2, f1, f2, f3, f4⟩ := ih (fun q hq => by rw [hsl]; exact hf q (by simp [hq])) hP1 e2
   obtain ⟨s3, li, ls3, g1, g2, rfl⟩ := runDraw_cons.1 f1
   have mi : (i.1, li) ∈ (p.1, lp) :: ls1 := List.mem_cons_of_mem _ (f4.subset (by simp))
   obtain ⟨d1, d2⟩ := freePair_dyn (hf p (by simp)) e1 g1 hP (by simp) mi
   have hind : indep s.ts.slot p.2 i.2 = true := by
     have := hf p (by simp)
     simp only [freePair, zA] at this
     exact this.1
   obtain ⟨t1, t2, k1, k2, k3, k4⟩ := stepD_swap hcf hind e1 g1 d1 d2
   obtain ⟨t3, m1, m2, m3⟩ := runDraw_wr (t := t2) g2 k3 k4
   refine ⟨t3, (i.1, li) :: (p.1, lp) :: ls3, ?_, m2.trans f2, m3.trans f3, ?_⟩
   . refine runDraw_cons.2 ⟨t1, li, (p.1, lp) :: ls3, k1, ?_, rfl⟩
     exact runDraw_cons.2 ⟨t2, lp, ls3, k2, m1, rfl⟩
   . exact (List.Perm.swap _ _ _).trans (f4.cons _)
end Go.Idl
namespace Go.Idl
variable [Globs] [Base]
variable {C0 : CRel} {P : Program} {a : Act} {g : Gh} {O : List Nat} {w : World} {s : St} {cf : CallF}
def deps (o : Oper) : List Nat := (o.after.toList.filter (Region.binds .any)).map (·.on)
def depsAt (ops : Array Oper) (k : Nat) : List Nat := match ops[k]? with
 | some o => deps o
 | none => []
def ancs : List Oper -> List (List Nat) -> List (List Nat)
 | [], A => A
 | o :: os, A => ancs os (A ++ [(deps o ++ (deps o).flatMap fun d => A.getD d []).eraseDups])
def DC (ops : Array Oper) (L : Nat -> Prop) : Prop := ∀ k, L k -> ∀ d ∈ depsAt ops k, L d
def Anc (ops : Array Oper) (A : List (List Nat)) : Prop := ∀ q as, A[q]? = some as -> ∀ L : Nat -> Prop, DC ops L -> (∀ d ∈ depsAt ops q, L d) -> ∀ p ∈ as, L p
theorem mem_eraseDups {l : List Nat} {x : Nat} (h : x ∈ l.eraseDups) : x ∈ l := by
 simpa using h
theorem ancs_anc {ops : Array Oper} : ∀ {os pre : List Oper} {A : List (List Nat)}, ops.toList = pre ++ os -> A.length = pre.length -> Anc ops A -> Anc ops (ancs os A) := by
 intro os
 induction os with
 | nil => intro pre A _ _ h; exact h
 | cons o os ih =>
   intro pre A ho hl hA
   refine ih (pre := pre ++ [o]) (by rw [ho]; simp) (by simp [hl]) ?_
   intro q as hq L hL hd p hp
   by_cases hlt : q < A.length
   . rw [zL hlt] at hq
     exact hA q as hq L hL hd p hp
   . have hqe : q = A.length := by
       have h1 := lt_of_get hq
       simp at h1; omega
     subst hqe
     simp only [List.getElem?_concat_length, zO] at hq
     subst hq
     have hat : depsAt ops A.length = deps o := by
       have : ops[A.length]? = some o := by rw [<- Array.getElem?_toList, ho, hl]; simp
       simp [depsAt, this]
     rw [hat] at hd
     have hp := mem_eraseDups hp
     rcases List.mem_append.1 hp with hp | hp
     . exact hd p hp
     . obtain ⟨d, hdm, hpd⟩ := List.mem_flatMap.1 hp
       rw [List.getD_eq_getElem?_getD] at hpd
       cases hAd : A[d]? with
       | none => rw [hAd] at hpd; cases hpd
       | some bs =>
         rw [hAd] at hpd
         exact hA d bs hAd L hL (fun e he => hL d (hd d hdm) e he) p hpd
def pwB {α : Type} (r : α -> α -> Bool) : List α -> Bool
 | [] => true
 | x :: xs => xs.all (r x) && pwB r xs
theorem pwB_spec {α : Type} {r : α -> α -> Bool} : ∀ {l : List α}, pwB r l = true -> l.Pairwise (fun x y => r x y = true) := by
 intro l
 induction l with
 | nil => intro _; exact .nil
 | cons x xs ih =>
   intro h
   simp only [pwB, zA, List.all_eq_true] at h
   exact .cons h.1 (ih h.2)
def drawOK (P : Program) (z : Shape) (ops : Array Oper) (l : List (Nat × IOper)) (pairs : List (Nat × Nat)) : Bool :=
 (l.map (·.1) == List.range ops.size) && ((l.all fun p => match ops[p.1]? with
   | some o => operOK P ops o p.2 && (deps o).all (fun d => decide (d < p.1))
   | none => false) && (dstsOK z.n (l.map (·.2)) && pwB (fun p q => ((ancs ops.toList []).getD q.1 []).contains p.1 || freePair z.slot pairs p q) l))
theorem stepD_sim {ρ : Option Nat} {n i : Nat} {z : Shape} {ops : Array Oper} {Q : Exit -> Act -> World -> Prop} {K : Act -> World -> Prop} (hcf : CallOK P C0 cf) {o : Oper} {io : IOper} {s1 : St} {l : DLog} (ho : ops[i]? = some o) (hok : operOK P ops o io = true)
   (hds : ∀ d, io.dst = some d -> d < z.n) (hrun : stepD cf io s = some (s1, l)) (hst : Stand C0 z g O s a w)
   (hK : ∀ g' O' a' w', Goes g O s w g' O' s1 w' -> Stand C0 z g' O' s1 a' w' -> K a' w') : wpOpIn (WF ρ) n P ops Q i K a w := by
 obtain ⟨iod, iop, iog⟩ := io
 simp only [operOK, zA] at hok
 obtain ⟨⟨hop, hdst⟩, hgd⟩ := hok
 have hdst := eq_of_beq hdst
 subst hdst
 simp only [wpOpIn, ho]
 simp only [stepD] at hrun
 split at hrun
 . rename_i hwi
   rw [if_pos (wanted_sim (o := o) (io := ⟨o.dst, iop, iog⟩) hgd hst hwi)]
   split at hrun
   . split at hrun
     . split at hrun
       . rename_i v s' hstep
         simp only [zO, zP] at hrun
         obtain ⟨rfl, rfl⟩ := hrun
         refine op_res hcf hst.code hop (s := { s with wr := [] }) hstep hst.len hst.rel ρ n _ Q (fun _ v' w' hp => ?_) (fun h => by cases h)
         obtain ⟨g1, O1, wn, hg, hR, hl, hwr, hk⟩ := hp
         have hsh := SameSh.step hstep
         have hst1 := put_stand (N := z) (d := o.dst) (s := s') hR hl (by rw [hsh.2.2]; exact hst.defs.mono hg.pre) hst.size ⟨hsh.1.trans hst.sh.1, hsh.2.1.trans hst.sh.2⟩ (hg.code.trans hst.code) hds
         simp only [List.append_nil] at hwr
         exact hK g1 O1 _ w' ⟨hg, ⟨s'.wr, rfl, by rw [hwr]; exact hk⟩⟩ ⟨hst1.rel, hst1.len, hst1.defs, hst1.size, hst1.sh, hst1.code⟩
       . cases hrun
     . cases hrun
   . cases hrun
 . rename_i hwi
   rw [if_neg (by rw [wanted_sim (o := o) (io := ⟨o.dst, iop, iog⟩) hgd hst hwi]; simp)]
   simp only [zO, zP] at hrun
   obtain ⟨rfl, rfl⟩ := hrun
   have hR : R g O ((undefI, undef) :: s.ts.roots a.tmps) s.σ w := hst.rel.push (undef_V g) rfl
   have hst1 := put_stand (N := z) (d := o.dst) (s := s) hR hst.len hst.defs hst.size hst.sh hst.code hds
   exact ⟨fun _ _ => trivial, hK g O _ w ⟨.refl O g w, ⟨[], rfl, .refl _⟩⟩ hst1⟩
 . cases hrun
structure Reg (P : Program) (z : Shape) (ops : Array Oper) (l : List (Nat × IOper)) (pairs : List (Nat × Nat)) : Prop where
 idx : l.map (·.1) = List.range ops.size
 ok : ∀ p ∈ l, ∃ o, ops[p.1]? = some o /\ operOK P ops o p.2 = true /\ ∀ d ∈ deps o, d < p.1
 free : l.Pairwise fun p q => (∀ L : Nat -> Prop, DC ops L -> (∀ d ∈ depsAt ops q.1, L d) -> L p.1) \/ freePair z.slot pairs p q = true
theorem reg_of {n : Shape} {ops : Array Oper} {l : List (Nat × IOper)} {pairs : List (Nat × Nat)} (h : drawOK P n ops l pairs = true) : Reg P n ops l pairs /\ dstsOK n.n (l.map (·.2)) = true := by
 simp only [drawOK, zA] at h
 obtain ⟨h1, h2, h3, h4⟩ := h
 refine ⟨⟨eq_of_beq h1, fun p hp => ?_, (pwB_spec h4).imp fun {p q} hpq => ?_⟩, h3⟩
 . have := List.all_eq_true.1 h2 p hp
   split at this
   . rename_i o ho
     simp only [zA, List.all_eq_true, decide_eq_true_eq] at this
     exact ⟨o, ho, this.1, this.2⟩
   . cases this
 . simp only [Bool.or_eq_true] at hpq
   rcases hpq with hpq | hpq
   . left
     intro L hL hd
     have hA : Anc ops (ancs ops.toList []) := ancs_anc (pre := []) (by simp) rfl (fun q as hq => by simp at hq)
     cases hAq : (ancs ops.toList [])[q.1]? with
     | none => simp [List.getD_eq_getElem?_getD, hAq] at hpq
     | some as =>
       simp only [List.getD_eq_getElem?_getD, hAq, Option.getD_some, List.contains_iff_mem] at hpq
       exact hA q.1 as hAq L hL hd p.1 hpq
   . exact .inr hpq
theorem any_sim {ρ : Option Nat} {n : Nat} {z : Shape} {ops : Array Oper} {l : List (Nat × IOper)} {pairs : List (Nat × Nat)} {Q : Exit -> Act -> World -> Prop} (hcf : CallOK P C0 cf) (hcs : CfSame cf) (hreg : Reg P z ops l pairs) :
   ∀ (fuel : Nat) (rem : List (Nat × IOper)) (listed : Array Bool) (g : Gh) (O : List Nat) (s s' : St) (ls : List (Nat × DLog)) (a : Act) (w : World),
     rem.Sublist l -> listed.size = ops.size -> (∀ k, k < ops.size -> (listed.getD k true = false ↔ k ∈ rem.map (·.1))) -> DC ops (fun k => listed.getD k false = true) -> rem.length <= fuel ->
     dstsOK z.n (l.map (·.2)) = true -> runDraw cf rem s = some (s', ls) -> PairsP pairs ls -> Stand C0 z g O s a w ->
     (∀ g' O' t' a' w', t'.ts = s'.ts -> t'.σ = s'.σ -> (∃ wn, t'.wr = wn ++ s.wr /\ ∀ p ∈ wn, ∃ x ∈ ls, p ∈ x.2.wr) -> Goes g O s w g' O' t' w' -> Stand C0 z g' O' t' a' w' -> Q .normal a' w') ->
     wpAnyIn (WF ρ) n P .any ops Q fuel listed a w := by
 have hlt : ∀ p ∈ l, p.1 < ops.size := fun p hp => by
   obtain ⟨o, ho, -⟩ := hreg.ok p hp
   exact (Array.getElem?_eq_some_iff.1 ho).1
 have hunl : ∀ {rem : List (Nat × IOper)} {listed : Array Bool} {k : Nat}, listed.size = ops.size -> (∀ k, k < ops.size -> (listed.getD k true = false ↔ k ∈ rem.map (·.1))) -> k ∈ Region.ready .any ops listed -> k ∈ rem.map (·.1) := by
   intro rem listed k hsz hlist hk
   obtain ⟨h1, o, h2, -⟩ := mem_ready.1 hk
   exact (hlist k (Array.getElem?_eq_some_iff.1 h2).1).1 h1
 have hnil : ∀ {listed : Array Bool} {fuel : Nat} {a : Act} {w : World}, listed.size = ops.size -> (∀ k, k < ops.size -> (listed.getD k true = false ↔ k ∈ ([] : List (Nat × IOper)).map (·.1))) -> Q .normal a w -> wpAnyIn (WF ρ) n P .any ops Q fuel listed a w := by
   intro listed fuel a w hsz hlist hq
   refine wpAnyIn_done ?_ hq fuel
   exact List.eq_nil_iff_forall_not_mem.2 fun k hk => by have := hunl hsz hlist hk; cases this
 intro fuel
 induction fuel with
 | zero =>
   intro rem listed g O s s' ls a w hsub hsz hlist hdc hlen hds hrun hP hst hQ
   have : rem = [] := List.eq_nil_of_length_eq_zero (by omega)
   subst this
   simp [runDraw] at hrun
   obtain ⟨rfl, rfl⟩ := hrun
   exact hnil hsz hlist (hQ g O s a w rfl rfl ⟨[], rfl, fun p hp => by cases hp⟩ (.refl _ _ _ _) hst)
 | succ fuel ih =>
   intro rem listed g O s s' ls a w hsub hsz hlist hdc hlen hds hrun hP hst hQ
   cases rem with
   | nil =>
     simp [runDraw] at hrun
     obtain ⟨rfl, rfl⟩ := hrun
     exact hnil hsz hlist (hQ g O s a w rfl rfl ⟨[], rfl, fun p hp => by cases hp⟩ (.refl _ _ _ _) hst)
   | cons hd tl =>
     generalize hrem : hd :: tl = rem at *
     have hsort : (rem.map (·.1)).Pairwise (· < ·) := by
       refine List.Pairwise.sublist (hsub.map _) ?_
       rw [hreg.idx]; exact List.pairwise_lt_range
     have hnd : (rem.map (·.1)).Nodup := hsort.imp fun h => by omega
     refine ⟨fun hr => ?_, fun i hi => ?_⟩
     . -- the first one is ready
       exfalso
       have hmem : hd ∈ rem := by rw [<- hrem]; simp
       have hml := hsub.subset hmem
       obtain ⟨o, ho, -, hdeps⟩ := hreg.ok hd hml
       have hready : hd.1 ∈ Region.ready .any ops listed := by
         rw [mem_ready]
         refine ⟨(hlist hd.1 (hlt hd hml)).2 (List.mem_map_of_mem hmem), o, ho, fun e he hb => ?_⟩
         have hde : e.on ∈ deps o := List.mem_map.2 ⟨e, List.mem_filter.2 ⟨by simpa using he, hb⟩, rfl⟩
         have h1 := hdeps _ hde
         have h2 : e.on < ops.size := Nat.lt_trans h1 (hlt hd hml)
         have h3 : e.on ∉ rem.map (·.1) := by
           intro hm
           rw [<- hrem] at hm hsort
           simp only [List.map_cons, List.mem_cons] at hm
           rcases hm with hm | hm
           . omega
           . have := List.rel_of_pairwise_cons hsort hm
             simp only at this; omega
         have h4 : ¬ (listed.getD e.on true = false) := fun h => h3 ((hlist _ h2).1 h)
         have h5 : e.on < listed.size := by omega
         simp [h5] at h4 ⊢
         exact h4
       rw [hr] at hready
       cases hready
     . have him := hunl hsz hlist hi
       obtain ⟨⟨i0, io⟩, hio, hie⟩ := List.mem_map.1 him
       simp only at hie
       subst hie
       obtain ⟨pre, post, hsplit⟩ := List.append_of_mem hio
       obtain ⟨-, o', ho', hafter⟩ := mem_ready.1 hi
       obtain ⟨o, ho, hok, hdeps⟩ := hreg.ok _ (hsub.subset hio)
       simp only at ho
       have : o' = o := by rw [ho] at ho'; exact (Option.some.inj ho').symm
       subst this
       have hL : ∀ d ∈ depsAt ops i0, listed.getD d false = true := by
         intro d hd0
         simp only [depsAt, ho, deps, List.mem_map, List.mem_filter] at hd0
         obtain ⟨e, ⟨he, hb⟩, rfl⟩ := hd0
         exact hafter e (by simpa using he) hb
       have hfree : ∀ p ∈ pre, freePair s.ts.slot pairs p (i0, io) = true := by
         intro p hp
         have hsl : s.ts.slot = z.slot := funext fun k => by simp only [Ts.slot, Shape.slot, hst.sh.1, hst.sh.2]
         rw [hsl]
         have hpw : rem.Pairwise _ := List.Pairwise.sublist hsub hreg.free
         rw [hsplit, List.pairwise_append] at hpw
         rcases hpw.2.2 p hp (i0, io) (by simp) with h1 | h1
         . have h2 := h1 (fun k => listed.getD k false = true) hdc hL
           have hpm : p.1 ∈ rem.map (·.1) := by rw [hsplit]; simp; exact .inl ⟨_, hp⟩
           have hpl : p ∈ l := hsub.subset (by rw [hsplit]; simp [hp])
           have h3 := (hlist p.1 (hlt p hpl)).2 hpm
           have h4 : p.1 < listed.size := by rw [hsz]; exact hlt p hpl
           simp [h4] at h2 h3
           rw [h2] at h3; cases h3
         . exact h1
       rw [hsplit] at hrun
       obtain ⟨s'', ls', hrun', e1, e2, hperm⟩ := runDraw_front hcs hfree hP hrun
       obtain ⟨s1, li, ls1, hstep, hrest, rfl⟩ := runDraw_cons.1 hrun'
       have hio_l := hsub.subset hio
       have hds0 : ∀ d, io.dst = some d -> d < z.n := by
         intro d hd0
         have := List.all_eq_true.1 hds io (List.mem_map.2 ⟨_, hio_l, rfl⟩)
         rw [hd0] at this
         simpa using this
       refine stepD_sim hcf ho hok hds0 hstep hst fun g1 O1 a1 w1 hgo hst1 => ?_
       have hilt : i0 < listed.size := by rw [hsz]; exact hlt _ hio_l
       rw [hsplit] at hnd
       simp only [List.map_append, List.map_cons] at hnd
       have hni : i0 ∉ (pre ++ post).map (·.1) := by
         have := (List.perm_middle (a := i0) (l₁ := pre.map (·.1)) (l₂ := post.map (·.1))).nodup_iff.1 hnd
         simpa using (List.nodup_cons.1 this).1
       refine ih (pre ++ post) _ g1 O1 s1 s'' ls1 a1 w1 ?_ (by simp [hsz]) ?_ ?_ ?_ ?_ hrest ?_ hst1 ?_
       . refine List.Sublist.trans ?_ hsub
         rw [hsplit]; exact List.Sublist.append_left (List.sublist_cons_self _ _) _
       . intro k hk
         by_cases hki : i0 = k
         . subst hki
           simp only [hni, iff_false]
           simp [hilt]
         . rw [getD_set_ne true hki, hlist k hk, hsplit]
           simp only [List.map_append, List.map_cons, List.mem_append, List.mem_cons]
           constructor
           . rintro (h | h | h)
             . exact .inl h
             . exact absurd h.symm hki
             . exact .inr h
           . rintro (h | h)
             . exact .inl h
             . exact .inr (.inr h)
       . intro k hk d hd0
         by_cases hki : i0 = k
         . subst hki; exact getD_set_true (hL d hd0)
         . simp only [getD_set_ne false hki] at hk
           exact getD_set_true (hdc k hk d hd0)
       . have : rem.length = (pre ++ post).length + 1 := by rw [hsplit]; simp; omega
         omega
       . exact hds
       . intro x hx y hy
         exact hP x (hperm.subset (by simp [hx])) y (hperm.subset (by simp [hy]))
       . intro g' O' t' a' w' q1 q2 ⟨wn, q3, q4⟩ q5 q6
         refine hQ g' O' t' a' w' (q1.trans e1) (q2.trans e2) ⟨wn ++ li.wr, ?_, fun p hp => ?_⟩ (hgo.trans q5) q6
         . rw [q3, (stepD_chg hcs hstep).1, zS]
         . rcases List.mem_append.1 hp with hp | hp
           . obtain ⟨x, hx, hpx⟩ := q4 p hp
             exact ⟨x, hperm.subset (by simp [hx]), hpx⟩
           . exact ⟨(i0, li), hperm.subset (by simp), hp⟩
theorem runDraw_wrs (hcs : CfSame cf) : ∀ {l : List (Nat × IOper)} {s s' : St} {ls : List (Nat × DLog)}, runDraw cf l s = some (s', ls) -> ∃ wn, s'.wr = wn ++ s.wr /\ ∀ x ∈ ls, ∀ p ∈ x.2.wr, p ∈ wn := by
 intro l
 induction l with
 | nil => intro s s' ls h; simp [runDraw] at h; obtain ⟨rfl, rfl⟩ := h; exact ⟨[], rfl, fun x hx => by cases hx⟩
 | cons o os ih =>
   intro s s' ls h
   obtain ⟨s1, li, ls1, h1, h2, rfl⟩ := runDraw_cons.1 h
   obtain ⟨wn, h3, h4⟩ := ih h2
   refine ⟨wn ++ li.wr, by rw [h3, (stepD_chg hcs h1).1, zS], fun x hx p hp => ?_⟩
   rcases List.mem_cons.1 hx with rfl | hx
   . exact List.mem_append_right _ hp
   . exact List.mem_append_left _ (h4 x hx p hp)
theorem R.drawn {l : Roots} {σ : List IObj} (h : R g O l σ w) (k : Nat) : R g O l σ { w with drawn := k } :=
 ⟨h.len, h.vals, h.objs, h.nodup, h.sub, h.lt, h.claim, h.apart, h.spare, h.glob, h.zs⟩
theorem Grow.drawn {g' : Gh} {O' : List Nat} {w' : World} {k : Nat} (h : Grow O g { w with drawn := k } O' g' w') : Grow O g w O' g' w' :=
 ⟨h.size, h.same, h.mono, h.pre, h.fresh, h.code, h.os, h.tape, h.output, h.zm⟩
theorem draw_sim {ρ : Option Nat} {n id : Nat} {m : Shape} {ops : Array Oper} {l : List (Nat × IOper)} {pairs : List (Nat × Nat)} {Q : Exit -> Act -> World -> Prop} {s' : St} {ls : List (Nat × DLog)} (hmx : P.follows .mixedOrders = true) (hcf : CallOK P C0 cf) (hcs : CfSame cf)
   (hok : drawOK P m ops l pairs = true) (hrun : runDraw cf l s = some (s', ls)) (hP : pairsOK pairs ls = true) (hst : Stand C0 m g O s a w) (haft : After C0 m g O s w .normal s' Q) :
   (Code.region id ops true).wpIn (WF ρ) n P Q a w := by
 obtain ⟨hreg, hds⟩ := reg_of hok
 have hlen : l.length = ops.size := by have := congrArg List.length hreg.idx; simpa using this
 refine wpIn_region_any hmx (any_sim hcf hcs hreg ops.size l _ g O s s' ls a _ (.refl _) (by simp) ?_ ?_ (by omega) ?_ hrun (pairsP_of hP) ?_ ?_)
 . intro k hk
   rw [hreg.idx]
   simp [hk]
 . intro k hk
   exfalso
   simp only [Array.getD_eq_getD_getElem?, Array.getElem?_replicate] at hk
   split at hk <;> simp at hk
 . exact hds
 . exact ⟨hst.rel.drawn _, hst.len, hst.defs, hst.size, hst.sh, hst.code⟩
 . intro g' O' t' a' w' q1 q2 ⟨wn, q3, q4⟩ q5 q6
   obtain ⟨wt, r1, r2⟩ := runDraw_wrs hcs hrun
   obtain ⟨wk, k1, k2⟩ := q5.keep
   have e : wk = wn := by
     have := k1.symm.trans q3
     exact List.append_cancel_right this
   subst e
   refine haft.1 _ g' O' a' w' rfl ⟨q5.grow.drawn, ⟨wt, r1, ?_⟩⟩ ⟨by rw [<- q1, <- q2]; exact q6.rel, by rw [<- q1]; exact q6.len, by rw [<- q1]; exact q6.defs, q6.size, by rw [<- q1]; exact q6.sh, q6.code⟩
   rw [<- q2]
   refine ⟨k2.1, fun n hn hw ho => k2.2 n hn (fun p hp hp2 => ?_) ho⟩
   obtain ⟨x, hx, hpx⟩ := q4 p hp
   exact hw p (r2 x hx p hpx) hp2
end Go.Idl
