/-
  Slices of slices; aggregates.
-/
import Derived.Test.YtkjcgfadojfeeaaIdlOpsE
set_option linter.unusedSectionVars false
set_option linter.unusedVariables false
set_option linter.unusedSimpArgs false
namespace Go.Idl
variable [Globs]

variable {P : Program} {o : Oper} {a : Act} {g : Gh} {O : List Nat} {w : World} {s : St} {res : Res} {cf : CallF}

theorem run_slice_slice {T E : TypeId} {i : TypeInfo} {ad : Option Addr} {len cap l h m : Nat} {lo hi mx : Option Value} (hT : P.underlying T = some (.slice E)) (hE : P.info? E = some i)
    (hb : (Instr.sliceBounds true len cap lo hi mx).run P w = .ok (l, h, m) w) :
    (Instr.sliceAt T (.slice ad len cap) lo hi mx).run P w = .ok (.slice (if m = l then ad else ad.map (·.add (l * i.size))) (h - l) (m - l)) w := by
  simp [Instr.sliceAt, Instr.slice, run_und hT, hb, run_sizeOf hE]

theorem V.slice_of {own own' : Nat} {rf : Bool} {xs : List IVal} {ad : Option Addr} {len cap l h m esz : Nat} (hV : V g (.sl own rf xs) (.slice ad len cap)) (hlh : l ≤ h) (hh : h ≤ xs.length) (hm : h ≤ m) (hmc : m ≤ cap)
    (hz : ∀ x ∈ xs, x.cells.length = esz) (hown : own' = 0 ∨ (own' = esz ∧ (m = h ∨ (own = esz ∧ h = xs.length ∧ m = cap)))) :
    V g (.sl own' rf ((xs.take h).drop l)) (.slice (if m = l then ad else ad.map (·.add (l * esz))) (h - l) (m - l)) ∧
    (own3 (.sl own' rf ((xs.take h).drop l)) (.slice (if m = l then ad else ad.map (·.add (l * esz))) (h - l) (m - l))).Sublist (own3 (.sl own rf xs) (.slice ad len cap)) := by
  cases hV with
  | nil =>
    simp at hh hmc
    subst hh hmc
    have : l = 0 := by omega
    subst this
    simp
    exact ⟨.nil _ _, by simp [own3, own2, own1]⟩
  | sl _ _ _ vs ad _ esz' hs hc hl hv hf hr hz' hcl ho =>
    have hlen : ((xs.take h).drop l).length = h - l := by simp; omega
    have hsz : xs ≠ [] → esz' = esz := by
      intro hne
      obtain ⟨x, hx⟩ := List.exists_mem_of_ne_nil xs hne
      obtain ⟨j, hj⟩ := mem_idx hx
      obtain ⟨v, hv'⟩ := get_of_len hl hj
      rw [← hz x hx, (hv _ _ _ hj hv').cells.1, hz' v (List.mem_of_getElem? hv')]
    have hzv : ∀ v ∈ vs, v.cells.size = esz := by
      intro v hv'
      have : xs ≠ [] := by
        intro h0
        rw [h0] at hl
        have : vs = [] := List.length_eq_zero_iff.1 hl.symm
        rw [this] at hv'; cases hv'
      rw [← hsz this]; exact hz' v hv'
    have key : ∀ ad' : Addr, (0 < m - l → ad'.spot = none) → ad'.block = ad.block → ad'.off = ad.off + l * esz → V g (.sl own' rf ((xs.take h).drop l)) (.slice (some ad') (h - l) (m - l)) := by
      intro ad' hsp hbl hof
      have := V.sl (g := g) own' rf ((xs.take h).drop l) ((vs.take h).drop l) ad' (m - l) esz hsp (by rw [hlen]; omega) (by simp; omega) (fun j x v hx hv' => ?_) (fun x hx => hf x (List.mem_of_mem_take (List.mem_of_mem_drop hx)))
        (fun hrf x hx => hr hrf x (List.mem_of_mem_take (List.mem_of_mem_drop hx))) (fun v hv' => hzv v (List.mem_of_mem_take (List.mem_of_mem_drop hv'))) (fun k c hk => ?_) (fun h0 => ⟨?_, fun hlt => ?_⟩)
      · rw [hlen] at this; exact this
      · simp only [List.getElem?_drop, List.getElem?_take] at hx hv'
        split at hx
        · rename_i hj
          rw [if_pos hj] at hv'
          exact hv _ _ _ hx hv'
        · cases hx
      · rw [hbl, hof, Nat.add_assoc]
        exact hcl _ _ (flatV_take_drop hzv (by omega) hk)
      · rcases hown with h1 | h1
        · exact absurd h1 h0
        · exact h1.1
      · rw [hlen] at hlt ⊢
        rcases hown with h1 | ⟨h1, h2 | ⟨h2, h3, h4⟩⟩
        · exact absurd h1 h0
        · omega
        · have hne : own ≠ 0 := by rw [h2, ← h1]; exact h0
          have := (ho hne).2 (by omega)
          have he := (ho hne).1
          rw [hbl, this, hof, ← he, h2]
          congr 1
          have e1 : l * esz + (h - l) * esz = xs.length * esz := by rw [← Nat.add_mul]; congr 1; omega
          have e2 : l * esz + (m - l) * esz = cap * esz := by rw [← Nat.add_mul]; congr 1; omega
          simp only [Prod.mk.injEq]
          omega
    have hsub : ∀ ad' : Addr, ad'.block = ad.block → (own3 (.sl own' rf ((xs.take h).drop l)) (.slice (some ad') (h - l) (m - l))).Sublist (own3 (.sl own rf xs) (.slice (some ad) xs.length cap)) := by
      intro ad' hbl
      simp only [own3, own2, own1, hlen]
      rcases hown with h1 | ⟨h1, h2 | ⟨h2, h3, h4⟩⟩
      · simp [h1]
      · rw [if_pos (.inr (by omega))]; simp
      · split
        · simp
        · rename_i hn
          rw [if_neg (by rw [h2, ← h1]; omega), hbl]
          exact .refl _
    split
    · rename_i hml
      have e1 : (xs.take h).drop l = [] := List.length_eq_zero_iff.1 (by rw [hlen]; omega)
      have e2 : h - l = ([] : List IVal).length := by simp; omega
      have hs' := hsub ad rfl
      rw [e1] at hs' ⊢
      refine ⟨?_, hs'⟩
      rw [e2, show m - l = 0 by omega]
      exact .sl own' rf [] [] ad 0 esz (fun h => absurd h (Nat.lt_irrefl 0)) (by simp) rfl (by simp) (by simp) (by simp) (by simp) (by intro k c hk; simp [flatV] at hk) (fun h0 => ⟨by rcases hown with h1 | h1; exact absurd h1 h0; exact h1.1, by simp⟩)
    · simp only [Option.map_some]
      have had : ad = ⟨ad.block, ad.off, none⟩ := by have := hs (by omega); cases ad; simp at this; simp [this]
      have hadd : ad.add (l * esz) = ⟨ad.block, ad.off + l * esz, none⟩ := by rw [had]; exact addr_add _ _ _
      rw [hadd]
      exact ⟨key _ (fun _ => rfl) rfl rfl, hsub _ rfl⟩

theorem optInt_dflt {x : Option Opd} {ts : Ts} {d d' n : Nat} (h : optInt x ts d = some n) (hx : x ≠ none) : optInt x ts d' = some n := by
  cases x with
  | none => exact absurd rfl hx
  | some x => exact h

theorem sim_sliceL {x : Opd} {rx : Operand} {lo hi mx : Option Opd} {rlo rhi rmx : Option Operand} {T E : TypeId} {i : TypeInfo} (hop : o.op = .slice T rx rlo rhi rmx) (hx : opdOK x rx = true) (hlo : optOK lo rlo = true) (hhi : optOK hi rhi = true) (hmx : optOK mx rmx = true)
    (hmh : mx = none ∨ hi ≠ none) (hT : P.underlying T = some (.slice E)) (hE : P.info? E = some i)
    (hs : stepOp cf (.sliceL i.size x lo hi mx) s = some res) (hl : WT s.ts a.tmps) (hR : R g O (s.ts.roots a.tmps) s.σ w) : SimV P o a g O w s res := by
  simp only [stepOp] at hs
  split at hs
  · rename_i own rf xs ts h
    split at hs
    · rename_i l hh m e1 e2 e3
      split at hs
      · rename_i hb
        obtain ⟨h1, h2⟩ := get_sim (l := []) hx h hl hR
        have hV := h1.head
        have hbv : ∃ ad len cap, a.eval rx = .slice ad len cap ∧ len = xs.length ∧ len ≤ cap := by
          generalize a.eval rx = u at hV
          cases hV with
          | nil => exact ⟨none, 0, 0, rfl, rfl, Nat.le_refl _⟩
          | sl _ _ _ _ ad cap _ _ hc => exact ⟨_, _, _, rfl, rfl, hc⟩
        obtain ⟨ad, len, cap, hu, hlen, hcap⟩ := hbv
        have k1 := optInt_sim (l := [(.sl own rf xs, a.eval rx)]) hlo e1 h2 h1
        have k2 := optInt_sim (l := [(.sl own rf xs, a.eval rx)]) hhi e2 h2 h1
        have k3 := optInt_sim (l := [(.sl own rf xs, a.eval rx)]) hmx e3 h2 h1
        have hlo' : rlo.map a.eval = none ∧ l = 0 ∨ ∃ k, rlo.map a.eval = some (.int k l) := by
          rcases k1 with ⟨rfl, rfl⟩ | ⟨r', rfl, k, hk⟩
          · exact .inl ⟨rfl, rfl⟩
          · exact .inr ⟨k, by simp [hk]⟩
        have hz : ∀ x ∈ xs, x.cells.length = i.size := by
          intro y hy
          have := List.all_eq_true.1 hb.2.2 y hy
          simpa using this
        rw [hu] at hV
        split at hs
        · simp only [rv, Option.some.injEq] at hs
          subst hs
          have hrm : rmx = none := by cases rmx <;> simp [optOK] at hmx ⊢
          subst hrm
          have hhi' : rhi.map a.eval = none ∧ hh = len ∧ (none : Option Value) = none ∨ ∃ k, rhi.map a.eval = some (.int k hh) := by
            rcases k2 with ⟨rfl, rfl⟩ | ⟨r', rfl, k, hk⟩
            · exact .inl ⟨rfl, hlen.symm, rfl⟩
            · exact .inr ⟨k, by simp [hk]⟩
          have hbs := run_bounds (P := P) (w := w) (isS := true) (cap := cap) hlo' hhi' (.inl ⟨rfl, rfl⟩) hb.1 (by omega) (Nat.le_refl _)
          have hrun := run_slice_slice (ad := ad) hT hE hbs
          obtain ⟨q1, q2⟩ := hV.slice_of (own' := if hh = xs.length ∧ own = i.size then own else 0) (m := cap) hb.1 hb.2.1 (by omega) (Nat.le_refl _) hz (by split; rename_i hq; exact .inr ⟨hq.2, .inr ⟨hq.2, hq.1, rfl⟩⟩; exact .inl rfl)
          refine SimV.same ?_ (h1.swap (fun _ => q1) (by rw [hu]; exact q2)) h2
          simp only [execOp, hop, hu]
          simp only [Option.map_none] at hrun ⊢
          simp [hrun]
        · rename_i mm
          split at hs
          · rename_i hhm
            subst hhm
            simp only [rv, Option.some.injEq] at hs
            subst hs
            have hhi' : rhi.map a.eval = none ∧ hh = len ∧ rmx.map a.eval = none ∨ ∃ k, rhi.map a.eval = some (.int k hh) := by
              rcases k2 with ⟨rfl, rfl⟩ | ⟨r', rfl, k, hk⟩
              · exfalso
                rcases hmh with h0 | h0
                · cases h0
                · cases hi <;> simp [optOK] at hhi h0
              · exact .inr ⟨k, by simp [hk]⟩
            have hmx' : rmx.map a.eval = none ∧ hh = cap ∨ ∃ k, rmx.map a.eval = some (.int k hh) := by
              rcases k3 with ⟨rfl, _⟩ | ⟨r', rfl, k, hk⟩
              · simp [optOK] at hmx
              · exact .inr ⟨k, by simp [hk]⟩
            have hbs := run_bounds (P := P) (w := w) (isS := true) (cap := cap) hlo' hhi' hmx' hb.1 (Nat.le_refl _) (by omega)
            have hrun := run_slice_slice (ad := ad) hT hE hbs
            obtain ⟨q1, q2⟩ := hV.slice_of (own' := i.size) (m := hh) hb.1 hb.2.1 (Nat.le_refl _) (by omega) hz (.inr ⟨rfl, .inl rfl⟩)
            refine SimV.same ?_ (h1.swap (fun _ => q1) (by rw [hu]; exact q2)) h2
            simp only [execOp, hop, hu]
            simp [hrun]
          · cases hs
      · cases hs
    · cases hs
  · rename_i e id off len ts h
    split at hs
    · rename_i l hh e1 e2
      split at hs
      · rename_i hb
        obtain ⟨h1, h2⟩ := get_sim (l := []) hx h hl hR
        obtain ⟨b, cap, hu, hι, hcap⟩ := h1.head.rs_inv
        have k1 := optInt_sim (l := [(.rs e id off len, a.eval rx)]) hlo e1 h2 h1
        have k2 := optInt_sim (l := [(.rs e id off len, a.eval rx)]) hhi e2 h2 h1
        have hrm : rmx = none := by cases rmx <;> simp [optOK] at hmx ⊢
        subst hrm
        have hlo' : rlo.map a.eval = none ∧ l = 0 ∨ ∃ k, rlo.map a.eval = some (.int k l) := by
          rcases k1 with ⟨rfl, rfl⟩ | ⟨r', rfl, k, hk⟩
          · exact .inl ⟨rfl, rfl⟩
          · exact .inr ⟨k, by simp [hk]⟩
        have hhi' : rhi.map a.eval = none ∧ hh = len ∧ (none : Option Value) = none ∨ ∃ k, rhi.map a.eval = some (.int k hh) := by
          rcases k2 with ⟨rfl, rfl⟩ | ⟨r', rfl, k, hk⟩
          · exact .inl ⟨rfl, rfl, rfl⟩
          · exact .inr ⟨k, by simp [hk]⟩
        have hbs := run_bounds (P := P) (w := w) (isS := true) (cap := cap) hlo' hhi' (.inl ⟨rfl, rfl⟩) hb.1 (by omega) (Nat.le_refl _)
        have hrun := run_slice_slice (ad := some ⟨b, off, none⟩) hT hE hbs
        have hexec : (execOp a.eval o).run P w = .ok (.value (.slice (if cap = l then some ⟨b, off, none⟩ else (some (⟨b, off, none⟩ : Addr)).map (·.add (l * i.size))) (hh - l) (cap - l))) w := by
          simp only [execOp, hop, hu]
          simp only [Option.map_none] at hrun ⊢
          simp only [Sem.run_bind, hrun, Result.andThen_ok, Sem.run_pure]
        split at hs
        · rename_i hlh
          simp only [rv, Option.some.injEq] at hs
          subst hs
          refine SimV.same hexec (h1.drop.push ?_ (own3_un3 (.sl 0 false []) _)) h2
          have e0 : hh - l = ([] : List IVal).length := by simp; omega
          rw [e0]
          split
          · exact .sl 0 false [] [] _ _ 0 (fun _ => rfl) (by simp) rfl (by simp) (by simp) (by simp) (by simp) (by intro k c hk; simp [flatV] at hk) (fun h0 => absurd rfl h0)
          · rw [Option.map_some, addr_add]
            exact .sl 0 false [] [] _ _ 0 (fun _ => rfl) (by simp) rfl (by simp) (by simp) (by simp) (by simp) (by intro k c hk; simp [flatV] at hk) (fun h0 => absurd rfl h0)
        · rename_i hlh
          simp only [rv, Option.some.injEq] at hs
          subst hs
          refine SimV.same hexec (h1.drop.push ?_ (by simp [own3, own2, own1])) h2
          rw [if_neg (by omega), Option.map_some, addr_add, hb.2.2]
          exact .rs i.size id _ _ _ b hι (by omega)
      · cases hs
    · cases hs
  · cases hs

end Go.Idl
