/-
  The temporaries: laws of their table.
-/
import Derived.Test.YtkjcgfadojfeeaaIdlR
set_option linter.unusedSectionVars false
set_option linter.unusedVariables false
set_option linter.unusedSimpArgs false
namespace Go.Idl
variable [Globs]

theorem perm_in {α : Type} {a b c : List α} (x : List α) (h : a.Perm (b ++ c)) : (x ++ a).Perm (b ++ (x ++ c)) := by
  refine (h.append_left x).trans ?_
  rw [← List.append_assoc, ← List.append_assoc b]
  exact (List.perm_append_comm (l₁ := x) (l₂ := b)).append_right c

/-- Taking one slot out of the list. -/
theorem Tm.list_get : ∀ (t : Tm) (k : Nat), t.list.Perm ((t.get k).toList ++ (t.set none k).list) := by
  intro t
  induction t with
  | leaf => intro k; simp [Tm.list, Tm.get, Tm.set]
  | node l c r ihl ihr =>
    intro k
    simp only [Tm.get, Tm.set]
    cases h0 : Nat.beq k 0 with
    | true => simp [Tm.list]
    | false =>
      cases h1 : Nat.beq (k % 2) 1 with
      | true =>
        simp only [cond_true, cond_false, Tm.list]
        refine perm_in _ ?_
        exact ((ihl (k / 2)).append_right _).trans (by rw [List.append_assoc])
      | false =>
        simp only [cond_false, Tm.list]
        refine perm_in _ ?_
        exact perm_in _ (ihr (k / 2 - 1))

theorem Tm.list_set (x : Option (Nat × IVal)) : ∀ (t : Tm) (k : Nat), (t.set x k).list.Perm ((bif t.has k then x.toList else []) ++ (t.set none k).list) := by
  intro t
  induction t with
  | leaf => intro k; simp [Tm.list, Tm.has, Tm.set]
  | node l c r ihl ihr =>
    intro k
    simp only [Tm.has, Tm.set]
    cases h0 : Nat.beq k 0 with
    | true => simp [Tm.list]
    | false =>
      cases h1 : Nat.beq (k % 2) 1 with
      | true =>
        simp only [cond_true, cond_false, Tm.list]
        refine perm_in _ ?_
        exact ((ihl (k / 2)).append_right _).trans (by rw [List.append_assoc])
      | false =>
        simp only [cond_false, Tm.list]
        refine perm_in _ ?_
        exact perm_in _ (ihr (k / 2 - 1))

theorem Tm.get_set (x : Option (Nat × IVal)) : ∀ (t : Tm) (k : Nat), (t.set x k).get k = bif t.has k then x else none := by
  intro t
  induction t with
  | leaf => intro k; rfl
  | node l c r ihl ihr =>
    intro k
    simp only [Tm.has, Tm.set]
    cases h0 : Nat.beq k 0 with
    | true => simp [Tm.get, h0]
    | false =>
      cases h1 : Nat.beq (k % 2) 1 with
      | true => simp [Tm.get, h0, h1, ihl]
      | false => simp [Tm.get, h0, h1, ihr]

theorem Tm.get_ne (x : Option (Nat × IVal)) : ∀ (t : Tm) (k j : Nat), k ≠ j → (t.set x k).get j = t.get j := by
  intro t
  induction t with
  | leaf => intro k j _; rfl
  | node l c r ihl ihr =>
    intro k j hkj
    simp only [Tm.set]
    cases h0 : Nat.beq k 0 with
    | true =>
      have hj : Nat.beq j 0 = false := by
        cases h : Nat.beq j 0 with
        | false => rfl
        | true => have := Nat.eq_of_beq_eq_true h0; have := Nat.eq_of_beq_eq_true h; omega
      simp [Tm.get, hj]
    | false =>
      have hk : k ≠ 0 := Nat.ne_of_beq_eq_false h0
      cases h1 : Nat.beq (k % 2) 1 with
      | true =>
        have hk1 := Nat.eq_of_beq_eq_true h1
        simp only [cond_true, cond_false, Tm.get]
        cases hj0 : Nat.beq j 0 with
        | true => rfl
        | false =>
          cases hj1 : Nat.beq (j % 2) 1 with
          | false => rfl
          | true =>
            have := Nat.eq_of_beq_eq_true hj1
            simp only [cond_true, cond_false]
            exact ihl _ _ (by omega)
      | false =>
        have hk1 := Nat.ne_of_beq_eq_false h1
        simp only [cond_false, Tm.get]
        cases hj0 : Nat.beq j 0 with
        | true => rfl
        | false =>
          have hj := Nat.ne_of_beq_eq_false hj0
          cases hj1 : Nat.beq (j % 2) 1 with
          | true => rfl
          | false =>
            have := Nat.ne_of_beq_eq_false hj1
            simp only [cond_false]
            exact ihr _ _ (by omega)

theorem Tm.set_comm (x y : Option (Nat × IVal)) : ∀ (t : Tm) (k j : Nat), k ≠ j → (t.set x k).set y j = (t.set y j).set x k := by
  intro t
  induction t with
  | leaf => intro k j _; rfl
  | node l c r ihl ihr =>
    intro k j hkj
    cases h0 : Nat.beq k 0 with
    | true =>
      have hj : Nat.beq j 0 = false := by
        cases h : Nat.beq j 0 with
        | false => rfl
        | true => have := Nat.eq_of_beq_eq_true h0; have := Nat.eq_of_beq_eq_true h; omega
      cases hj1 : Nat.beq (j % 2) 1 <;> simp [Tm.set, h0, hj, hj1]
    | false =>
      have hk : k ≠ 0 := Nat.ne_of_beq_eq_false h0
      cases hj0 : Nat.beq j 0 with
      | true => cases h1 : Nat.beq (k % 2) 1 <;> simp [Tm.set, h0, hj0, h1]
      | false =>
        have hj := Nat.ne_of_beq_eq_false hj0
        cases h1 : Nat.beq (k % 2) 1 <;> cases hj1 : Nat.beq (j % 2) 1 <;> simp only [Tm.set, h0, hj0, h1, hj1, cond_true, cond_false]
        · have := Nat.ne_of_beq_eq_false h1
          have := Nat.ne_of_beq_eq_false hj1
          rw [ihr _ _ (by omega)]
        · have := Nat.eq_of_beq_eq_true h1
          have := Nat.eq_of_beq_eq_true hj1
          rw [ihl _ _ (by omega)]

theorem get_has : ∀ {t : Tm} {k : Nat} {p : Nat × IVal}, t.get k = some p → t.has k = true := by
  intro t
  induction t with
  | leaf => intro k p h; simp [Tm.get] at h
  | node l c r ihl ihr =>
    intro k p h
    simp only [Tm.get, Tm.has] at h ⊢
    cases h0 : Nat.beq k 0 with
    | true => rfl
    | false =>
      rw [h0] at h
      simp only [cond_false] at h ⊢
      cases h1 : Nat.beq (k % 2) 1 with
      | true => rw [h1] at h; exact ihl h
      | false => rw [h1] at h; exact ihr h

theorem mem_list : ∀ {t : Tm} {p : Nat × IVal}, p ∈ t.list → ∃ k, t.get k = some p := by
  intro t
  induction t with
  | leaf => intro p h; simp [Tm.list] at h
  | node l c r ihl ihr =>
    intro p h
    simp only [Tm.list, List.mem_append] at h
    rcases h with h | h | h
    · exact ⟨0, by cases c <;> simp [Tm.get] at h ⊢; exact h.symm⟩
    · obtain ⟨k, hk⟩ := ihl h
      refine ⟨2 * k + 1, ?_⟩
      have h0 : Nat.beq (2 * k + 1) 0 = false := by cases hh : Nat.beq (2 * k + 1) 0 with | false => rfl | true => have := Nat.eq_of_beq_eq_true hh; omega
      have h1 : Nat.beq ((2 * k + 1) % 2) 1 = true := by have : (2 * k + 1) % 2 = 1 := by omega
                                                         rw [this]; rfl
      have h2 : (2 * k + 1) / 2 = k := by omega
      simp only [Tm.get, h0, h1, h2, cond_false, cond_true]; exact hk
    · obtain ⟨k, hk⟩ := ihr h
      refine ⟨2 * k + 2, ?_⟩
      have h0 : Nat.beq (2 * k + 2) 0 = false := by cases hh : Nat.beq (2 * k + 2) 0 with | false => rfl | true => have := Nat.eq_of_beq_eq_true hh; omega
      have h1 : Nat.beq ((2 * k + 2) % 2) 1 = false := by have : (2 * k + 2) % 2 = 0 := by omega
                                                          rw [this]; rfl
      have h2 : (2 * k + 2) / 2 - 1 = k := by omega
      simp only [Tm.get, h0, h1, h2, cond_false]; exact hk


/-! ### the table -/
def Ts.roots (ts : Ts) (tmps : Array Value) : List (IVal × Value) := ts.t.list.map fun p => (p.2, tmps.getD p.1 undef)

theorem Ts.get?_spec {ts : Ts} {j : Nat} {v : IVal} (h : ts.get? j = some v) : ts.t.get (ts.slot j) = some (j, v) := by
  unfold Ts.get? at h
  split at h
  · rename_i i x hx
    cases hb : Nat.beq i j with
    | true => rw [hb] at h; simp at h; subst h; rw [hx, Nat.eq_of_beq_eq_true hb]
    | false => rw [hb] at h; simp at h
  · cases h

theorem Ts.roots_get {ts : Ts} {j : Nat} {v : IVal} (tmps : Array Value) (h : ts.get? j = some v) :
    ∃ rest, (ts.roots tmps).Perm ((v, tmps.getD j undef) :: rest) ∧ ∀ v', ((ts.set j v').roots tmps).Perm ((v', tmps.getD j undef) :: rest) := by
  have h1 := Ts.get?_spec h
  refine ⟨((ts.t.set none (ts.slot j)).list.map fun p => (p.2, tmps.getD p.1 undef)), ?_, fun v' => ?_⟩
  · have := (Tm.list_get ts.t (ts.slot j)).map fun p => (p.2, tmps.getD p.1 undef)
    rw [h1] at this
    simpa [Ts.roots] using this
  · have := (Tm.list_set (some (j, v')) ts.t (ts.slot j)).map fun p => (p.2, tmps.getD p.1 undef)
    rw [get_has h1] at this
    simpa [Ts.roots, Ts.set] using this

theorem Ts.get?_set {ts : Ts} {j : Nat} {v : IVal} (h : ts.get? j = some v) (y : IVal) : (ts.set j y).get? j = some y := by
  have h1 := get_has (Ts.get?_spec h)
  have h2 : (ts.set j y).slot j = ts.slot j := rfl
  unfold Ts.get?
  rw [h2]
  simp only [Ts.set, Tm.get_set, h1, cond_true, Nat.beq_refl]

theorem WT.set {ts : Ts} {tmps : Array Value} (h : WT ts tmps) {j : Nat} (hj : j < tmps.size) (v : IVal) : WT (ts.set j v) tmps := by
  intro k p hp
  by_cases hk : ts.slot j = k
  · subst hk
    simp only [Ts.set, Tm.get_set] at hp
    cases hb : ts.t.has (ts.slot j) with
    | true => rw [hb] at hp; simp at hp; subst hp; exact ⟨rfl, hj⟩
    | false => rw [hb] at hp; simp at hp
  · simp only [Ts.set] at hp
    rw [Tm.get_ne _ _ _ _ hk] at hp
    exact h k p hp

theorem Ts.roots_put {ts : Ts} {tmps : Array Value} (h : WT ts tmps) {j : Nat} (hj : j < tmps.size) (v : IVal) (u : Value) :
    ∃ rest ev, (ts.roots tmps).Perm (ev ++ rest) ∧ ((ts.set j v).roots (tmps.setIfInBounds j u)).Perm ((bif ts.t.has (ts.slot j) then [(v, u)] else []) ++ rest) := by
  refine ⟨((ts.t.set none (ts.slot j)).list.map fun p => (p.2, tmps.getD p.1 undef)), ((ts.t.get (ts.slot j)).toList.map fun p => (p.2, tmps.getD p.1 undef)), ?_, ?_⟩
  · have := (Tm.list_get ts.t (ts.slot j)).map fun p => (p.2, tmps.getD p.1 undef)
    simpa [Ts.roots] using this
  · have := (Tm.list_set (some (j, v)) ts.t (ts.slot j)).map fun p => (p.2, (tmps.setIfInBounds j u).getD p.1 undef)
    have e : ((ts.t.set none (ts.slot j)).list.map fun p => (p.2, (tmps.setIfInBounds j u).getD p.1 undef)) = ((ts.t.set none (ts.slot j)).list.map fun p => (p.2, tmps.getD p.1 undef)) := by
      refine List.map_congr_left fun p hp => ?_
      obtain ⟨k, hk⟩ := mem_list hp
      have hne : p.1 ≠ j := by
        intro hpj
        by_cases hkk : ts.slot j = k
        · subst hkk; rw [Tm.get_set] at hk; cases hb : ts.t.has (ts.slot j) <;> rw [hb] at hk <;> simp at hk
        · rw [Tm.get_ne _ _ _ _ hkk] at hk
          have := (h k p hk).1
          rw [hpj] at this; exact hkk this
      simp only [Array.getD_eq_getD_getElem?]
      rw [Array.getElem?_setIfInBounds_ne (Ne.symm hne)]
    rw [List.map_append, e] at this
    simp only [Ts.roots, Ts.set]
    refine this.trans ?_
    cases hb : ts.t.has (ts.slot j) with
    | true => simp [hj]
    | false => simp

end Go.Idl
