/-
  Equality of structs and arrays of plain parts.
-/
import Derived.Test.YtkjcgfadojfeeaaIdlOpsK
import Derived.ChangeKeysEq
set_option linter.unusedSectionVars false
set_option linter.unusedVariables false
set_option linter.unusedSimpArgs false
namespace Go.Idl
variable [Globs]

variable {P : Program} {g : Gh} {w : World}

def layF (P : Program) (fl : TypeId → Option (List Nat)) : Nat → List Field → Option (List Nat)
  | _, [] => some []
  | off, f :: fs => if f.name != "_" && f.offset == off then match fl f.type, P.info? f.type with
    | some ks, some i => if ks.length == i.size then match layF P fl (off + i.size) fs with
      | some r => some (ks ++ r)
      | none => none
      else none
    | _, _ => none
    else none

/-- Of bools, integers and strings, whatever its depth; its cells' kinds, one behind the other. -/
def flatT (P : Program) : Nat → TypeId → Option (List Nat)
  | 0, _ => none
  | d + 1, T => match P.underlying T, P.info? T with
    | some .bool, some i => if i.size == 1 then some [2] else none
    | some (.int _), some i => if i.size == 1 then some [0] else none
    | some .string, some i => if i.size == 1 then some [1] else none
    | some (.array n E), some i => match flatT P d E, P.info? E with
      | some ks, some e => if ks.length == e.size && i.size == n * e.size then some (List.replicate n ks).flatten else none
      | _, _ => none
    | some (.struct fs), some i => match layF P (flatT P d) 0 fs.toList with
      | some ks => if ks.length == i.size && !P.stoodInHeld T then some ks else none
      | none => none
    | _, _ => none

def pnT (P : Program) (T : TypeId) : Option Nat :=
  match P.underlying T with
  | some (.struct _) => (P.info? T).map (·.size)
  | some (.array _ _) => (P.info? T).map (·.size)
  | _ => none

def shapeV : Option Nat → IVal → Prop
  | some n, z => ∃ cs, z = .agg cs ∧ cs.length = n
  | none, z => z.isCell = true

theorem shape_takeV {n : Option Nat} {cs : List IVal} {off : Nat} {z : IVal} (hi : ∀ x ∈ cs, x.isCell = true) (h : takeV n cs off = some z) : shapeV n z := by
  cases n with
  | some n =>
    simp only [takeV] at h
    split at h
    · simp only [Option.some.injEq] at h; subst h; exact ⟨_, rfl, by simp; omega⟩
    · cases h
  | none => exact hi z (List.mem_of_getElem? h)

theorem flatT_tyN {d : Nat} {T : TypeId} {ks : List Nat} (h : flatT P d T = some ks) : tyN P T (pnT P T) = true ∧ ∃ i, P.info? T = some i ∧ i.size = (pnT P T).getD 1 ∧ ks.length = i.size := by
  cases d with
  | zero => simp [flatT] at h
  | succ d =>
    simp only [flatT] at h
    split at h
    · rename_i h1 h2; split at h <;> simp at h; subst h; rename_i h3; simp only [beq_iff_eq] at h3; simp [tyN, pnT, h1, h2, h3]
    · rename_i h1 h2; split at h <;> simp at h; subst h; rename_i h3; simp only [beq_iff_eq] at h3; simp [tyN, pnT, h1, h2, h3]
    · rename_i h1 h2; split at h <;> simp at h; subst h; rename_i h3; simp only [beq_iff_eq] at h3; simp [tyN, pnT, h1, h2, h3]
    · rename_i n E i h1 h2
      split at h
      · split at h <;> simp at h; subst h; rename_i h3
        simp only [Bool.and_eq_true, beq_iff_eq] at h3
        simp [tyN, pnT, h1, h2, h3]
      · cases h
    · rename_i h1 h2
      split at h
      · split at h <;> simp at h; subst h; rename_i h3
        simp only [Bool.and_eq_true, beq_iff_eq] at h3
        simp [tyN, pnT, h1, h2, h3.1]
      · cases h
    · cases h

theorem takeV_part {n : Option Nat} {cs : List IVal} {off : Nat} (h : off + n.getD 1 ≤ cs.length) : ∃ z, takeV n cs off = some z := by
  cases n with
  | some n => simp only [takeV]; rw [if_pos (by simpa using h)]; exact ⟨_, rfl⟩
  | none => simp only [takeV]; simp at h; exact ⟨cs[off], by rw [List.getElem?_eq_getElem]⟩

theorem eqK_len : ∀ {ks : List Nat} {a b : List IVal}, eqK ks a b = some true → a.length = ks.length ∧ b.length = ks.length := by
  intro ks
  induction ks with
  | nil => intro a b h; cases a <;> cases b <;> simp [eqK] at h ⊢
  | cons k ks ih =>
    intro a b h
    cases a <;> cases b <;> simp only [eqK] at h <;> try (cases h; done)
    split at h
    · split at h
      · have := ih h; simp [this.1, this.2]
      · cases h
      · cases h
    · cases h

theorem eqK_app : ∀ {ks ls : List Nat} {a b c d : List IVal}, a.length = ks.length → c.length = ks.length → eqK (ks ++ ls) (a ++ b) (c ++ d) = match eqK ks a c with
    | some true => eqK ls b d
    | some false => some false
    | none => none := by
  intro ks
  induction ks with
  | nil => intro ls a b c d h h'; cases a <;> simp at h; cases c <;> simp at h'; simp [eqK]
  | cons k ks ih =>
    intro ls a b c d h h'
    cases a with
    | nil => simp at h
    | cons x a =>
    cases c with
    | nil => simp at h'
    | cons y c =>
      simp only [List.cons_append, eqK]
      split
      · cases eqCell x y with
        | none => rfl
        | some r => cases r with
          | false => rfl
          | true => exact ih (by simpa using h) (by simpa using h')
      · rfl

/-- The cells from one place on: those of one part, and those behind it. -/
theorem eqK_step {ks ls : List Nat} {xs ys : List IVal} {off : Nat} {r : Bool} (h1 : off + ks.length ≤ xs.length) (h2 : off + ks.length ≤ ys.length) (h : eqK (ks ++ ls) (xs.drop off) (ys.drop off) = some r) :
    ∃ r1, eqK ks ((xs.drop off).take ks.length) ((ys.drop off).take ks.length) = some r1 ∧ ((r1 = false ∧ r = false) ∨ (r1 = true ∧ eqK ls (xs.drop (off + ks.length)) (ys.drop (off + ks.length)) = some r)) := by
  have e1 : xs.drop off = (xs.drop off).take ks.length ++ xs.drop (off + ks.length) := by rw [← List.drop_drop]; exact (List.take_append_drop _ _).symm
  have e2 : ys.drop off = (ys.drop off).take ks.length ++ ys.drop (off + ks.length) := by rw [← List.drop_drop]; exact (List.take_append_drop _ _).symm
  rw [e1, e2, eqK_app (by simp; omega) (by simp; omega)] at h
  split at h
  · rename_i q; exact ⟨true, q, .inr ⟨rfl, h⟩⟩
  · rename_i q; simp at h; exact ⟨false, q, .inl ⟨rfl, h⟩⟩
  · cases h

def EqP (P : Program) (g : Gh) (d : Nat) (T : TypeId) (ks : List Nat) : Prop := ∀ (w : World) (z1 z2 : IVal) (u1 u2 : Value) (r : Bool), V g z1 u1 → V g z2 u2 → shapeV (pnT P T) z1 → shapeV (pnT P T) z2 → eqK ks z1.cells z2.cells = some r →
  (Op.equalIn d T u1 u2).run P w = .ok r w

theorem cells_of_shape {n : Option Nat} {cs : List IVal} {off : Nat} {z : IVal} (hi : ∀ x ∈ cs, x.isCell = true) (h : takeV n cs off = some z) : z.cells = (cs.drop off).take (n.getD 1) := by
  cases n with
  | some n =>
    simp only [takeV] at h
    split at h
    · simp only [Option.some.injEq] at h; subst h; rfl
    · cases h
  | none =>
    simp only [takeV] at h
    have hc := hi z (List.mem_of_getElem? h)
    have e1 : z.cells = [z] := by cases z <;> simp_all [IVal.cells, IVal.isCell]
    have hlt := lt_of_get h
    rw [e1, List.drop_eq_getElem_cons hlt]
    have := (List.getElem?_eq_some_iff.1 h).2
    simp [this]

structure AggV (g : Gh) (xs : List IVal) (us : Array Value) : Prop where
  len : xs.length = us.size
  vals : ∀ (i : Nat) x u, xs[i]? = some x → us[i]? = some u → V g x u
  cell : ∀ x ∈ xs, x.isCell = true

theorem eqPart {d D : Nat} {T : TypeId} {ks ls : List Nat} {xs ys : List IVal} {us vs : Array Value} {off : Nat} {r : Bool} (w : World) (hu : AggV g xs us) (hv : AggV g ys vs) (hT : flatT P d T = some ks) (IH : EqP P g D T ks) (h1 : off + ks.length ≤ xs.length) (h2 : off + ks.length ≤ ys.length)
    (he : eqK (ks ++ ls) (xs.drop off) (ys.drop off) = some r) : ∃ a b r1, (part T us off).run P w = .ok a w ∧ (part T vs off).run P w = .ok b w ∧ (Op.equalIn D T a b).run P w = .ok r1 w ∧
      ((r1 = false ∧ r = false) ∨ (r1 = true ∧ eqK ls (xs.drop (off + ks.length)) (ys.drop (off + ks.length)) = some r)) := by
  obtain ⟨ht, j, hj, hsz, hkl⟩ := flatT_tyN hT
  obtain ⟨z1, hz1⟩ := takeV_part (n := pnT P T) (cs := xs) (off := off) (by rw [← hsz, ← hkl]; exact h1)
  obtain ⟨z2, hz2⟩ := takeV_part (n := pnT P T) (cs := ys) (off := off) (by rw [← hsz, ← hkl]; exact h2)
  obtain ⟨a, ha, hVa, -⟩ := run_part (P := P) (w := w) ht hu.len hu.vals hu.cell hz1
  obtain ⟨b, hb, hVb, -⟩ := run_part (P := P) (w := w) ht hv.len hv.vals hv.cell hz2
  obtain ⟨r1, hr1, hr2⟩ := eqK_step h1 h2 he
  exact ⟨a, b, r1, ha, hb, IH w z1 z2 a b r1 hVa hVb (shape_takeV hu.cell hz1) (shape_takeV hv.cell hz2) (by rw [cells_of_shape hu.cell hz1, cells_of_shape hv.cell hz2, ← hsz, ← hkl]; exact hr1), hr2⟩

theorem eqK_nil {xs ys : List IVal} {r : Bool} (h : eqK [] xs ys = some r) : r = true := by
  cases xs <;> cases ys <;> simp [eqK] at h; exact h

theorem eq_fields {d D : Nat} {xs ys : List IVal} {us vs : Array Value} (hu : AggV g xs us) (hv : AggV g ys vs) (IH : ∀ T ks, flatT P d T = some ks → EqP P g D T ks) : ∀ (fs : List Field) (off : Nat) (ks : List Nat) (r : Bool) (w : World), layF P (flatT P d) off fs = some ks → off + ks.length ≤ xs.length → off + ks.length ≤ ys.length →
    eqK ks (xs.drop off) (ys.drop off) = some r → (Op.eqFields D us vs fs).run P w = .ok r w := by
  intro fs
  induction fs with
  | nil =>
    intro off ks r w hl h1 h2 he
    simp [layF] at hl
    subst hl
    rw [eqK_nil he]
    simp [Op.eqFields]
  | cons f fs ih =>
    intro off ks r w hl h1 h2 he
    simp only [layF] at hl
    split at hl
    · rename_i hc
      simp only [Bool.and_eq_true, bne_iff_ne, beq_iff_eq] at hc
      obtain ⟨c1, c2⟩ := hc
      split at hl
      · rename_i kf i hk hi
        split at hl
        · rename_i hsz
          simp only [beq_iff_eq] at hsz
          split at hl
          · rename_i kr hr
            simp only [Option.some.injEq] at hl
            subst hl
            simp only [List.length_append] at h1 h2
            obtain ⟨a, b, r1, ha, hb, hq, hr2⟩ := eqPart w hu hv hk (IH _ _ hk) (by omega) (by omega) he
            simp only [Op.eqFields]
            rw [if_pos c1, c2]
            simp only [Sem.run_bind, ha, hb, hq, Result.andThen_ok]
            rcases hr2 with ⟨rfl, rfl⟩ | ⟨rfl, hr2⟩
            · simp
            · simp only [Bool.not_true, Bool.false_eq_true, if_false]
              exact ih (off + i.size) kr r w hr (by omega) (by omega) (by rw [← hsz]; exact hr2)
          · cases hl
        · cases hl
      · cases hl
    · cases hl

theorem eq_items {d D : Nat} {E : TypeId} {ks : List Nat} {xs ys : List IVal} {us vs : Array Value} (hu : AggV g xs us) (hv : AggV g ys vs) (hE : flatT P d E = some ks) (IH : EqP P g D E ks) : ∀ (m k : Nat) (r : Bool) (w : World), (k + m) * ks.length ≤ xs.length → (k + m) * ks.length ≤ ys.length →
    eqK (List.replicate m ks).flatten (xs.drop (k * ks.length)) (ys.drop (k * ks.length)) = some r → (Op.eqItems D E ks.length us vs (List.range' k m)).run P w = .ok r w := by
  intro m
  induction m with
  | zero =>
    intro k r w h1 h2 he
    simp only [List.replicate_zero, List.flatten_nil] at he
    rw [eqK_nil he]
    simp [Op.eqItems]
  | succ m ih =>
    intro k r w h1 h2 he
    have hx : k * ks.length + ks.length ≤ xs.length := by
      refine Nat.le_trans ?_ h1
      rw [show k + (m + 1) = (k + 1) + m by omega, Nat.add_mul, Nat.add_mul]; omega
    have hy : k * ks.length + ks.length ≤ ys.length := by
      refine Nat.le_trans ?_ h2
      rw [show k + (m + 1) = (k + 1) + m by omega, Nat.add_mul, Nat.add_mul]; omega
    simp only [List.replicate_succ, List.flatten_cons] at he
    obtain ⟨a, b, r1, ha, hb, hq, hr2⟩ := eqPart w hu hv hE IH hx hy he
    simp only [List.range'_succ, Op.eqItems]
    simp only [Sem.run_bind, ha, hb, hq, Result.andThen_ok]
    rcases hr2 with ⟨rfl, rfl⟩ | ⟨rfl, hr2⟩
    · simp
    · simp only [Bool.not_true, Bool.false_eq_true, if_false]
      refine ih (k + 1) r w (by rw [show k + 1 + m = k + (m + 1) by omega]; exact h1) (by rw [show k + 1 + m = k + (m + 1) by omega]; exact h2) ?_
      rw [Nat.add_mul, Nat.one_mul]; exact hr2

theorem beq_bytes (a b : ByteArray) : (a == b) = (a.data.toList == b.data.toList) := by
  rw [beq_toListBytes, ByteArray.toList_eq, ByteArray.toList_eq]

/-- One cell of a kind, at a type of that kind. -/
def kindT : TypeDesc → Nat → Bool
  | .int _, 0 => true
  | .string, 1 => true
  | .bool, 2 => true
  | _, _ => false

theorem eq_cell {d : Nat} {T : TypeId} {kd : TypeDesc} {k : Nat} {z1 z2 : IVal} {u1 u2 : Value} {r : Bool} (hT : P.underlying T = some kd) (hk : kindT kd k = true) (hV1 : V g z1 u1) (hV2 : V g z2 u2) (hkk : keyK k z1 = true) (he : eqCell z1 z2 = some r) : (Op.equalIn (d + 1) T u1 u2).run P w = .ok r w := by
  unfold eqCell at he
  split at he
  · rename_i k1 a k2 b
    split at he
    · rename_i hkk2
      subst hkk2
      simp at he; subst he
      rw [hV1.int_inv, hV2.int_inv]
      have : k = 0 := by unfold keyK at hkk; split at hkk <;> simp_all
      subst this
      cases kd <;> simp [kindT] at hk
      exact run_equalIn_int w d T _ _ _ _ hT
    · cases he
  · simp at he; subst he
    rw [hV1.bool_inv, hV2.bool_inv]
    have : k = 2 := by unfold keyK at hkk; split at hkk <;> simp_all
    subst this
    cases kd <;> simp [kindT] at hk
    exact run_equalIn_bool w d T _ _ hT
  · simp at he; subst he
    obtain ⟨t1, rfl, e1⟩ := hV1.str_inv
    obtain ⟨t2, rfl, e2⟩ := hV2.str_inv
    have : k = 1 := by unfold keyK at hkk; split at hkk <;> simp_all
    subst this
    cases kd <;> simp [kindT] at hk
    rw [run_equalIn_string w d T _ _ hT, ByteArray.toList_eq, ByteArray.toList_eq, e1, e2]
  · cases he

theorem eq_flat : ∀ (d : Nat) (T : TypeId) (ks : List Nat), flatT P d T = some ks → ∀ D, d ≤ D → EqP P g D T ks := by
  intro d
  induction d with
  | zero => intro T ks h; simp [flatT] at h
  | succ d ih =>
    intro T ks h D0 hD w z1 z2 u1 u2 r hV1 hV2 s1 s2 he
    obtain ⟨D, rfl⟩ : ∃ D, D0 = D + 1 := ⟨D0 - 1, by omega⟩
    simp only [flatT] at h
    have cell : ∀ kd k, P.underlying T = some kd → kindT kd k = true → pnT P T = none → eqK [k] z1.cells z2.cells = some r → (Op.equalIn (D + 1) T u1 u2).run P w = .ok r w := by
      intro kd k hT hk hp he
      rw [hp] at s1 s2
      have e1 : z1.cells = [z1] := by cases z1 <;> simp_all [IVal.cells, IVal.isCell, shapeV]
      have e2 : z2.cells = [z2] := by cases z2 <;> simp_all [IVal.cells, IVal.isCell, shapeV]
      rw [e1, e2] at he
      simp only [eqK] at he
      split at he
      · rename_i hkk
        split at he
        · rename_i q; simp at he; subst he; exact eq_cell hT hk hV1 hV2 hkk q
        · rename_i q; simp at he; subst he; exact eq_cell hT hk hV1 hV2 hkk q
        · cases he
      · cases he
    split at h
    · rename_i h1 h2; split at h <;> simp at h; subst h; exact cell _ 2 h1 rfl (by simp [pnT, h1]) he
    · rename_i h1 h2; split at h <;> simp at h; subst h; exact cell _ 0 h1 rfl (by simp [pnT, h1]) he
    · rename_i h1 h2; split at h <;> simp at h; subst h; exact cell _ 1 h1 rfl (by simp [pnT, h1]) he
    · rename_i n E i h1 h2
      split at h
      · rename_i kE e hk hi
        split at h <;> simp at h
        rename_i h3
        subst h
        simp only [Bool.and_eq_true, beq_iff_eq] at h3
        obtain ⟨h3, h4⟩ := h3
        have hp : pnT P T = some i.size := by simp [pnT, h1, h2]
        rw [hp] at s1 s2
        obtain ⟨xs, rfl, l1⟩ := s1
        obtain ⟨ys, rfl, l2⟩ := s2
        obtain ⟨us, rfl, a1, a2, a3⟩ := hV1.agg_inv
        obtain ⟨vs, rfl, b1, b2, b3⟩ := hV2.agg_inv
        rw [run_equalIn_array w D us vs h1 hi]
        have hc : P.cellsOf E = kE.length := by rw [h3]; simp [Program.cellsOf, hi]
        rw [hc, List.range_eq_range']
        refine eq_items ⟨a1, a2, a3⟩ ⟨b1, b2, b3⟩ hk (ih E kE hk D (by omega)) n 0 r w ?_ ?_ (by simpa [IVal.cells] using he)
        · rw [l1, h4, h3]; simp
        · rw [l2, h4, h3]; simp
      · cases h
    · rename_i fs i h1 h2
      split at h
      · rename_i kF hk
        split at h <;> simp at h
        rename_i h3
        subst h
        simp only [Bool.and_eq_true, beq_iff_eq, Bool.not_eq_true'] at h3
        obtain ⟨h3, h4⟩ := h3
        have hp : pnT P T = some i.size := by simp [pnT, h1, h2]
        rw [hp] at s1 s2
        obtain ⟨xs, rfl, l1⟩ := s1
        obtain ⟨ys, rfl, l2⟩ := s2
        obtain ⟨us, rfl, a1, a2, a3⟩ := hV1.agg_inv
        obtain ⟨vs, rfl, b1, b2, b3⟩ := hV2.agg_inv
        have hF : P.fieldsOf T = fs := by simp [Program.fieldsOf, h1]
        rw [run_equalIn_struct w D T us vs (by rw [hF]; exact h1) h4, hF]
        exact eq_fields ⟨a1, a2, a3⟩ ⟨b1, b2, b3⟩ (fun T ks h => ih T ks h D (by omega)) fs.toList 0 kF r w hk (by omega) (by omega) (by simpa [IVal.cells] using he)
      · cases h
    · cases h

end Go.Idl
