/-
  One operation: the ideal step is met by the model's. First part: operands; operations that touch no memory.
-/
import Derived.Test.YtkjcgfadojfeeaaIdlTs
import Derived.RangeFuncCalls
set_option linter.unusedSectionVars false
set_option linter.unusedVariables false
set_option linter.unusedSimpArgs false
namespace Go.Idl
variable [Globs]

variable {P : Program}

/-! ### constants, operands -/
def cOK1 : IVal → Value → Bool
  | .int k n, .int k' n' => k == k' && n == n'
  | .bool b, .bool b' => b == b'
  | .str l, .string s => s.data.toList == l
  | .prim (.pointer none), .pointer none => true
  | .prim .nilIface, .nilIface => true
  | .prim .nilFunc, .nilFunc => true
  | .prim (.map none), .map none => true
  | .sl _ _ [], .slice none 0 0 => true
  | _, _ => false

def cOKs : List IVal → List Value → Bool
  | [], [] => true
  | x :: xs, v :: vs => cOK1 x v && cOKs xs vs
  | _, _ => false

def cOK : IVal → Value → Bool
  | .agg xs, .agg vs => cOKs xs vs.toList
  | .tup [], .tuple vs => vs.isEmpty
  | x, v => cOK1 x v

theorem cOK1_V (g : Gh) {x : IVal} {v : Value} (h : cOK1 x v = true) : V g x v ∧ own3 x v = [] ∧ x.isCell = true := by
  unfold cOK1 at h
  split at h
  · simp at h; obtain ⟨rfl, rfl⟩ := h; exact ⟨.int _ _, rfl, rfl⟩
  · simp at h; subst h; exact ⟨.bool _, rfl, rfl⟩
  · simp at h; subst h; exact ⟨.str _, rfl, rfl⟩
  · exact ⟨.prim _ rfl, rfl, rfl⟩
  · exact ⟨.prim _ rfl, rfl, rfl⟩
  · exact ⟨.prim _ rfl, rfl, rfl⟩
  · exact ⟨.prim _ rfl, rfl, rfl⟩
  · exact ⟨.nil _ _, rfl, rfl⟩
  · cases h

theorem cOKs_V (g : Gh) : ∀ {xs : List IVal} {vs : List Value}, cOKs xs vs = true → xs.length = vs.length ∧ ∀ (i : Nat) x v, xs[i]? = some x → vs[i]? = some v → V g x v ∧ own1 x v = [] ∧ x.isCell = true := by
  intro xs
  induction xs with
  | nil => intro vs h; cases vs <;> simp [cOKs] at h ⊢
  | cons x xs ih =>
    intro vs h
    cases vs with
    | nil => simp [cOKs] at h
    | cons v vs =>
      simp [cOKs] at h
      obtain ⟨h1, h2⟩ := h
      obtain ⟨hl, hi⟩ := ih h2
      refine ⟨by simp [hl], fun i y u hy hu => ?_⟩
      cases i with
      | zero =>
        simp at hy hu
        subst hy hu
        obtain ⟨a, b, c⟩ := cOK1_V g h1
        exact ⟨a, by rw [← own3_cell c]; exact b, c⟩
      | succ i => simp at hy hu; exact hi i y u hy hu

theorem cOK_V (g : Gh) {x : IVal} {v : Value} (h : cOK x v = true) : V g x v ∧ own3 x v = [] := by
  unfold cOK at h
  split at h
  · rename_i xs vs
    obtain ⟨hl, hi⟩ := cOKs_V g h
    refine ⟨.agg xs vs (by simpa using hl) (fun i x v hx hv => (hi i x v hx (by simpa using hv)).1) (fun x hx => ?_), ?_⟩
    · obtain ⟨i, hx'⟩ := mem_idx hx
      obtain ⟨v, hv⟩ := get_of_len hl hx'
      exact (hi i x v hx' hv).2.2
    · simp only [own3, own2]
      apply flatten_nil
      intro c hc
      obtain ⟨i, x, y, h1, h2, rfl⟩ := mem_zipWith hc
      exact (hi i x y h1 h2).2.1
  · rename_i vs
    simp at h
    subst h
    exact ⟨.tup [] #[] rfl (by simp) (by simp), rfl⟩
  · obtain ⟨a, b, _⟩ := cOK1_V g h
    exact ⟨a, b⟩

def gOK1 : IVal → Value → Bool
  | .int k n, .int k' n' => k == k' && n == n'
  | .bool b, .bool b' => b == b'
  | .str l, .string s => s.data.toList == l
  | .iface t (.agg [.prim (.pointer (some ⟨b, o, none⟩))]), .iface t' (.agg vs) => t == t' && (match vs.toList with | [.pointer (some ⟨b', o', none⟩)] => b == b' && o == o' | _ => false)
  | _, _ => false

def gOKs : List IVal → List Value → Bool
  | [], [] => true
  | x :: xs, v :: vs => gOK1 x v && gOKs xs vs
  | _, _ => false

theorem gOK1_V (g : Gh) {x : IVal} {v : Value} (h : gOK1 x v = true) : V g x v ∧ un1 x = x ∧ x.isCell = true ∧ nr1 x = true := by
  unfold gOK1 at h
  split at h
  · simp at h; obtain ⟨rfl, rfl⟩ := h; exact ⟨.int _ _, rfl, rfl, rfl⟩
  · simp at h; subst h; exact ⟨.bool _, rfl, rfl, rfl⟩
  · simp at h; subst h; exact ⟨.str _, rfl, rfl, rfl⟩
  · rename_i t b o t' vs
    simp only [Bool.and_eq_true, beq_iff_eq] at h
    obtain ⟨rfl, h⟩ := h
    split at h
    · rename_i b' o' hv
      simp only [Bool.and_eq_true, beq_iff_eq] at h
      obtain ⟨rfl, rfl⟩ := h
      have hvs : vs = #[.pointer (some ⟨b, o, none⟩)] := by cases vs; simp at hv; simp [hv]
      subst hvs
      refine ⟨.iface _ _ _ (.agg _ _ rfl (fun i x v hx hv => ?_) (by simp [IVal.isCell])) ⟨rfl, rfl⟩, rfl, rfl, rfl⟩
      cases i with
      | zero => simp at hx hv; subst hx hv; exact .prim _ rfl
      | succ i => simp at hx
    · cases h
  · cases h

theorem gOKs_V (g : Gh) : ∀ {xs : List IVal} {vs : List Value}, gOKs xs vs = true → xs.length = vs.length ∧ (∀ (i : Nat) x v, xs[i]? = some x → vs[i]? = some v → V g x v) ∧ ∀ x ∈ xs, un1 x = x ∧ x.isCell = true ∧ nr1 x = true := by
  intro xs
  induction xs with
  | nil => intro vs h; cases vs <;> simp [gOKs] at h ⊢
  | cons x xs ih =>
    intro vs h
    cases vs with
    | nil => simp [gOKs] at h
    | cons v vs =>
      simp [gOKs] at h
      obtain ⟨h1, h2⟩ := h
      obtain ⟨a, b, c⟩ := gOK1_V g h1
      obtain ⟨hl, hi, ha⟩ := ih h2
      refine ⟨by simp [hl], fun i y u hy hu => ?_, fun y hy => ?_⟩
      · cases i with
        | zero => simp at hy hu; subst hy hu; exact a
        | succ i => simp at hy hu; exact hi i y u hy hu
      · rcases List.mem_cons.1 hy with rfl | hy
        · exact ⟨b, c⟩
        · exact ha y hy

def opdOK : Opd → Operand → Bool
  | .t i, .tmp j => i == j
  | .m i, .tmp j => i == j
  | .c x, .const v => cOK x v
  | .c (.fn (.func f) [] []), .func f' => f == f'
  | .c (.pv false cs 0), .global k => match Globs.vals k with
    | some vs => gOKs cs vs
    | none => false
  | _, _ => false

abbrev Roots := List (IVal × Value)

theorem get_sim {g : Gh} {O : List Nat} {x : Opd} {r : Operand} {ts ts' : Ts} {a : Act} {l : Roots} {σ : List IObj} {w : World} {v : IVal} (hx : opdOK x r = true) (hg : x.get ts = some (v, ts')) (hl : WT ts a.tmps)
    (hR : R g O (l ++ ts.roots a.tmps) σ w) : R g O ((v, a.eval r) :: (l ++ ts'.roots a.tmps)) σ w ∧ WT ts' a.tmps := by
  have hev : ∀ j, r = .tmp j → a.tmps.getD j undef = a.eval r := by rintro j rfl; rfl
  have hin : ∀ {rest : Roots} {p : IVal × Value} {q : Roots}, q.Perm (p :: rest) → (l ++ q).Perm (p :: (l ++ rest)) := fun h => (h.append_left l).trans List.perm_middle
  cases x with
  | t i =>
    cases r with
    | tmp j =>
      simp [opdOK] at hx
      subst hx
      simp only [Opd.get] at hg
      cases hi : ts.get? i with
      | none => simp [hi] at hg
      | some x =>
        simp [hi] at hg
        obtain ⟨rfl, rfl⟩ := hg
        refine ⟨?_, hl⟩
        obtain ⟨rest, h1, -⟩ := Ts.roots_get a.tmps hi
        have hp := hin h1
        exact ((hR.perm hp).dup).perm ((hp.symm).cons _)
    | _ => simp [opdOK] at hx
  | m i =>
    cases r with
    | tmp j =>
      simp [opdOK] at hx
      subst hx
      simp only [Opd.get] at hg
      cases hi : ts.get? i with
      | none => simp [hi] at hg
      | some x =>
        simp [hi] at hg
        obtain ⟨rfl, rfl⟩ := hg
        have h0 := hl _ _ (Ts.get?_spec hi)
        refine ⟨?_, hl.set h0.2 _⟩
        obtain ⟨rest, h1, h2⟩ := Ts.roots_get a.tmps hi
        exact ((hR.perm (hin h1)).move).perm ((hin (h2 (un3 x))).symm.cons _)
    | _ => simp [opdOK] at hx
  | c x =>
    simp only [Opd.get, Option.some.injEq, Prod.mk.injEq] at hg
    obtain ⟨rfl, rfl⟩ := hg
    refine ⟨?_, hl⟩
    unfold opdOK at hx
    split at hx
    · rename_i h; cases h
    · rename_i h; cases h
    · rename_i y u h
      cases h
      obtain ⟨h1, h2⟩ := cOK_V g hx
      exact hR.push h1 h2
    · rename_i f f' h
      cases h
      simp at hx
      subst hx
      exact hR.push (.fn (.func f) [] [] #[] #[] rfl (by simp) (by simp) rfl (by simp) (by simp)) rfl
    · rename_i cs k h
      cases h
      split at hx
      · rename_i vs hk
        obtain ⟨h1, h2, h3⟩ := gOKs_V g hx
        exact hR.push (.pv false cs 0 vs ⟨k, 0, none⟩ rfl (Nat.le_refl _) h1 h2 (fun x hx => ⟨(h3 x hx).1, (h3 x hx).2.1⟩) (fun _ x hx => (h3 x hx).2.2) (hR.glob k vs hk)) rfl
      · cases hx
    · cases hx

def opdsOK : List Opd → List Operand → Bool
  | [], [] => true
  | x :: xs, r :: rs => opdOK x r && opdsOK xs rs
  | _, _ => false

theorem opdsOK_len : ∀ {xs : List Opd} {rs : List Operand}, opdsOK xs rs = true → xs.length = rs.length := by
  intro xs
  induction xs with
  | nil => intro rs h; cases rs <;> simp [opdsOK] at h ⊢
  | cons x xs ih => intro rs h; cases rs <;> simp [opdsOK] at h ⊢; exact ih h.2

theorem getAll_len : ∀ {xs : List Opd} {ts ts' : Ts} {vs : List IVal}, getAll xs ts = some (vs, ts') → vs.length = xs.length := by
  intro xs
  induction xs with
  | nil => intro ts ts' vs h; simp [getAll] at h; simp [← h.1]
  | cons x xs ih =>
    intro ts ts' vs h
    simp only [getAll] at h
    split at h
    · split at h
      · rename_i h1 h2
        simp at h
        obtain ⟨rfl, rfl⟩ := h
        simp [ih h2]
      · cases h
    · cases h

theorem getAll_sim {g : Gh} {O : List Nat} {a : Act} {σ : List IObj} {w : World} : ∀ {xs : List Opd} {rs : List Operand} {ts ts' : Ts} {vs : List IVal} {l : Roots}, opdsOK xs rs = true → getAll xs ts = some (vs, ts') → WT ts a.tmps →
    R g O (l ++ ts.roots a.tmps) σ w → R g O (vs.zip (rs.map a.eval) ++ (l ++ ts'.roots a.tmps)) σ w ∧ WT ts' a.tmps ∧ vs.length = (rs.map a.eval).length := by
  intro xs
  induction xs with
  | nil =>
    intro rs ts ts' vs l ho hg hl hR
    simp [getAll] at hg
    obtain ⟨rfl, rfl⟩ := hg
    cases rs <;> simp [opdsOK] at ho
    exact ⟨by simpa using hR, hl, rfl⟩
  | cons x xs ih =>
    intro rs ts ts' vs l ho hg hl hR
    cases rs with
    | nil => simp [opdsOK] at ho
    | cons r rs =>
      simp [opdsOK] at ho
      simp only [getAll] at hg
      split at hg
      · rename_i v ts1 h1
        split at hg
        · rename_i us ts2 h2
          simp at hg
          obtain ⟨rfl, rfl⟩ := hg
          obtain ⟨hR1, hl1⟩ := get_sim ho.1 h1 hl hR
          obtain ⟨hR2, hl2, hl3⟩ := ih (l := (v, a.eval r) :: l) ho.2 h2 hl1 (by simpa using hR1)
          refine ⟨hR2.perm ?_, hl2, by simpa using hl3⟩
          simp only [List.map_cons, List.zip_cons_cons, List.cons_append]
          exact List.perm_middle
        · cases hg
      · cases hg

/-! ### what is asked of an operation -/
def nxVal : Next → Value → Prop
  | .value u, v => u = v
  | .skip, v => v = undef
  | _, _ => False

/-- Where an operation, or a call, leaves: the state, the world. -/
def Post (g : Gh) (O : List Nat) (w : World) (s : St) (v : IVal) (v' : Value) (s' : St) (a : Act) (w' : World) : Prop :=
  ∃ g' O' wn, Grow O g w O' g' w' ∧ R g' O' ((v, v') :: s'.ts.roots a.tmps) s'.σ w' ∧ WT s'.ts a.tmps ∧ s'.wr = wn ++ s.wr ∧ Keep s.σ s'.σ wn

/-- An operation that yields a value. -/
def SimV (P : Program) (o : Oper) (a : Act) (g : Gh) (O : List Nat) (w : World) (s : St) (res : Res) : Prop :=
  res.pan = false ∧ ∃ v' w' nx, (execOp a.eval o).run P w = .ok nx w' ∧ nxVal nx v' ∧ Post g O w s res.v v' res.s a w'

/-- The world, the store are as they were. -/
theorem Post.same {g : Gh} {O : List Nat} {w : World} {s : St} {v : IVal} {v' : Value} {ts : Ts} {a : Act} (hR : R g O ((v, v') :: ts.roots a.tmps) s.σ w) (hl : WT ts a.tmps) :
    Post g O w s v v' { s with ts := ts } a w :=
  ⟨g, O, [], .refl O g w, hR, hl, rfl, .refl _⟩

theorem SimV.same {P : Program} {o : Oper} {a : Act} {g : Gh} {O : List Nat} {w : World} {s : St} {v : IVal} {v' : Value} {ts : Ts} (hrun : (execOp a.eval o).run P w = .ok (.value v') w)
    (hR : R g O ((v, v') :: ts.roots a.tmps) s.σ w) (hl : WT ts a.tmps) : SimV P o a g O w s ⟨false, v, { s with ts := ts }⟩ :=
  ⟨rfl, v', w, _, hrun, rfl, Post.same hR hl⟩

end Go.Idl
