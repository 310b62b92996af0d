/-
  The relation between ideal states and worlds.
-/
import Derived.Test.YtkjcgfadojfeeaaIdlRel
set_option linter.unusedSectionVars false
set_option linter.unusedVariables false
set_option linter.unusedSimpArgs false
namespace Go.Idl
variable [Globs]

/-! ### references below a number -/
inductive RL (n : Nat) : IVal → Prop where
  | int (k : IntKind) (i : Int) : RL n (.int k i)
  | bool (b : Bool) : RL n (.bool b)
  | str (s : List UInt8) : RL n (.str s)
  | prim (v : Value) : RL n (.prim v)
  | sl (own : Nat) (r : Bool) (xs : List IVal) (h : ∀ x ∈ xs, RL n x) : RL n (.sl own r xs)
  | rs (e id off len : Nat) (h : id < n) : RL n (.rs e id off len)
  | ptr (id off : Nat) (h : id < n) : RL n (.ptr id off)
  | pv (r : Bool) (cs : List IVal) (off : Nat) (h : ∀ x ∈ cs, RL n x) : RL n (.pv r cs off)
  | map (id : Nat) (h : id < n) : RL n (.map id)
  | yl (id : Nat) (h : id < n) : RL n (.yl id)
  | fn (f : Fn) (xs ys : List IVal) (h : ∀ x ∈ xs, RL n x) (h' : ∀ x ∈ ys, RL n x) : RL n (.fn f xs ys)
  | iface (t : TypeId) (x : IVal) (h : RL n x) : RL n (.iface t x)
  | agg (xs : List IVal) (h : ∀ x ∈ xs, RL n x) : RL n (.agg xs)
  | tup (xs : List IVal) (h : ∀ x ∈ xs, RL n x) : RL n (.tup xs)

theorem RL.le {n m : Nat} {x : IVal} (h : RL n x) (hle : n ≤ m) : RL m x := by
  induction h with
  | int k i => exact .int k i
  | bool b => exact .bool b
  | str s => exact .str s
  | prim v => exact .prim v
  | sl o r xs _ ih => exact .sl o r xs ih
  | rs e id off len h => exact .rs e id off len (by omega)
  | ptr id off h => exact .ptr id off (by omega)
  | pv r cs off _ ih => exact .pv r cs off ih
  | map id h => exact .map id (by omega)
  | yl id h => exact .yl id (by omega)
  | fn f xs ys _ _ ih ih' => exact .fn f xs ys ih ih'
  | iface t x _ ih => exact .iface t x ih
  | agg xs _ ih => exact .agg xs ih
  | tup xs _ ih => exact .tup xs ih

theorem RL.un1 {n : Nat} {x : IVal} (h : RL n x) : RL n (un1 x) := by
  cases h with
  | sl o r xs h => exact .sl 0 r xs h
  | int k i => exact .int k i
  | bool b => exact .bool b
  | str s => exact .str s
  | prim v => exact .prim v
  | rs e id off len h => exact .rs e id off len h
  | ptr id off h => exact .ptr id off h
  | pv r cs off h => exact .pv r cs off h
  | map id h => exact .map id h
  | yl id h => exact .yl id h
  | fn f xs ys h h' => exact .fn f xs ys h h'
  | iface t x h => exact .iface t x h
  | agg xs h => exact .agg xs h
  | tup xs h => exact .tup xs h

theorem RL.un2 {n : Nat} {x : IVal} (h : RL n x) : RL n (un2 x) := by
  cases x with
  | agg xs =>
    cases h with
    | agg _ h =>
    refine .agg _ (fun y hy => ?_)
    simp at hy
    obtain ⟨y', hy', rfl⟩ := hy
    exact (h y' hy').un1
  | _ => exact h.un1

theorem mem_idx {α : Type} {l : List α} {x : α} (h : x ∈ l) : ∃ i : Nat, l[i]? = some x := List.mem_iff_getElem?.1 h

theorem get_of_len {α β : Type} {l : List α} {m : List β} (h : l.length = m.length) {i : Nat} {x : α} (hx : l[i]? = some x) : ∃ y, m[i]? = some y := by
  have : i < m.length := by rw [← h]; exact (List.getElem?_eq_some_iff.1 hx).1
  exact ⟨m[i], by simp [this]⟩

theorem get_of_size {α β : Type} {l : List α} {m : Array β} (h : l.length = m.size) {i : Nat} {x : α} (hx : l[i]? = some x) : ∃ y, m[i]? = some y := by
  have : i < m.size := by rw [← h]; exact (List.getElem?_eq_some_iff.1 hx).1
  exact ⟨m[i], by simp [this]⟩

theorem lt_of_get {α : Type} {l : List α} {i : Nat} {x : α} (h : l[i]? = some x) : i < l.length := (List.getElem?_eq_some_iff.1 h).1

theorem V.rl {g : Gh} {x : IVal} {v : Value} (h : V g x v) : RL g.ι.length x := by
  induction h with
  | int k n => exact .int k n
  | bool b => exact .bool b
  | str s => exact .str _
  | prim v h => exact .prim v
  | nil o r => exact .sl o r [] (by simp)
  | sl own r xs vs a cap esz hs hc hl hv hf hr hz hm ho ih =>
    refine .sl own r xs (fun x hx => ?_)
    obtain ⟨i, hi⟩ := mem_idx hx
    obtain ⟨v, hv⟩ := get_of_len hl hi
    exact ih i x v hi hv
  | rs e id off len cap b hb hc => exact .rs e id off len (lt_of_get hb)
  | ptr id off b hb => exact .ptr id off (lt_of_get hb)
  | pv r cs off vs a hs ho hl hv hf hr hm ih =>
    refine .pv r cs off (fun x hx => ?_)
    obtain ⟨i, hi⟩ := mem_idx hx
    obtain ⟨v, hv⟩ := get_of_len hl hi
    exact ih i x v hi hv
  | map id b hb => exact .map id (lt_of_get hb)
  | yl id b hb => exact .yl id (lt_of_get hb)
  | fn f xs ys vs us hl hv hf hl' hv' hf' ih ih' =>
    refine .fn f xs ys (fun x hx => ?_) (fun x hx => ?_)
    · obtain ⟨i, hi⟩ := mem_idx hx
      obtain ⟨v, hv⟩ := get_of_size hl hi
      exact ih i x v hi hv
    · obtain ⟨i, hi⟩ := mem_idx hx
      obtain ⟨v, hv⟩ := get_of_size hl' hi
      exact ih' i x v hi hv
  | iface t x v hv hf ih => exact .iface t x ih
  | agg xs vs hl hv hi ih =>
    refine .agg xs (fun x hx => ?_)
    obtain ⟨i, hi⟩ := mem_idx hx
    obtain ⟨v, hv⟩ := get_of_size hl hi
    exact ih i x v hi hv
  | tup xs vs hl hv hi ih =>
    refine .tup xs (fun x hx => ?_)
    obtain ⟨i, hi⟩ := mem_idx hx
    obtain ⟨v, hv⟩ := get_of_size hl hi
    exact ih i x v hi hv

def Gh.cut (g : Gh) (n : Nat) : Gh := { g with ι := g.ι.take n }

theorem V.cut {g : Gh} {x : IVal} {v : Value} (n : Nat) (h : V g x v) : RL n x → V (g.cut n) x v := by
  induction h with
  | int k i => exact fun _ => .int k i
  | bool b => exact fun _ => .bool b
  | str s => exact fun _ => .str _
  | prim v h => exact fun _ => .prim v h
  | nil o r => exact fun _ => .nil o r
  | sl own r xs vs a cap esz hs hc hl hv hf hr hz hm ho ih =>
    intro hr'
    cases hr' with
    | sl _ _ _ h => exact .sl own r xs vs a cap esz hs hc hl (fun i x v hx hw => ih i x v hx hw (h x (List.mem_of_getElem? hx))) hf hr hz hm ho
  | rs e id off len cap b hb hc =>
    intro hr'
    cases hr' with
    | rs _ _ _ _ h => exact .rs e id off len cap b (by simp [Gh.cut, h, hb]) hc
  | ptr id off b hb =>
    intro hr'
    cases hr' with
    | ptr _ _ h => exact .ptr id off b (by simp [Gh.cut, h, hb])
  | pv r cs off vs a hs ho hl hv hf hr hm ih =>
    intro hr'
    cases hr' with
    | pv _ _ _ h => exact .pv r cs off vs a hs ho hl (fun i x v hx hw => ih i x v hx hw (h x (List.mem_of_getElem? hx))) hf hr hm
  | map id b hb =>
    intro hr'
    cases hr' with
    | map _ h => exact .map id b (by simp [Gh.cut, h, hb])
  | yl id b hb =>
    intro hr'
    cases hr' with
    | yl _ h => exact .yl id b (by simp [Gh.cut, h, hb])
  | fn f xs ys vs us hl hv hf hl' hv' hf' ih ih' =>
    intro hr'
    cases hr' with
    | fn _ _ _ h h' => exact .fn f xs ys vs us hl (fun i x v hx hw => ih i x v hx hw (h x (List.mem_of_getElem? hx))) hf hl' (fun i x v hx hw => ih' i x v hx hw (h' x (List.mem_of_getElem? hx))) hf'
  | iface t x v hv hf ih =>
    intro hr'
    cases hr' with
    | iface _ _ h => exact .iface t x v (ih h) hf
  | agg xs vs hl hv hi ih =>
    intro hr'
    cases hr' with
    | agg _ h => exact .agg xs vs hl (fun i x v hx hw => ih i x v hx hw (h x (List.mem_of_getElem? hx))) hi
  | tup xs vs hl hv hi ih =>
    intro hr'
    cases hr' with
    | tup _ h => exact .tup xs vs hl (fun i x v hx hw => ih i x v hx hw (h x (List.mem_of_getElem? hx))) hi

theorem nr1_of_nr0 {x : IVal} (h : nr0 x = true) : nr1 x = true := by cases x <;> simp_all [nr0, nr1]
theorem nr2_of_nr1 {x : IVal} (h : nr1 x = true) : nr2 x = true := by
  cases x with
  | agg xs => simp [nr1, nr0] at h
  | _ => exact h
theorem nr3_of_nr2 {x : IVal} (h : nr2 x = true) : nr3 x = true := by
  cases x with
  | tup xs => simp [nr2, nr1, nr0] at h
  | _ => exact h

/-- What holds no reference is below any number. -/
theorem V.norl {g : Gh} {x : IVal} {v : Value} (n : Nat) (h : V g x v) : nr3 x = true → RL n x := by
  induction h with
  | int k i => exact fun _ => .int k i
  | bool b => exact fun _ => .bool b
  | str s => exact fun _ => .str _
  | prim v h => exact fun _ => .prim v
  | nil o r => exact fun _ => .sl o r [] (by simp)
  | sl own r xs vs a cap esz hs hc hl hv hf hr hz hm ho ih =>
    intro h
    simp [nr3, nr2, nr1, nr0] at h
    subst h
    refine .sl own false xs (fun x hx => ?_)
    obtain ⟨i, hi⟩ := mem_idx hx
    obtain ⟨v, hv⟩ := get_of_len hl hi
    exact ih i x v hi hv (nr3_of_nr2 (hr rfl x hx))
  | rs e id off len cap b hb hc => intro h; simp [nr3, nr2, nr1, nr0] at h
  | ptr id off b hb => intro h; simp [nr3, nr2, nr1, nr0] at h
  | pv r cs off vs a hs ho hl hv hf hr hm ih =>
    intro h
    simp [nr3, nr2, nr1, nr0] at h
    subst h
    refine .pv false cs off (fun x hx => ?_)
    obtain ⟨i, hi⟩ := mem_idx hx
    obtain ⟨v, hv⟩ := get_of_len hl hi
    exact ih i x v hi hv (nr3_of_nr2 (nr2_of_nr1 (hr rfl x hx)))
  | map id b hb => intro h; simp [nr3, nr2, nr1, nr0] at h
  | yl id b hb => intro h; simp [nr3, nr2, nr1, nr0] at h
  | fn f xs ys vs us hl hv hf hl' hv' hf' ih ih' =>
    intro h
    cases xs <;> cases ys <;> simp [nr3, nr2, nr1, nr0] at h
    exact .fn f [] [] (by simp) (by simp)
  | iface t x v hv hf ih =>
    intro h
    refine .iface t x (ih ?_)
    cases x with
    | agg cs =>
      simp only [nr3, nr2, nr1, List.all_eq_true] at h ⊢
      exact fun y hy => nr1_of_nr0 (h y hy)
    | tup cs => simp [nr3, nr2, nr1, nr0] at h
    | _ => simp only [nr3, nr2, nr1] at h; exact nr3_of_nr2 (nr2_of_nr1 (nr1_of_nr0 h))
  | agg xs vs hl hv hi ih =>
    intro h
    simp only [nr3, nr2, List.all_eq_true] at h
    refine .agg xs (fun x hx => ?_)
    obtain ⟨i, hi⟩ := mem_idx hx
    obtain ⟨v, hv⟩ := get_of_size hl hi
    exact ih i x v hi hv (nr3_of_nr2 (nr2_of_nr1 (h x hx)))
  | tup xs vs hl hv hi ih =>
    intro h
    simp only [nr3, List.all_eq_true] at h
    refine .tup xs (fun x hx => ?_)
    obtain ⟨i, hi⟩ := mem_idx hx
    obtain ⟨v, hv⟩ := get_of_size hl hi
    exact ih i x v hi hv (nr3_of_nr2 (h x hx))

/-! ### objects, states -/
/-- How a record stands. -/
def stOf : Nat → LoopState
  | 0 => .ready
  | 1 => .busy
  | 2 => .done
  | _ => .exhausted
def pendOf : Option IExit → Option Code
  | some (.exit id) => some (.exit id)
  | some (.goto l) => some (.goto l)
  | some .ret => some .ret
  | _ => none

/-- Each stands at its own slot. -/
def WT (ts : Ts) (tmps : Array Value) : Prop := ∀ k p, ts.t.get k = some p → ts.slot p.1 = k ∧ p.1 < tmps.size

structure LoopR (g : Gh) (L : ILoop) (r : Loop) : Prop where
  st : r.state = stOf L.st
  ps : r.params.toList = L.ps
  pend : r.pending = pendOf L.pend
  wt : WT L.ts r.tmps
  ds : L.ts.ds = []
  vals : ∀ p ∈ L.ts.t.list, V g p.2 (r.tmps.getD p.1 undef) ∧ un3 p.2 = p.2
  code : ∃ n, n ≤ r.tmps.size ∧ (∀ p ∈ L.ps, p < n) ∧ g.C n L.ts.nv L.ts.m r.assign L.a ∧ g.C n L.ts.nv L.ts.m r.body L.b

def OBJ (g : Gh) (w : World) (b : Nat) : IObj → Prop
  | .cells cs => ∃ c el, w.heap[b]? = some (.cells c el (0, 0)) ∧ c.size = cs.length ∧ ∀ (i : Nat) x v, cs[i]? = some x → c[i]? = some v → V g x v ∧ x.isCell = true
  | .map es => ∃ mes clock, w.heap[b]? = some (.map mes clock) ∧ mes.size = es.length ∧
      ∀ (i : Nat) e me, es[i]? = some e → mes[i]? = some me → (V g e.1 me.key ∧ V g e.2 me.val) ∧ Flat e.1 ∧ Flat e.2
  | .loop L => ∃ r : Loop, w.heap[b]? = some (.loop r) ∧ LoopR g L r
  | .defr => w.heap[b]? = some (.deferred (some []))
  | .dead => True

def blockCells (w : World) (b : Nat) : List Value :=
  match w.heap[b]? with
  | some (.cells c _ _) => c.toList
  | _ => []

def ownO (w : World) (b : Nat) : IObj → List Nat
  | .cells cs => b :: (List.zipWith own1 cs (blockCells w b)).flatten
  | .map _ => [b]
  | .loop _ => [b]
  | .defr => [b]
  | .dead => []

def ownS (w : World) (ι : List Nat) (σ : List IObj) : List Nat := (List.zipWith (ownO w) ι σ).flatten
def ownL (l : List (IVal × Value)) : List Nat := (l.map fun p => own3 p.1 p.2).flatten

def Spare (g : Gh) (w : World) (b : Nat) : Prop := ∀ ext top, g.T b = some (ext, top) →
  (∃ c el fz, w.heap[b]? = some (.cells c el fz) ∧ top ≤ c.size ∧ fz.2 ≤ ext) ∧ ∀ o, ext ≤ o → g.M b o = none

structure R (g : Gh) (O : List Nat) (l : List (IVal × Value)) (σ : List IObj) (w : World) : Prop where
  len : g.ι.length = σ.length
  vals : ∀ p ∈ l, V g p.1 p.2
  objs : ∀ (id b : Nat) o, g.ι[id]? = some b → σ[id]? = some o → OBJ g w b o
  nodup : (ownL l ++ ownS w g.ι σ).Nodup
  sub : ∀ b ∈ ownL l ++ ownS w g.ι σ, b ∈ O
  lt : ∀ b ∈ O, b < w.heap.size
  claim : ∀ b o v, g.M b o = some v → w.cell? ⟨b, o, none⟩ = some v
  apart : ∀ (id b : Nat) o, g.ι[id]? = some b → σ[id]? = some o → b ∈ ownO w b o → ∀ k, g.M b k = none
  spare : ∀ b ∈ O, Spare g w b
  glob : ∀ k vs, Globs.vals k = some vs → Claims g k 0 vs

structure Grow (O : List Nat) (g : Gh) (w : World) (O' : List Nat) (g' : Gh) (w' : World) : Prop where
  size : w.heap.size ≤ w'.heap.size
  same : ∀ b, b < w.heap.size → b ∉ O → w'.heap[b]? = w.heap[b]? ∧ g'.T b = g.T b ∧ ∀ o, g'.M b o = g.M b o
  mono : ∀ b o v, g.M b o = some v → g'.M b o = some v
  pre : ∀ (id b : Nat), g.ι[id]? = some b → g'.ι[id]? = some b
  fresh : ∀ b ∈ O', b ∈ O ∨ w.heap.size ≤ b
  code : g'.C = g.C
  os : w'.os = w.os
  tape : w'.tape = w.tape
  output : w'.output = w.output

theorem Grow.refl (O : List Nat) (g : Gh) (w : World) : Grow O g w O g w := ⟨Nat.le_refl _, fun _ _ _ => ⟨rfl, rfl, fun _ => rfl⟩, fun _ _ _ h => h, fun _ _ h => h, fun _ h => .inl h, rfl, rfl, rfl, rfl⟩

theorem Grow.trans {O O' O'' : List Nat} {g g' g'' : Gh} {w w' w'' : World} (h : Grow O g w O' g' w') (k : Grow O' g' w' O'' g'' w'') : Grow O g w O'' g'' w'' := by
  refine ⟨Nat.le_trans h.size k.size, fun b hb hO => ?_, fun b o v hm => k.mono b o v (h.mono b o v hm), fun id b hb => k.pre id b (h.pre id b hb), fun b hb => ?_, k.code.trans h.code, k.os.trans h.os, k.tape.trans h.tape, k.output.trans h.output⟩
  · have h1 := h.same b hb hO
    have hO' : b ∉ O' := fun hm => by
      rcases h.fresh b hm with h2 | h2
      · exact hO h2
      · omega
    have h2 := k.same b (Nat.lt_of_lt_of_le hb h.size) hO'
    exact ⟨h2.1.trans h1.1, h2.2.1.trans h1.2.1, fun o => (h2.2.2 o).trans (h1.2.2 o)⟩
  · rcases k.fresh b hb with h1 | h1
    · exact h.fresh b h1
    · exact .inr (Nat.le_trans h.size h1)

/-- References of what stands in the store. -/
def RLO (n : Nat) : IObj → Prop
  | .cells cs => ∀ x ∈ cs, RL n x
  | .map es => ∀ e ∈ es, RL n e.1 ∧ RL n e.2
  | .loop L => ∀ p ∈ L.ts.t.list, RL n p.2
  | .defr => True
  | .dead => True

def Keep (σ σ' : List IObj) (wr : List (Nat × Bool)) : Prop :=
  σ.length ≤ σ'.length ∧ ∀ n, n ≤ σ.length → (∀ p ∈ wr, p.2 = true → n ≤ p.1) → (∀ id o, id < n → σ[id]? = some o → RLO n o) → ∀ id o, id < n → σ'[id]? = some o → RLO n o

theorem Keep.refl (σ : List IObj) : Keep σ σ [] := ⟨Nat.le_refl _, fun _ _ _ h => h⟩

theorem Keep.trans {σ σ' σ'' : List IObj} {wr wr' : List (Nat × Bool)} (h : Keep σ σ' wr) (k : Keep σ' σ'' wr') : Keep σ σ'' (wr' ++ wr) := by
  refine ⟨Nat.le_trans h.1 k.1, fun n hn hw ho => ?_⟩
  exact k.2 n (Nat.le_trans hn h.1) (fun p hp => hw p (by simp [hp])) (h.2 n hn (fun p hp => hw p (by simp [hp])) ho)

/-! ### roots -/
theorem ownL_perm {l l' : List (IVal × Value)} (h : l.Perm l') : (ownL l).Perm (ownL l') := (h.map _).flatten

theorem R.perm {g : Gh} {O : List Nat} {l l' : List (IVal × Value)} {σ : List IObj} {w : World} (h : R g O l σ w) (hp : l.Perm l') : R g O l' σ w := by
  have hp' := (ownL_perm hp).append_right (ownS w g.ι σ)
  exact ⟨h.len, fun p hm => h.vals p (hp.mem_iff.2 hm), h.objs, hp'.nodup_iff.1 h.nodup, fun b hb => h.sub b (hp'.mem_iff.2 hb), h.lt, h.claim, h.apart, h.spare, h.glob⟩

theorem R.drop {g : Gh} {O : List Nat} {p : IVal × Value} {l : List (IVal × Value)} {σ : List IObj} {w : World} (h : R g O (p :: l) σ w) : R g O l σ w := by
  have e : ownL (p :: l) = own3 p.1 p.2 ++ ownL l := by simp [ownL]
  have hn := h.nodup
  have hs := h.sub
  rw [e, List.append_assoc] at hn hs
  exact ⟨h.len, fun q hm => h.vals q (by simp [hm]), h.objs, (List.nodup_append.1 hn).2.1, fun b hb => hs b (List.mem_append_right _ hb), h.lt, h.claim, h.apart, h.spare, h.glob⟩

theorem R.push {g : Gh} {O : List Nat} {x : IVal} {v : Value} {l : List (IVal × Value)} {σ : List IObj} {w : World} (h : R g O l σ w) (hv : V g x v) (ho : own3 x v = []) : R g O ((x, v) :: l) σ w := by
  have e : ownL ((x, v) :: l) = ownL l := by simp [ownL, ho]
  refine ⟨h.len, fun q hm => ?_, h.objs, by rw [e]; exact h.nodup, by rw [e]; exact h.sub, h.lt, h.claim, h.apart, h.spare, h.glob⟩
  rcases List.mem_cons.1 hm with rfl | hm
  · exact hv
  · exact h.vals q hm

theorem R.dup {g : Gh} {O : List Nat} {x : IVal} {v : Value} {l : List (IVal × Value)} {σ : List IObj} {w : World} (h : R g O ((x, v) :: l) σ w) : R g O ((un3 x, v) :: (x, v) :: l) σ w :=
  h.push (h.vals (x, v) (by simp)).un3 (own3_un3 x v)

theorem R.move {g : Gh} {O : List Nat} {x : IVal} {v : Value} {l : List (IVal × Value)} {σ : List IObj} {w : World} (h : R g O ((x, v) :: l) σ w) : R g O ((x, v) :: (un3 x, v) :: l) σ w :=
  h.dup.perm (.swap _ _ _)

/-- A root in another's place: what it owns is among what that one owned. -/
theorem R.swap {g : Gh} {O : List Nat} {x y : IVal} {v u : Value} {l : List (IVal × Value)} {σ : List IObj} {w : World} (h : R g O ((x, v) :: l) σ w) (hv : V g x v → V g y u) (ho : (own3 y u).Sublist (own3 x v)) : R g O ((y, u) :: l) σ w := by
  have e : ownL ((x, v) :: l) = own3 x v ++ ownL l := by simp [ownL]
  have e' : ownL ((y, u) :: l) = own3 y u ++ ownL l := by simp [ownL]
  have hs : (ownL ((y, u) :: l) ++ ownS w g.ι σ).Sublist (ownL ((x, v) :: l) ++ ownS w g.ι σ) := by
    rw [e, e', List.append_assoc, List.append_assoc]
    exact ho.append_right _
  refine ⟨h.len, fun q hm => ?_, h.objs, h.nodup.sublist hs, fun b hb => h.sub b (hs.mem hb), h.lt, h.claim, h.apart, h.spare, h.glob⟩
  rcases List.mem_cons.1 hm with rfl | hm
  · exact hv (h.vals (x, v) (by simp))
  · exact h.vals q (by simp [hm])

theorem perm_get {α : Type} {l : List α} {i : Nat} {x : α} (h : l[i]? = some x) : l.Perm (x :: l.eraseIdx i) := by
  induction l generalizing i with
  | nil => simp at h
  | cons a l ih =>
    cases i with
    | zero => simp at h; subst h; simp
    | succ i => simp at h; simp only [List.eraseIdx_cons_succ]; exact ((ih h).cons a).trans (.swap _ _ _)

theorem perm_set {α : Type} {l : List α} {i : Nat} (y : α) (h : i < l.length) : (l.set i y).Perm (y :: l.eraseIdx i) := by
  induction l generalizing i with
  | nil => simp at h
  | cons a l ih =>
    cases i with
    | zero => simp
    | succ i => simp at h; simp only [List.set_cons_succ, List.eraseIdx_cons_succ]; exact ((ih h).cons a).trans (.swap _ _ _)

end Go.Idl
