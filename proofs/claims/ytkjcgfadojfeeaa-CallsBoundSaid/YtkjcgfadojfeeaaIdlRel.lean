/-
  The relation between ideal values and the model's values; its laws.
-/
import Derived.Test.YtkjcgfadojfeeaaIdlDef
import Derived.Below
set_option linter.unusedSectionVars false
set_option linter.unusedVariables false
set_option linter.unusedSimpArgs false
namespace Go.Idl

structure Gh where
  ι : List Nat
  M : Nat → Nat → Option Value
  T : Nat → Option (Nat × Nat)
  C : Nat → Nat → Nat → Code → ICode → Prop

def isCellV : Value → Bool
  | .agg _ => false
  | .tuple _ => false
  | _ => true

def flatV (vs : List Value) : List Value := vs.flatMap fun v => v.cells.toList

def Claims (g : Gh) (b o : Nat) (cs : List Value) : Prop := ∀ k c, cs[k]? = some c → g.M b (o + k) = some c

def okPrim : Value → Bool
  | .pointer none => true
  | .nilIface => true
  | .nilFunc => true
  | .map none => true
  | .pointer (some ⟨_, _, none⟩) => true
  | _ => false

/-- No right to append in it. -/
def Flat (x : IVal) : Prop := un2 x = x ∧ nt x = true

/-- What package-level variables hold that are never written: cell by cell. -/
class Globs where
  vals : Nat → Option (List Value)

inductive V (g : Gh) : IVal → Value → Prop where
  | int (k : IntKind) (n : Int) : V g (.int k n) (.int k n)
  | bool (b : Bool) : V g (.bool b) (.bool b)
  | str (s : ByteArray) : V g (.str s.data.toList) (.string s)
  | prim (v : Value) (h : okPrim v = true) : V g (.prim v) v
  | nil (own : Nat) (r : Bool) : V g (.sl own r []) (.slice none 0 0)
  | sl (own : Nat) (r : Bool) (xs : List IVal) (vs : List Value) (a : Addr) (cap esz : Nat) (hs : 0 < cap → a.spot = none) (hc : xs.length ≤ cap)
      (hl : xs.length = vs.length) (hv : ∀ (i : Nat) x v, xs[i]? = some x → vs[i]? = some v → V g x v) (hf : ∀ x ∈ xs, Flat x)
      (hr : r = false → ∀ x ∈ xs, nr2 x = true) (hz : ∀ v ∈ vs, v.cells.size = esz) (hm : Claims g a.block a.off (flatV vs))
      (ho : own ≠ 0 → own = esz ∧ (xs.length < cap → g.T a.block = some (a.off + xs.length * esz, a.off + cap * esz))) :
      V g (.sl own r xs) (.slice (some a) xs.length cap)
  | rs (e id off len cap b : Nat) (hb : g.ι[id]? = some b) (hc : len ≤ cap) : V g (.rs e id off len) (.slice (some ⟨b, off, none⟩) len cap)
  | ptr (id off b : Nat) (hb : g.ι[id]? = some b) : V g (.ptr id off) (.pointer (some ⟨b, off, none⟩))
  | pv (r : Bool) (cs : List IVal) (off : Nat) (vs : List Value) (a : Addr) (hs : a.spot = none) (ho : off ≤ a.off) (hl : cs.length = vs.length)
      (hv : ∀ (i : Nat) x v, cs[i]? = some x → vs[i]? = some v → V g x v) (hf : ∀ x ∈ cs, un1 x = x ∧ x.isCell = true) (hr : r = false → ∀ x ∈ cs, nr1 x = true)
      (hm : Claims g a.block (a.off - off) vs) : V g (.pv r cs off) (.pointer (some a))
  | map (id b : Nat) (hb : g.ι[id]? = some b) : V g (.map id) (.map (some b))
  | yl (id b : Nat) (hb : g.ι[id]? = some b) : V g (.yl id) (.func (.yield b) #[] #[])
  | fn (f : Fn) (xs ys : List IVal) (vs us : Array Value) (hl : xs.length = vs.size) (hv : ∀ (i : Nat) x v, xs[i]? = some x → vs[i]? = some v → V g x v) (hf : ∀ x ∈ xs, Flat x)
      (hl' : ys.length = us.size) (hv' : ∀ (i : Nat) x v, ys[i]? = some x → us[i]? = some v → V g x v) (hf' : ∀ x ∈ ys, Flat x) : V g (.fn f xs ys) (.func f vs us)
  | iface (t : TypeId) (x : IVal) (v : Value) (hv : V g x v) (hf : Flat x) : V g (.iface t x) (.iface t v)
  | agg (xs : List IVal) (vs : Array Value) (hl : xs.length = vs.size) (hv : ∀ (i : Nat) x v, xs[i]? = some x → vs[i]? = some v → V g x v)
      (hi : ∀ x ∈ xs, x.isCell = true) : V g (.agg xs) (.agg vs)
  | tup (xs : List IVal) (vs : Array Value) (hl : xs.length = vs.size) (hv : ∀ (i : Nat) x v, xs[i]? = some x → vs[i]? = some v → V g x v)
      (hi : ∀ x ∈ xs, nt x = true) : V g (.tup xs) (.tuple vs)

/-! ### what is owned -/
def own1 : IVal → Value → List Nat
  | .sl own _ xs, .slice (some a) _ cap => if own = 0 ∨ cap ≤ xs.length then [] else [a.block]
  | _, _ => []
def own2 : IVal → Value → List Nat
  | .agg xs, .agg vs => (List.zipWith own1 xs vs.toList).flatten
  | x, v => own1 x v
def own3 : IVal → Value → List Nat
  | .tup xs, .tuple vs => (List.zipWith own2 xs vs.toList).flatten
  | x, v => own2 x v

theorem own1_un1 (x : IVal) (v : Value) : own1 (un1 x) v = [] := by
  cases x with
  | sl o r xs => cases v with
    | slice a l c => cases a <;> simp [un1, own1]
    | _ => rfl
  | _ => rfl

theorem own1_flat {x : IVal} (h : un1 x = x) (v : Value) : own1 x v = [] := by rw [← h]; exact own1_un1 x v

theorem flatten_nil {α : Type} {l : List (List α)} (h : ∀ x ∈ l, x = []) : l.flatten = [] := by
  induction l with
  | nil => rfl
  | cons a l ih => simp [h a (by simp), ih (fun x hx => h x (by simp [hx]))]

theorem mem_zipWith {α β γ : Type} {f : α → β → γ} {xs : List α} {ys : List β} {c : γ} (h : c ∈ List.zipWith f xs ys) : ∃ (i : Nat) (x : α) (y : β), xs[i]? = some x ∧ ys[i]? = some y ∧ f x y = c := by
  induction xs generalizing ys with
  | nil => simp at h
  | cons x xs ih =>
    cases ys with
    | nil => simp at h
    | cons y ys =>
      simp at h
      rcases h with rfl | h
      · exact ⟨0, x, y, rfl, rfl, rfl⟩
      · obtain ⟨i, x', y', h1, h2, h3⟩ := ih h
        exact ⟨i + 1, x', y', by simpa using h1, by simpa using h2, h3⟩

theorem own2_un2 (x : IVal) (v : Value) : own2 (un2 x) v = [] := by
  cases x with
  | agg xs =>
    cases v with
    | agg vs =>
      simp only [un2, own2]
      apply flatten_nil
      intro c hc
      obtain ⟨i, x, y, h1, h2, rfl⟩ := mem_zipWith hc
      simp at h1
      obtain ⟨x', _, rfl⟩ := h1
      exact own1_un1 x' y
    | _ => simp [un2, own2, own1]
  | sl o r xs => cases v <;> simp [un2, un1, own2, own1]; rename_i a _ _; cases a <;> simp [own1]
  | _ => cases v <;> simp [un2, un1, own2, own1]

theorem own3_un3 (x : IVal) (v : Value) : own3 (un3 x) v = [] := by
  cases x with
  | tup xs =>
    cases v with
    | tuple vs =>
      simp only [un3, own3]
      apply flatten_nil
      intro c hc
      obtain ⟨i, x, y, h1, h2, rfl⟩ := mem_zipWith hc
      simp at h1
      obtain ⟨x', _, rfl⟩ := h1
      exact own2_un2 x' y
    | _ => simp [un3, own3, own2, own1]
  | agg xs =>
    have := own2_un2 (.agg xs) v
    cases v <;> simpa [un3, own3, un2] using this
  | sl o r xs =>
    have := own2_un2 (.sl o r xs) v
    cases v <;> simpa [un3, own3, un2, un1] using this
  | _ => cases v <;> simp [un3, un2, un1, own3, own2, own1]

theorem own3_nt {x : IVal} (h : nt x = true) (v : Value) : own3 x v = own2 x v := by
  cases x <;> simp_all [nt, own3]

theorem own3_flat {x : IVal} (h : Flat x) (v : Value) : own3 x v = [] := by
  rw [own3_nt h.2, ← h.1]; exact own2_un2 x v

theorem own3_cell {x : IVal} (h : x.isCell = true) (v : Value) : own3 x v = own1 x v := by
  cases x <;> simp_all [IVal.isCell, own3, own2]

theorem own2_cell {x : IVal} (h : x.isCell = true) (v : Value) : own2 x v = own1 x v := by
  cases x <;> simp_all [IVal.isCell, own2]

theorem mem_flatten_zip {f : IVal → Value → List Nat} {xs : List IVal} {vs : List Value} {i : Nat} {x : IVal} {v : Value} (h1 : xs[i]? = some x) (h2 : vs[i]? = some v) {b : Nat} (h : b ∈ f x v) :
    b ∈ (List.zipWith f xs vs).flatten := by
  simp only [List.mem_flatten]
  refine ⟨f x v, ?_, h⟩
  apply List.mem_of_getElem? (i := i)
  simp [List.getElem?_zipWith, h1, h2]

/-- More is known: the relation stays. -/
theorem V.mono {g g' : Gh} {x : IVal} {v : Value} (h : V g x v) (hι : ∀ (id b : Nat), g.ι[id]? = some b → g'.ι[id]? = some b)
    (hM : ∀ b o c, g.M b o = some c → g'.M b o = some c) : (∀ b ∈ own3 x v, g'.T b = g.T b) → V g' x v := by
  induction h with
  | int k n => exact fun _ => .int k n
  | bool b => exact fun _ => .bool b
  | str s => exact fun _ => .str s
  | prim v h => exact fun _ => .prim v h
  | nil o r => exact fun _ => .nil o r
  | sl own r xs vs a cap esz hs hc hl hv hf hr hz hm ho ih =>
    intro hT
    refine .sl own r xs vs a cap esz hs hc hl (fun i x v hx hv' => ih i x v hx hv' ?_) hf hr hz (fun k c hk => hM _ _ _ (hm k c hk)) (fun h0 => ⟨(ho h0).1, fun hlt => ?_⟩)
    · rw [own3_flat (hf x (List.mem_of_getElem? hx))]; simp
    · rw [hT a.block ?_]; exact (ho h0).2 hlt
      simp only [own3, own2, own1]; rw [if_neg (by omega)]; simp
  | rs e id off len cap b hb hc => exact fun _ => .rs e id off len cap b (hι _ _ hb) hc
  | ptr id off b hb => exact fun _ => .ptr id off b (hι _ _ hb)
  | pv r cs off vs a hs ho hl hv hf hr hm ih =>
    refine fun _ => .pv r cs off vs a hs ho hl (fun i x v hx hv' => ih i x v hx hv' ?_) hf hr (fun k c hk => hM _ _ _ (hm k c hk))
    have hx' := hf x (List.mem_of_getElem? hx)
    rw [own3_cell hx'.2, own1_flat hx'.1]; simp
  | map id b hb => exact fun _ => .map id b (hι _ _ hb)
  | yl id b hb => exact fun _ => .yl id b (hι _ _ hb)
  | fn f xs ys vs us hl hv hf hl' hv' hf' ih ih' =>
    refine fun _ => .fn f xs ys vs us hl (fun i x v hx hw => ih i x v hx hw ?_) hf hl' (fun i x v hx hw => ih' i x v hx hw ?_) hf'
    · rw [own3_flat (hf x (List.mem_of_getElem? hx))]; simp
    · rw [own3_flat (hf' x (List.mem_of_getElem? hx))]; simp
  | iface t x v hv hf ih => exact fun _ => .iface t x v (ih (by rw [own3_flat hf]; simp)) hf
  | agg xs vs hl hv hi ih =>
    refine fun hT => .agg xs vs hl (fun i x v hx hw => ih i x v hx hw fun b hb => hT b ?_) hi
    have hw' : vs.toList[i]? = some v := by simpa using hw
    rw [own3_cell (hi x (List.mem_of_getElem? hx))] at hb
    exact mem_flatten_zip (f := own1) hx hw' hb
  | tup xs vs hl hv hi ih =>
    refine fun hT => .tup xs vs hl (fun i x v hx hw => ih i x v hx hw fun b hb => hT b ?_) hi
    have hw' : vs.toList[i]? = some v := by simpa using hw
    rw [own3_nt (hi x (List.mem_of_getElem? hx))] at hb
    exact mem_flatten_zip (f := own2) hx hw' hb

theorem V.un1 {g : Gh} {x : IVal} {v : Value} (h : V g x v) : V g (un1 x) v := by
  cases h with
  | nil o r => exact .nil 0 r
  | sl own r xs vs a cap esz hs hc hl hv hf hr hz hm ho => exact .sl 0 r xs vs a cap esz hs hc hl hv hf hr hz hm (fun h => absurd rfl h)
  | _ => first | exact .int _ _ | exact .bool _ | exact .str _ | (exact .prim _ ‹_›) | (exact .rs _ _ _ _ _ _ ‹_› ‹_›) | (exact .ptr _ _ _ ‹_›) | (exact .map _ _ ‹_›) | (exact .yl _ _ ‹_›) | (constructor <;> assumption)

theorem isCell_un1 (x : IVal) : (Idl.un1 x).isCell = x.isCell := by cases x <;> rfl
theorem nt_un2 (x : IVal) : nt (un2 x) = nt x := by cases x <;> rfl
theorem un1_un1 (x : IVal) : Idl.un1 (Idl.un1 x) = Idl.un1 x := by cases x <;> rfl
theorem un2_un2 (x : IVal) : un2 (un2 x) = un2 x := by
  cases x <;> simp [un2, Idl.un1]
  intro a _; exact un1_un1 a

theorem V.un2 {g : Gh} {x : IVal} {v : Value} (h : V g x v) : V g (un2 x) v := by
  cases x with
  | agg xs =>
    cases h with
    | agg xs vs hl hv hi =>
    refine .agg _ vs (by simpa using hl) (fun i x v hx hw => ?_) (fun x hx => ?_)
    · simp at hx
      obtain ⟨x', hx', rfl⟩ := hx
      exact (hv i x' v hx' hw).un1
    · simp at hx
      obtain ⟨x', hx', rfl⟩ := hx
      rw [isCell_un1]; exact hi x' hx'
  | _ => exact h.un1

theorem V.un3 {g : Gh} {x : IVal} {v : Value} (h : V g x v) : V g (un3 x) v := by
  cases x with
  | tup xs =>
    cases h with
    | tup xs vs hl hv hi =>
    refine .tup _ vs (by simpa using hl) (fun i x v hx hw => ?_) (fun x hx => ?_)
    · simp at hx
      obtain ⟨x', hx', rfl⟩ := hx
      exact (hv i x' v hx' hw).un2
    · simp at hx
      obtain ⟨x', hx', rfl⟩ := hx
      rw [nt_un2]; exact hi x' hx'
  | agg xs => exact h.un2
  | _ => exact h.un1

theorem V.isCell {g : Gh} {x : IVal} {v : Value} (h : V g x v) : x.isCell = isCellV v := by
  cases h with
  | prim v h => cases v <;> simp_all [okPrim, IVal.isCell, isCellV]
  | _ => rfl

/-- Cells of a value and of its likeness. -/
theorem V.cells {g : Gh} {x : IVal} {v : Value} (h : V g x v) : x.cells.length = v.cells.size ∧ ∀ (i : Nat) c d, x.cells[i]? = some c → v.cells[i]? = some d → V g c d := by
  have key : x.isCell = true → (x.cells.length = v.cells.size ∧ ∀ (i : Nat) c d, x.cells[i]? = some c → v.cells[i]? = some d → V g c d) := by
    intro hi
    have hx : x.cells = [x] := by cases x <;> simp_all [IVal.cells, IVal.isCell]
    have hv : v.cells = #[v] := by rw [h.isCell] at hi; cases v <;> simp_all [Value.cells, isCellV]
    rw [hx, hv]
    refine ⟨rfl, fun i c d hc hd => ?_⟩
    cases i with
    | zero => simp at hc hd; subst hc hd; exact h
    | succ i => simp at hc
  cases h with
  | agg xs vs hl hv hi => exact ⟨hl, hv⟩
  | tup xs vs hl hv hi =>
    refine ⟨rfl, fun i c d hc hd => ?_⟩
    cases i with
    | zero => simp [IVal.cells, Value.cells] at hc hd; subst hc hd; exact .tup xs vs hl hv hi
    | succ i => simp [IVal.cells] at hc
  | prim v hp => exact key rfl
  | _ => exact key rfl

end Go.Idl
