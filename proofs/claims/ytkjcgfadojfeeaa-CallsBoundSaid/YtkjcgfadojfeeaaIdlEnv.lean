/-
  The temporaries as a function; equations for code, to reckon with by rewriting.
-/
import Derived.Test.YtkjcgfadojfeeaaIdlOm
set_option linter.unusedSectionVars false
set_option linter.unusedVariables false
set_option linter.unusedSimpArgs false
namespace Go.Idl

def Tm.ofF : Nat → (Nat → Option (Nat × IVal)) → Tm
  | 0, _ => .leaf
  | n + 1, f => .node (Tm.ofF n fun k => f (2 * k + 1)) (f 0) (Tm.ofF n fun k => f (2 * k + 2))

def upd (f : Nat → Option (Nat × IVal)) (k : Nat) (x : Option (Nat × IVal)) : Nat → Option (Nat × IVal) := fun i => if i = k then x else f i

theorem Tm.ofF_get : ∀ (d k : Nat) (f : Nat → Option (Nat × IVal)), k + 1 < 2 ^ d → (Tm.ofF d f).get k = f k := by
  intro d
  induction d with
  | zero => intro k f h; simp at h
  | succ d ih =>
    intro k f h
    simp only [Tm.ofF, Tm.get, Nat.beq_eq, cond_eq_ite]
    rw [Nat.pow_succ] at h
    split
    · rename_i h1; subst h1; rfl
    · rename_i h1
      split
      · rename_i h2
        rw [ih _ _ (by omega)]; congr 1; omega
      · rename_i h2
        rw [ih _ _ (by omega)]; congr 1; omega

theorem Tm.ofF_set : ∀ (d k : Nat) (f : Nat → Option (Nat × IVal)) (x : Option (Nat × IVal)), (Tm.ofF d f).set x k = Tm.ofF d (upd f k x) := by
  intro d
  induction d with
  | zero => intro k f x; rfl
  | succ d ih =>
    intro k f x
    simp only [Tm.ofF, Tm.set, cond_eq_ite]
    split
    · rename_i h1; simp at h1; subst h1
      have e1 : (fun i => upd f 0 x (2 * i + 1)) = fun i => f (2 * i + 1) := by funext i; unfold upd; rw [if_neg (by omega)]
      have e2 : (fun i => upd f 0 x (2 * i + 2)) = fun i => f (2 * i + 2) := by funext i; unfold upd; rw [if_neg (by omega)]
      rw [e1, e2]; rfl
    · rename_i h1
      simp at h1
      split
      · rename_i h2; simp at h2
        rw [ih]
        congr 1
        · congr 1; funext i; unfold upd
          have : (i = k / 2) ↔ (2 * i + 1 = k) := by omega
          simp [this]
        · unfold upd; rw [if_neg (by omega)]
        · congr 1; funext i; unfold upd; rw [if_neg (by omega)]
      · rename_i h2; simp at h2
        rw [ih]
        congr 1
        · congr 1; funext i; unfold upd; rw [if_neg (by omega)]
        · unfold upd; rw [if_neg (by omega)]
        · congr 1; funext i; unfold upd
          have : (i = k / 2 - 1) ↔ (2 * i + 2 = k) := by omega
          simp [this]

theorem Tm.empty_ofF : ∀ d, Tm.empty d = Tm.ofF d fun _ => none := by
  intro d
  induction d with
  | zero => rfl
  | succ d ih => simp only [Tm.empty, Tm.ofF, ih]

theorem Tm.un_ofF : ∀ (d : Nat) (f : Nat → Option (Nat × IVal)), (Tm.ofF d f).un = Tm.ofF d fun k => match f k with | some (i, v) => some (i, un3 v) | none => none := by
  intro d
  induction d with
  | zero => intro f; rfl
  | succ d ih => intro f; simp only [Tm.ofF, Tm.un, ih]; rfl

/-- The temporaries: so many variables, so many others; the tree's depth. -/
def E (nv m d : Nat) (ds : List Nat) (f : Nat → Option (Nat × IVal)) : Ts := ⟨nv, m, Tm.ofF d f, ds⟩

def slotN (nv m j : Nat) : Nat := if j < nv then j else nv + (j - nv) % m
theorem E_slot (nv m d : Nat) (ds : List Nat) (f : Nat → Option (Nat × IVal)) (j : Nat) : (E nv m d ds f).slot j = slotN nv m j := by
  unfold Ts.slot slotN E
  simp only [cond_eq_ite]
  have : (Nat.blt j nv = true) ↔ j < nv := by simp [Nat.blt, Nat.ble_eq, Nat.succ_le_iff]
  simp only [this]

def tag (j : Nat) : Option (Nat × IVal) → Option IVal
  | some (i, v) => if i = j then some v else none
  | none => none

theorem E_get? {nv m d : Nat} {ds : List Nat} {f : Nat → Option (Nat × IVal)} {j : Nat} (h : slotN nv m j + 1 < 2 ^ d) : (E nv m d ds f).get? j = tag j (f (slotN nv m j)) := by
  unfold Ts.get?
  rw [E_slot]
  simp only [E, Tm.ofF_get _ _ _ h]
  cases f (slotN nv m j) with
  | none => rfl
  | some p =>
    obtain ⟨i, v⟩ := p
    simp only [tag, cond_eq_ite, Nat.beq_eq]

/-- The same as `upd`: to be brought to its place. -/
def ins (f : Nat → Option (Nat × IVal)) (k : Nat) (x : Option (Nat × IVal)) : Nat → Option (Nat × IVal) := upd f k x
def base (f : Nat → Option (Nat × IVal)) : Nat → Option (Nat × IVal) := f
theorem E_set (nv m d : Nat) (ds : List Nat) (f : Nat → Option (Nat × IVal)) (j : Nat) (v : IVal) : (E nv m d ds f).set j v = E nv m d ds (ins f (slotN nv m j) (some (j, v))) := by
  unfold Ts.set
  rw [E_slot]
  simp only [E, Tm.ofF_set, ins]
theorem ins_base (f : Nat → Option (Nat × IVal)) (k : Nat) (x : Option (Nat × IVal)) : ins (base f) k x = upd (base f) k x := rfl
theorem ins_eq (f : Nat → Option (Nat × IVal)) (k : Nat) (x y : Option (Nat × IVal)) : ins (upd f k x) k y = upd f k y := by
  funext i; unfold ins upd; split <;> rfl
theorem ins_gt {f : Nat → Option (Nat × IVal)} {k k' : Nat} {x y : Option (Nat × IVal)} (h : k < k') : ins (upd f k x) k' y = upd (upd f k x) k' y := rfl
theorem ins_lt {f : Nat → Option (Nat × IVal)} {k k' : Nat} {x y : Option (Nat × IVal)} (h : k' < k) : ins (upd f k x) k' y = upd (ins f k' y) k x := by
  funext i; unfold ins upd
  by_cases h1 : i = k'
  · subst h1; rw [if_pos rfl, if_neg (by omega), if_pos rfl]
  · rw [if_neg h1, if_neg h1]

theorem upd_get (f : Nat → Option (Nat × IVal)) (k : Nat) (x : Option (Nat × IVal)) (i : Nat) : upd f k x i = if i = k then x else f i := rfl
theorem upd_upd (f : Nat → Option (Nat × IVal)) (k : Nat) (x y : Option (Nat × IVal)) : upd (upd f k x) k y = upd f k y := by
  funext i; unfold upd; split <;> rfl

/-! ### code, by equations -/
variable (F : IProg)
theorem evw_skip (s : St) : evw F .skip s = some (.normal, s) := evw_eq F _ s
theorem evw_label (l : Nat) (s : St) : evw F (.label l) s = some (.normal, s) := evw_eq F _ s
theorem evw_exit (i : Nat) (s : St) : evw F (.exit i) s = some (.exit i, s) := evw_eq F _ s
theorem evw_ret (s : St) : evw F .ret s = some (.ret, s) := evw_eq F _ s
theorem evw_ops (l : List IOper) (s : St) : evw F (.ops l) s = runOps (cfw F) l s := evw_eq F _ s
theorem evw_seq (a b : ICode) (s : St) : evw F (.seq a b) s = match evw F a s with
    | some (.normal, s') => evw F b s'
    | r => r := evw_eq F _ s
theorem evw_block (i : Nat) (b : ICode) (s : St) : evw F (.block i b) s = match evw F b s with
    | some (.exit j, s') => if j = i then some (.normal, s') else some (.exit j, s')
    | r => r := evw_eq F _ s
theorem evw_loop (b : ICode) (s : St) : evw F (.loop b) s = match evw F b s with
    | some (.normal, s') => evw F (.loop b) s'
    | r => r := evw_eq F _ s
theorem evw_scope (b : ICode) (s : St) : evw F (.scope b) s = match evw F b s with
    | some (.goto _, _) => none
    | r => r := evw_eq F _ s
theorem evw_cond (x : Opd) (a b : ICode) (s : St) : evw F (.cond x a b) s = match x.get s.ts with
    | some (.bool true, _) => evw F a s
    | some (.bool false, _) => evw F b s
    | _ => none := evw_eq F _ s
theorem evw_cond_t {x : Opd} {a b : ICode} {s : St} {ts : Ts} {v : Bool} (h : x.get s.ts = some (.bool v, ts)) : evw F (.cond x a b) s = if v = true then evw F a s else evw F b s := by
  rw [evw_cond, h]; cases v <;> rfl
theorem evw_draw (l : List (Nat × IOper)) (ps : List (Nat × Nat)) (s : St) : evw F (.draw l ps) s = match runDraw (cfw F) l s with
    | some (s', log) => if pairsOK ps log then some (.normal, s') else none
    | none => none := evw_eq F _ s

/-! ### values that are moved -/
theorem un1_int (k : IntKind) (n : Int) : un1 (.int k n) = .int k n := rfl
theorem un1_bool (b : Bool) : un1 (.bool b) = .bool b := rfl
theorem un1_str (s : List UInt8) : un1 (.str s) = .str s := rfl
theorem un1_rs (a b c d : Nat) : un1 (.rs a b c d) = .rs a b c d := rfl
theorem un1_ptr (a b : Nat) : un1 (.ptr a b) = .ptr a b := rfl
theorem un1_sl (a : Nat) (r : Bool) (xs : List IVal) : un1 (.sl a r xs) = .sl 0 r xs := rfl
theorem un2_int (k : IntKind) (n : Int) : un2 (.int k n) = .int k n := rfl
theorem un2_bool (b : Bool) : un2 (.bool b) = .bool b := rfl
theorem un2_str (s : List UInt8) : un2 (.str s) = .str s := rfl
theorem un2_rs (a b c d : Nat) : un2 (.rs a b c d) = .rs a b c d := rfl
theorem un2_ptr (a b : Nat) : un2 (.ptr a b) = .ptr a b := rfl
theorem un2_sl (a : Nat) (r : Bool) (xs : List IVal) : un2 (.sl a r xs) = .sl 0 r xs := rfl
theorem un3_int (k : IntKind) (n : Int) : un3 (.int k n) = .int k n := rfl
theorem un3_bool (b : Bool) : un3 (.bool b) = .bool b := rfl
theorem un3_str (s : List UInt8) : un3 (.str s) = .str s := rfl
theorem un3_rs (a b c d : Nat) : un3 (.rs a b c d) = .rs a b c d := rfl
theorem un3_ptr (a b : Nat) : un3 (.ptr a b) = .ptr a b := rfl
theorem un3_map (a : Nat) : un3 (.map a) = .map a := rfl
theorem un3_yl (a : Nat) : un3 (.yl a) = .yl a := rfl
theorem un3_iface (t : TypeId) (v : IVal) : un3 (.iface t v) = .iface t v := rfl
theorem un3_prim (v : Value) : un3 (.prim v) = .prim v := rfl
theorem un3_fn (f : Fn) (xs ys : List IVal) : un3 (.fn f xs ys) = .fn f xs ys := rfl
theorem un3_sl (a : Nat) (r : Bool) (xs : List IVal) : un3 (.sl a r xs) = .sl 0 r xs := rfl
theorem un3_pv (r : Bool) (cs : List IVal) (o : Nat) : un3 (.pv r cs o) = .pv r cs o := rfl
theorem un3_agg (xs : List IVal) : un3 (.agg xs) = .agg (xs.map un1) := rfl
theorem un3_tup (xs : List IVal) : un3 (.tup xs) = .tup (xs.map un2) := rfl

theorem cfw_of (fn : IFunc) {f : FuncId} {F : IProg} {args : List IVal} {σ : List IObj} (h : F f = some fn) : cfw F (.f f) args σ = callI (evw F) fn args σ := by rw [cfw_f, h]
theorem entry_E (nv m d : Nat) : Ts.mk nv m (Tm.empty d) [] = E nv m d [] (base fun _ => none) := by rw [Tm.empty_ofF]; rfl

theorem bft : (false == true) = false := rfl
theorem btf : (true == false) = false := rfl
theorem c0 : ((0 : Nat) : Int) = 0 := rfl
theorem c1 : ((1 : Nat) : Int) = 1 := rfl

theorem E_ds (nv m d : Nat) (ds : List Nat) (f : Nat → Option (Nat × IVal)) : (E nv m d ds f).ds = ds := rfl

theorem nt_int (k : IntKind) (n : Int) : nt (.int k n) = (true) := rfl
theorem nt_bool (b : Bool) : nt (.bool b) = (true) := rfl
theorem nt_str (s : List UInt8) : nt (.str s) = (true) := rfl
theorem nt_rs (a b c d : Nat) : nt (.rs a b c d) = (true) := rfl
theorem nt_ptr (a b : Nat) : nt (.ptr a b) = (true) := rfl
theorem nt_sl (a : Nat) (b : Bool) (xs : List IVal) : nt (.sl a b xs) = (true) := rfl
theorem nt_agg (xs : List IVal) : nt (.agg xs) = (true) := rfl
theorem nr3_int (k : IntKind) (n : Int) : nr3 (.int k n) = (true) := rfl
theorem nr3_bool (b : Bool) : nr3 (.bool b) = (true) := rfl
theorem nr3_str (s : List UInt8) : nr3 (.str s) = (true) := rfl
theorem nr3_rs (a b c d : Nat) : nr3 (.rs a b c d) = (false) := rfl
theorem nr3_ptr (a b : Nat) : nr3 (.ptr a b) = (false) := rfl
theorem nr3_sl (a : Nat) (b : Bool) (xs : List IVal) : nr3 (.sl a b xs) = (!b) := rfl
theorem nr3_tup (xs : List IVal) : nr3 (.tup xs) = (xs.all nr2) := rfl
theorem nr3_agg (xs : List IVal) : nr3 (.agg xs) = (xs.all nr1) := rfl
theorem nr2_int (k : IntKind) (n : Int) : nr2 (.int k n) = (true) := rfl
theorem nr2_bool (b : Bool) : nr2 (.bool b) = (true) := rfl
theorem nr2_str (s : List UInt8) : nr2 (.str s) = (true) := rfl
theorem nr2_rs (a b c d : Nat) : nr2 (.rs a b c d) = (false) := rfl
theorem nr2_ptr (a b : Nat) : nr2 (.ptr a b) = (false) := rfl
theorem nr2_sl (a : Nat) (b : Bool) (xs : List IVal) : nr2 (.sl a b xs) = (!b) := rfl

theorem cells_int (k : IntKind) (n : Int) : IVal.cells (.int k n) = [.int k n] := rfl
theorem isCell_int (k : IntKind) (n : Int) : IVal.isCell (.int k n) = true := rfl
theorem nr1_int (k : IntKind) (n : Int) : nr1 (.int k n) = true := rfl
theorem cells_bool (b : Bool) : IVal.cells (.bool b) = [.bool b] := rfl
theorem isCell_bool (b : Bool) : IVal.isCell (.bool b) = true := rfl
theorem nr1_bool (b : Bool) : nr1 (.bool b) = true := rfl
theorem cells_str (s : List UInt8) : IVal.cells (.str s) = [.str s] := rfl
theorem isCell_str (s : List UInt8) : IVal.isCell (.str s) = true := rfl
theorem nr1_str (s : List UInt8) : nr1 (.str s) = true := rfl
theorem cells_rs (a b c d : Nat) : IVal.cells (.rs a b c d) = [.rs a b c d] := rfl
theorem isCell_rs (a b c d : Nat) : IVal.isCell (.rs a b c d) = true := rfl
theorem nr1_rs (a b c d : Nat) : nr1 (.rs a b c d) = false := rfl
theorem cells_ptr (a b : Nat) : IVal.cells (.ptr a b) = [.ptr a b] := rfl
theorem isCell_ptr (a b : Nat) : IVal.isCell (.ptr a b) = true := rfl
theorem nr1_ptr (a b : Nat) : nr1 (.ptr a b) = false := rfl
theorem cells_sl (a : Nat) (b : Bool) (xs : List IVal) : IVal.cells (.sl a b xs) = [.sl a b xs] := rfl
theorem isCell_sl (a : Nat) (b : Bool) (xs : List IVal) : IVal.isCell (.sl a b xs) = true := rfl
theorem nr1_sl (a : Nat) (b : Bool) (xs : List IVal) : nr1 (.sl a b xs) = (!b) := rfl

theorem base_get (f : Nat → Option (Nat × IVal)) (i : Nat) : base f i = f i := rfl
/-- These slots are as they were. -/
def KeepT (l : List Nat) (f f' : Nat → Option (Nat × IVal)) : Prop := ∀ i ∈ l, f' i = f i
theorem KeepT.refl (l : List Nat) (f : Nat → Option (Nat × IVal)) : KeepT l f f := fun _ _ => rfl
theorem KeepT.upd {l : List Nat} {f f' : Nat → Option (Nat × IVal)} {k : Nat} {x : Option (Nat × IVal)} (hk : k ∉ l) (h : KeepT l f f') : KeepT l f (Go.Idl.upd f' k x) := by
  intro i hi
  unfold Go.Idl.upd
  have hne : i ≠ k := fun e => hk (by rw [← e]; exact hi)
  rw [if_neg hne]
  exact h i hi
theorem KeepT.base {l : List Nat} {f f' : Nat → Option (Nat × IVal)} (h : KeepT l f f') : KeepT l f (Go.Idl.base f') := h

theorem KeepT.trans {l : List Nat} {f g h : Nat → Option (Nat × IVal)} (a : KeepT l f g) (b : KeepT l g h) : KeepT l f h := fun i hi => (b i hi).trans (a i hi)
theorem KeepT.sub {l l' : List Nat} {f g : Nat → Option (Nat × IVal)} (a : KeepT l f g) (h : (l'.all fun i => l.contains i) = true) : KeepT l' f g := fun i hi => a i (by
  have := List.all_eq_true.1 h i hi
  simpa using this)

theorem set_last {α : Type} (l : List α) (x y : α) : (l ++ [x]).set l.length y = l ++ [y] := by
  rw [List.set_append_right _ _ (Nat.le_refl _), Nat.sub_self]; rfl
theorem get_last {α : Type} (l : List α) (x : α) : (l ++ [x])[l.length]? = some x := by simp

theorem rep_all (m n k : Nat) : (List.replicate m (k, false)).all (fun p => !p.2 || decide (n ≤ p.1)) = true := by simp
theorem rep_filter (m k : Nat) : List.filter (fun p : Nat × Bool => decide (p.1 < k)) (List.replicate m (k, false)) = [] := by simp
theorem take_last {α : Type} (l : List α) (x : α) : (l ++ [x]).take l.length = l := by simp

theorem pairsOK_nil (log : List (Nat × DLog)) : pairsOK [] log = true := rfl
/-- All that is written is this object. -/
def AllW (id : Nat) (wr : List (Nat × Bool)) : Prop := ∀ p ∈ wr, p = (id, false)
theorem AllW.nil (id : Nat) : AllW id [] := fun _ h => by cases h
theorem AllW.cons {id : Nat} {wr : List (Nat × Bool)} (h : AllW id wr) : AllW id ((id, false) :: wr) := fun p hp => by
  rcases List.mem_cons.1 hp with rfl | hp
  · rfl
  · exact h p hp
theorem AllW.append {id : Nat} {a b : List (Nat × Bool)} (h : AllW id a) (h2 : AllW id b) : AllW id (a ++ b) := fun p hp => by
  rcases List.mem_append.1 hp with hp | hp
  · exact h p hp
  · exact h2 p hp
theorem AllW.all {id n : Nat} {wr : List (Nat × Bool)} (h : AllW id wr) : (wr.all fun p => !p.2 || decide (n ≤ p.1)) = true := List.all_eq_true.2 fun p hp => by rw [h p hp]; rfl
theorem AllW.filter {id : Nat} {wr : List (Nat × Bool)} (h : AllW id wr) : wr.filter (fun p => decide (p.1 < id)) = [] := List.filter_eq_nil_iff.2 fun p hp => by rw [h p hp]; simp

/-- A loop whose rounds are counted. -/
theorem loop_inv {F : IProg} {b : ICode} (I : Nat → St → Prop) {Q : Option (IExit × St) → Prop} (n : Nat) (hs : ∀ i s, i < n → I i s → ∃ s', evw F b s = some (.normal, s') ∧ I (i + 1) s')
    (he : ∀ s, I n s → Q (evw F (.loop b) s)) : ∀ k s, k ≤ n → I k s → Q (evw F (.loop b) s) := by
  intro k
  induction h : n - k generalizing k with
  | zero =>
    intro s hk hI
    have : k = n := by omega
    subst this
    exact he s hI
  | succ m ih =>
    intro s hk hI
    obtain ⟨s', h1, h2⟩ := hs k s (by omega) hI
    rw [evw_loop, h1]
    exact ih (k + 1) (by omega) s' (by omega) h2
theorem loop_invE {F : IProg} {b : ICode} {s : St} {α : Type} {g : α → Option (IExit × St)} {p : α → Prop} (I : Nat → St → Prop) (n : Nat) (h0 : I 0 s) (hs : ∀ i s, i < n → I i s → ∃ s', evw F b s = some (.normal, s') ∧ I (i + 1) s')
    (he : ∀ s, I n s → ∃ x, evw F (.loop b) s = g x ∧ p x) : ∃ x, evw F (.loop b) s = g x ∧ p x :=
  loop_inv (Q := fun r => ∃ x, r = g x ∧ p x) I n hs he 0 s (Nat.zero_le _) h0

end Go.Idl
