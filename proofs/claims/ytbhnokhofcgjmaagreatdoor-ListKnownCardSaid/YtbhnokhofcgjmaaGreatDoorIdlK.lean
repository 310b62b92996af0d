/- The ideal machine and its evaluators, part 11; no conditions. -/
import Derived.Test.YtbhnokhofcgjmaaGreatDoorIdlJ
set_option linter.unusedSectionVars false
set_option linter.unusedVariables false
set_option linter.unusedSimpArgs false
namespace Go.Idl.En
open Go.Idl
def Tm.ofF : Nat -> (Nat -> Option (Nat × IVal)) -> Tm
 | 0, _ => .leaf
 | n + 1, f => .node (Tm.ofF n fun k => f (2 * k + 1)) (f 0) (Tm.ofF n fun k => f (2 * k + 2))
def upd (f : Nat -> Option (Nat × IVal)) (k : Nat) (x : Option (Nat × IVal)) : Nat -> Option (Nat × IVal) := fun i => if i = k then x else f i
theorem Tm.ofF_get : ∀ (d k : Nat) (f : Nat -> Option (Nat × IVal)), k + 1 < 2 ^ d -> (Tm.ofF d f).get k = f k := by
 intro d
 induction d with
 | zero => intro k f h; simp at h
 | succ d ih =>
   intro k f h;simp only [Tm.ofF, Tm.get, Nat.beq_eq, cond_eq_ite];rw [Nat.pow_succ] at h;split
   . rename_i h1; subst h1; rfl
   . rename_i h1;split
     . rename_i h2;rw [ih _ _ (by omega)]; congr 1; omega
     . rename_i h2;rw [ih _ _ (by omega)]; congr 1; omega
theorem Tm.ofF_set : ∀ (d k : Nat) (f : Nat -> Option (Nat × IVal)) (x : Option (Nat × IVal)), (Tm.ofF d f).set x k = Tm.ofF d (upd f k x) := by
 intro d
 induction d with
 | zero => intro k f x; rfl
 | succ d ih =>
   intro k f x;simp only [Tm.ofF, Tm.set, cond_eq_ite];split
   . rename_i h1; simp at h1; subst h1;have e1 : (fun i => upd f 0 x (2 * i + 1)) = fun i => f (2 * i + 1) := by funext i; unfold upd; rw [if_neg (by omega)]
     have e2 : (fun i => upd f 0 x (2 * i + 2)) = fun i => f (2 * i + 2) := by funext i; unfold upd; rw [if_neg (by omega)]
     rw [e1, e2]; rfl
   . rename_i h1;simp at h1;split
     . rename_i h2; simp at h2;rw [ih]
       congr 1
       . congr 1; funext i; unfold upd
         have : (i = k / 2) ↔ (2 * i + 1 = k) := by omega
         simp [this]
       . unfold upd; rw [if_neg (by omega)]
       . congr 1; funext i; unfold upd; rw [if_neg (by omega)]
     . rename_i h2; simp at h2;rw [ih]
       congr 1
       . congr 1; funext i; unfold upd; rw [if_neg (by omega)]
       . unfold upd; rw [if_neg (by omega)]
       . congr 1; funext i; unfold upd
         have : (i = k / 2 - 1) ↔ (2 * i + 2 = k) := by omega
         simp [this]
theorem Tm.empty_ofF : ∀ d, Tm.empty d = Tm.ofF d fun _ => none := by
 intro d
 induction d with
 | zero => rfl
 | succ d ih => simp only [Tm.empty, Tm.ofF, ih]
def E (nv m d : Nat) (ds : List Nat) (f : Nat -> Option (Nat × IVal)) : Ts := ⟨nv, m, Tm.ofF d f, ds⟩
def KL (nv m j : Nat) : Nat := if j < nv then j else nv + (j - nv) % m
theorem jiI (nv m d : Nat) (ds : List Nat) (f : Nat -> Option (Nat × IVal)) (j : Nat) : (E nv m d ds f).slot j = KL nv m j := by
 unfold Ts.slot KL E;simp only [cond_eq_ite];have : (Nat.blt j nv = true) ↔ j < nv := by simp [Nat.blt, Nat.ble_eq, Nat.succ_le_iff]
 simp only [this]
def tag (j : Nat) : Option (Nat × IVal) -> Option IVal
 | some (i, v) => if i = j then some v else none
 | none => none
theorem Qi {nv m d : Nat} {ds : List Nat} {f : Nat -> Option (Nat × IVal)} {j : Nat} (h : KL nv m j + 1 < 2 ^ d) : (E nv m d ds f).get? j = tag j (f (KL nv m j)) := by
 unfold Ts.get?;rw [jiI];simp only [E, Tm.ofF_get _ _ _ h]
 cases f (KL nv m j) with
 | none => rfl
 | some p =>
   obtain ⟨i, v⟩ := p;simp only [tag, cond_eq_ite, Nat.beq_eq]
def ins (f : Nat -> Option (Nat × IVal)) (k : Nat) (x : Option (Nat × IVal)) : Nat -> Option (Nat × IVal) := upd f k x
def base (f : Nat -> Option (Nat × IVal)) : Nat -> Option (Nat × IVal) := f
theorem Y8 (nv m d : Nat) (ds : List Nat) (f : Nat -> Option (Nat × IVal)) (j : Nat) (v : IVal) : (E nv m d ds f).set j v = E nv m d ds (ins f (KL nv m j) (some (j, v))) := by
 unfold Ts.set;rw [jiI];simp only [E, Tm.ofF_set, ins]
theorem ye (f : Nat -> Option (Nat × IVal)) (k : Nat) (x : Option (Nat × IVal)) : ins (base f) k x = upd (base f) k x := rfl
theorem Qm (f : Nat -> Option (Nat × IVal)) (k : Nat) (x y : Option (Nat × IVal)) : ins (upd f k x) k y = upd f k y := by
 funext i; unfold ins upd; split <;> rfl
theorem Qn {f : Nat -> Option (Nat × IVal)} {k k' : Nat} {x y : Option (Nat × IVal)} (h : k < k') : ins (upd f k x) k' y = upd (upd f k x) k' y := rfl
theorem Qo {f : Nat -> Option (Nat × IVal)} {k k' : Nat} {x y : Option (Nat × IVal)} (h : k' < k) : ins (upd f k x) k' y = upd (ins f k' y) k x := by
 funext i; unfold ins upd
 by_cases h1 : i = k'
 . subst h1; rw [if_pos rfl, if_neg (by omega), if_pos rfl]
 . rw [if_neg h1, if_neg h1]
theorem kK (f : Nat -> Option (Nat × IVal)) (k : Nat) (x : Option (Nat × IVal)) (i : Nat) : upd f k x i = if i = k then x else f i := rfl
variable (F : IProg)
theorem ya (s : St) : evw F .skip s = some (.normal, s) := zQ F _ s
theorem vh (l : Nat) (s : St) : evw F (.label l) s = some (.normal, s) := zQ F _ s
theorem v8 (i : Nat) (s : St) : evw F (.exit i) s = some (.exit i, s) := zQ F _ s
theorem zU (s : St) : evw F .ret s = some (.ret, s) := zQ F _ s
theorem zT (l : List IOper) (s : St) : evw F (.ops l) s = jY (cfw F) l s := zQ F _ s
theorem zV (a b : ICode) (s : St) : evw F (.seq a b) s = match evw F a s with
   | some (.normal, s') => evw F b s'
   | r => r := zQ F _ s
theorem vg (i : Nat) (b : ICode) (s : St) : evw F (.block i b) s = match evw F b s with
   | some (.exit j, s') => if j = i then some (.normal, s') else some (.exit j, s')
   | r => r := zQ F _ s
theorem jb0 (b : ICode) (s : St) : evw F (.loop b) s = match evw F b s with
   | some (.normal, s') => evw F (.loop b) s'
   | r => r := zQ F _ s
theorem vk (b : ICode) (s : St) : evw F (.scope b) s = match evw F b s with
   | some (.goto _, _) => none
   | r => r := zQ F _ s
theorem v7 (x : Opd) (a b : ICode) (s : St) : evw F (.cond x a b) s = match x.get s.ts with
   | some (.bool true, _) => evw F a s
   | some (.bool false, _) => evw F b s
   | _ => none := zQ F _ s
theorem Jv (k : IntKind) (n : Int) : un1 (.int k n) = .int k n := rfl
theorem ym (b : Bool) : un1 (.bool b) = .bool b := rfl
theorem Jx (s : List UInt8) : un1 (.str s) = .str s := rfl
theorem Qz (a b c d : Nat) : un1 (.rs a b c d) = .rs a b c d := rfl
theorem Jw (a b : Nat) : un1 (.ptr a b) = .ptr a b := rfl
theorem QA (a : Nat) (r : Bool) (xs : List IVal) : un1 (.sl a r xs) = .sl 0 r xs := rfl
theorem Jy (k : IntKind) (n : Int) : un2 (.int k n) = .int k n := rfl
theorem yn (b : Bool) : un2 (.bool b) = .bool b := rfl
theorem JA (s : List UInt8) : un2 (.str s) = .str s := rfl
theorem QB (a b c d : Nat) : un2 (.rs a b c d) = .rs a b c d := rfl
theorem Jz (a b : Nat) : un2 (.ptr a b) = .ptr a b := rfl
theorem QC (a : Nat) (r : Bool) (xs : List IVal) : un2 (.sl a r xs) = .sl 0 r xs := rfl
theorem JC (k : IntKind) (n : Int) : un3 (.int k n) = .int k n := rfl
theorem yo (b : Bool) : un3 (.bool b) = .bool b := rfl
theorem JE (s : List UInt8) : un3 (.str s) = .str s := rfl
theorem QF (a b c d : Nat) : un3 (.rs a b c d) = .rs a b c d := rfl
theorem yA (a b : Nat) : un3 (.ptr a b) = .ptr a b := rfl
theorem JD (a : Nat) : un3 (.map a) = .map a := rfl
theorem QH (a : Nat) : un3 (.yl a) = .yl a := rfl
theorem vq (t : TypeId) (v : IVal) : un3 (.iface t v) = .iface t v := rfl
theorem yp (v : Value) : un3 (.prim v) = .prim v := rfl
theorem QD (f : Fn) (xs ys : List IVal) : un3 (.fn f xs ys) = .fn f xs ys := rfl
theorem QG (a : Nat) (r : Bool) (xs : List IVal) : un3 (.sl a r xs) = .sl 0 r xs := rfl
theorem QE (r : Bool) (cs : List IVal) (o : Nat) : un3 (.pv r cs o) = .pv r cs o := rfl
theorem JB (xs : List IVal) : un3 (.agg xs) = .agg (xs.map un1) := rfl
theorem JF (xs : List IVal) : un3 (.tup xs) = .tup (xs.map un2) := rfl
theorem jec (fn : IFunc) {f : FuncId} {F : IProg} {args : List IVal} {σ : List IObj} (h : F f = some fn) : cfw F (.f f) args σ = vW (evw F) fn args σ := by rw [jlP, h]
theorem jaM (nv m d : Nat) : Ts.mk nv m (Tm.empty d) [] = E nv m d [] (base fun _ => none) := by rw [Tm.empty_ofF]; rfl
theorem bft : (false == true) = false := rfl
theorem btf : (true == false) = false := rfl
theorem c0 : ((0 : Nat) : Int) = 0 := rfl
theorem c1 : ((1 : Nat) : Int) = 1 := rfl
theorem jm8 (nv m d : Nat) (ds : List Nat) (f : Nat -> Option (Nat × IVal)) : (E nv m d ds f).ds = ds := rfl
theorem Jh (k : IntKind) (n : Int) : nt (.int k n) = (true) := rfl
theorem vN (b : Bool) : nt (.bool b) = (true) := rfl
theorem Jj (s : List UInt8) : nt (.str s) = (true) := rfl
theorem VC (a b c d : Nat) : nt (.rs a b c d) = (true) := rfl
theorem Ji (a b : Nat) : nt (.ptr a b) = (true) := rfl
theorem VD (a : Nat) (b : Bool) (xs : List IVal) : nt (.sl a b xs) = (true) := rfl
theorem Jg (xs : List IVal) : nt (.agg xs) = (true) := rfl
theorem ja4 (k : IntKind) (n : Int) : nr3 (.int k n) = (true) := rfl
theorem YD (b : Bool) : nr3 (.bool b) = (true) := rfl
theorem ja6 (s : List UInt8) : nr3 (.str s) = (true) := rfl
theorem jfm (a b c d : Nat) : nr3 (.rs a b c d) = (false) := rfl
theorem ja5 (a b : Nat) : nr3 (.ptr a b) = (false) := rfl
theorem jfn (a : Nat) (b : Bool) (xs : List IVal) : nr3 (.sl a b xs) = (!b || xs.isEmpty) := rfl
theorem ja7 (xs : List IVal) : nr3 (.tup xs) = (xs.all nr2) := rfl
theorem ja3 (xs : List IVal) : nr3 (.agg xs) = (xs.all nr1) := rfl
theorem vK (k : IntKind) (n : Int) : nr2 (.int k n) = (true) := rfl
theorem qA (b : Bool) : nr2 (.bool b) = (true) := rfl
theorem vM (s : List UInt8) : nr2 (.str s) = (true) := rfl
theorem Je (a b c d : Nat) : nr2 (.rs a b c d) = (false) := rfl
theorem vL (a b : Nat) : nr2 (.ptr a b) = (false) := rfl
theorem Jf (a : Nat) (b : Bool) (xs : List IVal) : nr2 (.sl a b xs) = (!b || xs.isEmpty) := rfl
theorem vd (k : IntKind) (n : Int) : IVal.cells (.int k n) = [.int k n] := rfl
theorem qf (k : IntKind) (n : Int) : IVal.isCell (.int k n) = true := rfl
theorem Ja (k : IntKind) (n : Int) : nr1 (.int k n) = true := rfl
theorem qd (b : Bool) : IVal.cells (.bool b) = [.bool b] := rfl
theorem kN (b : Bool) : IVal.isCell (.bool b) = true := rfl
theorem yf (b : Bool) : nr1 (.bool b) = true := rfl
theorem vf (s : List UInt8) : IVal.cells (.str s) = [.str s] := rfl
theorem qk (s : List UInt8) : IVal.isCell (.str s) = true := rfl
theorem Jc (s : List UInt8) : nr1 (.str s) = true := rfl
theorem vX (a b c d : Nat) : IVal.cells (.rs a b c d) = [.rs a b c d] := rfl
theorem vn (a b c d : Nat) : IVal.isCell (.rs a b c d) = true := rfl
theorem Qp (a b c d : Nat) : nr1 (.rs a b c d) = false := rfl
theorem ve (a b : Nat) : IVal.cells (.ptr a b) = [.ptr a b] := rfl
theorem qh (a b : Nat) : IVal.isCell (.ptr a b) = true := rfl
theorem Jb (a b : Nat) : nr1 (.ptr a b) = false := rfl
theorem vY (a : Nat) (b : Bool) (xs : List IVal) : IVal.cells (.sl a b xs) = [.sl a b xs] := rfl
theorem vo (a : Nat) (b : Bool) (xs : List IVal) : IVal.isCell (.sl a b xs) = true := rfl
theorem Qq (a : Nat) (b : Bool) (xs : List IVal) : nr1 (.sl a b xs) = (!b || xs.isEmpty) := rfl
theorem kh (f : Nat -> Option (Nat × IVal)) (i : Nat) : base f i = f i := rfl
def KeepT (l : List Nat) (f f' : Nat -> Option (Nat × IVal)) : Prop := ∀ i ∈ l, f' i = f i
theorem KeepT.refl (l : List Nat) (f : Nat -> Option (Nat × IVal)) : KeepT l f f := fun _ _ => rfl
theorem KeepT.upd {l : List Nat} {f f' : Nat -> Option (Nat × IVal)} {k : Nat} {x : Option (Nat × IVal)} (hk : k ∉ l) (h : KeepT l f f') : KeepT l f (Go.Idl.En.upd f' k x) := by
 intro i hi;unfold Go.Idl.En.upd;have hne : i ≠ k := fun e => hk (by rw [<- e]; exact hi);rw [if_neg hne];exact h i hi
theorem KeepT.base {l : List Nat} {f f' : Nat -> Option (Nat × IVal)} (h : KeepT l f f') : KeepT l f (Go.Idl.En.base f') := h
theorem KeepT.trans {l : List Nat} {f g h : Nat -> Option (Nat × IVal)} (a : KeepT l f g) (b : KeepT l g h) : KeepT l f h := fun i hi => (b i hi).trans (a i hi)
theorem KeepT.sub {l l' : List Nat} {f g : Nat -> Option (Nat × IVal)} (a : KeepT l f g) (h : (l'.all fun i => l.contains i) = true) : KeepT l' f g := fun i hi => a i (by
 have := List.all_eq_true.1 h i hi;simpa using this)
def AllW (id : Nat) (wr : List (Nat × Bool)) : Prop := ∀ p ∈ wr, p = (id, false)
theorem AllW.nil (id : Nat) : AllW id [] := fun _ h => by cases h
theorem AllW.cons {id : Nat} {wr : List (Nat × Bool)} (h : AllW id wr) : AllW id ((id, false) :: wr) := fun p hp => by
 rcases List.mem_cons.1 hp with rfl | hp
 . rfl
 . exact h p hp
theorem AllW.append {id : Nat} {a b : List (Nat × Bool)} (h : AllW id a) (h2 : AllW id b) : AllW id (a ++ b) := fun p hp => by
 rcases List.mem_append.1 hp with hp | hp
 . exact h p hp
 . exact h2 p hp
theorem AllW.all {id n : Nat} {wr : List (Nat × Bool)} (h : AllW id wr) : (wr.all fun p => !p.2 || decide (n <= p.1)) = true := List.all_eq_true.2 fun p hp => by rw [h p hp]; rfl
theorem AllW.filter {id : Nat} {wr : List (Nat × Bool)} (h : AllW id wr) : wr.filter (fun p => decide (p.1 < id)) = [] := List.filter_eq_nil_iff.2 fun p hp => by rw [h p hp]; simp
theorem jhn {F : IProg} {b : ICode} (I : Nat -> St -> Prop) {Q : Option (IExit × St) -> Prop} (n : Nat) (hs : ∀ i s, i < n -> I i s -> ∃ s', evw F b s = some (.normal, s') /\ I (i + 1) s')
   (he : ∀ s, I n s -> Q (evw F (.loop b) s)) : ∀ k s, k <= n -> I k s -> Q (evw F (.loop b) s) := by
 intro k
 induction h : n - k generalizing k with
 | zero =>
   intro s hk hI;have : k = n := by omega
   subst this;exact he s hI
 | succ m ih =>
   intro s hk hI;obtain ⟨s', h1, h2⟩ := hs k s (by omega) hI;rw [jb0, h1];exact ih (k + 1) (by omega) s' (by omega) h2
theorem je1 {F : IProg} {b : ICode} {s : St} {α : Type} {g : α -> Option (IExit × St)} {p : α -> Prop} (I : Nat -> St -> Prop) (n : Nat) (h0 : I 0 s) (hs : ∀ i s, i < n -> I i s -> ∃ s', evw F b s = some (.normal, s') /\ I (i + 1) s')
   (he : ∀ s, I n s -> ∃ x, evw F (.loop b) s = g x /\ p x) : ∃ x, evw F (.loop b) s = g x /\ p x :=
 jhn (Q := fun r => ∃ x, r = g x /\ p x) I n hs he 0 s (Nat.zero_le _) h0
end Go.Idl.En
namespace Go.Idl
open Go Go.Idl.En
variable [Globs]
def lnL : ICode := (.seq (.seq (.ops [⟨(some 7), .mv (.t 6), none⟩, ⟨(some 8), .mv (.t 1), none⟩, ⟨(some 9), .bin .lss (.m 7) (.m 8), none⟩, ⟨(some 10), .mv (.m 9), none⟩, ⟨(some 11), .mv (.t 6), some (10, true)⟩, ⟨(some 12), .mv (.t 0), some (10, true)⟩, ⟨(some 13), .lenS (.t 12), some (10, true)⟩, ⟨(some 14), .bin .lss (.t 11) (.t 13), some (10, true)⟩, ⟨(some 15), .pick (.m 10) (.t 14) (.c (.bool false)), none⟩])
 (.cond (.t 15) .skip (.exit 0)))
 (.seq (.block 1 (.seq (.ops [⟨(some 18), .mv (.t 0), none⟩, ⟨(some 19), .mv (.t 6), none⟩, ⟨(some 20), .idxS (.m 18) (.m 19), none⟩, ⟨(some 21), .bin .eql (.m 20) (.c (.int .u8 10)), none⟩])
 (.cond (.t 21) (.ops [⟨(some 22), .mv (.m 5), none⟩, ⟨(some 23), .bin .add (.m 22) (.c (.int .i64 1)), none⟩, ⟨(some 5), .mv (.m 23), none⟩]) .skip)))
 (.ops [⟨(some 16), .mv (.m 6), none⟩, ⟨(some 17), .bin .add (.m 16) (.c (.int .i64 1)), none⟩, ⟨(some 6), .mv (.m 17), none⟩])))
def lnI : IFunc := ⟨25, 7, 9, 5, (.seq (.ops [⟨(some 4), .mv (.c (.int .i64 0)), none⟩])
 (.seq (.ops [⟨(some 5), .mv (.c (.int .i64 1)), none⟩])
 (.seq (.seq (.ops [⟨(some 6), .mv (.c (.int .i64 0)), none⟩])
 (.block 0 (.loop lnL)))
 (.seq (.ops [⟨(some 24), .mv (.m 5), none⟩, ⟨(some 4), .mv (.m 24), none⟩])
 .ret)))), [.t 4]⟩
theorem lnw {n : Int} (h : -9223372036854775808 <= n) (h2 : n < 9223372036854775808) : IntKind.wrap .i64 n = n := by
 simp only [IntKind.wrap, IntKind.bits, IntKind.signed]; simp; omega
theorem lni {n : Nat} (h : n < 1099511627776) : IntKind.i64.wrap ((n : Int) + 1) = ((n + 1 : Nat) : Int) := by rw [lnw (by omega) (by omega)]; omega
theorem lnt {p : Prop} [Decidable p] (h : p) : decide p = true := decide_eq_true h
theorem lnf {p : Prop} [Decidable p] (h : ¬ p) : decide p = false := decide_eq_false h
variable {F : IProg}
theorem jke {f0 : Nat -> Option (Nat × IVal)} {σ : List IObj} {R : Option (IExit × St)} {s : List UInt8} {a : Int} (hE : evw F (.loop lnL) ⟨E 7 9 5 [] f0, σ, []⟩ = R) (hs : s.length < 1099511627776)
   (h0 : f0 0 = some (0, .str s)) (h1 : f0 1 = some (1, .int .i64 a)) (h5 : f0 5 = some (5, .int .i64 ((1 : Nat) : Int))) (h6 : f0 6 = some (6, .int .i64 ((0 : Nat) : Int))) :
   ∃ f, R = some (.exit 0, ⟨E 7 9 5 [] (base f), σ, []⟩) /\ f 5 = some (5, .int .i64 ((1 + (s.take a.toNat).count 10 : Nat) : Int)) := by
 subst hE;have hcnt : ∀ j, (s.take j).count 10 <= j := fun j => Nat.le_trans List.count_le_length (by simp; omega);refine je1 (fun j st => ∃ f, st = ⟨E 7 9 5 [] (base f), σ, []⟩ /\ KeepT [0, 1] f0 f /\ f 5 = some (5, .int .i64 ((1 + (s.take j).count 10 : Nat) : Int)) /\ f 6 = some (6, .int .i64 ((j : Nat) : Int))) (min a.toNat s.length) ⟨f0, rfl, KeepT.refl _ _, h5, h6⟩ ?_ ?_
 . rintro j st hj ⟨f, rfl, hK, e5, e6⟩;have e0 := (hK 0 (by decide)).trans h0;have e1 := (hK 1 (by decide)).trans h1;have d1 : decide ((j : Int) < a) = true := lnt (by omega);have d2 : decide ((j : Int) < s.length) = true := lnt (by omega);have d3 : (0 : Int) <= j := by omega
   obtain ⟨c, hc⟩ : ∃ c, s[j]? = some c := ⟨s[j]'(by omega), by simp⟩;have w1 := lni (n := j) (by omega);have w2 := lni (n := 1 + (s.take j).count 10) (by have := hcnt j; omega);have t1 : s.take (j + 1) = s.take j ++ [c] := by rw [List.take_add_one, hc]; rfl
   by_cases hcc : c = 10
   . subst hcc;have k1 : (s.take (j + 1)).count 10 = (s.take j).count 10 + 1 := by rw [t1, List.count_append]; rfl
     have q1 : (((10 : UInt8).toNat : Int) == 10) = true := rfl;simp only [lnL, e0, e1, e5, e6, d1, d2, d3, hc, w1, w2, q1, Int.toNat_natCast, kx, v7, zV, zT, zU, ya, v8, vg, vk, vh, jY, ko, ja, getAll, stepCall, jQ, unI, Opd.get, Qi, Y8, KL, kK, kh, ye, Qm, Qo, Qn, tag, jw, vd, qd, vf, vX, ve, vY, Jh, vN, Jj, VC, Ji, VD, Jg, vK, qA, vM, Jf, Je, vL, List.map_cons, List.map_nil, List.length_range, qf, kN, qk, vn, qh, vo, Ja, yf, Jc, Qp, Jb, Qq, List.all_cons, List.all_nil, ji, List.set_cons_zero, Bool.and_true, Bool.true_and, Bool.not_true, Bool.not_false, ze, rv, bin, jcF, JC, yo, JE, QF, yA, JD, vq, yp, QD, QH, QG, JB, JF, QE, Jy, yn, JA, QB, Jz, QC, Jv, ym, Jx, Qz, Jw, QA, Nat.reduceAdd, Nat.reduceSub, Nat.reduceMul, Nat.reduceDiv, Nat.reduceMod, Nat.reducePow, Nat.reduceLT, Nat.reduceLeDiff, Nat.reduceEqDiff, Nat.reduceBEq, Nat.reduceBNe, reduceIte, Int.reduceEq, Int.reduceLT, Int.reduceLE, Int.reduceNeg, Int.reduceToNat, Int.reduceMul, Int.reduceAdd, Int.reduceSub, Int.cast_ofNat_Int, reduceCtorEq, Nat.zero_add, Nat.add_zero, Nat.mul_one, bft, btf, beq_self_eq_true, Bool.not_true, Bool.not_false, true_and, and_true, and_self, if_true, if_false, ite_true, ite_false, c0, c1, not_true_eq_false, not_false_eq_true, Bool.true_eq_false, Bool.false_eq_true, zO, zP, exists_eq_left, List.length_map, List.getElem?_map, Option.map_some, List.cons_append, List.nil_append, List.length_cons, List.length_nil, List.append_nil, decide_true, decide_false];exact ⟨_, rfl, _, rfl, (by repeat (first | exact hK | refine KeepT.upd (by decide) ?_)), by simp only [kK, kh, Nat.reduceAdd, Nat.reduceSub, Nat.reduceMul, Nat.reduceDiv, Nat.reduceMod, Nat.reducePow, Nat.reduceLT, Nat.reduceLeDiff, Nat.reduceEqDiff, Nat.reduceBEq, Nat.reduceBNe, reduceIte, Int.reduceEq, Int.reduceLT, Int.reduceLE, Int.reduceNeg, Int.reduceToNat, Int.reduceMul, Int.reduceAdd, Int.reduceSub, Int.cast_ofNat_Int, reduceCtorEq, Nat.zero_add, Nat.add_zero, Nat.mul_one]; rw [k1, <- Nat.add_assoc], by simp only [kK, kh, Nat.reduceAdd, Nat.reduceSub, Nat.reduceMul, Nat.reduceDiv, Nat.reduceMod, Nat.reducePow, Nat.reduceLT, Nat.reduceLeDiff, Nat.reduceEqDiff, Nat.reduceBEq, Nat.reduceBNe, reduceIte, Int.reduceEq, Int.reduceLT, Int.reduceLE, Int.reduceNeg, Int.reduceToNat, Int.reduceMul, Int.reduceAdd, Int.reduceSub, Int.cast_ofNat_Int, reduceCtorEq, Nat.zero_add, Nat.add_zero, Nat.mul_one]⟩
   . have k1 : (s.take (j + 1)).count 10 = (s.take j).count 10 := by rw [t1, List.count_append]; simp [hcc]
     have q1 : ((c.toNat : Int) == 10) = false := by
       rw [beq_eq_false_iff_ne];intro h;exact hcc (UInt8.toNat_inj.1 (by show c.toNat = 10; omega))
     simp only [lnL, e0, e1, e5, e6, d1, d2, d3, hc, w1, q1, Int.toNat_natCast, kx, v7, zV, zT, zU, ya, v8, vg, vk, vh, jY, ko, ja, getAll, stepCall, jQ, unI, Opd.get, Qi, Y8, KL, kK, kh, ye, Qm, Qo, Qn, tag, jw, vd, qd, vf, vX, ve, vY, Jh, vN, Jj, VC, Ji, VD, Jg, vK, qA, vM, Jf, Je, vL, List.map_cons, List.map_nil, List.length_range, qf, kN, qk, vn, qh, vo, Ja, yf, Jc, Qp, Jb, Qq, List.all_cons, List.all_nil, ji, List.set_cons_zero, Bool.and_true, Bool.true_and, Bool.not_true, Bool.not_false, ze, rv, bin, jcF, JC, yo, JE, QF, yA, JD, vq, yp, QD, QH, QG, JB, JF, QE, Jy, yn, JA, QB, Jz, QC, Jv, ym, Jx, Qz, Jw, QA, Nat.reduceAdd, Nat.reduceSub, Nat.reduceMul, Nat.reduceDiv, Nat.reduceMod, Nat.reducePow, Nat.reduceLT, Nat.reduceLeDiff, Nat.reduceEqDiff, Nat.reduceBEq, Nat.reduceBNe, reduceIte, Int.reduceEq, Int.reduceLT, Int.reduceLE, Int.reduceNeg, Int.reduceToNat, Int.reduceMul, Int.reduceAdd, Int.reduceSub, Int.cast_ofNat_Int, reduceCtorEq, Nat.zero_add, Nat.add_zero, Nat.mul_one, bft, btf, beq_self_eq_true, Bool.not_true, Bool.not_false, true_and, and_true, and_self, if_true, if_false, ite_true, ite_false, c0, c1, not_true_eq_false, not_false_eq_true, Bool.true_eq_false, Bool.false_eq_true, zO, zP, exists_eq_left, List.length_map, List.getElem?_map, Option.map_some, List.cons_append, List.nil_append, List.length_cons, List.length_nil, List.append_nil, decide_true, decide_false];exact ⟨_, rfl, _, rfl, (by repeat (first | exact hK | refine KeepT.upd (by decide) ?_)), by simp only [kK, kh, Nat.reduceAdd, Nat.reduceSub, Nat.reduceMul, Nat.reduceDiv, Nat.reduceMod, Nat.reducePow, Nat.reduceLT, Nat.reduceLeDiff, Nat.reduceEqDiff, Nat.reduceBEq, Nat.reduceBNe, reduceIte, Int.reduceEq, Int.reduceLT, Int.reduceLE, Int.reduceNeg, Int.reduceToNat, Int.reduceMul, Int.reduceAdd, Int.reduceSub, Int.cast_ofNat_Int, reduceCtorEq, Nat.zero_add, Nat.add_zero, Nat.mul_one]; rw [k1]; exact e5, by simp only [kK, kh, Nat.reduceAdd, Nat.reduceSub, Nat.reduceMul, Nat.reduceDiv, Nat.reduceMod, Nat.reducePow, Nat.reduceLT, Nat.reduceLeDiff, Nat.reduceEqDiff, Nat.reduceBEq, Nat.reduceBNe, reduceIte, Int.reduceEq, Int.reduceLT, Int.reduceLE, Int.reduceNeg, Int.reduceToNat, Int.reduceMul, Int.reduceAdd, Int.reduceSub, Int.cast_ofNat_Int, reduceCtorEq, Nat.zero_add, Nat.add_zero, Nat.mul_one]⟩
 . rintro st ⟨f, rfl, hK, e5, e6⟩;have e0 := (hK 0 (by decide)).trans h0;have e1 := (hK 1 (by decide)).trans h1;have t1 : s.take (min a.toNat s.length) = s.take a.toNat := by rw [List.take_eq_take_iff]; omega
   rw [t1] at e5;rw [jb0]
   by_cases ha : a.toNat <= s.length
   . have d1 : decide (((min a.toNat s.length : Nat) : Int) < a) = false := lnf (by omega);simp only [lnL, e0, e1, e5, e6, d1, v7, zV, zT, zU, ya, v8, vg, vk, vh, jY, ko, ja, getAll, stepCall, jQ, unI, Opd.get, Qi, Y8, KL, kK, kh, ye, Qm, Qo, Qn, tag, jw, vd, qd, vf, vX, ve, vY, Jh, vN, Jj, VC, Ji, VD, Jg, vK, qA, vM, Jf, Je, vL, List.map_cons, List.map_nil, List.length_range, qf, kN, qk, vn, qh, vo, Ja, yf, Jc, Qp, Jb, Qq, List.all_cons, List.all_nil, ji, List.set_cons_zero, Bool.and_true, Bool.true_and, Bool.not_true, Bool.not_false, ze, rv, bin, jcF, JC, yo, JE, QF, yA, JD, vq, yp, QD, QH, QG, JB, JF, QE, Jy, yn, JA, QB, Jz, QC, Jv, ym, Jx, Qz, Jw, QA, Nat.reduceAdd, Nat.reduceSub, Nat.reduceMul, Nat.reduceDiv, Nat.reduceMod, Nat.reducePow, Nat.reduceLT, Nat.reduceLeDiff, Nat.reduceEqDiff, Nat.reduceBEq, Nat.reduceBNe, reduceIte, Int.reduceEq, Int.reduceLT, Int.reduceLE, Int.reduceNeg, Int.reduceToNat, Int.reduceMul, Int.reduceAdd, Int.reduceSub, Int.cast_ofNat_Int, reduceCtorEq, Nat.zero_add, Nat.add_zero, Nat.mul_one, bft, btf, beq_self_eq_true, Bool.not_true, Bool.not_false, true_and, and_true, and_self, if_true, if_false, ite_true, ite_false, c0, c1, not_true_eq_false, not_false_eq_true, Bool.true_eq_false, Bool.false_eq_true, zO, zP, exists_eq_left, List.length_map, List.getElem?_map, Option.map_some, List.cons_append, List.nil_append, List.length_cons, List.length_nil, List.append_nil, decide_true, decide_false];exact ⟨_, rfl, by simp only [kK, kh, Nat.reduceAdd, Nat.reduceSub, Nat.reduceMul, Nat.reduceDiv, Nat.reduceMod, Nat.reducePow, Nat.reduceLT, Nat.reduceLeDiff, Nat.reduceEqDiff, Nat.reduceBEq, Nat.reduceBNe, reduceIte, Int.reduceEq, Int.reduceLT, Int.reduceLE, Int.reduceNeg, Int.reduceToNat, Int.reduceMul, Int.reduceAdd, Int.reduceSub, Int.cast_ofNat_Int, reduceCtorEq, Nat.zero_add, Nat.add_zero, Nat.mul_one]; exact e5⟩
   . have d1 : decide (((min a.toNat s.length : Nat) : Int) < a) = true := lnt (by omega);have d2 : decide (((min a.toNat s.length : Nat) : Int) < s.length) = false := lnf (by omega);simp only [lnL, e0, e1, e5, e6, d1, d2, v7, zV, zT, zU, ya, v8, vg, vk, vh, jY, ko, ja, getAll, stepCall, jQ, unI, Opd.get, Qi, Y8, KL, kK, kh, ye, Qm, Qo, Qn, tag, jw, vd, qd, vf, vX, ve, vY, Jh, vN, Jj, VC, Ji, VD, Jg, vK, qA, vM, Jf, Je, vL, List.map_cons, List.map_nil, List.length_range, qf, kN, qk, vn, qh, vo, Ja, yf, Jc, Qp, Jb, Qq, List.all_cons, List.all_nil, ji, List.set_cons_zero, Bool.and_true, Bool.true_and, Bool.not_true, Bool.not_false, ze, rv, bin, jcF, JC, yo, JE, QF, yA, JD, vq, yp, QD, QH, QG, JB, JF, QE, Jy, yn, JA, QB, Jz, QC, Jv, ym, Jx, Qz, Jw, QA, Nat.reduceAdd, Nat.reduceSub, Nat.reduceMul, Nat.reduceDiv, Nat.reduceMod, Nat.reducePow, Nat.reduceLT, Nat.reduceLeDiff, Nat.reduceEqDiff, Nat.reduceBEq, Nat.reduceBNe, reduceIte, Int.reduceEq, Int.reduceLT, Int.reduceLE, Int.reduceNeg, Int.reduceToNat, Int.reduceMul, Int.reduceAdd, Int.reduceSub, Int.cast_ofNat_Int, reduceCtorEq, Nat.zero_add, Nat.add_zero, Nat.mul_one, bft, btf, beq_self_eq_true, Bool.not_true, Bool.not_false, true_and, and_true, and_self, if_true, if_false, ite_true, ite_false, c0, c1, not_true_eq_false, not_false_eq_true, Bool.true_eq_false, Bool.false_eq_true, zO, zP, exists_eq_left, List.length_map, List.getElem?_map, Option.map_some, List.cons_append, List.nil_append, List.length_cons, List.length_nil, List.append_nil, decide_true, decide_false];exact ⟨_, rfl, by simp only [kK, kh, Nat.reduceAdd, Nat.reduceSub, Nat.reduceMul, Nat.reduceDiv, Nat.reduceMod, Nat.reducePow, Nat.reduceLT, Nat.reduceLeDiff, Nat.reduceEqDiff, Nat.reduceBEq, Nat.reduceBNe, reduceIte, Int.reduceEq, Int.reduceLT, Int.reduceLE, Int.reduceNeg, Int.reduceToNat, Int.reduceMul, Int.reduceAdd, Int.reduceSub, Int.cast_ofNat_Int, reduceCtorEq, Nat.zero_add, Nat.add_zero, Nat.mul_one]; exact e5⟩
theorem jkf {g : FuncId} (hF : F g = some lnI) {s : List UInt8} {a : Int} {σ : List IObj} (hs : s.length < 1099511627776) :
   cfw F (.f g) [.str s, .int .i64 a] σ = some ⟨false, .int .i64 ((1 + (s.take a.toNat).count 10 : Nat) : Int), σ, []⟩ := by
 rw [jec lnI hF, vW];simp only [ZD, lnI, vW, jaM, Ts.fill, v7, zV, zT, zU, ya, v8, vg, vk, vh, jY, ko, ja, getAll, stepCall, jQ, unI, Opd.get, Qi, Y8, KL, kK, kh, ye, Qm, Qo, Qn, tag, jw, vd, qd, vf, vX, ve, vY, Jh, vN, Jj, VC, Ji, VD, Jg, vK, qA, vM, Jf, Je, vL, List.map_cons, List.map_nil, List.length_range, qf, kN, qk, vn, qh, vo, Ja, yf, Jc, Qp, Jb, Qq, List.all_cons, List.all_nil, ji, List.set_cons_zero, Bool.and_true, Bool.true_and, Bool.not_true, Bool.not_false, ze, rv, bin, jcF, JC, yo, JE, QF, yA, JD, vq, yp, QD, QH, QG, JB, JF, QE, Jy, yn, JA, QB, Jz, QC, Jv, ym, Jx, Qz, Jw, QA, Nat.reduceAdd, Nat.reduceSub, Nat.reduceMul, Nat.reduceDiv, Nat.reduceMod, Nat.reducePow, Nat.reduceLT, Nat.reduceLeDiff, Nat.reduceEqDiff, Nat.reduceBEq, Nat.reduceBNe, reduceIte, Int.reduceEq, Int.reduceLT, Int.reduceLE, Int.reduceNeg, Int.reduceToNat, Int.reduceMul, Int.reduceAdd, Int.reduceSub, Int.cast_ofNat_Int, reduceCtorEq, Nat.zero_add, Nat.add_zero, Nat.mul_one, bft, btf, beq_self_eq_true, Bool.not_true, Bool.not_false, true_and, and_true, and_self, if_true, if_false, ite_true, ite_false, c0, c1, not_true_eq_false, not_false_eq_true, Bool.true_eq_false, Bool.false_eq_true, zO, zP, exists_eq_left, List.length_map, List.getElem?_map, Option.map_some, List.cons_append, List.nil_append, List.length_cons, List.length_nil, List.append_nil, decide_true, decide_false];generalize hE : evw F (ICode.loop lnL) _ = R;obtain ⟨f, rfl, h5⟩ := jke hE hs (by (try simp only [kK, kh, Nat.reduceAdd, Nat.reduceSub, Nat.reduceMul, Nat.reduceDiv, Nat.reduceMod, Nat.reducePow, Nat.reduceLT, Nat.reduceLeDiff, Nat.reduceEqDiff, Nat.reduceBEq, Nat.reduceBNe, reduceIte, Int.reduceEq, Int.reduceLT, Int.reduceLE, Int.reduceNeg, Int.reduceToNat, Int.reduceMul, Int.reduceAdd, Int.reduceSub, Int.cast_ofNat_Int, reduceCtorEq, Nat.zero_add, Nat.add_zero, Nat.mul_one]) <;> rfl) (by (try simp only [kK, kh, Nat.reduceAdd, Nat.reduceSub, Nat.reduceMul, Nat.reduceDiv, Nat.reduceMod, Nat.reducePow, Nat.reduceLT, Nat.reduceLeDiff, Nat.reduceEqDiff, Nat.reduceBEq, Nat.reduceBNe, reduceIte, Int.reduceEq, Int.reduceLT, Int.reduceLE, Int.reduceNeg, Int.reduceToNat, Int.reduceMul, Int.reduceAdd, Int.reduceSub, Int.cast_ofNat_Int, reduceCtorEq, Nat.zero_add, Nat.add_zero, Nat.mul_one]) <;> rfl) (by (try simp only [kK, kh, Nat.reduceAdd, Nat.reduceSub, Nat.reduceMul, Nat.reduceDiv, Nat.reduceMod, Nat.reducePow, Nat.reduceLT, Nat.reduceLeDiff, Nat.reduceEqDiff, Nat.reduceBEq, Nat.reduceBNe, reduceIte, Int.reduceEq, Int.reduceLT, Int.reduceLE, Int.reduceNeg, Int.reduceToNat, Int.reduceMul, Int.reduceAdd, Int.reduceSub, Int.cast_ofNat_Int, reduceCtorEq, Nat.zero_add, Nat.add_zero, Nat.mul_one]) <;> rfl) (by (try simp only [kK, kh, Nat.reduceAdd, Nat.reduceSub, Nat.reduceMul, Nat.reduceDiv, Nat.reduceMod, Nat.reducePow, Nat.reduceLT, Nat.reduceLeDiff, Nat.reduceEqDiff, Nat.reduceBEq, Nat.reduceBNe, reduceIte, Int.reduceEq, Int.reduceLT, Int.reduceLE, Int.reduceNeg, Int.reduceToNat, Int.reduceMul, Int.reduceAdd, Int.reduceSub, Int.cast_ofNat_Int, reduceCtorEq, Nat.zero_add, Nat.add_zero, Nat.mul_one]) <;> rfl);simp only [h5, jfL, jm8, shut, kR, List.map_nil, List.map_cons, List.all_nil, List.all_cons, jdE, jC, Jh, vN, Jj, VC, Ji, VD, Jg, ja4, YD, ja6, jfn, jfm, ja5, ja7, ja3, vK, qA, vM, Jf, Je, vL, Bool.and_true, Bool.true_and, Bool.false_and, Bool.and_false, Bool.not_false, Bool.not_true, Bool.or_true, Bool.true_or, List.take_length, List.filter_nil, List.filter_cons, Bool.false_eq_true, v7, zV, zT, zU, ya, v8, vg, vk, vh, jY, ko, ja, getAll, stepCall, jQ, unI, Opd.get, Qi, Y8, KL, kK, kh, ye, Qm, Qo, Qn, tag, jw, vd, qd, vf, vX, ve, vY, Jh, vN, Jj, VC, Ji, VD, Jg, vK, qA, vM, Jf, Je, vL, List.map_cons, List.map_nil, List.length_range, qf, kN, qk, vn, qh, vo, Ja, yf, Jc, Qp, Jb, Qq, List.all_cons, List.all_nil, ji, List.set_cons_zero, Bool.and_true, Bool.true_and, Bool.not_true, Bool.not_false, ze, rv, bin, jcF, JC, yo, JE, QF, yA, JD, vq, yp, QD, QH, QG, JB, JF, QE, Jy, yn, JA, QB, Jz, QC, Jv, ym, Jx, Qz, Jw, QA, Nat.reduceAdd, Nat.reduceSub, Nat.reduceMul, Nat.reduceDiv, Nat.reduceMod, Nat.reducePow, Nat.reduceLT, Nat.reduceLeDiff, Nat.reduceEqDiff, Nat.reduceBEq, Nat.reduceBNe, reduceIte, Int.reduceEq, Int.reduceLT, Int.reduceLE, Int.reduceNeg, Int.reduceToNat, Int.reduceMul, Int.reduceAdd, Int.reduceSub, Int.cast_ofNat_Int, reduceCtorEq, Nat.zero_add, Nat.add_zero, Nat.mul_one, bft, btf, beq_self_eq_true, Bool.not_true, Bool.not_false, true_and, and_true, and_self, if_true, if_false, ite_true, ite_false, c0, c1, not_true_eq_false, not_false_eq_true, Bool.true_eq_false, Bool.false_eq_true, zO, zP, exists_eq_left, List.length_map, List.getElem?_map, Option.map_some, List.cons_append, List.nil_append, List.length_cons, List.length_nil, List.append_nil, decide_true, decide_false]
end Go.Idl
namespace Go.Idl
open Go
variable [Globs] {P : Program}
theorem Vz {F : IProg} (hmx : P.follows .mixedOrders = true) (hF : FOK P F) {f : FuncId} {p : List IVal -> Option IVal} (h : ∀ args v σ, p args = some v -> cfw F (.f f) args σ = some ⟨false, v, σ, []⟩) : LibOK P f (lp p) := by
 intro σ args v hp;obtain ⟨n, hn⟩ := cfw_iff.1 (h args v σ hp);obtain ⟨hc, hs⟩ := (Yj hmx hF n).fn f args σ _ hn;refine ⟨hc, fun g O rargs w hC hl hR => (hs g O rargs w hC hl hR).mono ?_⟩;rintro e w' ⟨g', O', v', rfl, h1, h2, _⟩;exact ⟨v', g', O', rfl, h1, h2⟩
def pLine : List IVal -> Option IVal
 | [.str s, .int .i64 a] => if s.length < 1099511627776 then some (.int .i64 ((1 + (s.take a.toNat).count 10 : Nat) : Int)) else none
 | _ => none
theorem line_ok {F : IProg} (hmx : P.follows .mixedOrders = true) (hF : FOK P F) {f : FuncId} (h : F f = some lnI) : LibOK P f (lp pLine) := by
 refine Vz hmx hF fun args v σ hp => ?_;unfold pLine at hp;split at hp
 . split at hp
   . rename_i hs;simp only [zO] at hp;subst hp;exact jkf h hs
   . cases hp
 . cases hp
noncomputable section
def lineQ (l : U) (K : U -> Ans) : Ans := uC l false fun a r => uC r false fun b r => Zm r (uS a fun n x => uI b fun k c => tst (Nat.beq k 3) (tst (Nat.ble 18446744073709551616 c) (tst (Nat.blt n 1099511627776) (fN (Nat.sub c 18446744073709551616) fun c =>
 fN (@Bool.rec (fun _ => Nat) n c (Nat.blt c n)) fun m => fN (Nat.div x (Nat.pow 256 (Nat.sub n m))) fun y => jne 10 m y 0 fun k => fN (Nat.add k 18446744073709551617) fun k => K (.i 3 k)))))
theorem mn (d n : Nat) : @Bool.rec (fun _ => Nat) n d (Nat.blt d n) = min d n := by
 cases hb : Nat.blt d n with
 | true => have := jy hb; exact (show d = min d n by omega)
 | false => have := vG hb; exact (show n = min d n by omega)
theorem lineQ_ok : jaA pLine lineQ := by
 intro l K h
 rcases jj (show uC l false _ = true from h) with ⟨_, h2⟩ | ⟨a, r, rfl, h2⟩
 . cases h2
 rcases jj h2 with ⟨_, h3⟩ | ⟨b, r, rfl, h3⟩
 . cases h3
 obtain ⟨rfl, h4⟩ := j9 h3;obtain ⟨n, x, rfl, h5⟩ := qb h4;obtain ⟨k, c, rfl, h6⟩ := jV h5;obtain ⟨h7, h8⟩ := jb h6;have := zN h7; subst this;obtain ⟨h9, h10⟩ := jb h8;obtain ⟨h11, h12⟩ := jb h10;have h9 := ble_iff.1 h9;have h11 := jy h11;rw [jr, jr, jr] at h12;have h13 := jeh (by omega) h12;rw [jr, Nat.zero_add] at h13;have e3 : ((c : Int) - 18446744073709551616).toNat = c - 18446744073709551616 := by omega
 have et : ∀ d : Nat, qG (min d n) (Nat.div x (Nat.pow 256 (Nat.sub n (min d n)))) = (qG n x).take d := by
   intro d;show qG (min d n) (x / 256 ^ (n - min d n)) = _;rw [<- jao n _ x (Nat.min_le_right _ _), List.take_eq_take_iff, jB]; omega
 have e10 : UInt8.ofNat 10 = 10 := rfl;rw [mn, et, e10, QO] at h13;refine ⟨_, ?_, h13⟩;rw [jn, jn, kT, Ju, qJ];have ek : kd 3 = .i64 := rfl;rw [ek];simp only [pLine, jB];rw [if_pos h11, e3, qJ, ek];generalize List.count 10 (List.take (c - 18446744073709551616) (qG n x)) = q;have e9 : ((1 + q : Nat) : Int) = ((Nat.add q 18446744073709551617 : Nat) : Int) - 18446744073709551616 := by
   rw [K6]; omega
 rw [e9]
end
end Go.Idl
namespace Go.Idl
open Go Go.Idl.En
variable [Globs] {P : Program}
def ltI : IFunc := ⟨21, 3, 18, 5, (.seq (.ops [⟨(some 2), .mv (.c (.bool false)), none⟩])
 (.seq (.ops [⟨(some 3), .mv (.m 0), none⟩, ⟨(some 4), .bin .geq (.m 3) (.c (.int .u8 97)), none⟩, ⟨(some 5), .mv (.m 4), none⟩, ⟨(some 6), .mv (.t 0), some (5, true)⟩, ⟨(some 7), .bin .leq (.t 6) (.c (.int .u8 122)), some (5, true)⟩, ⟨(some 8), .pick (.m 5) (.t 7) (.c (.bool false)), none⟩, ⟨(some 9), .mv (.m 8), none⟩, ⟨(some 10), .mv (.t 0), some (9, false)⟩, ⟨(some 11), .bin .geq (.t 10) (.c (.int .u8 65)), some (9, false)⟩, ⟨(some 12), .mv (.t 11), some (9, false)⟩, ⟨(some 13), .mv (.t 0), some (12, true)⟩, ⟨(some 14), .bin .leq (.t 13) (.c (.int .u8 90)), some (12, true)⟩, ⟨(some 15), .pick (.t 12) (.t 14) (.c (.bool false)), some (9, false)⟩, ⟨(some 16), .pick (.m 9) (.c (.bool true)) (.t 15), none⟩, ⟨(some 17), .mv (.m 16), none⟩, ⟨(some 18), .mv (.t 0), some (17, false)⟩, ⟨(some 19), .bin .eql (.t 18) (.c (.int .u8 95)), some (17, false)⟩, ⟨(some 20), .pick (.m 17) (.c (.bool true)) (.t 19), none⟩, ⟨(some 2), .mv (.m 20), none⟩])
 .ret)), [.t 2]⟩
def dgI : IFunc := ⟨9, 3, 6, 4, (.seq (.ops [⟨(some 2), .mv (.c (.bool false)), none⟩])
 (.seq (.ops [⟨(some 3), .mv (.m 0), none⟩, ⟨(some 4), .bin .geq (.m 3) (.c (.int .u8 48)), none⟩, ⟨(some 5), .mv (.m 4), none⟩, ⟨(some 6), .mv (.t 0), some (5, true)⟩, ⟨(some 7), .bin .leq (.t 6) (.c (.int .u8 57)), some (5, true)⟩, ⟨(some 8), .pick (.m 5) (.t 7) (.c (.bool false)), none⟩, ⟨(some 2), .mv (.m 8), none⟩])
 .ret)), [.t 2]⟩
def ltB (n : Int) : Bool := (decide (97 <= n) && decide (n <= 122)) || ((decide (65 <= n) && decide (n <= 90)) || n == 95)
def dgB (n : Int) : Bool := decide (48 <= n) && decide (n <= 57)
variable {F : IProg}
set_option maxHeartbeats 4000000 in
theorem jkj {g : FuncId} (hF : F g = some ltI) {n : Int} {σ : List IObj} : cfw F (.f g) [.int .u8 n] σ = some ⟨false, .bool (ltB n), σ, []⟩ := by
 rw [jec ltI hF, vW];unfold ltB
 by_cases h1 : 97 <= n <;> by_cases h2 : n <= 122 <;> by_cases h3 : 65 <= n <;> by_cases h4 : n <= 90 <;> by_cases h5 : (n == 95) = true <;> simp only [ZD, ltI, h1, h2, h3, h4, h5, ge_iff_le, kx, ju, Bool.not_eq_true, Bool.or_true, Bool.or_false, Bool.and_true, Bool.and_false, vW, jaM, Ts.fill, jfL, jm8, shut, kR, List.map_nil, List.map_cons, List.all_nil, List.all_cons, jdE, jC, Jh, vN, Jj, VC, Ji, VD, Jg, ja4, YD, ja6, jfn, jfm, ja5, ja7, ja3, vK, qA, vM, Jf, Je, vL, Bool.and_true, Bool.true_and, Bool.false_and, Bool.and_false, Bool.not_false, Bool.not_true, Bool.or_true, Bool.true_or, List.take_length, List.filter_nil, List.filter_cons, Bool.false_eq_true, v7, zV, zT, zU, ya, v8, vg, vk, vh, jY, ko, ja, getAll, stepCall, jQ, unI, Opd.get, Qi, Y8, KL, kK, kh, ye, Qm, Qo, Qn, tag, jw, vd, qd, vf, vX, ve, vY, Jh, vN, Jj, VC, Ji, VD, Jg, vK, qA, vM, Jf, Je, vL, List.map_cons, List.map_nil, List.length_range, qf, kN, qk, vn, qh, vo, Ja, yf, Jc, Qp, Jb, Qq, List.all_cons, List.all_nil, ji, List.set_cons_zero, Bool.and_true, Bool.true_and, Bool.not_true, Bool.not_false, ze, rv, bin, jcF, JC, yo, JE, QF, yA, JD, vq, yp, QD, QH, QG, JB, JF, QE, Jy, yn, JA, QB, Jz, QC, Jv, ym, Jx, Qz, Jw, QA, Nat.reduceAdd, Nat.reduceSub, Nat.reduceMul, Nat.reduceDiv, Nat.reduceMod, Nat.reducePow, Nat.reduceLT, Nat.reduceLeDiff, Nat.reduceEqDiff, Nat.reduceBEq, Nat.reduceBNe, reduceIte, Int.reduceEq, Int.reduceLT, Int.reduceLE, Int.reduceNeg, Int.reduceToNat, Int.reduceMul, Int.reduceAdd, Int.reduceSub, Int.cast_ofNat_Int, reduceCtorEq, Nat.zero_add, Nat.add_zero, Nat.mul_one, bft, btf, beq_self_eq_true, Bool.not_true, Bool.not_false, true_and, and_true, and_self, if_true, if_false, ite_true, ite_false, c0, c1, not_true_eq_false, not_false_eq_true, Bool.true_eq_false, Bool.false_eq_true, zO, zP, exists_eq_left, List.length_map, List.getElem?_map, Option.map_some, List.cons_append, List.nil_append, List.length_cons, List.length_nil, List.append_nil, decide_true, decide_false]
theorem jjM {g : FuncId} (hF : F g = some dgI) {n : Int} {σ : List IObj} : cfw F (.f g) [.int .u8 n] σ = some ⟨false, .bool (dgB n), σ, []⟩ := by
 rw [jec dgI hF, vW];unfold dgB
 by_cases h1 : 48 <= n <;> by_cases h2 : n <= 57 <;> simp only [ZD, dgI, h1, h2, ge_iff_le, kx, ju, vW, jaM, Ts.fill, jfL, jm8, shut, kR, List.map_nil, List.map_cons, List.all_nil, List.all_cons, jdE, jC, Jh, vN, Jj, VC, Ji, VD, Jg, ja4, YD, ja6, jfn, jfm, ja5, ja7, ja3, vK, qA, vM, Jf, Je, vL, Bool.and_true, Bool.true_and, Bool.false_and, Bool.and_false, Bool.not_false, Bool.not_true, Bool.or_true, Bool.true_or, List.take_length, List.filter_nil, List.filter_cons, Bool.false_eq_true, v7, zV, zT, zU, ya, v8, vg, vk, vh, jY, ko, ja, getAll, stepCall, jQ, unI, Opd.get, Qi, Y8, KL, kK, kh, ye, Qm, Qo, Qn, tag, jw, vd, qd, vf, vX, ve, vY, Jh, vN, Jj, VC, Ji, VD, Jg, vK, qA, vM, Jf, Je, vL, List.map_cons, List.map_nil, List.length_range, qf, kN, qk, vn, qh, vo, Ja, yf, Jc, Qp, Jb, Qq, List.all_cons, List.all_nil, ji, List.set_cons_zero, Bool.and_true, Bool.true_and, Bool.not_true, Bool.not_false, ze, rv, bin, jcF, JC, yo, JE, QF, yA, JD, vq, yp, QD, QH, QG, JB, JF, QE, Jy, yn, JA, QB, Jz, QC, Jv, ym, Jx, Qz, Jw, QA, Nat.reduceAdd, Nat.reduceSub, Nat.reduceMul, Nat.reduceDiv, Nat.reduceMod, Nat.reducePow, Nat.reduceLT, Nat.reduceLeDiff, Nat.reduceEqDiff, Nat.reduceBEq, Nat.reduceBNe, reduceIte, Int.reduceEq, Int.reduceLT, Int.reduceLE, Int.reduceNeg, Int.reduceToNat, Int.reduceMul, Int.reduceAdd, Int.reduceSub, Int.cast_ofNat_Int, reduceCtorEq, Nat.zero_add, Nat.add_zero, Nat.mul_one, bft, btf, beq_self_eq_true, Bool.not_true, Bool.not_false, true_and, and_true, and_self, if_true, if_false, ite_true, ite_false, c0, c1, not_true_eq_false, not_false_eq_true, Bool.true_eq_false, Bool.false_eq_true, zO, zP, exists_eq_left, List.length_map, List.getElem?_map, Option.map_some, List.cons_append, List.nil_append, List.length_cons, List.length_nil, List.append_nil, decide_true, decide_false]
def pLetter : List IVal -> Option IVal
 | [.int .u8 n] => some (.bool (ltB n))
 | _ => none
def pDigit : List IVal -> Option IVal
 | [.int .u8 n] => some (.bool (dgB n))
 | _ => none
theorem letter_ok {F : IProg} (hmx : P.follows .mixedOrders = true) (hF : FOK P F) {f : FuncId} (h : F f = some ltI) : LibOK P f (lp pLetter) := by
 refine Vz hmx hF fun args v σ hp => ?_;unfold pLetter at hp;split at hp
 . simp only [zO] at hp;subst hp;exact jkj h
 . cases hp
theorem digit_ok {F : IProg} (hmx : P.follows .mixedOrders = true) (hF : FOK P F) {f : FuncId} (h : F f = some dgI) : LibOK P f (lp pDigit) := by
 refine Vz hmx hF fun args v σ hp => ?_;unfold pDigit at hp;split at hp
 . simp only [zO] at hp;subst hp;exact jjM h
 . cases hp
noncomputable section
def jjC (f : Nat -> Bool) (l : U) (K : U -> Ans) : Ans := uC l false fun a r => Zm r (uI a fun k c => tst (Nat.beq k 4) (@Bool.rec (fun _ => Ans) (K (.b false)) (K (.b true)) (f c)))
def ltN (c : Nat) : Bool := or (and (Nat.ble 18446744073709551713 c) (Nat.ble c 18446744073709551738)) (or (and (Nat.ble 18446744073709551681 c) (Nat.ble c 18446744073709551706)) (Nat.beq c 18446744073709551711))
def dgN (c : Nat) : Bool := and (Nat.ble 18446744073709551664 c) (Nat.ble c 18446744073709551673)
def letterQ : U -> (U -> Ans) -> Ans := jjC ltN
def digitQ : U -> (U -> Ans) -> Ans := jjC dgN
theorem jbS {a b : Bool} (h : a = true ↔ b = true) : a = b := by cases a <;> cases b <;> simp_all
theorem jmn (c : Nat) : ltN c = ltB ((c : Int) - 18446744073709551616) := by
 refine jbS ?_;simp only [ltN, ltB, Bool.or_eq_true, zA, Nat.ble_eq, Nat.beq_eq, decide_eq_true_eq, beq_iff_eq];omega
theorem jlW (c : Nat) : dgN c = dgB ((c : Int) - 18446744073709551616) := by
 refine jbS ?_;simp only [dgN, dgB, Bool.or_eq_true, zA, Nat.ble_eq, decide_eq_true_eq];omega
theorem jbT {f : Nat -> Bool} {g : Int -> Bool} {p : List IVal -> Option IVal} (hp : ∀ n, p [.int .u8 n] = some (.bool (g n))) (hf : ∀ c : Nat, f c = g ((c : Int) - 18446744073709551616)) : jaA p (jjC f) := by
 intro l K h
 rcases jj (show uC l false _ = true from h) with ⟨_, h2⟩ | ⟨a, r, rfl, h2⟩
 . cases h2
 obtain ⟨rfl, h4⟩ := j9 h2;obtain ⟨k, c, rfl, h6⟩ := jV h4;obtain ⟨h7, h8⟩ := jb h6;have := zN h7; subst this;have ek : kd 4 = .u8 := rfl;rw [jn, kT, qJ, ek, hp, <- hf]
 rcases jf h8 with ⟨h9, h10⟩ | ⟨h9, h10⟩
 . exact ⟨.b true, by rw [h9]; rfl, h10⟩
 . exact ⟨.b false, by rw [h9]; rfl, h10⟩
theorem letterQ_ok : jaA pLetter letterQ := jbT (fun _ => rfl) jmn
theorem digitQ_ok : jaA pDigit digitQ := jbT (fun _ => rfl) jlW
end
end Go.Idl
namespace Go.Idl
noncomputable section
abbrev Rd (α : Type) := Nat -> (α -> Nat -> Option XFunc) -> Option XFunc
def Rd.w (n : Nat) (k : Nat -> Option XFunc) : Option XFunc := @Nat.rec (fun _ => (Nat -> Option XFunc) -> Option XFunc) (fun k => k 0) (fun m _ k => k m) (Nat.succ n) k
def Rd.p {α : Type} (a : α) : Rd α := fun n k => k a n
def Rd.h {α : Type} (r : Nat) (f : Nat -> Rd α) : Rd α := fun n k => w (Nat.mod n r) fun x => w (Nat.div n r) fun m => f x m k
def Rd.g1 {α : Type} (r : Nat) (f : Nat -> α) : Rd α := h r fun i => p (f i)
def Rd.g2 {α : Type} (r s : Nat) (f : Nat -> Nat -> α) : Rd α := h r fun i => h s fun j => p (f i j)
def Rd.g3 {α : Type} (r s t : Nat) (f : Nat -> Nat -> Nat -> α) : Rd α := h r fun i => h s fun j => h t fun k => p (f i j k)
def Rd.g4 {α : Type} (r s t u : Nat) (f : Nat -> Nat -> Nat -> Nat -> α) : Rd α := h r fun i => h s fun j => h t fun k => h u fun l => p (f i j k l)
def Rd.s {α : Type} (r : Nat) (l : List (Rd α)) : Rd α := fun n k => w (Nat.div n r) fun m => @List.rec (Rd α) (fun _ => Nat -> Option XFunc) (fun _ => none) (fun d _ ih i => @Nat.rec (fun _ => Option XFunc) (d m k) (fun j _ => ih j) i) l (Nat.mod n r)
def Rd.m1 {α β : Type} (d : Rd α) (f : α -> β) : Rd β := fun n k => d n fun a m => k (f a) m
def Rd.m2 {α β γ : Type} (d : Rd α) (e : Rd β) (f : α -> β -> γ) : Rd γ := fun n k => d n fun a m => e m fun b o => k (f a b) o
def Rd.m3 {α β γ δ : Type} (d : Rd α) (e : Rd β) (e' : Rd γ) (f : α -> β -> γ -> δ) : Rd δ := fun n k => d n fun a m => e m fun b o => e' o fun c q => k (f a b c) q
def Rd.m4 {α β γ δ ε : Type} (d : Rd α) (e : Rd β) (e' : Rd γ) (e'' : Rd δ) (f : α -> β -> γ -> δ -> ε) : Rd ε := fun n k => d n fun a m => e m fun b o => e' o fun c q => e'' q fun x y => k (f a b c x) y
def Rd.l {α : Type} (r : Nat) (d : Rd α) : Rd (List α) := h r fun c => @Nat.rec (fun _ => Rd (List α)) (p []) (fun _ ih n k => d n fun x m => ih m fun xs o => k (x :: xs) o) c
def Rd.num (r : Nat) : Rd Nat := h r p
def Rd.hs {α : Type} (r : Nat) (f : List UInt8 -> Rd α) : Rd α := fun n k => l r (h 128 fun c => p (UInt8.ofNat c)) n fun x m => f x m k
def Rd.rec {α : Type} (f : Rd α -> Rd α) (n : Nat) : Rd α := @Nat.rec (fun _ => Rd α) (fun _ _ => none) (fun _ c => f c) n
def Rd.pT (a b : List Nat) : List (Nat × Nat) := a.flatMap fun x => b.map fun y => (x, y)
def Rd.qT {α : Type} (l : List α) (n : Nat) : List (α × Bool) := @List.rec α (fun _ => Nat -> List (α × Bool)) (fun _ => []) (fun a _ ih n => @Nat.rec (fun _ => List (α × Bool)) ((a, false) :: ih (Nat.div n 3)) (fun j _ => @Nat.rec (fun _ => List (α × Bool)) ((a, true) :: ih (Nat.div n 3)) (fun _ _ => ih (Nat.div n 3)) j) (Nat.mod n 3)) l n
inductive FT where
 | f
 | n (g c : Nat) (l r : FT)
 | b (g : Nat) (c : CF) (l r : FT)
def FT.ok (F : XProg) (d : Nat -> Option XFunc) : FT -> Prop
 | .f => True
 | .n g c l r => F g = d c /\ l.ok F d /\ r.ok F d
 | .b g c l r => (∀ cq yq, CYS (xcfw F) cq yq -> CallS (xcfw F) (.f g) (c cq yq)) /\ l.ok F d /\ r.ok F d
theorem FT.nk {F : XProg} {d : Nat -> Option XFunc} {g c : Nat} {l r : FT} (h : F g = d c) (hl : l.ok F d) (hr : r.ok F d) : (FT.n g c l r).ok F d := ⟨h, hl, hr⟩
theorem FT.bk {F : XProg} {d : Nat -> Option XFunc} {g : Nat} {c : CF} {l r : FT} (h : ∀ cq yq, CYS (xcfw F) cq yq -> CallS (xcfw F) (.f g) (c cq yq)) (hl : l.ok F d) (hr : r.ok F d) : (FT.b g c l r).ok F d := ⟨h, hl, hr⟩
theorem FT.fk {F : XProg} {d : Nat -> Option XFunc} : FT.f.ok F d := trivial
def FT.run (d : Nat -> Option XFunc) (t : FT) (K : BT -> Ans) : Ans := @FT.rec (fun _ => (BT -> Ans) -> Ans) (fun K => K .lf)
 (fun g c _ _ il ir K => @Option.rec XFunc (fun _ => Ans) false (fun x => il fun a => ir fun b => K (.nd g (jej 1000000 x) a b)) (d c))
 (fun g c _ _ il ir K => il fun a => ir fun b => K (.nd g c a b)) t K
theorem FT.run_ok {F : XProg} {d : Nat -> Option XFunc} : ∀ t : FT, t.ok F d -> ∀ K : BT -> Ans, t.run d K = true -> ∃ b : BT, b.OK F /\ K b = true := by
 intro t
 induction t with
 | f => intro _ K h; exact ⟨.lf, trivial, h⟩
 | n g c l r il ir =>
   intro ho K h
   cases hd : d c with
   | none =>
     have : @Option.rec XFunc (fun _ => Ans) false (fun x => l.run d fun a => r.run d fun b => K (.nd g (jej 1000000 x) a b)) (d c) = true := h;rw [hd] at this; cases this
   | some x =>
     have h' : @Option.rec XFunc (fun _ => Ans) false (fun x => l.run d fun a => r.run d fun b => K (.nd g (jej 1000000 x) a b)) (d c) = true := h;rw [hd] at h';obtain ⟨a, ha, h1⟩ := il ho.2.1 _ h';obtain ⟨b, hb, h2⟩ := ir ho.2.2 _ h1;exact ⟨.nd g (jej 1000000 x) a b, ⟨fun _ _ hc => jgL hc 1000000 (ho.1.trans hd), ha, hb⟩, h2⟩
 | b g c l r il ir =>
   intro ho K h;have h' : (l.run d fun a => r.run d fun b => K (.nd g c a b)) = true := h;obtain ⟨a, ha, h1⟩ := il ho.2.1 _ h';obtain ⟨b, hb, h2⟩ := ir ho.2.2 _ h1;exact ⟨.nd g c a b, ⟨ho.1, ha, hb⟩, h2⟩
end
end Go.Idl
