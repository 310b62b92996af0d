/- The ideal machine and its evaluators, part 8; no conditions. -/
import Derived.Test.YtbhnokhofcgjmaaGreatDoorIdlG
set_option linter.unusedSectionVars false
set_option linter.unusedVariables false
set_option linter.unusedSimpArgs false
namespace Go.Idl
noncomputable section
theorem jb9 (a b : Nat) : Nat.mod a b = a % b := rfl
theorem jkt (a b : Nat) : Nat.div a b = a / b := rfl
theorem K6 (a b : Nat) : Nat.add a b = a + b := rfl
theorem QO (a b : Nat) : Nat.sub a b = a - b := rfl
theorem jfk (a b : Nat) : Nat.mul a b = a * b := rfl
theorem jlu (a b : Nat) : Nat.pow a b = a ^ b := rfl
theorem vV {α : Type} (b : Bool) (x y : α) : @Bool.rec (fun _ => α) x y b = if b then y else x := by cases b <;> rfl
def kc : IntKind -> Nat
 | .i8 => 0 | .i16 => 1 | .i32 => 2 | .i64 => 3 | .u8 => 4 | .u16 => 5 | .u32 => 6 | .u64 => 7
def kd : Nat -> IntKind
 | 0 => .i8 | 1 => .i16 | 2 => .i32 | 3 => .i64 | 4 => .u8 | 5 => .u16 | 6 => .u32 | _ => .u64
theorem jhc (k : IntKind) : kd (kc k) = k := by cases k <;> rfl
def jgt (k c : Nat) : IVal := .int (kd k) ((c : Int) - 18446744073709551616)
def jd0 : Nat -> Nat
 | 0 => 8 | 1 => 16 | 2 => 32 | 3 => 64 | 4 => 8 | 5 => 16 | 6 => 32 | _ => 64
def jbH (k s : Nat) : Nat :=
 @Bool.rec (fun _ => Nat) (Nat.add (Nat.mod s (Nat.pow 2 (jd0 k))) 18446744073709551616)
   (Nat.add (Nat.mod (Nat.add s (Nat.pow 2 (Nat.sub (jd0 k) 1))) (Nat.pow 2 (jd0 k))) (Nat.sub 18446744073709551616 (Nat.pow 2 (Nat.sub (jd0 k) 1)))) (Nat.blt k 4)
def V9 (k s : Nat) : Nat :=
 @Bool.rec (fun _ => Nat) (@Bool.rec (fun _ => Nat) (jbH k s) (Nat.add (Nat.mod s 256) 18446744073709551616) (Nat.beq k 4))
   (Nat.add (Nat.mod (Nat.add s 9223372036854775808) 18446744073709551616) 9223372036854775808) (Nat.beq k 3)
theorem jlh (k s : Nat) : V9 k s = jbH k s := by
 unfold V9;rw [vV, vV];split
 . rename_i h; have := zN h; subst this; rfl
 . split
   . rename_i h; have := zN h; subst this; rfl
   . rfl
theorem jiF (k : IntKind) (s : Nat) (n : Int) (h : (s : Int) % (2 ^ k.bits : Int) = n % (2 ^ k.bits : Int)) : ((jbH (kc k) s : Nat) : Int) - 18446744073709551616 = k.wrap n := by
 cases k <;> simp only [jbH, kc, jd0, IntKind.wrap, IntKind.bits, IntKind.signed, vV, K6, jb9, jlu, QO] at h ⊢ <;>
   simp [Nat.blt] at h ⊢ <;> omega
theorem jiE (k s : Nat) : jbH k s = jbH (kc (kd k)) s := by
 match k with
 | 0 | 1 | 2 | 3 | 4 | 5 | 6 | 7 => rfl
 | k + 8 =>
   have e : kc (kd (k + 8)) = 7 := rfl;rw [e];have h : Nat.blt (k + 8) 4 = Nat.blt 7 4 := by simp [Nat.blt, Nat.ble]
   unfold jbH;rw [h]; rfl
theorem JI (k s : Nat) (n : Int) (h : (s : Int) % (2 ^ (kd k).bits : Int) = n % (2 ^ (kd k).bits : Int)) : jgt k (V9 k s) = .int (kd k) ((kd k).wrap n) := by
 have := jiF (kd k) s n h;unfold jgt;rw [jlh, jiE, this]
theorem jdS (k s : Nat) (n : Int) (h : (s : Int) % 18446744073709551616 = n % 18446744073709551616) : jgt k (V9 k s) = .int (kd k) ((kd k).wrap n) := by
 apply JI;generalize kd k = k;cases k <;> simp only [IntKind.bits] <;> omega
def qG (l x : Nat) : List UInt8 := (List.range l).map fun i => UInt8.ofNat (x / 256 ^ (l - 1 - i))
def jhL (s : List UInt8) : Nat := s.foldl (fun a b => a * 256 + b.toNat) 0
theorem jB (l x : Nat) : (qG l x).length = l := by simp [qG]
theorem yt {l x i : Nat} (h : i < l) : (qG l x)[i]? = some (UInt8.ofNat (x / 256 ^ (l - 1 - i))) := by
 simp [qG, h]
theorem jan {a b : Nat} (h : a % 256 = b % 256) : UInt8.ofNat a = UInt8.ofNat b := by
 apply UInt8.toNat.inj;simpa using h
theorem qH (l x : Nat) : qG (l + 1) x = qG l (x / 256) ++ [UInt8.ofNat x] := by
 unfold qG;rw [List.range_succ, List.map_append]
 congr 1
 . apply List.map_congr_left;intro i hi;have hi := List.mem_range.1 hi
   congr 1
   rw [Nat.div_div_eq_div_mul, <- Nat.pow_succ']
   congr 2; omega
 . simp
theorem Q4 (l x : Nat) : qG l (x % 256 ^ l) = qG l x := by
 induction l generalizing x with
 | zero => rfl
 | succ l ih =>
   rw [qH, qH];have e1 : x % 256 ^ (l + 1) / 256 = x / 256 % 256 ^ l := by
     rw [Nat.pow_succ', Nat.mod_mul_right_div_self]
   rw [e1, ih]
   congr 2
   apply jan;rw [Nat.pow_succ', Nat.mod_mul_right_mod]
theorem jfv (s : List UInt8) (b : UInt8) : jhL (s ++ [b]) = jhL s * 256 + b.toNat := by simp [jhL]
theorem jgl (s : List UInt8) : qG s.length (jhL s) = s := by
 suffices h : ∀ (n : Nat) (s : List UInt8), s.length = n -> qG n (jhL s) = s from h _ s rfl
 intro n
 induction n with
 | zero => intro s h; have := List.length_eq_zero_iff.1 h; subst this; rfl
 | succ n ih =>
   intro s h
   rcases List.eq_nil_or_concat s with rfl | ⟨s', b, rfl⟩
   . simp at h
   . simp only [List.concat_eq_append] at h ⊢;rw [qH, jfv];have hb := b.toNat_lt;have e1 : (jhL s' * 256 + b.toNat) / 256 = jhL s' := by omega
     rw [e1, ih s' (by simpa using h)]
     congr 2
     have : UInt8.ofNat (jhL s' * 256 + b.toNat) = UInt8.ofNat b.toNat := jan (by omega);rw [this]; simp
theorem V8 (l m x y : Nat) : qG l x ++ qG m y = qG (l + m) (x * 256 ^ m + y % 256 ^ m) := by
 induction m generalizing y with
 | zero => simp [qG]; intro a _; rw [Nat.mod_one]; rfl
 | succ m ih =>
   rw [qH m y, <- zS, ih, <- Nat.add_assoc, qH]
   congr 2
   . congr 1
     have h1 : y % 256 ^ (m + 1) / 256 = y / 256 % 256 ^ m := by rw [Nat.pow_succ', Nat.mod_mul_right_div_self]
     rw [<- h1, Nat.pow_succ, <- Nat.mul_assoc];omega
   . apply jan;have h2 : y % (256 ^ m * 256) % 256 = y % 256 := Nat.mod_mod_of_dvd _ (Nat.dvd_mul_left _ _);rw [Nat.pow_succ, <- Nat.mul_assoc];omega
theorem jao (l h x : Nat) (hl : h <= l) : (qG l x).take h = qG h (x / 256 ^ (l - h)) := by
 apply List.ext_getElem?;intro i;rw [List.getElem?_take]
 by_cases hi : i < h
 . rw [if_pos hi, yt (by omega), yt hi, Nat.div_div_eq_div_mul, <- Nat.pow_add]
   congr 4; omega
 . rw [if_neg hi, List.getElem?_eq_none (by rw [jB]; omega)]
theorem jgk (l k x : Nat) (hl : k <= l) : (qG l x).drop k = qG (l - k) x := by
 apply List.ext_getElem?;intro i;rw [List.getElem?_drop]
 by_cases hi : k + i < l
 . rw [yt hi, yt (by omega)]
   congr 4; omega
 . rw [List.getElem?_eq_none (by rw [jB]; omega), List.getElem?_eq_none (by rw [jB]; omega)]
theorem jdF (l lo h x : Nat) (h1 : lo <= h) (h2 : h <= l) : ((qG l x).take h).drop lo = qG (h - lo) ((x / 256 ^ (l - h)) % 256 ^ (h - lo)) := by
 rw [jao _ _ _ h2, jgk _ _ _ h1, Q4]
theorem Q3 (l x y : Nat) : qG l x = qG l y ↔ x % 256 ^ l = y % 256 ^ l := by
 constructor
 . intro h
   induction l generalizing x y with
   | zero => simp [Nat.mod_one]
   | succ l ih =>
     rw [qH, qH] at h;have := List.append_inj' h rfl;have h1 := ih _ _ this.1;have h2 : UInt8.ofNat x = UInt8.ofNat y := by simpa using this.2
     have h3 : x % 256 = y % 256 := by have := congrArg UInt8.toNat h2; simpa using this
     rw [Nat.pow_succ', Nat.mod_mul, Nat.mod_mul, h1, h3]
 . intro h;rw [<- Q4 l x, h, Q4]
inductive U where
 | i (k n : Nat)
 | b (x : Bool)
 | s (l x : Nat)
 | o (t a b c d : Nat) (x : U)
 | nl
 | cn (x y : U)
 | nd (x l r : U)
 | z (v : IVal)
 | lp (st : Nat) (ps : List Nat) (p q : XCode) (e : U) (pd : Nat)
structure Tri where
 v : IVal
 l : List IVal
 g : Nat -> Nat -> IVal
def lst (f : Nat -> Nat -> IVal) (off len : Nat) : List IVal := (List.range len).map fun i => f (Nat.log2 (off + i + 1)) (off + i + 1)
def toO (t a b c d : Nat) (x : Tri) : IVal :=
 match t with
 | 1 => .ptr a b
 | 2 => .rs a b c d
 | 3 => .map a
 | 4 => .yl a
 | 5 => .iface a x.v
 | 6 => .pv (a != 0) x.l b
 | 7 => .fn (.func a) (x.l.take b) (x.l.drop b)
 | 8 => .prim (.pointer none)
 | 9 => .prim .nilIface
 | 10 => .prim .nilFunc
 | 11 => .prim (.map none)
 | 16 => .sl a (b != 0) (lst x.g c d)
 | 17 => .agg (if a = 0 then x.l else x.l.map un1)
 | 18 => .tup (if a = 0 then x.l else x.l.map un2)
 | _ => .yl a
def toT (u : U) : Tri := match u with
 | .i k n => ⟨jgt k n, [], fun _ _ => ju⟩
 | .b x => ⟨.bool x, [], fun _ _ => ju⟩
 | .s l x => ⟨.str (qG l x), [], fun _ _ => ju⟩
 | .o t a b c d x => ⟨toO t a b c d (toT x), [], fun _ _ => ju⟩
 | .nl => ⟨ju, [], fun _ _ => ju⟩
 | .cn x y => ⟨ju, (toT x).v :: (toT y).l, fun _ _ => ju⟩
 | .nd x l r => ⟨ju, [], fun d k => match d with
   | 0 => (toT x).v
   | d + 1 => if k % 2 = 0 then (toT l).g d (k / 2) else (toT r).g d (k / 2)⟩
 | .z v => ⟨v, [], fun _ _ => ju⟩
 | .lp _ _ _ _ _ _ => ⟨ju, [], fun _ _ => ju⟩
abbrev toI (u : U) : IVal := (toT u).v
abbrev toL (u : U) : List IVal := (toT u).l
def Qw : Nat -> U -> Nat -> U
 | 0, .nd x _ _, _ => x
 | d + 1, .nd _ l r, k => if k % 2 = 0 then Qw d l (k / 2) else Qw d r (k / 2)
 | _, _, _ => .nl
theorem jk8 : ∀ (d : Nat) (t : U) (k : Nat), toI (Qw d t k) = (toT t).g d k := by
 intro d
 induction d with
 | zero => intro t k; cases t <;> simp [Qw, toI, toT]
 | succ d ih =>
   intro t k;cases t <;> simp only [Qw, toI, toT];split
   . exact ih _ _
   . exact ih _ _
def nv0 : U -> U | .nd x _ _ => x | _ => .nl
def nl0 : U -> U | .nd _ l _ => l | _ => .nl
def jdK : U -> U | .nd _ _ r => r | _ => .nl
def jam (x : U) : Nat -> U -> Nat -> U
 | 0, t, _ => .nd x (nl0 t) (jdK t)
 | d + 1, t, k => if k % 2 = 0 then .nd (nv0 t) (jam x d (nl0 t) (k / 2)) (jdK t) else .nd (nv0 t) (nl0 t) (jam x d (jdK t) (k / 2))
theorem jj2 (t : U) (d k : Nat) (h : k % 2 = 0) : (toT (nl0 t)).g d (k / 2) = (toT t).g (d + 1) k := by
 cases t <;> simp [nl0, toT, h]
theorem jj3 (t : U) (d k : Nat) (h : ¬ k % 2 = 0) : (toT (jdK t)).g d (k / 2) = (toT t).g (d + 1) k := by
 cases t <;> simp [jdK, toT, h]
theorem jnh (t : U) (k : Nat) : (toT (nv0 t)).v = (toT t).g 0 k := by
 cases t <;> simp [nv0, toT]
theorem jmR (x : U) : ∀ (d : Nat) (t : U) (k : Nat) (d' k' : Nat), 2 ^ d <= k -> k < 2 ^ (d + 1) -> 2 ^ d' <= k' -> k' < 2 ^ (d' + 1) ->
   (toT (jam x d t k)).g d' k' = if k' = k then toI x else (toT t).g d' k' := by
 intro d
 induction d with
 | zero =>
   intro t k d' k' h1 h2 h3 h4;have hk : k = 1 := by simp at h1 h2; omega
   subst hk
   cases d' with
   | zero =>
     have : k' = 1 := by simp at h3 h4; omega
     subst this; simp [jam, toT]
   | succ d' =>
     have hk' : ¬ k' = 1 := by
       have : 2 ^ (d' + 1) ≥ 2 := by rw [Nat.pow_succ]; have := Nat.one_le_two_pow (n := d'); omega
       omega
     rw [if_neg hk'];simp only [jam, toT];split
     . rename_i h; exact jj2 t d' k' h
     . rename_i h; exact jj3 t d' k' h
 | succ d ih =>
   intro t k d' k' h1 h2 h3 h4;have hk2 : 2 ^ d <= k / 2 /\ k / 2 < 2 ^ (d + 1) := by
     rw [Nat.pow_succ] at h1 h2; omega
   cases d' with
   | zero =>
     have hk' : k' = 1 := by simp at h3 h4; omega
     have hne : ¬ k' = k := by
       have : 2 ^ (d + 1) ≥ 2 := by rw [Nat.pow_succ]; have := Nat.one_le_two_pow (n := d); omega
       omega
     rw [if_neg hne];unfold jam;split <;> simp [toT, jnh t k']
   | succ d' =>
     have hk2' : 2 ^ d' <= k' / 2 /\ k' / 2 < 2 ^ (d' + 1) := by
       rw [Nat.pow_succ] at h3 h4; omega
     unfold jam;split
     . rename_i he;simp only [toT];split
       . rename_i he';rw [ih (nl0 t) (k / 2) d' (k' / 2) hk2.1 hk2.2 hk2'.1 hk2'.2, jj2 t d' k' he'];have : (k' / 2 = k / 2) ↔ (k' = k) := by omega
         simp [this]
       . rename_i he';have hne : ¬ k' = k := by intro h; subst h; exact he' he
         rw [if_neg hne, jj3 t d' k' he']
     . rename_i he;simp only [toT];split
       . rename_i he';have hne : ¬ k' = k := by intro h; subst h; exact he he'
         rw [if_neg hne, jj2 t d' k' he']
       . rename_i he';rw [ih (jdK t) (k / 2) d' (k' / 2) hk2.1 hk2.2 hk2'.1 hk2'.2, jj3 t d' k' he'];have : (k' / 2 = k / 2) ↔ (k' = k) := by omega
         simp [this]
theorem YU (t : U) (d k : Nat) (h : k % 2 = 0) : Qw d (nl0 t) (k / 2) = Qw (d + 1) t k := by
 cases t <;> cases d <;> simp [nl0, Qw, h]
theorem YV (t : U) (d k : Nat) (h : ¬ k % 2 = 0) : Qw d (jdK t) (k / 2) = Qw (d + 1) t k := by
 cases t <;> cases d <;> simp [jdK, Qw, h]
theorem jiu (t : U) (k : Nat) : nv0 t = Qw 0 t k := by
 cases t <;> simp [nv0, Qw]
theorem jiz (x : U) : ∀ (d : Nat) (t : U) (k : Nat) (d' k' : Nat), 2 ^ d <= k -> k < 2 ^ (d + 1) -> 2 ^ d' <= k' -> k' < 2 ^ (d' + 1) ->
   Qw d' (jam x d t k) k' = if k' = k then x else Qw d' t k' := by
 intro d
 induction d with
 | zero =>
   intro t k d' k' h1 h2 h3 h4;have hk : k = 1 := by simp at h1 h2; omega
   subst hk
   cases d' with
   | zero =>
     have : k' = 1 := by simp at h3 h4; omega
     subst this; simp [jam, Qw]
   | succ d' =>
     have hk' : ¬ k' = 1 := by
       have : 2 ^ (d' + 1) ≥ 2 := by rw [Nat.pow_succ]; have := Nat.one_le_two_pow (n := d'); omega
       omega
     rw [if_neg hk'];rw [jam, Qw];split
     . rename_i h; exact YU t d' k' h
     . rename_i h; exact YV t d' k' h
 | succ d ih =>
   intro t k d' k' h1 h2 h3 h4;have hk2 : 2 ^ d <= k / 2 /\ k / 2 < 2 ^ (d + 1) := by
     rw [Nat.pow_succ] at h1 h2; omega
   cases d' with
   | zero =>
     have hk' : k' = 1 := by simp at h3 h4; omega
     have hne : ¬ k' = k := by
       have : 2 ^ (d + 1) ≥ 2 := by rw [Nat.pow_succ]; have := Nat.one_le_two_pow (n := d); omega
       omega
     rw [if_neg hne];unfold jam;split <;> simp [Qw, jiu t k']
   | succ d' =>
     have hk2' : 2 ^ d' <= k' / 2 /\ k' / 2 < 2 ^ (d' + 1) := by
       rw [Nat.pow_succ] at h3 h4; omega
     unfold jam;split
     . rename_i he;rw [Qw];split
       . rename_i he';rw [ih (nl0 t) (k / 2) d' (k' / 2) hk2.1 hk2.2 hk2'.1 hk2'.2, YU t d' k' he'];have : (k' / 2 = k / 2) ↔ (k' = k) := by omega
         simp [this]
       . rename_i he';have hne : ¬ k' = k := by intro h; subst h; exact he' he
         rw [if_neg hne, YV t d' k' he']
     . rename_i he;rw [Qw];split
       . rename_i he';have hne : ¬ k' = k := by intro h; subst h; exact he he'
         rw [if_neg hne, YU t d' k' he']
       . rename_i he';rw [ih (jdK t) (k / 2) d' (k' / 2) hk2.1 hk2.2 hk2'.1 hk2'.2, YV t d' k' he'];have : (k' / 2 = k / 2) ↔ (k' = k) := by omega
         simp [this]
def at' (t : U) (i : Nat) : U := Qw (Nat.log2 (i + 1)) t (i + 1)
def jgw (t : U) (i : Nat) (x : U) : U := jam x (Nat.log2 (i + 1)) t (i + 1)
def gat (t : U) (i : Nat) : IVal := (toT t).g (Nat.log2 (i + 1)) (i + 1)
theorem Ye (t : U) (i : Nat) : toI (at' t i) = gat t i := jk8 _ _ _
theorem Ka (t : U) (i j : Nat) (x : U) : gat (jgw t i x) j = if j = i then toI x else gat t j := by
 have hb : ∀ n : Nat, 2 ^ Nat.log2 (n + 1) <= n + 1 /\ n + 1 < 2 ^ (Nat.log2 (n + 1) + 1) := fun n => ⟨Nat.log2_self_le (by omega), Nat.lt_log2_self⟩;unfold gat jgw;rw [jmR x _ t _ _ _ (hb i).1 (hb i).2 (hb j).1 (hb j).2];have : (j + 1 = i + 1) ↔ (j = i) := by omega
 simp [this]
theorem jdX (t : U) (i j : Nat) (x : U) : at' (jgw t i x) j = if j = i then x else at' t j := by
 have hb : ∀ n : Nat, 2 ^ Nat.log2 (n + 1) <= n + 1 /\ n + 1 < 2 ^ (Nat.log2 (n + 1) + 1) := fun n => ⟨Nat.log2_self_le (by omega), Nat.lt_log2_self⟩;unfold at' jgw;rw [jiz x _ t _ _ _ (hb i).1 (hb i).2 (hb j).1 (hb j).2];have : (j + 1 = i + 1) ↔ (j = i) := by omega
 simp [this]
theorem ZF (t : U) (off len : Nat) : lst (toT t).g off len = (List.range len).map fun i => gat t (off + i) := rfl
theorem jh (f : Nat -> Nat -> IVal) (off len : Nat) : (lst f off len).length = len := by simp [lst]
theorem j0 (t : U) (off len i : Nat) (h : i < len) : (lst (toT t).g off len)[i]? = some (gat t (off + i)) := by
 rw [ZF]; simp [h]
end
end Go.Idl
namespace Go.Idl
noncomputable section
abbrev Ans := Bool
def uI (v : U) (K : Nat -> Nat -> Ans) : Ans := (@U.rec (fun _ => (Nat -> Nat -> Ans) -> Ans) (fun k n => fun K => K k n) (fun _ => fun _ => false) (fun _ _ => fun _ => false) (fun _ _ _ _ _ _ _ => fun _ => false) (fun _ => false) (fun _ _ _ _ => fun _ => false) (fun _ _ _ _ _ _ => fun _ => false) (fun _ => fun _ => false) (fun _ _ _ _ _ _ _ => fun _ => false) v) K
def uB (v : U) (K : Bool -> Ans) : Ans := (@U.rec (fun _ => (Bool -> Ans) -> Ans) (fun _ _ => fun _ => false) (fun x => fun K => K x) (fun _ _ => fun _ => false) (fun _ _ _ _ _ _ _ => fun _ => false) (fun _ => false) (fun _ _ _ _ => fun _ => false) (fun _ _ _ _ _ _ => fun _ => false) (fun _ => fun _ => false) (fun _ _ _ _ _ _ _ => fun _ => false) v) K
def uS (v : U) (K : Nat -> Nat -> Ans) : Ans := (@U.rec (fun _ => (Nat -> Nat -> Ans) -> Ans) (fun _ _ => fun _ => false) (fun _ => fun _ => false) (fun l x => fun K => K l x) (fun _ _ _ _ _ _ _ => fun _ => false) (fun _ => false) (fun _ _ _ _ => fun _ => false) (fun _ _ _ _ _ _ => fun _ => false) (fun _ => fun _ => false) (fun _ _ _ _ _ _ _ => fun _ => false) v) K
def uO (v : U) (K : Nat -> Nat -> Nat -> Nat -> Nat -> U -> Ans) : Ans := (@U.rec (fun _ => (Nat -> Nat -> Nat -> Nat -> Nat -> U -> Ans) -> Ans) (fun _ _ => fun _ => false) (fun _ => fun _ => false) (fun _ _ => fun _ => false) (fun t a b c d x _ => fun K => K t a b c d x) (fun _ => false) (fun _ _ _ _ => fun _ => false) (fun _ _ _ _ _ _ => fun _ => false) (fun _ => fun _ => false) (fun _ _ _ _ _ _ _ => fun _ => false) v) K
def uC (v : U) (N : Ans) (K : U -> U -> Ans) : Ans := (@U.rec (fun _ => Ans -> (U -> U -> Ans) -> Ans) (fun _ _ => fun _ _ => false) (fun _ => fun _ _ => false) (fun _ _ => fun _ _ => false) (fun _ _ _ _ _ _ _ => fun _ _ => false) (fun N _ => N) (fun x y _ _ => fun _ K => K x y) (fun _ _ _ _ _ _ => fun _ _ => false) (fun _ => fun _ _ => false) (fun _ _ _ _ _ _ _ => fun _ _ => false) v) N K
theorem jV {v : U} {K : Nat -> Nat -> Ans} (h : uI v K = true) : ∃ k n, v = .i k n /\ K k n = true := by
 cases v <;> first | exact ⟨_, _, rfl, h⟩ | cases h
theorem Kj {v : U} {K : Bool -> Ans} (h : uB v K = true) : ∃ x, v = .b x /\ K x = true := by
 cases v <;> first | exact ⟨_, rfl, h⟩ | cases h
theorem qb {v : U} {K : Nat -> Nat -> Ans} (h : uS v K = true) : ∃ k n, v = .s k n /\ K k n = true := by
 cases v <;> first | exact ⟨_, _, rfl, h⟩ | cases h
theorem jq {v : U} {K : Nat -> Nat -> Nat -> Nat -> Nat -> U -> Ans} (h : uO v K = true) : ∃ t a b c d x, v = .o t a b c d x /\ K t a b c d x = true := by
 cases v <;> first | exact ⟨_, _, _, _, _, _, rfl, h⟩ | cases h
theorem jj {v : U} {N : Ans} {K : U -> U -> Ans} (h : uC v N K = true) : (v = .nl /\ N = true) \/ ∃ x y, v = .cn x y /\ K x y = true := by
 cases v <;> first | exact Or.inl ⟨rfl, h⟩ | exact Or.inr ⟨_, _, rfl, h⟩ | cases h
def tst (b : Bool) (K : Ans) : Ans := @Bool.rec (fun _ => Ans) false K b
theorem jb {b : Bool} {K : Ans} (h : tst b K = true) : b = true /\ K = true := by cases b <;> first | exact ⟨rfl, h⟩ | cases h
theorem jf {b : Bool} {x y : Ans} (h : @Bool.rec (fun _ => Ans) x y b = true) : (b = true /\ y = true) \/ (b = false /\ x = true) := by
 cases b <;> first | exact Or.inr ⟨rfl, h⟩ | exact Or.inl ⟨rfl, h⟩
def fN (n : Nat) (k : Nat -> Ans) : Ans := @Nat.rec (fun _ => (Nat -> Ans) -> Ans) (fun k => k 0) (fun m _ k => k m) (Nat.succ n) k
theorem jr (n : Nat) (k : Nat -> Ans) : fN n k = k n := rfl
def jkB (i : Nat) (l : U) (K : U -> Ans) : Ans := @Nat.rec (fun _ => U -> (U -> Ans) -> Ans)
 (fun l K => uC l false fun x _ => K x) (fun _ ih l K => uC l false fun _ y => ih y K) i l K
def jaJ (i : Nat) (l : U) (K : U -> Ans) : Ans := @Nat.rec (fun _ => U -> (U -> Ans) -> Ans)
 (fun l K => K l) (fun _ ih l K => uC l false fun _ y => ih y K) i l K
def jbG (i : Nat) (l : U) (K : U -> Ans) : Ans := @Nat.rec (fun _ => U -> (U -> Ans) -> Ans)
 (fun _ K => K .nl) (fun _ ih l K => uC l false fun x y => ih y fun r => K (.cn x r)) i l K
theorem jn (x y : U) : toL (.cn x y) = toI x :: toL y := rfl
theorem kT : toL .nl = [] := rfl
theorem Jk : ∀ {i : Nat} {l : U} {K : U -> Ans}, jkB i l K = true -> ∃ x, (toL l)[i]? = some (toI x) /\ K x = true := by
 intro i
 induction i with
 | zero =>
   intro l K h
   rcases jj (show uC l false (fun x _ => K x) = true from h) with ⟨rfl, h⟩ | ⟨x, y, rfl, h⟩
   . cases h
   . exact ⟨x, by simp [jn], h⟩
 | succ i ih =>
   intro l K h
   rcases jj (show uC l false (fun _ y => jkB i y K) = true from h) with ⟨rfl, h⟩ | ⟨x, y, rfl, h⟩
   . cases h
   . obtain ⟨z, h1, h2⟩ := ih h;exact ⟨z, by simpa [jn] using h1, h2⟩
theorem yE : ∀ {i : Nat} {l : U} {K : U -> Ans}, jaJ i l K = true -> ∃ r, toL r = (toL l).drop i /\ i <= (toL l).length /\ K r = true := by
 intro i
 induction i with
 | zero => intro l K h; exact ⟨l, rfl, Nat.zero_le _, h⟩
 | succ i ih =>
   intro l K h
   rcases jj (show uC l false (fun _ y => jaJ i y K) = true from h) with ⟨rfl, h⟩ | ⟨x, y, rfl, h⟩
   . cases h
   . obtain ⟨z, h1, h2, h3⟩ := ih h;exact ⟨z, by simpa [jn] using h1, by simpa [jn] using h2, h3⟩
theorem yR : ∀ {i : Nat} {l : U} {K : U -> Ans}, jbG i l K = true -> ∃ r, toL r = (toL l).take i /\ i <= (toL l).length /\ K r = true := by
 intro i
 induction i with
 | zero => intro l K h; exact ⟨.nl, rfl, Nat.zero_le _, h⟩
 | succ i ih =>
   intro l K h
   rcases jj (show uC l false (fun x y => jbG i y fun r => K (.cn x r)) = true from h) with ⟨rfl, h⟩ | ⟨x, y, rfl, h⟩
   . cases h
   . obtain ⟨z, h1, h2, h3⟩ := ih h;exact ⟨.cn x z, by simp [jn, h1], by simpa [jn] using h2, h3⟩
def jfD (vs : U) : U -> (U -> Ans) -> Ans := @U.rec (fun _ => U -> (U -> Ans) -> Ans) (fun _ _ _ _ => false) (fun _ _ _ => false) (fun _ _ _ _ => false) (fun _ _ _ _ _ _ _ _ _ => false) (fun l K => K l)
 (fun v _ _ ih l K => uC l false fun _ y => ih y fun r => K (.cn v r)) (fun _ _ _ _ _ _ _ _ => false) (fun _ _ _ => false) (fun _ _ _ _ _ _ _ _ _ => false) vs
def jmD (off : Nat) (vs l : U) (K : U -> Ans) : Ans := @Nat.rec (fun _ => U -> (U -> Ans) -> Ans)
 (fun l K => jfD vs l K) (fun _ ih l K => uC l false fun x y => ih y fun r => K (.cn x r)) off l K
theorem zb (c : IVal) (cs : List IVal) : ∀ (vs : List IVal) (off : Nat), ji (c :: cs) (off + 1) vs = c :: ji cs off vs := by
 intro vs
 induction vs generalizing cs with
 | nil => intro off; rfl
 | cons v vs ih => intro off; simp [ji, ih]
theorem jbd : ∀ {vs l : U} {K : U -> Ans}, jfD vs l K = true -> ∃ r, toL r = ji (toL l) 0 (toL vs) /\ (toL vs).length <= (toL l).length /\ K r = true := by
 intro vs
 induction vs with
 | nl => intro l K h; exact ⟨l, rfl, Nat.zero_le _, h⟩
 | cn v vs _ ih =>
   intro l K h
   rcases jj (show uC l false (fun _ y => jfD vs y fun r => K (.cn v r)) = true from h) with ⟨rfl, h⟩ | ⟨x, y, rfl, h⟩
   . cases h
   . obtain ⟨r, h1, h2, h3⟩ := ih h;refine ⟨.cn v r, ?_, by simpa [jn] using h2, h3⟩;rw [jn, jn, jn, h1];show _ = ji ((toI x :: toL y).set 0 (toI v)) (0 + 1) (toL vs);rw [List.set_cons_zero, zb]
 | _ => intro l K h; cases h
theorem ZS : ∀ {off : Nat} {vs l : U} {K : U -> Ans}, jmD off vs l K = true -> ∃ r, toL r = ji (toL l) off (toL vs) /\ off + (toL vs).length <= (toL l).length /\ K r = true := by
 intro off
 induction off with
 | zero => intro vs l K h; obtain ⟨r, h1, h2, h3⟩ := jbd h; exact ⟨r, h1, by omega, h3⟩
 | succ off ih =>
   intro vs l K h
   rcases jj (show uC l false (fun x y => jmD off vs y fun r => K (.cn x r)) = true from h) with ⟨rfl, h⟩ | ⟨x, y, rfl, h⟩
   . cases h
   . obtain ⟨r, h1, h2, h3⟩ := ih h;refine ⟨.cn x r, ?_, by simp only [jn, List.length_cons]; omega, h3⟩;rw [jn, jn, h1, zb]
def frc (u : U) (K : U -> Ans) : Ans := (@U.rec (fun _ => (U -> Ans) -> Ans) (fun k n => fun K => K (.i k n)) (fun x => fun K => K (.b x)) (fun l x => fun K => K (.s l x)) (fun t a b c d x _ => fun K => K (.o t a b c d x)) (fun K => K .nl) (fun x y _ _ => fun K => K (.cn x y)) (fun x l r _ _ _ => fun K => K (.nd x l r)) (fun v => fun K => K (.z v)) (fun a b c d e f _ => fun K => K (.lp a b c d e f)) u) K
theorem yb (u : U) (K : U -> Ans) : frc u K = K u := by cases u <;> rfl
def je2 (f : U -> U) (l : U) : (U -> Ans) -> Ans := @U.rec (fun _ => (U -> Ans) -> Ans) (fun _ _ _ => false) (fun _ _ => false) (fun _ _ _ => false) (fun _ _ _ _ _ _ _ _ => false) (fun K => K .nl)
 (fun v _ _ ih K => frc (f v) fun w => ih fun r => K (.cn w r)) (fun _ _ _ _ _ _ _ => false) (fun _ _ => false) (fun _ _ _ _ _ _ _ _ => false) l
theorem vI {f : U -> U} {g : IVal -> IVal} (hf : ∀ u, toI (f u) = g (toI u)) : ∀ {l : U} {K : U -> Ans}, je2 f l K = true -> ∃ r, toL r = (toL l).map g /\ K r = true := by
 intro l
 induction l with
 | nl => intro K h; exact ⟨.nl, rfl, h⟩
 | cn v vs _ ih =>
   intro K h;have h : frc (f v) (fun w => je2 f vs fun r => K (.cn w r)) = true := h;rw [yb] at h;obtain ⟨r, h1, h2⟩ := ih h;exact ⟨_, by rw [jn, jn, h1, hf]; rfl, h2⟩
 | _ => intro K h; cases h
def zD (f : U -> Bool) (l : U) : Bool := @U.rec (fun _ => Bool) (fun _ _ => true) (fun _ => true) (fun _ _ => true) (fun _ _ _ _ _ _ _ => true) true
 (fun v _ _ ih => @Bool.rec (fun _ => Bool) false ih (f v)) (fun _ _ _ _ _ _ => true) (fun _ => true) (fun _ _ _ _ _ _ _ => true) l
theorem zF {f : U -> Bool} {g : IVal -> Bool} (hf : ∀ u, f u = g (toI u)) : ∀ l : U, zD f l = (toL l).all g := by
 intro l
 induction l with
 | cn v vs _ ih =>
   show @Bool.rec (fun _ => Bool) false (zD f vs) (f v) = _;rw [vV, jn, List.all_cons, ih, hf];cases g (toI v) <;> rfl
 | _ => rfl
def KR (l : U) : Nat := @U.rec (fun _ => Nat) (fun _ _ => 0) (fun _ => 0) (fun _ _ => 0) (fun _ _ _ _ _ _ _ => 0) 0
 (fun v _ _ ih => Nat.succ ih) (fun _ _ _ _ _ _ => 0) (fun _ => 0) (fun _ _ _ _ _ _ _ => 0) l
theorem kw : ∀ l : U, KR l = (toL l).length := by
 intro l
 induction l with
 | cn v vs _ ih => show Nat.succ (KR vs) = _; rw [jn, List.length_cons, ih]
 | _ => rfl
def ndK (t : U) (K : U -> U -> U -> Ans) : Ans := (@U.rec (fun _ => (U -> U -> U -> Ans) -> Ans) (fun _ _ => fun K => K .nl .nl .nl) (fun _ => fun K => K .nl .nl .nl) (fun _ _ => fun K => K .nl .nl .nl) (fun _ _ _ _ _ _ _ => fun K => K .nl .nl .nl) (fun K => K .nl .nl .nl) (fun _ _ _ _ => fun K => K .nl .nl .nl) (fun x l r _ _ _ => fun K => K x l r) (fun _ => fun K => K .nl .nl .nl) (fun _ _ _ _ _ _ _ => fun K => K .nl .nl .nl) t) K
theorem ji5 (t : U) (K : U -> U -> U -> Ans) : ndK t K = K (nv0 t) (nl0 t) (jdK t) := by cases t <;> rfl
def jix (x : U) (d : Nat) (t : U) (k : Nat) (K : U -> Ans) : Ans := @Nat.rec (fun _ => U -> Nat -> (U -> Ans) -> Ans)
 (fun t _ K => ndK t fun _ l r => K (.nd x l r))
 (fun _ ih t k K => ndK t fun v l r => @Bool.rec (fun _ => Ans) (ih r (Nat.div k 2) fun r' => K (.nd v l r')) (ih l (Nat.div k 2) fun l' => K (.nd v l' r)) (Nat.beq (Nat.mod k 2) 0)) d t k K
theorem jiy (x : U) : ∀ (d : Nat) (t : U) (k : Nat) (K : U -> Ans), jix x d t k K = K (jam x d t k) := by
 intro d
 induction d with
 | zero => intro t k K; show ndK t _ = _; rw [ji5]; rfl
 | succ d ih =>
   intro t k K;show ndK t (fun v l r => @Bool.rec (fun _ => Ans) (jix x d r (Nat.div k 2) fun r' => K (.nd v l r')) (jix x d l (Nat.div k 2) fun l' => K (.nd v l' r)) (Nat.beq (Nat.mod k 2) 0)) = _;have e : jam x (d + 1) t k = if k % 2 = 0 then .nd (nv0 t) (jam x d (nl0 t) (k / 2)) (jdK t) else .nd (nv0 t) (nl0 t) (jam x d (jdK t) (k / 2)) := rfl
   rw [ji5, ih, ih, vV, e];simp only [jb9, jkt, Nat.beq_eq];split <;> rfl
def jis (d : Nat) (t : U) (k : Nat) : U := @Nat.rec (fun _ => U -> Nat -> U)
 (fun t _ => (@U.rec (fun _ => U) (fun _ _ => .nl) (fun _ => .nl) (fun _ _ => .nl) (fun _ _ _ _ _ _ _ => .nl) (.nl) (fun _ _ _ _ => .nl) (fun x _l _r _ _ _ => x) (fun _ => .nl) (fun _ _ _ _ _ _ _ => .nl) t))
 (fun _ ih t k => (@U.rec (fun _ => U) (fun _ _ => .nl) (fun _ => .nl) (fun _ _ => .nl) (fun _ _ _ _ _ _ _ => .nl) (.nl) (fun _ _ _ _ => .nl) (fun _x l r _ _ _ => @Bool.rec (fun _ => U) (ih r (Nat.div k 2)) (ih l (Nat.div k 2)) (Nat.beq (Nat.mod k 2) 0)) (fun _ => .nl) (fun _ _ _ _ _ _ _ => .nl) t)) d t k
theorem jit : ∀ (d : Nat) (t : U) (k : Nat), jis d t k = Qw d t k := by
 intro d
 induction d with
 | zero => intro t k; cases t <;> rfl
 | succ d ih =>
   intro t k
   cases t with
   | nd x l r =>
     show @Bool.rec (fun _ => U) (jis d r (Nat.div k 2)) (jis d l (Nat.div k 2)) (Nat.beq (Nat.mod k 2) 0) = _;have e : Qw (d + 1) (.nd x l r) k = if k % 2 = 0 then Qw d l (k / 2) else Qw d r (k / 2) := rfl
     rw [vV, ih, ih, e];simp only [jb9, jkt, Nat.beq_eq]
   | _ => rfl
def atR (t : U) (i : Nat) : U := jis (Nat.log2 (Nat.succ i)) t (Nat.succ i)
theorem zG (t : U) (i : Nat) : atR t i = at' t i := jit _ _ _
def jdN (x t : U) (i : Nat) (K : U -> Ans) : Ans := jix x (Nat.log2 (Nat.succ i)) t (Nat.succ i) K
theorem Kg (x t : U) (i : Nat) (K : U -> Ans) : jdN x t i K = K (jgw t i x) := jiy _ _ _ _ _
def jjh (v : U) : U := (@U.rec (fun _ => U) (fun k n => .i k n) (fun x => .b x) (fun l x => .s l x) (fun t a b c d x _ => @Bool.rec (fun _ => U) (.o t a b c d x) (.o 16 0 b c d x) (Nat.beq t 16)) (.nl) (fun x y _ _ => .cn x y) (fun x l r _ _ _ => .nd x l r) (fun v => .z (un1 v)) (fun a b c d e f _ => .lp a b c d e f) v)
theorem V3 (u : U) : toI (jjh u) = un1 (toI u) := by
 cases u with
 | o t a b c d x =>
   show toI (@Bool.rec (fun _ => U) (.o t a b c d x) (.o 16 0 b c d x) (Nat.beq t 16)) = _;rw [vV];split
   . rename_i h; have := zN h; subst this; rfl
   . rename_i h;have h : t ≠ 16 := by intro e; subst e; exact h rfl
     simp only [toI, toT];unfold toO;split <;> first | rfl | (exfalso; exact h rfl)
 | _ => rfl
def V4 (v : U) : U := (@U.rec (fun _ => U) (fun k n => .i k n) (fun x => .b x) (fun l x => .s l x) (fun t a b c d x _ => @Bool.rec (fun _ => U) (@Bool.rec (fun _ => U) (.o t a b c d x) (.o 17 1 b c d x) (Nat.beq t 17)) (.o 16 0 b c d x) (Nat.beq t 16)) (.nl) (fun x y _ _ => .cn x y) (fun x l r _ _ _ => .nd x l r) (fun v => .z (un2 v)) (fun a b c d e f _ => .lp a b c d e f) v)
theorem VA (l : List IVal) : (l.map un1).map un1 = l.map un1 := by simp [Function.comp_def, zo]
theorem jaX (l : List IVal) : (l.map un2).map un2 = l.map un2 := by simp [Function.comp_def, V5]
theorem qc (u : U) : toI (V4 u) = un2 (toI u) := by
 cases u with
 | o t a b c d x =>
   show toI (@Bool.rec (fun _ => U) (@Bool.rec (fun _ => U) (.o t a b c d x) (.o 17 1 b c d x) (Nat.beq t 17)) (.o 16 0 b c d x) (Nat.beq t 16)) = _;rw [vV, vV];split
   . rename_i h; have := zN h; subst this; rfl
   . split
     . rename_i h; have := zN h; subst this;show IVal.agg _ = un2 (.agg _);simp only [un2];split
       . rename_i h; cases h
       . split
         . rfl
         . rw [VA]
     . rename_i h1 h2;have h1 : t ≠ 16 := by intro e; subst e; exact h1 rfl
       have h2 : t ≠ 17 := by intro e; subst e; exact h2 rfl
       simp only [toI, toT];unfold toO;split <;> first | rfl | (exfalso; exact h1 rfl) | (exfalso; exact h2 rfl)
 | _ => rfl
def jle (t a b c d : Nat) (x : U) : U := @Bool.rec (fun _ => U) (@Bool.rec (fun _ => U) (@Bool.rec (fun _ => U) (.o t a b c d x) (.o 18 1 b c d x) (Nat.beq t 18)) (.o 17 1 b c d x) (Nat.beq t 17)) (.o 16 0 b c d x) (Nat.beq t 16)
theorem jgi (t a b c d : Nat) (x : U) : toI (jle t a b c d x) = un3 (toI (.o t a b c d x)) := by
 unfold jle;rw [vV, vV, vV];split
 . rename_i h; have := zN h; subst this; rfl
 . split
   . rename_i h; have := zN h; subst this;show IVal.agg _ = un3 (.agg _);simp only [un3, un2];split
     . rename_i h; cases h
     . split
       . rfl
       . rw [VA]
   . split
     . rename_i h; have := zN h; subst this;show IVal.tup _ = un3 (.tup _);simp only [un3];split
       . rename_i h; cases h
       . split
         . rfl
         . rw [jaX]
     . rename_i h1 h2 h3;have h1 : t ≠ 16 := by intro e; subst e; exact h1 rfl
       have h2 : t ≠ 17 := by intro e; subst e; exact h2 rfl
       have h3 : t ≠ 18 := by intro e; subst e; exact h3 rfl
       simp only [toI, toT];unfold toO;split <;> first | rfl | (exfalso; exact h1 rfl) | (exfalso; exact h2 rfl) | (exfalso; exact h3 rfl)
def unK (v : U) (K : U -> Ans) : Ans := (@U.rec (fun _ => (U -> Ans) -> Ans) (fun k n => fun K => K (.i k n)) (fun x => fun K => K (.b x)) (fun l x => fun K => K (.s l x)) (fun t a b c d x _ => fun K => @Bool.rec (fun _ => Ans) (K (jle t a b c d x)) (K (.o t a b c d x)) (Nat.blt t 16)) (fun _ => false) (fun _ _ _ _ => fun _ => false) (fun _ _ _ _ _ _ => fun _ => false) (fun v => fun K => K (.z (un3 v))) (fun _ _ _ _ _ _ _ => fun _ => false) v) K
theorem jgj {t a b c d : Nat} {x : U} (h : Nat.blt t 16 = true) : un3 (toI (.o t a b c d x)) = toI (.o t a b c d x) := by
 have h : t < 16 := by simpa [Nat.blt, Nat.ble_eq, Nat.succ_le_iff] using h
 simp only [toI, toT];unfold toO;split <;> first | rfl | (exfalso; omega)
theorem KQ {v : U} {K : U -> Ans} (h : unK v K = true) : v ≠ .nl /\ ∃ u, toI u = un3 (toI v) /\ K u = true := by
 cases v with
 | o t a b c d x =>
   refine ⟨by simp, ?_⟩
   rcases jf (show @Bool.rec (fun _ => Ans) (K (jle t a b c d x)) (K (.o t a b c d x)) (Nat.blt t 16) = true from h) with ⟨h1, h2⟩ | ⟨h1, h2⟩
   . exact ⟨_, (jgj h1).symm, h2⟩
   . exact ⟨_, jgi _ _ _ _ _ _, h2⟩
 | i k n => exact ⟨by simp, _, rfl, h⟩
 | b x => exact ⟨by simp, _, rfl, h⟩
 | s k n => exact ⟨by simp, _, rfl, h⟩
 | z v => exact ⟨by simp, _, rfl, h⟩
 | _ => cases h
def mvK (v : U) (K1 : U -> Ans) (K2 : U -> U -> Ans) : Ans := (@U.rec (fun _ => (U -> Ans) -> (U -> U -> Ans) -> Ans) (fun k n => fun K1 _ => K1 (.i k n)) (fun x => fun K1 _ => K1 (.b x)) (fun l x => fun K1 _ => K1 (.s l x)) (fun t a b c d x _ => fun K1 K2 => @Bool.rec (fun _ => Ans) (K2 (.o t a b c d x) (jle t a b c d x)) (K1 (.o t a b c d x)) (Nat.blt t 16)) (fun _ _ => false) (fun _ _ _ _ => fun _ _ => false) (fun _ _ _ _ _ _ => fun _ _ => false) (fun v => fun _ K2 => K2 (.z v) (.z (un3 v))) (fun _ _ _ _ _ _ _ => fun _ _ => false) v) K1 K2
theorem jhy {v : U} {K1 : U -> Ans} {K2 : U -> U -> Ans} (h : mvK v K1 K2 = true) : v ≠ .nl /\ ((un3 (toI v) = toI v /\ K1 v = true) \/ ∃ u, toI u = un3 (toI v) /\ u ≠ .nl /\ K2 v u = true) := by
 cases v with
 | o t a b c d x =>
   refine ⟨by simp, ?_⟩
   rcases jf (show @Bool.rec (fun _ => Ans) (K2 (.o t a b c d x) (jle t a b c d x)) (K1 (.o t a b c d x)) (Nat.blt t 16) = true from h) with ⟨h1, h2⟩ | ⟨h1, h2⟩
   . exact Or.inl ⟨jgj h1, h2⟩
   . refine Or.inr ⟨_, jgi _ _ _ _ _ _, ?_, h2⟩;unfold jle;rw [vV, vV, vV];split
     . simp
     . split
       . simp
       . split <;> simp
 | i k n => exact ⟨by simp, Or.inl ⟨rfl, h⟩⟩
 | b x => exact ⟨by simp, Or.inl ⟨rfl, h⟩⟩
 | s k n => exact ⟨by simp, Or.inl ⟨rfl, h⟩⟩
 | z v => exact ⟨by simp, Or.inr ⟨_, rfl, by simp, h⟩⟩
 | _ => cases h
def jlv (t a b d : Nat) : Bool := @Bool.rec (fun _ => Bool) (@Bool.rec (fun _ => Bool) (@Bool.rec (fun _ => Bool) false (@Bool.rec (fun _ => Bool) (Nat.beq d 0) true (Nat.beq b 0)) (Nat.beq t 16)) (@Bool.rec (fun _ => Bool) false true (Nat.beq a 0)) (Nat.beq t 6)) (Nat.ble 8 t) (@Bool.rec (fun _ => Bool) false (Nat.ble t 11) (Nat.ble 8 t))
theorem ja0 (t a b c d : Nat) (x : U) : jlv t a b d = nr0 (toI (.o t a b c d x)) := by
 unfold jlv;simp only [vV]
 by_cases h1 : t = 8
 . subst h1; rfl
 by_cases h2 : t = 9
 . subst h2; rfl
 by_cases h3 : t = 10
 . subst h3; rfl
 by_cases h4 : t = 11
 . subst h4; rfl
 by_cases h5 : t = 6
 . subst h5;show _ = (!(a != 0))
   by_cases ha : a = 0 <;> simp [ha]
 by_cases h6 : t = 16
 . subst h6;show _ = (!(b != 0) || (lst (toT x).g c d).isEmpty);have e : (lst (toT x).g c d).isEmpty = Nat.beq d 0 := by
     cases d with
     | zero => rfl
     | succ d => simp only [lst, List.range_succ_eq_map, List.map_cons]; rfl
   rw [e]
   by_cases hb : b = 0 <;> simp [hb]
 have e : (if Nat.ble 8 t = true then Nat.ble t 11 else false) = false := by
   cases hh : Nat.ble 8 t with
   | false => rfl
   | true =>
     have : 8 <= t := Nat.le_of_ble_eq_true hh;simp only [if_true]
     cases h2 : Nat.ble t 11 with
     | false => rfl
     | true => have := Nat.le_of_ble_eq_true h2; omega
 simp only [e];simp [h5, h6];simp only [toI, toT];unfold toO;split <;> first | rfl | omega
end
end Go.Idl
namespace Go.Idl
noncomputable section
def job (u : U) : Bool := (@U.rec (fun _ => Bool) (fun k n => true) (fun x => true) (fun l x => true) (fun t a b c d x _ => jlv t a b d) (false) (fun _ _ _ _ => false) (fun _ _ _ _ _ _ => false) (fun v => nr0 v) (fun _ _ _ _ _ _ _ => false) u)
theorem jky (u : U) : job u = nr0 (toI u) := by
 cases u with
 | o t a b c d x => exact ja0 t a b c d x
 | _ => rfl
def jiV (x : U) : Bool := (@U.rec (fun _ => Bool) (fun k n => true) (fun x => true) (fun l x => true) (fun t a b c d y _ => @Bool.rec (fun _ => Bool) (jlv t a b d) (zD job y) (Nat.beq t 17)) (false) (fun _ _ _ _ => false) (fun _ _ _ _ _ _ => false) (fun v => nr1 (.iface 0 v)) (fun _ _ _ _ _ _ _ => false) x)
theorem jlc (v : IVal) : nr0 (un1 v) = nr0 v := by cases v <;> rfl
theorem jgh (v : IVal) : nr1 (un1 v) = nr1 v := by cases v <;> rfl
theorem jld (v : IVal) : nr2 (un2 v) = nr2 v := by
 cases v with
 | agg cs => simp [un2, nr2, List.all_map, Function.comp_def, jgh]
 | _ => rfl
theorem jeT (t : Nat) (x : U) : jiV x = nr1 (.iface t (toI x)) := by
 cases x with
 | o t' a b c d y =>
   show @Bool.rec (fun _ => Bool) (jlv t' a b d) (zD job y) (Nat.beq t' 17) = _;rw [vV];split
   . rename_i h; have := zN h; subst this;rw [zF jky];show _ = nr1 (.iface t (.agg _));simp only [nr1];split
     . rfl
     . simp [List.all_map, Function.comp_def, jlc]
   . rename_i h;have h : t' ≠ 17 := by intro e; subst e; exact h rfl
     rw [ja0 t' a b c d y];simp only [toI, toT];unfold toO;split <;> first | rfl | (exfalso; exact h rfl)
 | z v => show nr1 (.iface 0 v) = nr1 (.iface t v); cases v <;> rfl
 | _ => rfl
def jmw (t a b c d : Nat) (x : U) : Bool := @Bool.rec (fun _ => Bool) (@Bool.rec (fun _ => Bool) (jlv t a b d) (Nat.beq (KR x) 0) (Nat.beq t 7)) (jiV x) (Nat.beq t 5)
theorem jl5 (a : Nat) (l : List IVal) (b : Nat) : nr1 (.fn (.func a) (l.take b) (l.drop b)) = (l.length == 0) := by
 cases l with
 | nil => simp [nr1]
 | cons x l =>
   cases b with
   | zero => rfl
   | succ b => rfl
theorem jfl (t a b c d : Nat) (x : U) : jmw t a b c d x = nr1 (toI (.o t a b c d x)) := by
 unfold jmw;rw [vV, vV];split
 . rename_i h; have := zN h; subst this; exact jeT a x
 . rename_i h5;have h5 : t ≠ 5 := by intro e; subst e; exact h5 rfl
   split
   . rename_i h; have := zN h; subst this;show _ = nr1 (.fn (.func a) ((toL x).take b) ((toL x).drop b));rw [jl5, kw]; cases toL x <;> rfl
   . rename_i h;have h7 : t ≠ 7 := by intro e; subst e; exact h rfl
     rw [ja0 t a b c d x];simp only [toI, toT];unfold toO;split <;> first | rfl | (exfalso; exact h7 rfl) | (exfalso; exact h5 rfl)
def jmx (u : U) : Bool := (@U.rec (fun _ => Bool) (fun k n => true) (fun x => true) (fun l x => true) (fun t a b c d x _ => jmw t a b c d x) (false) (fun _ _ _ _ => false) (fun _ _ _ _ _ _ => false) (fun v => nr1 v) (fun _ _ _ _ _ _ _ => false) u)
theorem ja1 (u : U) : jmx u = nr1 (toI u) := by
 cases u with
 | o t a b c d x => exact jfl t a b c d x
 | _ => rfl
def jdL (u : U) : Bool := (@U.rec (fun _ => Bool) (fun k n => true) (fun x => true) (fun l x => true) (fun t a b c d x _ => @Bool.rec (fun _ => Bool) (jmw t a b c d x) (zD jmx x) (Nat.beq t 17)) (false) (fun _ _ _ _ => false) (fun _ _ _ _ _ _ => false) (fun v => nr2 v) (fun _ _ _ _ _ _ _ => false) u)
theorem Jd (u : U) : jdL u = nr2 (toI u) := by
 cases u with
 | o t a b c d x =>
   show @Bool.rec (fun _ => Bool) (jmw t a b c d x) (zD jmx x) (Nat.beq t 17) = _;rw [vV];split
   . rename_i h; have := zN h; subst this;rw [zF ja1];show _ = nr2 (.agg _);simp only [nr2];split
     . rfl
     . simp [List.all_map, Function.comp_def, jgh]
   . rename_i h;have h : t ≠ 17 := by intro e; subst e; exact h rfl
     rw [jfl t a b c d x];simp only [toI, toT];unfold toO;split <;> first | rfl | (exfalso; exact h rfl)
 | _ => rfl
def joc (u : U) : Bool := (@U.rec (fun _ => Bool) (fun k n => true) (fun x => true) (fun l x => true) (fun t a b c d x _ => @Bool.rec (fun _ => Bool) (jdL (.o t a b c d x)) (zD jdL x) (Nat.beq t 18)) (true) (fun _x _y _ _ => true) (fun _x _l _r _ _ _ => true) (fun v => nr3 v) (fun _a _b _c _d _e _f _ => true) u)
theorem ja2 (u : U) : joc u = nr3 (toI u) := by
 cases u with
 | o t a b c d x =>
   show @Bool.rec (fun _ => Bool) (jdL (.o t a b c d x)) (zD jdL x) (Nat.beq t 18) = _;rw [vV];split
   . rename_i h; have := zN h; subst this;rw [zF Jd];show _ = nr3 (.tup _);simp only [nr3];split
     . rfl
     . simp [List.all_map, Function.comp_def, jld]
   . rename_i h;have h : t ≠ 18 := by intro e; subst e; exact h rfl
     rw [Jd];simp only [toI, toT];unfold toO;split <;> first | rfl | (exfalso; exact h rfl)
 | _ => rfl
def jd8 (t : Nat) : Bool := @Bool.rec (fun _ => Bool) (Nat.beq t 16) (Nat.ble 1 t) (Nat.ble t 11)
theorem jbV {t a b c d : Nat} {x : U} (h : jd8 t = true) : (toI (.o t a b c d x)).isCell = true := by
 have h : t = 16 \/ (1 <= t /\ t <= 11) := by
   unfold jd8 at h;rw [vV] at h;split at h
   . rename_i h2; exact Or.inr ⟨Nat.le_of_ble_eq_true h, Nat.le_of_ble_eq_true h2⟩
   . exact Or.inl (zN h)
 simp only [toI, toT];unfold toO;split <;> first | rfl | (exfalso; omega)
def y4 (u : U) : Bool := (@U.rec (fun _ => Bool) (fun k n => true) (fun x => true) (fun l x => true) (fun t a b c d x _ => jd8 t) (false) (fun _ _ _ _ => false) (fun _ _ _ _ _ _ => false) (fun v => v.isCell) (fun _ _ _ _ _ _ _ => false) u)
theorem vE {u : U} (h : y4 u = true) : (toI u).isCell = true := by
 cases u with
 | o t a b c d x => exact jbV h
 | z v => exact h
 | i k n => rfl
 | b x => rfl
 | s l x => rfl
 | _ => cases h
def ntU (u : U) : Bool := (@U.rec (fun _ => Bool) (fun k n => true) (fun x => true) (fun l x => true) (fun t a b c d x _ => @Bool.rec (fun _ => Bool) (jd8 t) true (Nat.beq t 17)) (false) (fun _ _ _ _ => false) (fun _ _ _ _ _ _ => false) (fun v => nt v) (fun _ _ _ _ _ _ _ => false) u)
theorem jdb {v : IVal} (h : v.isCell = true) : nt v = true := by cases v <;> first | rfl | cases h
theorem Qr {u : U} (h : ntU u = true) : nt (toI u) = true := by
 cases u with
 | o t a b c d x =>
   have h : @Bool.rec (fun _ => Bool) (jd8 t) true (Nat.beq t 17) = true := h
   rcases jf h with ⟨h1, h2⟩ | ⟨h1, h2⟩
   . have := zN h1; subst this; rfl
   . exact jdb (jbV h2)
 | z v => exact h
 | i k n => rfl
 | b x => rfl
 | s l x => rfl
 | _ => cases h
theorem qp {f : U -> Bool} {g : IVal -> Bool} (hf : ∀ {u}, f u = true -> g (toI u) = true) : ∀ {l : U}, zD f l = true -> (toL l).all g = true := by
 intro l
 induction l with
 | cn v vs _ ih =>
   intro h;have h : @Bool.rec (fun _ => Bool) false (zD f vs) (f v) = true := h;rw [vV] at h;split at h
   . rename_i h1; rw [jn, List.all_cons, hf h1, ih h]; rfl
   . cases h
 | _ => intro _; rfl
def zJ (v : U) (K : U -> Ans) : Ans := (@U.rec (fun _ => (U -> Ans) -> Ans) (fun k n => fun K => K (.cn (.i k n) .nl)) (fun x => fun K => K (.cn (.b x) .nl)) (fun l x => fun K => K (.cn (.s l x) .nl)) (fun t a b c d x _ => fun K => @Bool.rec (fun _ => Ans) (K (.cn (.o t a b c d x) .nl)) (@Bool.rec (fun _ => Ans) (je2 jjh x K) (K x) (Nat.beq a 0)) (Nat.beq t 17)) (fun _ => false) (fun _ _ _ _ => fun _ => false) (fun _ _ _ _ _ _ => fun _ => false) (fun _ => fun _ => false) (fun _ _ _ _ _ _ _ => fun _ => false) v) K
theorem qa {v : U} {K : U -> Ans} (h : zJ v K = true) : ∃ l, toL l = (toI v).cells /\ K l = true := by
 cases v with
 | o t a b c d x =>
   have h : @Bool.rec (fun _ => Ans) (K (.cn (.o t a b c d x) .nl)) (@Bool.rec (fun _ => Ans) (je2 jjh x K) (K x) (Nat.beq a 0)) (Nat.beq t 17) = true := h
   rcases jf h with ⟨h1, h2⟩ | ⟨h1, h2⟩
   . have := zN h1; subst this
     rcases jf h2 with ⟨h3, h4⟩ | ⟨h3, h4⟩
     . have := zN h3; subst this;exact ⟨x, rfl, h4⟩
     . have ha : a ≠ 0 := zE h3;obtain ⟨r, h5, h6⟩ := vI V3 h4;refine ⟨r, ?_, h6⟩;rw [h5];show _ = (IVal.agg (if a = 0 then _ else _)).cells;rw [if_neg ha]; rfl
   . refine ⟨_, ?_, h2⟩;have h1 : t ≠ 17 := zE h1;rw [jn, kT];simp only [toI, toT];unfold toO;split <;> first | rfl | (exfalso; exact h1 rfl)
 | i k n => exact ⟨_, rfl, h⟩
 | b x => exact ⟨_, rfl, h⟩
 | s k n => exact ⟨_, rfl, h⟩
 | _ => cases h
end
end Go.Idl
namespace Go.Idl
noncomputable section
structure E8 (α : Type) where
 (a0 a1 a2 a3 a4 a5 a6 a7 : α)
abbrev Env := E8 (E8 U)
def E8.get {α : Type} (e : E8 α) : Nat -> α
 | 0 => e.a0 | 1 => e.a1 | 2 => e.a2 | 3 => e.a3 | 4 => e.a4 | 5 => e.a5 | 6 => e.a6 | _ => e.a7
def E8.set {α : Type} (e : E8 α) (v : α) : Nat -> E8 α
 | 0 => { e with a0 := v } | 1 => { e with a1 := v } | 2 => { e with a2 := v } | 3 => { e with a3 := v } | 4 => { e with a4 := v } | 5 => { e with a5 := v } | 6 => { e with a6 := v } | _ => { e with a7 := v }
theorem E8.get_set {α : Type} (e : E8 α) (v : α) (i j : Nat) (hi : i < 8) (hj : j < 8) : (e.set v i).get j = if j = i then v else e.get j := by
 match i, hi with
 | 0, _ | 1, _ | 2, _ | 3, _ | 4, _ | 5, _ | 6, _ | 7, _ =>
   match j, hj with
   | 0, _ | 1, _ | 2, _ | 3, _ | 4, _ | 5, _ | 6, _ | 7, _ => rfl
def E8.rep {α : Type} (v : α) : E8 α := ⟨v, v, v, v, v, v, v, v⟩
def Vf (e : Env) (j : Nat) : U := if j < 62 then (e.get (j / 8)).get (j % 8) else at' ((e.get 7).get 7) j
def jjV (e : Env) (v : U) (j : Nat) : Env := if j < 62 then e.set ((e.get (j / 8)).set v (j % 8)) (j / 8) else e.set ((e.get 7).set (jgw ((e.get 7).get 7) j v) 7) 7
def dsU (e : Env) : U := (e.get 7).get 6
def QK (e : Env) (v : U) : Env := e.set ((e.get 7).set v 6) 7
theorem Vg (e : Env) (v : U) (j k : Nat) : Vf (jjV e v j) k = if k = j then v else Vf e k := by
 unfold Vf jjV
 by_cases hk : k < 62
 . rw [if_pos hk, if_pos hk]
   by_cases hj : j < 62
   . rw [if_pos hj, E8.get_set _ _ _ _ (by omega) (by omega)];split
     . rename_i h;rw [E8.get_set _ _ _ _ (by omega) (by omega)]
       by_cases hjk : k = j
       . subst hjk; simp
       . rw [if_neg hjk, if_neg (by omega), h]
     . rw [if_neg (by intro h; subst h; omega)]
   . rw [if_neg hj, if_neg (by omega), E8.get_set _ _ _ _ (by omega) (by omega)];split
     . rename_i h;rw [E8.get_set _ _ _ _ (by omega) (by omega), if_neg (by omega), h]
     . rfl
 . rw [if_neg hk, if_neg hk]
   by_cases hj : j < 62
   . rw [if_pos hj, if_neg (by omega), E8.get_set _ _ _ _ (by omega) (by omega)];split
     . rename_i h;rw [E8.get_set _ _ _ _ (by omega) (by omega), if_neg (by omega), <- h]
     . rfl
   . rw [if_neg hj];simp only [E8.get_set _ _ 7 7 (by omega) (by omega), if_true, jdX]
theorem vZ (e : Env) (v : U) (j : Nat) : dsU (jjV e v j) = dsU e := by
 unfold dsU jjV
 by_cases hj : j < 62
 . rw [if_pos hj, E8.get_set _ _ _ _ (by omega) (by omega)];split
   . rename_i h; rw [E8.get_set _ _ _ _ (by omega) (by omega), if_neg (by omega), <- h]
   . rfl
 . rw [if_neg hj, E8.get_set _ _ _ _ (by omega) (by omega), if_pos rfl, E8.get_set _ _ _ _ (by omega) (by omega), if_neg (by omega)]
theorem Zj (e : Env) (v : U) : dsU (QK e v) = v := by
 unfold dsU QK;rw [E8.get_set _ _ _ _ (by omega) (by omega), if_pos rfl, E8.get_set _ _ _ _ (by omega) (by omega), if_pos rfl]
theorem jcP (e : Env) (v : U) (k : Nat) : Vf (QK e v) k = Vf e k := by
 unfold Vf QK
 by_cases hk : k < 62
 . rw [if_pos hk, if_pos hk, E8.get_set _ _ _ _ (by omega) (by omega)];split
   . rename_i h; rw [E8.get_set _ _ _ _ (by omega) (by omega), if_neg (by omega), h]
   . rfl
 . rw [if_neg hk, if_neg hk, E8.get_set _ _ _ _ (by omega) (by omega), if_pos rfl, E8.get_set _ _ _ _ (by omega) (by omega), if_neg (by omega)]
def e8L (e : E8 U) (l : U) : U := .cn e.a0 (.cn e.a1 (.cn e.a2 (.cn e.a3 (.cn e.a4 (.cn e.a5 (.cn e.a6 (.cn e.a7 l)))))))
def jlZ (e : Env) : U := e8L e.a0 (e8L e.a1 (e8L e.a2 (e8L e.a3 (e8L e.a4 (e8L e.a5 (e8L e.a6 (e8L e.a7 .nl)))))))
def YF (l : U) (K : E8 U -> U -> Ans) : Ans := uC l false fun a l => uC l false fun b l => uC l false fun c l => uC l false fun d l => uC l false fun e l => uC l false fun f l => uC l false fun g l => uC l false fun h l => K ⟨a, b, c, d, e, f, g, h⟩ l
theorem ql {l : U} {K : E8 U -> U -> Ans} (h0 : YF l K = true) : ∃ e r, l = e8L e r /\ K e r = true := by
 rcases jj h0 with ⟨_, h1⟩ | ⟨a, l1, rfl, h1⟩
 . cases h1
 rcases jj h1 with ⟨_, h2⟩ | ⟨b, l2, rfl, h2⟩
 . cases h2
 rcases jj h2 with ⟨_, h3⟩ | ⟨c, l3, rfl, h3⟩
 . cases h3
 rcases jj h3 with ⟨_, h4⟩ | ⟨d, l4, rfl, h4⟩
 . cases h4
 rcases jj h4 with ⟨_, h5⟩ | ⟨e, l5, rfl, h5⟩
 . cases h5
 rcases jj h5 with ⟨_, h6⟩ | ⟨f, l6, rfl, h6⟩
 . cases h6
 rcases jj h6 with ⟨_, h7⟩ | ⟨g, l7, rfl, h7⟩
 . cases h7
 rcases jj h7 with ⟨_, h8⟩ | ⟨i, l8, rfl, h8⟩
 . cases h8
 exact ⟨_, _, rfl, h8⟩
def jpg (l : U) (K : Env -> Ans) : Ans := YF l fun a l => YF l fun b l => YF l fun c l => YF l fun d l => YF l fun e l => YF l fun f l => YF l fun g l => YF l fun h _ => K ⟨a, b, c, d, e, f, g, h⟩
theorem zK {a b : E8 U} {l r : U} (h : e8L a l = e8L b r) : a = b /\ l = r := by
 cases a; cases b;simp only [e8L, U.cn.injEq] at h;obtain ⟨rfl, rfl, rfl, rfl, rfl, rfl, rfl, rfl, rfl⟩ := h;exact ⟨rfl, rfl⟩
theorem jey {E : Env} {K : Env -> Ans} (h0 : jpg (jlZ E) K = true) : K E = true := by
 obtain ⟨b0, r0, e0, h1⟩ := ql h0;obtain ⟨rfl, rfl⟩ := zK (show e8L E.a0 _ = _ from e0);obtain ⟨b1, r1, e1, h2⟩ := ql h1;obtain ⟨rfl, rfl⟩ := zK (show e8L E.a1 _ = _ from e1);obtain ⟨b2, r2, e2, h3⟩ := ql h2;obtain ⟨rfl, rfl⟩ := zK (show e8L E.a2 _ = _ from e2);obtain ⟨b3, r3, e3, h4⟩ := ql h3;obtain ⟨rfl, rfl⟩ := zK (show e8L E.a3 _ = _ from e3);obtain ⟨b4, r4, e4, h5⟩ := ql h4;obtain ⟨rfl, rfl⟩ := zK (show e8L E.a4 _ = _ from e4);obtain ⟨b5, r5, e5, h6⟩ := ql h5;obtain ⟨rfl, rfl⟩ := zK (show e8L E.a5 _ = _ from e5);obtain ⟨b6, r6, e6, h7⟩ := ql h6;obtain ⟨rfl, rfl⟩ := zK (show e8L E.a6 _ = _ from e6);obtain ⟨b7, r7, e7, h8⟩ := ql h7;obtain ⟨rfl, rfl⟩ := zK (show e8L E.a7 _ = _ from e7);exact h8
def VarQ (e : Env) (vs : AL) : Prop := ∀ j, Vf e j ≠ .nl -> Kn j vs = some (toI (Vf e j))
theorem VarQ.set {e : Env} {vs : AL} (h : VarQ e vs) (j : Nat) (u : U) : VarQ (jjV e u j) (Zc j (toI u) vs) := by
 intro k hk;rw [Vg] at hk ⊢;rw [Ko];split
 . rename_i e; rfl
 . rename_i e; rw [if_neg e] at hk; exact h k hk
theorem VarQ.ds {e : Env} {vs : AL} (h : VarQ e vs) (u : U) : VarQ (QK e u) vs := by
 intro k hk;rw [jcP] at hk ⊢;exact h k hk
def jkF (pd : Nat) : Option IExit := if pd = 0 then none else if pd = 1 then some .ret else some (.exit (pd - 2))
def qB : List IVal -> List (IVal × IVal)
 | k :: v :: l => (k, v) :: qB l
 | _ => []
def jjd (u : U) : IObj := match u with
 | .o 1 _ _ _ _ x => .cells (toL x)
 | .o 2 n _ _ _ x => .cells (lst (toT x).g 0 n)
 | .o 3 _ _ _ _ x => .map (qB (toL x))
 | .o 4 _ _ _ _ _ => .defr
 | .o 5 p _ _ _ (.s l x) => .it (qG l x) p
 | _ => .dead
def ObR (u : U) (ob : IObj) : Prop := match u with
 | .lp st ps p q e pd => ∃ l E, ob = .loop l /\ e = jlZ E /\ l.st = st /\ l.ps = ps /\ l.x.a = p /\ l.x.b = q /\ l.pend = jkF pd /\ VarQ E l.x.vs /\ dsU E = .nl
 | u => ob = jjd u
theorem ObR.o {t a b c d : Nat} {x : U} {ob : IObj} (h : ObR (.o t a b c d x) ob) : ob = jjd (.o t a b c d x) := h
structure HT where
 i1 : Nat
 o1 : U
 i2 : Nat
 o2 : U
 t : U
def HT.at (x : HT) (k : Nat) : U := if k = x.i1 then x.o1 else if k = x.i2 then x.o2 else at' x.t k
def htK (x : HT) (K : Nat -> U -> Nat -> U -> U -> Ans) : Ans := @HT.rec (fun _ => (Nat -> U -> Nat -> U -> U -> Ans) -> Ans) (fun i1 o1 i2 o2 t K => K i1 o1 i2 o2 t) x K
theorem jeR (x : HT) (K : Nat -> U -> Nat -> U -> U -> Ans) : htK x K = K x.i1 x.o1 x.i2 x.o2 x.t := rfl
def jj7 (id : Nat) (x : HT) (K : U -> Ans) : Ans := htK x fun i1 o1 i2 o2 t => @Bool.rec (fun _ => Ans) (@Bool.rec (fun _ => Ans) (K (atR t id)) (K o2) (Nat.beq id i2)) (K o1) (Nat.beq id i1)
theorem jg8 (id : Nat) (x : HT) (K : U -> Ans) : jj7 id x K = K (x.at id) := by
 unfold jj7 HT.at;rw [jeR, vV, vV, zG];simp only [Nat.beq_eq];split
 . rfl
 . split <;> rfl
def jg9 (id : Nat) (ob : U) (x : HT) (K : HT -> Ans) : Ans := htK x fun i1 o1 i2 o2 t => @Bool.rec (fun _ => Ans) (@Bool.rec (fun _ => Ans) (jdN o2 t i2 fun t' => K ⟨id, ob, i1, o1, t'⟩) (K ⟨i1, o1, id, ob, t⟩) (Nat.beq id i2)) (K ⟨id, ob, i2, o2, t⟩) (Nat.beq id i1)
theorem XP {id : Nat} {ob : U} {x : HT} {K : HT -> Ans} (h : jg9 id ob x K = true) : ∃ y : HT, (∀ k, y.at k = if k = id then ob else x.at k) /\ K y = true := by
 unfold jg9 at h;rw [jeR] at h
 rcases jf h with ⟨h1, h2⟩ | ⟨h1, h2⟩
 . have := zN h1; subst this;refine ⟨_, fun k => ?_, h2⟩;show (if k = x.i1 then ob else if k = x.i2 then x.o2 else at' x.t k) = if k = x.i1 then ob else (if k = x.i1 then x.o1 else if k = x.i2 then x.o2 else at' x.t k)
   by_cases e : k = x.i1
   . simp [e]
   . simp [e]
 . have e1 := zE h1
   rcases jf h2 with ⟨h3, h4⟩ | ⟨h3, h4⟩
   . have := zN h3; subst this;refine ⟨_, fun k => ?_, h4⟩;show (if k = x.i1 then x.o1 else if k = x.i2 then ob else at' x.t k) = if k = x.i2 then ob else (if k = x.i1 then x.o1 else if k = x.i2 then x.o2 else at' x.t k)
     by_cases e2 : k = x.i2
     . subst e2; simp [e1]
     . simp [e2]
   . rw [Kg] at h4;refine ⟨_, fun k => ?_, h4⟩;show (if k = id then ob else if k = x.i1 then x.o1 else at' (jgw x.t x.i2 x.o2) k) = if k = id then ob else (if k = x.i1 then x.o1 else if k = x.i2 then x.o2 else at' x.t k)
     rw [jdX]
def jeS (id : Nat) (x : HT) (K : U -> HT -> Ans) : Ans := htK x fun i1 o1 i2 o2 t => @Bool.rec (fun _ => Ans) (@Bool.rec (fun _ => Ans) (frc (atR t id) fun ob => jdN o2 t i2 fun t' => K ob ⟨id, ob, i1, o1, t'⟩) (K o2 ⟨i1, o1, i2, o2, t⟩) (Nat.beq id i2)) (K o1 ⟨i1, o1, i2, o2, t⟩) (Nat.beq id i1)
theorem jaS {id : Nat} {x : HT} {K : U -> HT -> Ans} (h : jeS id x K = true) : ∃ y : HT, (∀ k, y.at k = x.at k) /\ K (x.at id) y = true := by
 unfold jeS at h;rw [jeR] at h
 rcases jf h with ⟨h1, h2⟩ | ⟨h1, h2⟩
 . have := zN h1; subst this;have e : x.at x.i1 = x.o1 := by unfold HT.at; rw [if_pos rfl]
   exact ⟨x, fun k => rfl, by rw [e]; exact h2⟩
 . have e1 := zE h1
   rcases jf h2 with ⟨h3, h4⟩ | ⟨h3, h4⟩
   . have := zN h3; subst this;have e : x.at x.i2 = x.o2 := by unfold HT.at; rw [if_neg e1, if_pos rfl]
     exact ⟨x, fun k => rfl, by rw [e]; exact h4⟩
   . have e2 := zE h3;rw [yb, Kg, zG] at h4;have e : x.at id = at' x.t id := by unfold HT.at; rw [if_neg e1, if_neg e2]
     refine ⟨_, fun k => ?_, by rw [e]; exact h4⟩;show (if k = id then at' x.t id else if k = x.i1 then x.o1 else at' (jgw x.t x.i2 x.o2) k) = (if k = x.i1 then x.o1 else if k = x.i2 then x.o2 else at' x.t k);rw [jdX]
     by_cases e3 : k = id
     . subst e3; simp [e1, e2]
     . simp [e3]
structure H where
 n : Nat
 t : HT
 mn : Nat
 tr : Bool
 ws : List Nat
structure HR (h : H) (σ : List IObj) (wr : List (Nat × Bool)) : Prop where
 len : σ.length = h.n
 obs : ∀ i ob, σ[i]? = some ob -> ObR (h.t.at i) ob
 hwr : h.tr = true -> ∀ p ∈ wr, p.1 ∈ h.ws
 hmn : ∀ n0, (wr.all fun p => !p.2 || decide (n0 <= p.1)) = true ↔ (h.mn = 0 \/ n0 < h.mn)
def hK (h : H) (K : Nat -> HT -> Nat -> Bool -> List Nat -> Ans) : Ans := @H.rec (fun _ => (Nat -> HT -> Nat -> Bool -> List Nat -> Ans) -> Ans) (fun n t mn tr ws K => K n t mn tr ws) h K
theorem K4 (h : H) (K : Nat -> HT -> Nat -> Bool -> List Nat -> Ans) : hK h K = K h.n h.t h.mn h.tr h.ws := rfl
def vU (id : Nat) (h : H) (K : U -> Ans) : Ans := hK h fun n t _ _ _ => @Bool.rec (fun _ => Ans) false (jj7 id t K) (Nat.blt id n)
def jj6 (id : Nat) (h : H) (K : U -> H -> Ans) : Ans := hK h fun n t mn tr ws => @Bool.rec (fun _ => Ans) false (jeS id t fun ob t' => K ob ⟨n, t', mn, tr, ws⟩) (Nat.blt id n)
theorem jy {a b : Nat} (h : Nat.blt a b = true) : a < b := by simpa [Nat.blt, Nat.ble_eq, Nat.succ_le_iff] using h
theorem vG {a b : Nat} (h : Nat.blt a b = false) : b <= a := by
 rcases Nat.lt_or_ge a b with h1 | h1
 . have : Nat.blt a b = true := by simp [Nat.blt, Nat.ble_eq]; omega
   rw [h] at this; cases this
 . exact h1
theorem blt_iff {a b : Nat} : Nat.blt a b = true ↔ a < b := ⟨jy, fun h => by simp [Nat.blt, Nat.ble_eq]; omega⟩
theorem ble_iff {a b : Nat} : Nat.ble a b = true ↔ a <= b := ⟨Nat.le_of_ble_eq_true, Nat.ble_eq_true_of_le⟩
theorem jS {id : Nat} {h : H} {K : U -> Ans} {σ : List IObj} {wr : List (Nat × Bool)} (hr : HR h σ wr) (hk : vU id h K = true) : ∃ u ob, σ[id]? = some ob /\ ObR u ob /\ K u = true := by
 rcases jf hk with ⟨h1, h2⟩ | ⟨_, h2⟩
 . have hl : id < σ.length := by rw [hr.len]; exact jy h1
   rw [jg8] at h2;exact ⟨_, σ[id], by simp [hl], hr.obs _ _ (by simp [hl]), h2⟩
 . cases h2
theorem XO {id : Nat} {h : H} {K : U -> H -> Ans} {σ : List IObj} {wr : List (Nat × Bool)} (hr : HR h σ wr) (hk : jj6 id h K = true) : ∃ u ob h', σ[id]? = some ob /\ ObR u ob /\ HR h' σ wr /\ h'.tr = h.tr /\ K u h' = true := by
 rcases jf hk with ⟨h1, h2⟩ | ⟨_, h2⟩
 . have hl : id < σ.length := by rw [hr.len]; exact jy h1
   obtain ⟨y, h3, h4⟩ := jaS h2;exact ⟨_, σ[id], ⟨h.n, y, h.mn, h.tr, h.ws⟩, by simp [hl], hr.obs _ _ (by simp [hl]), ⟨hr.len, fun i ob hi => by show ObR (y.at i) ob; rw [h3]; exact hr.obs i ob hi, hr.hwr, hr.hmn⟩, rfl, h4⟩
 . cases h2
def jkp (id mn : Nat) : Nat := @Bool.rec (fun _ => Nat) (@Bool.rec (fun _ => Nat) mn (Nat.succ id) (Nat.blt id mn)) (Nat.succ id) (Nat.beq mn 0)
theorem jkq (id mn n0 : Nat) : (jkp id mn = 0 \/ n0 < jkp id mn) ↔ (n0 <= id /\ (mn = 0 \/ n0 < mn)) := by
 unfold jkp;rw [vV, vV];split
 . rename_i h; have := zN h; subst this; simp; omega
 . rename_i h;have hm : mn ≠ 0 := by intro e; subst e; exact h rfl
   split
   . rename_i h; have := jy h; simp; omega
   . rename_i h;have h : Nat.blt id mn = false := by cases hh : Nat.blt id mn with | false => rfl | true => exact absurd hh h
     have := vG h; omega
def wsK (tr : Bool) (id : Nat) (ws : List Nat) : List Nat := @Bool.rec (fun _ => List Nat) ws (id :: ws) tr
theorem jjk {tr : Bool} {id : Nat} {ws : List Nat} {wr : List (Nat × Bool)} {f : Bool} (h : tr = true -> ∀ p ∈ wr, p.1 ∈ ws) : tr = true -> ∀ p ∈ (id, f) :: wr, p.1 ∈ wsK tr id ws := by
 intro ht p hp;subst ht
 rcases List.mem_cons.1 hp with rfl | hp
 . exact List.mem_cons_self
 . exact List.mem_cons_of_mem _ (h rfl p hp)
def vB (id : Nat) (ob : U) (f : Bool) (h : H) (K : H -> Ans) : Ans := hK h fun n t mn tr ws => jg9 id ob t fun t' =>
 @Bool.rec (fun _ => Ans) (K ⟨n, t', mn, tr, wsK tr id ws⟩) (fN (jkp id mn) fun m => K ⟨n, t', m, tr, wsK tr id ws⟩) f
theorem ku {id : Nat} {ob : U} {f : Bool} {h : H} {K : H -> Ans} {σ : List IObj} {wr : List (Nat × Bool)} (hr : HR h σ wr) (hk : vB id ob f h K = true) :
   ∀ {o : IObj}, ObR ob o -> ∃ h', HR h' (σ.set id o) ((id, f) :: wr) /\ h'.n = h.n /\ h'.tr = h.tr /\ K h' = true := by
 intro o ho;unfold vB at hk;rw [K4] at hk;obtain ⟨y, hy, hk⟩ := XP hk;have hobs : ∀ i ob', (σ.set id o)[i]? = some ob' -> ObR (y.at i) ob' := by
   intro i ob' hi;rw [hy];rw [List.getElem?_set] at hi
   by_cases e : id = i
   . subst e;rw [if_pos rfl] at hi ⊢;split at hi
     . cases hi; exact ho
     . cases hi
   . rw [if_neg e] at hi; rw [if_neg (fun h => e h.symm)];exact hr.obs _ _ hi
 rcases jf hk with ⟨hf, h2⟩ | ⟨hf, h2⟩
 . rw [jr] at h2;refine ⟨⟨h.n, y, jkp id h.mn, h.tr, wsK h.tr id h.ws⟩, ⟨by simp [hr.len], hobs, jjk hr.hwr, fun n0 => ?_⟩, rfl, rfl, h2⟩;rw [List.all_cons, zA, hr.hmn n0, hf];show _ ↔ (jkp id h.mn = 0 \/ n0 < jkp id h.mn);rw [jkq]; simp
 . refine ⟨⟨h.n, y, h.mn, h.tr, wsK h.tr id h.ws⟩, ⟨by simp [hr.len], hobs, jjk hr.hwr, fun n0 => ?_⟩, rfl, rfl, h2⟩;rw [List.all_cons, zA, hr.hmn n0, hf];simp
def y0 (ob : U) (h : H) (K : Nat -> H -> Ans) : Ans := hK h fun n t mn tr ws => jg9 n ob t fun t' => fN (Nat.succ n) fun n' => K n ⟨n', t', mn, tr, ws⟩
theorem kp {ob : U} {h : H} {K : Nat -> H -> Ans} {σ : List IObj} {wr : List (Nat × Bool)} (hr : HR h σ wr) (hk : y0 ob h K = true) :
   ∀ {o : IObj}, ObR ob o -> ∃ h', HR h' (σ ++ [o]) wr /\ h'.tr = h.tr /\ K σ.length h' = true := by
 intro o ho;unfold y0 at hk;rw [K4] at hk;obtain ⟨y, hy, hk⟩ := XP hk;rw [jr] at hk;refine ⟨⟨h.n.succ, y, h.mn, h.tr, h.ws⟩, ⟨by simp [hr.len], fun i ob' hi => ?_, hr.hwr, hr.hmn⟩, rfl, by rw [hr.len]; exact hk⟩;rw [hy]
 by_cases e : i = h.n
 . subst e;rw [if_pos rfl];rw [<- hr.len] at hi;simp at hi; subst hi; exact ho
 . rw [if_neg e];rw [<- hr.len] at e;have hl : i < σ.length := by
     rcases Nat.lt_or_ge i (σ ++ [o]).length with h1 | h1
     . simp at h1; omega
     . rw [List.getElem?_eq_none h1] at hi; cases hi
   rw [zL hl] at hi;exact hr.obs _ _ hi
def Zf (ob : U) (off : Nat) (K : U -> Ans) : Ans := uO ob fun t a _ _ _ x => @Bool.rec (fun _ => Ans) (@Bool.rec (fun _ => Ans) false (@Bool.rec (fun _ => Ans) false (K (atR x off)) (Nat.blt off a)) (Nat.beq t 2)) (jkB off x K) (Nat.beq t 1)
theorem J7 {ob : U} {off : Nat} {K : U -> Ans} (h : Zf ob off K = true) : ∃ t a b c d x cs u, ob = .o t a b c d x /\ jjd ob = .cells cs /\ cs[off]? = some (toI u) /\ K u = true := by
 obtain ⟨t, a, b, c, d, x, rfl, h⟩ := jq h
 rcases jf h with ⟨h1, h2⟩ | ⟨_, h⟩
 . have := zN h1; subst this;obtain ⟨u, h3, h4⟩ := Jk h2;exact ⟨_, _, _, _, _, _, _, u, rfl, rfl, h3, h4⟩
 rcases jf h with ⟨h1, h2⟩ | ⟨_, h⟩
 . have := zN h1; subst this
   rcases jf h2 with ⟨h3, h4⟩ | ⟨_, h4⟩
   . rw [zG] at h4;refine ⟨_, _, _, _, _, _, _, _, rfl, rfl, ?_, h4⟩;rw [j0 _ _ _ _ (jy h3), Ye, Nat.zero_add]
   . cases h4
 . cases h
def jfE (x : U) (n off : Nat) (K : U -> Ans) : Ans := @Nat.rec (fun _ => Nat -> (U -> Ans) -> Ans) (fun _ K => K .nl) (fun _ ih off K => ih (Nat.succ off) fun r => K (.cn (atR x off) r)) n off K
theorem jbf {x : U} : ∀ {n off : Nat} {K : U -> Ans}, jfE x n off K = true -> ∃ r, toL r = lst (toT x).g off n /\ K r = true := by
 intro n
 induction n with
 | zero => intro off K h; exact ⟨.nl, by simp [lst, kT], h⟩
 | succ n ih =>
   intro off K h;obtain ⟨r, h1, h2⟩ := ih (show jfE x n (off + 1) (fun r => K (.cn (atR x off) r)) = true from h);refine ⟨_, ?_, h2⟩;rw [jn, h1, zG, Ye];simp only [ZF, List.range_succ_eq_map, List.map_cons, List.map_map, Nat.add_zero]
   congr 1
   apply List.map_congr_left;intro i _;simp only [Function.comp, Nat.succ_eq_add_one]
   congr 1; omega
theorem Yv (f : Nat -> Nat -> IVal) (n off k : Nat) (h : off + k <= n) : ((lst f 0 n).drop off).take k = lst f off k := by
 apply List.ext_getElem?;intro i;rw [List.getElem?_take]
 by_cases hi : i < k
 . rw [if_pos hi, List.getElem?_drop];simp only [lst, List.getElem?_map];rw [List.getElem?_range (by omega), List.getElem?_range hi];simp
 . rw [if_neg hi, List.getElem?_eq_none (by rw [jh]; omega)]
def Vd (ob : U) (n off : Nat) (K : U -> Ans) : Ans := uO ob fun t a _ _ _ x => @Bool.rec (fun _ => Ans) (@Bool.rec (fun _ => Ans) false (@Bool.rec (fun _ => Ans) false (jfE x n off K) (Nat.ble (Nat.add off n) a)) (Nat.beq t 2)) (jaJ off x fun y => jbG n y K) (Nat.beq t 1)
theorem zI {ob : U} {n off : Nat} {K : U -> Ans} (h : Vd ob n off K = true) : ∃ t a b c d x cs r, ob = .o t a b c d x /\ jjd ob = .cells cs /\ off + n <= cs.length /\ toL r = (cs.drop off).take n /\ K r = true := by
 obtain ⟨t, a, b, c, d, x, rfl, h⟩ := jq h
 rcases jf h with ⟨h1, h2⟩ | ⟨_, h⟩
 . have := zN h1; subst this;obtain ⟨y, h3, h4, h5⟩ := yE h2;obtain ⟨r, h6, h7, h8⟩ := yR h5;refine ⟨_, _, _, _, _, _, _, r, rfl, rfl, ?_, by rw [h6, h3], h8⟩;rw [h3] at h7;simp at h7; omega
 rcases jf h with ⟨h1, h2⟩ | ⟨_, h⟩
 . have := zN h1; subst this
   rcases jf h2 with ⟨h3, h4⟩ | ⟨_, h4⟩
   . have hle := ble_iff.1 h3;rw [K6] at hle;obtain ⟨r, h5, h6⟩ := jbf h4;exact ⟨_, _, _, _, _, _, _, r, rfl, rfl, by rw [jh]; exact hle, by rw [h5, Yv _ _ _ _ hle], h6⟩
   . cases h4
 . cases h
def KY (vs : U) : U -> Nat -> (U -> Ans) -> Ans := @U.rec (fun _ => U -> Nat -> (U -> Ans) -> Ans) (fun _ _ _ _ _ => false) (fun _ _ _ _ => false) (fun _ _ _ _ _ => false) (fun _ _ _ _ _ _ _ _ _ _ => false) (fun t _ K => K t)
 (fun v _ _ ih t off K => jdN v t off fun t' => ih t' (Nat.succ off) K) (fun _ _ _ _ _ _ _ _ _ => false) (fun _ _ _ _ => false) (fun _ _ _ _ _ _ _ _ _ _ => false) vs
theorem jki (t : U) (v : U) (n off : Nat) : lst (toT (jgw t off v)).g 0 n = (lst (toT t).g 0 n).set off (toI v) := by
 apply List.ext_getElem?;intro i;rw [List.getElem?_set]
 by_cases hi : i < n
 . rw [j0 _ _ _ _ hi, j0 _ _ _ _ hi, Ka]
   by_cases e : off = i
   . subst e; simp [jh, hi]
   . rw [if_neg (by omega), if_neg e]
 . rw [List.getElem?_eq_none (by rw [jh]; omega)];split
   . rw [if_neg (by rw [jh]; omega)]
   . rw [List.getElem?_eq_none (by rw [jh]; omega)]
theorem XI (n : Nat) : ∀ {vs t : U} {off : Nat} {K : U -> Ans}, KY vs t off K = true -> ∃ t', lst (toT t').g 0 n = ji (lst (toT t).g 0 n) off (toL vs) /\ K t' = true := by
 intro vs
 induction vs with
 | nl => intro t off K h; exact ⟨t, rfl, h⟩
 | cn v vs _ ih =>
   intro t off K h;have h : jdN v t off (fun t' => KY vs t' (Nat.succ off) K) = true := h;rw [Kg] at h;obtain ⟨t', h1, h2⟩ := ih h;exact ⟨t', by rw [h1, jki, jn]; rfl, h2⟩
 | _ => intro t off K h; cases h
def qq (ob : U) (off : Nat) (vs : U) (K : U -> Ans) : Ans := uO ob fun t a _ _ _ x => @Bool.rec (fun _ => Ans) (@Bool.rec (fun _ => Ans) false (@Bool.rec (fun _ => Ans) false (KY vs x off fun r => K (.o 2 a 0 0 0 r)) (Nat.ble (Nat.add off (KR vs)) a)) (Nat.beq t 2)) (jmD off vs x fun r => K (.o 1 0 0 0 0 r)) (Nat.beq t 1)
theorem kC {ob vs : U} {off : Nat} {K : U -> Ans} (h : qq ob off vs K = true) : ∃ t a b c d x cs t' a' b' c' d' x', ob = .o t a b c d x /\ jjd ob = .cells cs /\ off + (toL vs).length <= cs.length /\ jjd (.o t' a' b' c' d' x') = .cells (ji cs off (toL vs)) /\ K (.o t' a' b' c' d' x') = true := by
 obtain ⟨t, a, b, c, d, x, rfl, h⟩ := jq h
 rcases jf h with ⟨h1, h2⟩ | ⟨_, h⟩
 . have := zN h1; subst this;obtain ⟨r, h3, h4, h5⟩ := ZS h2;exact ⟨_, _, _, _, _, _, _, _, _, _, _, _, _, rfl, rfl, h4, by rw [<- h3]; rfl, h5⟩
 rcases jf h with ⟨h1, h2⟩ | ⟨_, h⟩
 . have := zN h1; subst this
   rcases jf h2 with ⟨h3, h4⟩ | ⟨_, h4⟩
   . have hle := ble_iff.1 h3;rw [K6, kw] at hle;obtain ⟨r, h5, h6⟩ := XI a h4;exact ⟨_, _, _, _, _, _, _, _, _, _, _, _, _, rfl, rfl, by rw [jh]; exact hle, by rw [<- h5]; rfl, h6⟩
   . cases h4
 . cases h
theorem vb {t a b c d : Nat} {x : U} {cs : List IVal} (h : jjd (.o t a b c d x) = .cells cs) : ObR (.o t a b c d x) (.cells cs) := by
 show IObj.cells cs = jjd _;rw [h]
end
end Go.Idl
namespace Go.Idl
noncomputable section
def jlp : U -> U -> U
 | .cn x y, z => .cn x (jlp y z)
 | _, z => z
def jhO (v : Value) : U := match v with
 | .pointer none => .o 8 0 0 0 0 .nl
 | .nilIface => .o 9 0 0 0 0 .nl
 | .nilFunc => .o 10 0 0 0 0 .nl
 | .map none => .o 11 0 0 0 0 .nl
 | v => .z (.prim v)
theorem jcg (v : Value) : toI (jhO v) = .prim v := by unfold jhO; split <;> rfl
mutual
def rep : IVal -> U
 | .int k n => if -18446744073709551616 <= n then .i (kc k) (n + 18446744073709551616).toNat else .z (.int k n)
 | .bool b => .b b
 | .str s => .s s.length (jhL s)
 | .sl own r xs => .o 16 own (if r then 1 else 0) 0 xs.length (jja xs 0 .nl)
 | .rs e id off len => .o 2 e id off len .nl
 | .ptr id off => .o 1 id off 0 0 .nl
 | .pv r cs off => .o 6 (if r then 1 else 0) off 0 0 (Qt cs)
 | .map id => .o 3 id 0 0 0 .nl
 | .yl id => .o 4 id 0 0 0 .nl
 | .iface t v => .o 5 t 0 0 0 (rep v)
 | .agg cs => .o 17 0 0 0 0 (Qt cs)
 | .tup xs => .o 18 0 0 0 0 (Qt xs)
 | .prim v => jhO v
 | .fn (.func f) xs ys => .o 7 f xs.length 0 0 (jlp (Qt xs) (Qt ys))
 | .fn f xs ys => .z (.fn f xs ys)
termination_by structural v => v
def Qt : List IVal -> U
 | [] => .nl
 | v :: vs => .cn (rep v) (Qt vs)
termination_by structural v => v
def jja : List IVal -> Nat -> U -> U
 | [], _, t => t
 | v :: vs, i, t => jja vs (i + 1) (jgw t i (rep v))
termination_by structural v => v
end
theorem jjx : ∀ {x : U} (y : U), (toL x).length = KR x -> toL (jlp x y) = toL x ++ toL y := by
 intro x
 induction x with
 | cn a b _ ih => intro y h; show toI a :: toL (jlp b y) = _; rw [ih y (kw b).symm]; rfl
 | _ => intro y _; rfl
theorem jlL (r : Bool) : ((if r then 1 else 0 : Nat) != 0) = r := by cases r <;> rfl
mutual
theorem zy : ∀ v : IVal, toI (rep v) = v
 | .int k n => by
   rw [rep];split
   . rename_i h;show jgt _ _ = _;unfold jgt;rw [jhc]
     congr 1; omega
   . rfl
 | .bool b => rfl
 | .str s => by rw [rep]; show IVal.str _ = _; rw [jgl]
 | .sl own r xs => by
   rw [rep];show IVal.sl own _ (lst (toT (jja xs 0 .nl)).g 0 xs.length) = _;rw [jlL]
   congr 1
   apply List.ext_getElem?;intro i
   by_cases hi : i < xs.length
   . rw [j0 _ _ _ _ hi, Nat.zero_add, jbh xs 0 .nl i];simp [hi]
   . rw [List.getElem?_eq_none (by rw [jh]; omega), List.getElem?_eq_none (by omega)]
 | .rs e id off len => rfl
 | .ptr id off => rfl
 | .pv r cs off => by rw [rep]; show IVal.pv _ (toL (Qt cs)) off = _; rw [jlL, qD cs]
 | .map id => rfl
 | .yl id => rfl
 | .iface t v => by rw [rep]; show IVal.iface t (toI (rep v)) = _; rw [zy v]
 | .agg cs => by rw [rep]; show IVal.agg (if 0 = 0 then toL (Qt cs) else _) = _; rw [if_pos rfl, qD cs]
 | .tup xs => by rw [rep]; show IVal.tup (if 0 = 0 then toL (Qt xs) else _) = _; rw [if_pos rfl, qD xs]
 | .prim v => jcg v
 | .fn f xs ys => by
   cases f with
   | func f =>
     rw [rep];show IVal.fn (.func f) ((toL (jlp (Qt xs) (Qt ys))).take xs.length) ((toL (jlp (Qt xs) (Qt ys))).drop xs.length) = _;rw [jjx _ (kw _).symm, qD xs, qD ys];simp
   | _ => rfl
termination_by structural v => v
theorem qD : ∀ l : List IVal, toL (Qt l) = l
 | [] => rfl
 | v :: vs => by rw [Qt]; show toI (rep v) :: toL (Qt vs) = _; rw [zy v, qD vs]
termination_by structural v => v
theorem jbh : ∀ (l : List IVal) (i : Nat) (t : U) (j : Nat), gat (jja l i t) j = if i <= j /\ j < i + l.length then l.getD (j - i) ju else gat t j
 | [], i, t, j => by rw [jja]; rw [if_neg (fun h => by simp at h; omega)]
 | v :: vs, i, t, j => by
   rw [jja, jbh vs (i + 1), Ka, zy v]
   by_cases hj : j = i
   . subst hj;rw [if_neg (by omega), if_pos rfl, if_pos (by simp), Nat.sub_self]; rfl
   . rw [if_neg hj]
     by_cases h2 : i + 1 <= j /\ j < i + 1 + vs.length
     . rw [if_pos h2, if_pos (by simp only [List.length_cons]; omega)];have e : j - i = (j - (i + 1)) + 1 := by omega
       rw [e]; rfl
     . rw [if_neg h2, if_neg (by simp only [List.length_cons]; omega)]
termination_by structural v => v
end
end
end Go.Idl
namespace Go.Idl
noncomputable section
abbrev KU := U -> Ans
def QS (op : BinOp) (x y : U) (K : KU) : Ans := @Option.rec _ (fun _ => Ans) false (fun v => K (rep v)) (bin op (toI x) (toI y))
def yu (op : BinOp) (F : U -> U -> KU -> Ans) : Prop := ∀ x y K, F x y K = true -> ∃ u, bin op (toI x) (toI y) = some (toI u) /\ K u = true
theorem va (op : BinOp) : yu op (QS op) := by
 intro x y K h;unfold QS at h
 cases hb : bin op (toI x) (toI y) with
 | none => rw [hb] at h; cases h
 | some v => rw [hb] at h; exact ⟨rep v, by rw [zy], h⟩
theorem qJ (k n : Nat) : toI (.i k n) = .int (kd k) ((n : Int) - 18446744073709551616) := rfl
theorem Ju (l x : Nat) : toI (.s l x) = .str (qG l x) := rfl
theorem Xx (x : Bool) : toI (.b x) = .bool x := rfl
def ar (f : Nat -> Nat -> Nat) (slow : U -> U -> KU -> Ans) (x y : U) (K : KU) : Ans :=
 (@U.rec (fun _ => U -> KU -> Ans) (fun a n => fun y K => uI y fun b m => tst (Nat.beq a b) (fN (V9 a (f n m)) fun c => K (.i a c))) (fun _ => fun _ _ => false) (fun l n => fun y K => slow (.s l n) y K) (fun _ _ _ _ _ _ _ => fun _ _ => false) (fun _ _ => false) (fun _ _ _ _ => fun _ _ => false) (fun _ _ _ _ _ _ => fun _ _ => false) (fun _ => fun _ _ => false) (fun _ _ _ _ _ _ _ => fun _ _ => false) x) y K
theorem jcD {op : BinOp} {f : Nat -> Nat -> Nat} {slow : U -> U -> KU -> Ans} {g : Int -> Int -> Int -> Int} (hs : yu op slow)
   (hop : ∀ (k : IntKind) (x y : Int), ∃ z : Int, bin op (.int k x) (.int k y) = some (.int k (k.wrap z)) /\ ∀ n m : Nat, x = (n : Int) - 18446744073709551616 -> y = (m : Int) - 18446744073709551616 -> ((f n m : Nat) : Int) % (2 ^ k.bits : Int) = z % (2 ^ k.bits : Int)) :
   yu op (ar f slow) := by
 intro x y K h
 cases x with
 | i a n =>
   obtain ⟨b, m, rfl, h0⟩ := jV (show uI y (fun b m => tst (Nat.beq a b) (fN (V9 a (f n m)) fun c => K (.i a c))) = true from h);obtain ⟨h1, h2⟩ := jb h0;have := zN h1; subst this;rw [jr] at h2;clear h h0; have h := h2;obtain ⟨z, h2, h3⟩ := hop (kd a) ((n : Int) - 18446744073709551616) ((m : Int) - 18446744073709551616);refine ⟨_, ?_, h⟩;rw [qJ, qJ, h2]
   congr 1
   show _ = jgt a (V9 a (f n m));rw [JI a (f n m) z (h3 n m rfl rfl)]
 | s l n => exact hs (.s l n) y K h
 | _ => cases h
theorem jbR (k : IntKind) : (2 ^ k.bits : Int) ∣ 18446744073709551616 := by
 cases k <;> simp only [IntKind.bits] <;> decide
theorem yG (k : IntKind) (a : Int) (b : Int) (h : a % 18446744073709551616 = b % 18446744073709551616) : a % (2 ^ k.bits : Int) = b % (2 ^ k.bits : Int) := by
 rw [<- Int.emod_emod_of_dvd a (jbR k), h, Int.emod_emod_of_dvd b (jbR k)]
theorem zw {op : BinOp} (k : IntKind) (x y : Int) (h1 : op ≠ .shl) (h2 : op ≠ .shr) : bin op (.int k x) (.int k y) = jcF op k x y := by
 cases op <;> first | exact absurd rfl h1 | exact absurd rfl h2 | simp [bin]
def jpc (x y : U) (K : KU) : Ans := uS x fun l n => uS y fun l' m => tst (Nat.ble (Nat.add l l') 1099511627776) (fN (Nat.add (Nat.mul n (Nat.pow 256 l')) (Nat.mod m (Nat.pow 256 l'))) fun r => fN (Nat.add l l') fun q => K (.s q r))
theorem jjq : yu .add jpc := by
 intro x y K h;obtain ⟨l, n, rfl, h2⟩ := qb h;obtain ⟨l', m, rfl, h3⟩ := qb h2;obtain ⟨h1, h4⟩ := jb h3;rw [jr, jr] at h4;clear h h2 h3; have h := h4;have h1 := ble_iff.1 h1;refine ⟨_, ?_, h⟩;rw [Ju, Ju, Ju];show jiL .add _ _ = _;unfold jiL;simp only [jB];rw [K6] at h1;rw [if_pos h1, V8]; rfl
def jpb : U -> U -> KU -> Ans := ar (fun n m => Nat.add n m) jpc
theorem jjp : yu .add jpb := jcD (g := fun _ x y => x + y) jjq (fun k x y => ⟨x + y, by rw [zw _ _ _ (by simp) (by simp)]; rfl, fun n m hx hy => yG k _ _ (by rw [K6]; omega)⟩)
def jpv : U -> U -> KU -> Ans := ar (fun n m => Nat.add n (Nat.sub 18446744073709551616 (Nat.mod m 18446744073709551616))) (QS .sub)
theorem jk3 : yu .sub jpv := jcD (g := fun _ x y => x + y) (va _) (fun k x y => ⟨x - y, by rw [zw _ _ _ (by simp) (by simp)]; rfl, fun n m hx hy => yG k _ _ (by rw [K6, QO, jb9]; omega)⟩)
def jpo : U -> U -> KU -> Ans := ar (fun n m => Nat.mul n m) (QS .mul)
theorem jkr : yu .mul jpo := jcD (g := fun _ x y => x + y) (va _) (fun k x y => ⟨x * y, by rw [zw _ _ _ (by simp) (by simp)]; rfl, fun n m hx hy => yG k _ _ (by
 rw [jfk, hx, hy];have e : ((n : Int) - 18446744073709551616) * ((m : Int) - 18446744073709551616) = (n : Int) * m + (18446744073709551616 - n - m) * 18446744073709551616 := by
   simp only [Int.sub_mul, Int.mul_sub]; omega
 rw [e, Int.add_mul_emod_self_right]; simp)⟩)
def jjI (f : Nat -> Nat -> Bool) (slow : U -> U -> KU -> Ans) (x y : U) (K : KU) : Ans :=
 (@U.rec (fun _ => U -> KU -> Ans) (fun a n => fun y K => uI y fun b m => tst (Nat.beq a b) (@Bool.rec (fun _ => Ans) (K (.b false)) (K (.b true)) (f n m))) (fun _ => fun _ _ => false) (fun l n => fun y K => slow (.s l n) y K) (fun _ _ _ _ _ _ _ => fun _ _ => false) (fun _ _ => false) (fun _ _ _ _ => fun _ _ => false) (fun _ _ _ _ _ _ => fun _ _ => false) (fun _ => fun _ _ => false) (fun _ _ _ _ _ _ _ => fun _ _ => false) x) y K
theorem KX {op : BinOp} {f : Nat -> Nat -> Bool} {slow : U -> U -> KU -> Ans} (hs : yu op slow)
   (hop : ∀ (k : IntKind) (n m : Nat), bin op (.int k ((n : Int) - 18446744073709551616)) (.int k ((m : Int) - 18446744073709551616)) = some (.bool (f n m))) : yu op (jjI f slow) := by
 intro x y K h
 cases x with
 | i a n =>
   obtain ⟨b, m, rfl, h0⟩ := jV (show uI y (fun b m => tst (Nat.beq a b) (@Bool.rec (fun _ => Ans) (K (.b false)) (K (.b true)) (f n m))) = true from h);obtain ⟨h1, h2⟩ := jb h0;have := zN h1; subst this;clear h h0; have h := h2;refine ⟨.b (f n m), by rw [qJ, qJ, hop]; rfl, ?_⟩
   rcases jf h with ⟨h1, h2⟩ | ⟨h1, h2⟩ <;> rw [h1] <;> exact h2
 | s l n => exact hs (.s l n) y K h
 | _ => cases h
def eqS (neg : Bool) (x y : U) (K : KU) : Ans := uS x fun l n => uS y fun l' m => @Bool.rec (fun _ => Ans) (K (.b neg)) (@Bool.rec (fun _ => Ans) (K (.b neg)) (K (.b (@Bool.rec (fun _ => Bool) true false neg))) (Nat.beq (Nat.mod n (Nat.pow 256 l)) (Nat.mod m (Nat.pow 256 l)))) (Nat.beq l l')
theorem jbY {neg : Bool} {x y : U} {K : KU} (h : eqS neg x y K = true) : ∃ a b, toI x = .str a /\ toI y = .str b /\ K (.b ((a == b) != neg)) = true := by
 obtain ⟨l, n, rfl, h2⟩ := qb h;obtain ⟨l', m, rfl, h3⟩ := qb h2;refine ⟨_, _, rfl, rfl, ?_⟩;clear h h2; have h := h3
 rcases jf h with ⟨h1, h4⟩ | ⟨h1, h⟩
 . have := zN h1; subst this
   rcases jf h4 with ⟨h5, h6⟩ | ⟨h5, h6⟩
   . have e : qG l n = qG l m := (Q3 _ _ _).2 (zN h5);rw [e];cases neg <;> simpa using h6
   . have e : ¬ qG l n = qG l m := fun e => zE h5 ((Q3 _ _ _).1 e);rw [beq_false_of_ne e];cases neg <;> simpa using h6
 . have e : ¬ qG l n = qG l' m := fun e => zE h1 (by have := congrArg List.length e; simpa [jB] using this);rw [beq_false_of_ne e];cases neg <;> simpa using h
theorem jjQ : yu .eql (eqS false) := by
 intro x y K h;obtain ⟨a, b, h1, h2, h3⟩ := jbY h;refine ⟨_, ?_, h3⟩;rw [h1, h2]; show jiL .eql a b = some (.bool _); simp [jiL]
theorem jjR : yu .neq (eqS true) := by
 intro x y K h;obtain ⟨a, b, h1, h2, h3⟩ := jbY h;refine ⟨_, ?_, h3⟩;rw [h1, h2]; show jiL .neq a b = some (.bool _); simp [jiL]
theorem jeo {a b : Nat} {p : Prop} [Decidable p] (h : p ↔ a < b) : decide p = Nat.blt a b := by
 cases hb : Nat.blt a b with
 | true => exact decide_eq_true (h.2 (jy hb))
 | false => exact decide_eq_false (fun hp => absurd (h.1 hp) (by have := vG hb; omega))
theorem jen {a b : Nat} {p : Prop} [Decidable p] (h : p ↔ a <= b) : decide p = Nat.ble a b := by
 cases hb : Nat.ble a b with
 | true => exact decide_eq_true (h.2 (ble_iff.1 hb))
 | false => exact decide_eq_false (fun hp => by have := ble_iff.2 (h.1 hp); rw [hb] at this; cases this)
theorem jna (n m : Nat) : ((n : Int) - 18446744073709551616 == (m : Int) - 18446744073709551616) = Nat.beq n m := by
 cases hb : Nat.beq n m with
 | true => have := zN hb; subst this; simp
 | false => have := zE hb; apply beq_false_of_ne; omega
def jpi : U -> U -> KU -> Ans := jjI (fun n m => Nat.beq n m) (eqS false)
theorem jjU : yu .eql jpi := KX jjQ fun k n m => by rw [zw _ _ _ (by simp) (by simp)]; show some (IVal.bool _) = _; rw [jna]
def jcb (b : Bool) : Bool := @Bool.rec (fun _ => Bool) true false b
theorem VB (b : Bool) : jcb b = !b := by cases b <;> rfl
def jpq : U -> U -> KU -> Ans := jjI (fun n m => jcb (Nat.beq n m)) (eqS true)
theorem jkv : yu .neq jpq := KX jjR fun k n m => by rw [zw _ _ _ (by simp) (by simp)]; show some (IVal.bool (bne _ _)) = _; rw [VB, bne, jna]
def jpn : U -> U -> KU -> Ans := jjI (fun n m => Nat.blt n m) (QS .lss)
theorem jkg : yu .lss jpn := KX (va _) fun k n m => by rw [zw _ _ _ (by simp) (by simp)]; show some (IVal.bool (decide _)) = _; rw [jeo (a := n) (b := m) (by omega)]
def jpk : U -> U -> KU -> Ans := jjI (fun n m => Nat.blt m n) (QS .gtr)
theorem jj5 : yu .gtr jpk := KX (va _) fun k n m => by rw [zw _ _ _ (by simp) (by simp)]; show some (IVal.bool (decide _)) = _; rw [jeo (a := m) (b := n) (by omega)]
def jpm : U -> U -> KU -> Ans := jjI (fun n m => Nat.ble n m) (QS .leq)
theorem jkd : yu .leq jpm := KX (va _) fun k n m => by rw [zw _ _ _ (by simp) (by simp)]; show some (IVal.bool (decide _)) = _; rw [jen (a := n) (b := m) (by omega)]
def jpj : U -> U -> KU -> Ans := jjI (fun n m => Nat.ble m n) (QS .geq)
theorem jj4 : yu .geq jpj := KX (va _) fun k n m => by rw [zw _ _ _ (by simp) (by simp)]; show some (IVal.bool (decide _)) = _; rw [jen (a := m) (b := n) (by omega)]
theorem XW (w n : Nat) (hw : w <= 64) : BitVec.ofInt w ((n : Int) - 18446744073709551616) = BitVec.ofNat w n := by
 apply BitVec.eq_of_toNat_eq;simp only [BitVec.toNat_ofInt, BitVec.toNat_ofNat];have hd : ((2 ^ w : Nat) : Int) ∣ 18446744073709551616 := by
   have h : (2 ^ w : Nat) ∣ 2 ^ 64 := Nat.pow_dvd_pow 2 hw;have := Int.ofNat_dvd.2 h;simpa using this
 have e : ((n : Int) - 18446744073709551616) % ((2 ^ w : Nat) : Int) = ((n % 2 ^ w : Nat) : Int) := by
   rw [Int.sub_emod, Int.emod_eq_zero_of_dvd hd, Int.sub_zero, Int.emod_emod_of_dvd _ (Int.dvd_refl _), Int.natCast_emod]
 rw [e]; exact Int.toNat_natCast _
theorem jd1 (k : IntKind) : k.bits <= 64 := by cases k <;> simp [IntKind.bits]
theorem Qj (a w : Nat) : ((a : Nat) : Int) % (2 ^ w : Int) = ((a % 2 ^ w : Nat) : Int) := by
 rw [Int.natCast_emod]; simp
theorem jjA (k : IntKind) (f : Nat -> Nat -> Nat) (g : BitVec k.bits -> BitVec k.bits -> BitVec k.bits) (hg : ∀ n m : Nat, (g (BitVec.ofNat _ n) (BitVec.ofNat _ m)).toNat = f n m % 2 ^ k.bits) (x y : Int) (n m : Nat) (hx : x = (n : Int) - 18446744073709551616) (hy : y = (m : Int) - 18446744073709551616) :
   ((f n m : Nat) : Int) % (2 ^ k.bits : Int) = (((g (BitVec.ofInt k.bits x) (BitVec.ofInt k.bits y)).toNat : Nat) : Int) % (2 ^ k.bits : Int) := by
 rw [hx, hy, XW _ _ (jd1 k), XW _ _ (jd1 k), hg, Qj, Qj, Nat.mod_mod]
def jpe : U -> U -> KU -> Ans := ar (fun n m => Nat.land n m) (QS .and)
theorem jju : yu .and jpe := jcD (g := fun _ x y => x + y) (va _) (fun k x y => ⟨_, by rw [zw _ _ _ (by simp) (by simp)]; rfl, fun n m hx hy => jjA k _ (fun a b => a &&& b) (fun n m => by
 simp only [BitVec.toNat_and, BitVec.toNat_ofNat]; exact (Nat.and_mod_two_pow).symm) x y n m hx hy⟩)
def orF : U -> U -> KU -> Ans := ar (fun n m => Nat.lor n m) (QS .or)
theorem jmz : yu .or orF := jcD (g := fun _ x y => x + y) (va _) (fun k x y => ⟨_, by rw [zw _ _ _ (by simp) (by simp)]; rfl, fun n m hx hy => jjA k _ (fun a b => a ||| b) (fun n m => by
 simp only [BitVec.toNat_or, BitVec.toNat_ofNat]; exact (Nat.or_mod_two_pow).symm) x y n m hx hy⟩)
def jpB : U -> U -> KU -> Ans := ar (fun n m => Nat.xor n m) (QS .xor)
theorem jlo : yu .xor jpB := jcD (g := fun _ x y => x + y) (va _) (fun k x y => ⟨_, by rw [zw _ _ _ (by simp) (by simp)]; rfl, fun n m hx hy => jjA k _ (fun a b => a ^^^ b) (fun n m => by
 simp only [BitVec.toNat_xor, BitVec.toNat_ofNat]; exact (Nat.xor_mod_two_pow).symm) x y n m hx hy⟩)
def jnb (op : BinOp) : U -> U -> KU -> Ans := match op with
 | .add => jpb | .sub => jpv | .mul => jpo | .and => jpe | .or => orF | .xor => jpB
 | .eql => jpi | .neq => jpq | .lss => jpn | .leq => jpm | .gtr => jpk | .geq => jpj
 | op => QS op
theorem jjy (op : BinOp) : yu op (jnb op) := by
 cases op
 case add => exact jjp
 case sub => exact jk3
 case mul => exact jkr
 case and => exact jju
 case or => exact jmz
 case xor => exact jlo
 case eql => exact jjU
 case neq => exact jkv
 case lss => exact jkg
 case leq => exact jkd
 case gtr => exact jj5
 case geq => exact jj4
 all_goals exact va _
end
end Go.Idl
namespace Go.Idl
noncomputable section
set_option maxHeartbeats 40000
def Pu1 (o : IOp) (f : U -> KU -> Ans) : Prop := ∀ u K ts ts', f u K = true -> getAll (je o) ts = some ([toI u], ts') -> ∃ r, (∀ cf σ wr, ja cf o ⟨ts, σ, wr⟩ = some ⟨false, toI r, ⟨ts', σ, wr⟩⟩) /\ K r = true
def Pu2 (o : IOp) (f : U -> U -> KU -> Ans) : Prop := ∀ u v K ts ts', f u v K = true -> getAll (je o) ts = some ([toI u, toI v], ts') -> ∃ r, (∀ cf σ wr, ja cf o ⟨ts, σ, wr⟩ = some ⟨false, toI r, ⟨ts', σ, wr⟩⟩) /\ K r = true
def PuL (o : IOp) (f : U -> KU -> Ans) : Prop := ∀ u K ts ts', f u K = true -> getAll (je o) ts = some (toL u, ts') -> ∃ r, (∀ cf σ wr, ja cf o ⟨ts, σ, wr⟩ = some ⟨false, toI r, ⟨ts', σ, wr⟩⟩) /\ K r = true
theorem j5 {x : Opd} {ts ts' : Ts} {a : IVal} (h : getAll [x] ts = some ([a], ts')) : x.get ts = some (a, ts') := by
 simp only [getAll] at h
 cases hx : x.get ts with
 | none => rw [hx] at h; cases h
 | some p => rw [hx] at h; simp only [zO, zP, List.cons.injEq, and_true] at h; rw [<- h.1, <- h.2]
theorem Yp {x : Opd} {xs : List Opd} {ts ts' : Ts} {a : IVal} {as : List IVal} (h : getAll (x :: xs) ts = some (a :: as, ts')) : ∃ t1, x.get ts = some (a, t1) /\ getAll xs t1 = some (as, ts') := by
 simp only [getAll] at h
 cases hx : x.get ts with
 | none => rw [hx] at h; cases h
 | some p =>
   rw [hx] at h;simp only at h
   cases hy : getAll xs p.2 with
   | none => rw [hy] at h; cases h
   | some q =>
     rw [hy] at h;simp only [zO, zP, List.cons.injEq] at h;exact ⟨p.2, by rw [<- h.1.1], by rw [hy, <- h.1.2, <- h.2]⟩
theorem yc {x : Opd} {xs : List Opd} {ts ts' : Ts} {u l : U} (h : getAll (x :: xs) ts = some (toL (.cn u l), ts')) : ∃ t1, x.get ts = some (toI u, t1) /\ getAll xs t1 = some (toL l, ts') := Yp h
theorem Kt {ts ts' : Ts} {l : List IVal} (h : getAll [] ts = some (l, ts')) : l = [] /\ ts' = ts := by
 simp only [getAll, zO, zP] at h;exact ⟨h.1.symm, h.2.symm⟩
theorem YW (k n : Nat) : toI (.i k (Nat.add n 18446744073709551616)) = .int (kd k) n := by
 have e : ((Nat.add n 18446744073709551616 : Nat) : Int) - 18446744073709551616 = n := by rw [K6]; omega
 rw [qJ, e]
theorem qP {x y : Opd} {ts ts' : Ts} {a b : IVal} (h : getAll [x, y] ts = some ([a, b], ts')) : ∃ t1, x.get ts = some (a, t1) /\ y.get t1 = some (b, ts') := by
 obtain ⟨t1, h1, h2⟩ := Yp h;exact ⟨t1, h1, j5 h2⟩
theorem vz (a b c d : Nat) (x : U) : toI (.o 1 a b c d x) = .ptr a b := rfl
theorem Jt (a b c d : Nat) (x : U) : toI (.o 2 a b c d x) = .rs a b c d := rfl
theorem YX (a b c d : Nat) (x : U) : toI (.o 3 a b c d x) = .map a := rfl
theorem jmP (a b c d : Nat) (x : U) : toI (.o 4 a b c d x) = .yl a := rfl
theorem KN (a b c d : Nat) (x : U) : toI (.o 5 a b c d x) = .iface a (toI x) := rfl
theorem VZ (a b c d : Nat) (x : U) : toI (.o 6 a b c d x) = .pv (a != 0) (toL x) b := rfl
theorem jct (a b c d : Nat) (x : U) : toI (.o 7 a b c d x) = .fn (.func a) ((toL x).take b) ((toL x).drop b) := rfl
theorem kS (a b c d : Nat) (x : U) : toI (.o 16 a b c d x) = .sl a (b != 0) (lst (toT x).g c d) := rfl
theorem zn (a b c d : Nat) (x : U) : toI (.o 17 a b c d x) = .agg (if a = 0 then toL x else (toL x).map un1) := rfl
theorem Qh (a b c d : Nat) (x : U) : toI (.o 18 a b c d x) = .tup (if a = 0 then toL x else (toL x).map un2) := rfl
def mvF (u : U) (K : KU) : Ans := K u
theorem jms (x : Opd) : Pu1 (.mv x) mvF := by
 intro u K ts ts' h hg;have hx := j5 hg;exact ⟨u, fun cf σ wr => by simp only [ja, hx, rv], h⟩
theorem jjz (op : BinOp) (x y : Opd) : Pu2 (.bin op x y) (jnb op) := by
 intro u v K ts ts' h hg;obtain ⟨t1, hx, hy⟩ := qP hg;obtain ⟨r, h1, h2⟩ := jjy op u v K h;exact ⟨r, fun cf σ wr => by simp only [ja, hx, hy, h1, rv], h2⟩
def ZJ (u : U) (K : KU) : Ans := uO u fun t a b c d x => @Bool.rec (fun _ => Ans) (@Bool.rec (fun _ => Ans) (tst (Nat.beq t 7) (K (.o 7 a b c d x))) (K (.o 6 a b c d x)) (Nat.beq t 6)) (K (.o 1 a b c d x)) (Nat.beq t 1)
theorem ZK (x : Opd) : Pu1 (.nilCheck x) ZJ := by
 intro u K ts ts' h hg;have hx := j5 hg;obtain ⟨t, a, b, c, d, y, rfl, h2⟩ := jq h
 rcases jf h2 with ⟨h3, h4⟩ | ⟨_, h4⟩
 . have := zN h3; subst this;exact ⟨_, fun cf σ wr => by simp only [ja, hx, toI, toT, toO, rv], h4⟩
 . rcases jf h4 with ⟨h5, h6⟩ | ⟨_, h6⟩
   . have := zN h5; subst this;exact ⟨_, fun cf σ wr => by simp only [ja, hx, toI, toT, toO, rv], h6⟩
   . obtain ⟨h7, h8⟩ := jb h6;have := zN h7; subst this;exact ⟨_, fun cf σ wr => by simp only [ja, hx, toI, toT, toO, rv], h8⟩
def XG (off : Nat) (u : U) (K : KU) : Ans := uO u fun t a b c d x => @Bool.rec (fun _ => Ans) (tst (Nat.beq t 6) (K (.o 6 a (Nat.add b off) 0 0 x))) (K (.o 1 a (Nat.add b off) 0 0 .nl)) (Nat.beq t 1)
theorem Yl (off : Nat) (x : Opd) : Pu1 (.fieldAddr off x) (XG off) := by
 intro u K ts ts' h hg;have hx := j5 hg;obtain ⟨t, a, b, c, d, y, rfl, h2⟩ := jq h
 rcases jf h2 with ⟨h3, h4⟩ | ⟨_, h4⟩
 . have := zN h3; subst this;exact ⟨_, fun cf σ wr => by simp only [ja, hx, toI, toT, toO, rv]; rfl, h4⟩
 . obtain ⟨h5, h6⟩ := jb h4;have := zN h5; subst this;exact ⟨_, fun cf σ wr => by simp only [ja, hx, toI, toT, toO, rv]; rfl, h6⟩
theorem JM {m : Nat} (h : 18446744073709551616 <= m) : (0 : Int) <= (m : Int) - 18446744073709551616 /\ ((m : Int) - 18446744073709551616).toNat = m - 18446744073709551616 := by omega
def jb3 (esz : Nat) (u i : U) (K : KU) : Ans := uO u fun t a b c d x => uI i fun _ m => @Bool.rec (fun _ => Ans)
 (tst (Nat.beq t 2) (tst (Nat.beq a esz) (tst (Nat.ble 18446744073709551616 m) (fN (Nat.sub m 18446744073709551616) fun j => tst (Nat.blt j d) (fN (Nat.add c (Nat.mul j a)) fun q => K (.o 1 b q 0 0 .nl))))))
 (tst (Nat.ble 18446744073709551616 m) (fN (Nat.sub m 18446744073709551616) fun j => tst (Nat.blt j d) (zJ (atR x (Nat.add c j)) fun cs => tst (Nat.beq (KR cs) esz) (K (.o 6 b 0 0 0 cs))))) (Nat.beq t 16)
theorem jaT (esz : Nat) (x i : Opd) : Pu2 (.idxAddr esz x i) (jb3 esz) := by
 intro u v K ts ts' h hg;obtain ⟨t1, hx, hy⟩ := qP hg;obtain ⟨t, a, b, c, d, y, rfl, h2⟩ := jq h;obtain ⟨k, m, rfl, h3⟩ := jV h2
 rcases jf h3 with ⟨h4, h5⟩ | ⟨_, h5⟩
 . have := zN h4; subst this;obtain ⟨h6, h7⟩ := jb h5;rw [jr] at h7;obtain ⟨h8, h9⟩ := jb h7;rw [zG] at h9;obtain ⟨cs, h10, h11⟩ := qa h9;obtain ⟨h12, h13⟩ := jb h11;obtain ⟨e1, e2⟩ := JM (ble_iff.1 h6);have h8 := jy h8;rw [QO] at h8;have hl := zN h12;rw [kw, h10] at hl;refine ⟨_, fun cf σ wr => ?_, h13⟩;rw [kS] at hx;rw [qJ] at hy;rw [K6, QO, Ye] at h10 hl;simp only [ja, hx, hy, if_pos e1, e2, j0 _ _ _ _ h8, if_pos hl, rv, VZ, h10]
 . obtain ⟨h6, h7⟩ := jb h5;have := zN h6; subst this;obtain ⟨h8, h9⟩ := jb h7;have := zN h8; subst this;obtain ⟨h10, h11⟩ := jb h9;rw [jr] at h11;obtain ⟨h12, h13⟩ := jb h11;rw [jr] at h13;obtain ⟨e1, e2⟩ := JM (ble_iff.1 h10);have h12 := jy h12;rw [QO] at h12;refine ⟨_, fun cf σ wr => ?_, h13⟩;rw [Jt] at hx;rw [qJ] at hy;have e3 : (m : Int) - 18446744073709551616 < d := by omega
   simp only [ja, hx, hy, e1, e3, and_self, if_true, e2, rv];rfl
def Zy (len esz : Nat) (u i : U) (K : KU) : Ans := uO u fun t a b c d x => uI i fun _ m => tst (Nat.ble 18446744073709551616 m) (fN (Nat.sub m 18446744073709551616) fun j => tst (Nat.blt j len) (fN (Nat.add b (Nat.mul j esz)) fun q =>
 @Bool.rec (fun _ => Ans) (tst (Nat.beq t 6) (K (.o 6 a q 0 0 x))) (K (.o 1 a q 0 0 .nl)) (Nat.beq t 1)))
theorem Zz (len esz : Nat) (x i : Opd) : Pu2 (.idxAddrA len esz x i) (Zy len esz) := by
 intro u v K ts ts' h hg;obtain ⟨t1, hx, hy⟩ := qP hg;obtain ⟨t, a, b, c, d, y, rfl, h2⟩ := jq h;obtain ⟨k, m, rfl, h3⟩ := jV h2;obtain ⟨h6, h7⟩ := jb h3;rw [jr] at h7;obtain ⟨h8, h9⟩ := jb h7;rw [jr] at h9;obtain ⟨e1, e2⟩ := JM (ble_iff.1 h6);have h8 := jy h8;rw [QO] at h8;have e3 : (m : Int) - 18446744073709551616 < len := by omega
 rw [qJ] at hy
 rcases jf h9 with ⟨h4, h5⟩ | ⟨_, h5⟩
 . have := zN h4; subst this;rw [vz] at hx;exact ⟨_, fun cf σ wr => by simp only [ja, hx, hy, e1, e3, and_self, if_true, e2, rv]; rfl, h5⟩
 . obtain ⟨h10, h11⟩ := jb h5;have := zN h10; subst this;rw [VZ] at hx;exact ⟨_, fun cf σ wr => by simp only [ja, hx, hy, e1, e3, and_self, if_true, e2, rv]; rfl, h11⟩
def jfb (n : Nat) (K : KU) : Ans := fN (Nat.add n 18446744073709551616) fun c => K (.i 3 c)
theorem K5 {n : Nat} {K : KU} (h : jfb n K = true) : ∃ r, toI r = .int .i64 n /\ K r = true := by
 unfold jfb at h;rw [jr] at h;exact ⟨_, YW 3 n, h⟩
def jmj (u : U) (K : KU) : Ans := uS u fun l _ => jfb l K
theorem jhi (x : Opd) : Pu1 (.lenS x) jmj := by
 intro u K ts ts' h hg;have hx := j5 hg;obtain ⟨l, n, rfl, h2⟩ := qb h;obtain ⟨r, h3, h4⟩ := K5 h2;rw [Ju] at hx;exact ⟨r, fun cf σ wr => by simp only [ja, hx, rv, h3, jB], h4⟩
def jmh (u : U) (K : KU) : Ans := uO u fun t a b c d x => @Bool.rec (fun _ => Ans) (tst (Nat.beq t 2) (jfb d K)) (jfb d K) (Nat.beq t 16)
theorem jhg (x : Opd) : Pu1 (.lenL x) jmh := by
 intro u K ts ts' h hg;have hx := j5 hg;obtain ⟨t, a, b, c, d, y, rfl, h2⟩ := jq h
 rcases jf h2 with ⟨h4, h5⟩ | ⟨_, h5⟩
 . have := zN h4; subst this;obtain ⟨r, h3, h9⟩ := K5 h5;rw [kS] at hx;exact ⟨r, fun cf σ wr => by simp only [ja, hx, rv, h3, jh], h9⟩
 . obtain ⟨h6, h7⟩ := jb h5;have := zN h6; subst this;obtain ⟨r, h3, h8⟩ := K5 h7;rw [Jt] at hx;exact ⟨r, fun cf σ wr => by simp only [ja, hx, rv, h3], h8⟩
def jmc (u i : U) (K : KU) : Ans := uS u fun l n => uI i fun _ m => tst (Nat.ble 18446744073709551616 m) (fN (Nat.sub m 18446744073709551616) fun j => tst (Nat.blt j l)
 (fN (Nat.add (Nat.mod (Nat.div n (Nat.pow 256 (Nat.sub (Nat.sub l 1) j))) 256) 18446744073709551616) fun c => K (.i 4 c)))
theorem jhb (x i : Opd) : Pu2 (.idxS x i) jmc := by
 intro u v K ts ts' h hg;obtain ⟨t1, hx, hy⟩ := qP hg;obtain ⟨l, n, rfl, h2⟩ := qb h;obtain ⟨k, m, rfl, h3⟩ := jV h2;obtain ⟨h6, h7⟩ := jb h3;rw [jr] at h7;obtain ⟨h8, h9⟩ := jb h7;rw [jr] at h9;obtain ⟨e1, e2⟩ := JM (ble_iff.1 h6);have h8 := jy h8;rw [QO] at h8;rw [qJ] at hy;rw [Ju] at hx;refine ⟨_, fun cf σ wr => ?_, h9⟩;simp only [ja, hx, hy, if_pos e1, e2, yt h8, rv];rw [YW];simp only [jb9, jkt, jlu, QO];have e : (UInt8.ofNat (n / 256 ^ (l - 1 - (m - 18446744073709551616)))).toNat = n / 256 ^ (l - 1 - (m - 18446744073709551616)) % 256 := by simp
 rw [e]; rfl
def jgv (has : Bool) (l : U) (dflt : Nat) (K : Nat -> U -> Ans) : Ans := @Bool.rec (fun _ => Ans) (K dflt l) (uC l false fun v l => uI v fun _ m => tst (Nat.ble 18446744073709551616 m) (fN (Nat.sub m 18446744073709551616) fun j => K j l)) has
def yh (x : Opd) : Bool := match x with | .m _ => false | _ => true
theorem Vr {x : Opd} {ts ts' : Ts} {v : IVal} (hp : yh x = true) (h : x.get ts = some (v, ts')) : ts' = ts := by
 cases x with
 | m i => cases hp
 | t i =>
   simp only [Opd.get] at h;split at h
   . cases h; rfl
   . cases h
 | c v => cases h; rfl
theorem vO {x : Option Opd} {l : U} {dflt : Nat} {K : Nat -> U -> Ans} {ts ts' : Ts} {rest : List Opd} (hp : x.all yh = true) (h : jgv x.isSome l dflt K = true) (hg : getAll (x.toList ++ rest) ts = some (toL l, ts')) :
   ∃ n l', qL x ts dflt = some n /\ getAll rest ts = some (toL l', ts') /\ K n l' = true := by
 cases x with
 | none => exact ⟨dflt, l, rfl, hg, h⟩
 | some x =>
   rcases jj (show uC l false _ = true from h) with ⟨_, h2⟩ | ⟨v, l', rfl, h2⟩
   . cases h2
   obtain ⟨k, m, rfl, h3⟩ := jV h2;obtain ⟨h6, h7⟩ := jb h3;rw [jr] at h7;obtain ⟨t1, h8, h9⟩ := Yp (show getAll (x :: rest) ts = some (toI (.i k m) :: toL l', ts') from hg);have := Vr (by simpa using hp) h8; subst this;obtain ⟨e1, e2⟩ := JM (ble_iff.1 h6);rw [qJ] at h8;exact ⟨_, l', by simp only [qL, h8, nat, if_pos e1, e2]; rfl, h9, h7⟩
def jf4 (hl hh : Bool) (l : U) (K : KU) : Ans := uC l false fun u l => uS u fun n x => jgv hl l 0 fun lo l => jgv hh l n fun hi l => tst (Nat.ble lo hi) (tst (Nat.ble hi n)
 (fN (Nat.mod (Nat.div x (Nat.pow 256 (Nat.sub n hi))) (Nat.pow 256 (Nat.sub hi lo))) fun r => fN (Nat.sub hi lo) fun q => K (.s q r)))
theorem jdw (x : Opd) (lo hi : Option Opd) (hpl : lo.all yh = true) (hph : hi.all yh = true) : PuL (.sliceS x lo hi) (jf4 lo.isSome hi.isSome) := by
 intro u K ts ts' h hg
 rcases jj h with ⟨_, h2⟩ | ⟨v, l, rfl, h2⟩
 . cases h2
 obtain ⟨n, y, rfl, h3⟩ := qb h2;obtain ⟨t1, hx, hg1⟩ := yc hg;obtain ⟨a, l1, h4, h5, h6⟩ := vO hpl h3 hg1;obtain ⟨b, l2, h7, h8, h9⟩ := vO (rest := []) hph h6 (by rw [List.append_nil]; exact h5);obtain ⟨h10, h11⟩ := jb h9;obtain ⟨h12, h13⟩ := jb h11;rw [jr, jr] at h13;have h10 := ble_iff.1 h10;have h12 := ble_iff.1 h12;obtain ⟨-, rfl⟩ := Kt h8;rw [Ju] at hx;refine ⟨_, fun cf σ wr => ?_, h13⟩;simp only [ja, hx, h4, jB, h7, if_pos (And.intro h10 h12), rv];rw [Ju, jdF _ _ _ _ h10 h12];rfl
def jhd (a esz lo hi d : Nat) : Nat := @Bool.rec (fun _ => Nat) 0 (@Bool.rec (fun _ => Nat) 0 (@Bool.rec (fun _ => Nat) (@Bool.rec (fun _ => Nat) 0 a (Nat.beq hi 0)) a (Nat.blt lo hi)) (Nat.beq a esz)) (Nat.beq hi d)
theorem jhe (a esz lo hi d : Nat) : jhd a esz lo hi d = Vx a esz lo hi d := by
 unfold jhd Vx
 cases h1 : Nat.beq hi d with
 | false => rw [if_neg (fun h => zE h1 h.1)]
 | true =>
   have h1 := zN h1
   cases h2 : Nat.beq a esz with
   | false => rw [if_neg (fun h => zE h2 h.2.1)]
   | true =>
     have h2 := zN h2
     cases h3 : Nat.blt lo hi with
     | true => rw [if_pos ⟨h1, h2, .inl (by simpa [Nat.blt, Nat.ble_eq, Nat.succ_le_iff] using h3)⟩]
     | false =>
       have h3 : ¬ lo < hi := by intro h; have : Nat.blt lo hi = true := by simpa [Nat.blt, Nat.ble_eq, Nat.succ_le_iff] using h
                                 rw [this] at h3; cases h3
       cases h4 : Nat.beq hi 0 with
       | true => rw [if_pos ⟨h1, h2, .inr (zN h4)⟩]
       | false => rw [if_neg (fun h => by rcases h.2.2 with h5 | h5; exact h3 h5; exact zE h4 h5)]
def jlx (b lo hi d : Nat) : Nat := @Bool.rec (fun _ => Nat) (@Bool.rec (fun _ => Nat) 0 b (Nat.beq d 0)) b (Nat.blt lo hi)
theorem jga (b lo hi d : Nat) : (jlx b lo hi d != 0) = jbF (b != 0) lo hi d := by
 unfold jlx jbF
 cases h3 : Nat.blt lo hi with
 | true =>
   have h3 : lo < hi := by simpa [Nat.blt, Nat.ble_eq, Nat.succ_le_iff] using h3
   simp [h3]
 | false =>
   have h3 : ¬ lo < hi := by intro h; have : Nat.blt lo hi = true := by simpa [Nat.blt, Nat.ble_eq, Nat.succ_le_iff] using h
                             rw [this] at h3; cases h3
   cases h4 : Nat.beq d 0 with
   | true => have := zN h4; simp [this]
   | false => have := zE h4; simp [this, h3]
def sliceLF (esz : Nat) (hl hh hm : Bool) (l : U) (K : KU) : Ans := uC l false fun u l => uO u fun t a b c d x => @Bool.rec (fun _ => Ans)
 (tst (Nat.beq t 2) (@Bool.rec (fun _ => Ans) (jgv hl l 0 fun lo l => jgv hh l d fun hi l => tst (Nat.ble lo hi) (tst (Nat.ble hi d) (tst (Nat.beq a esz)
   (@Bool.rec (fun _ => Ans) (@Bool.rec (fun _ => Ans) (fN (Nat.add c (Nat.mul lo a)) fun q => fN (Nat.sub hi lo) fun r => K (.o 2 a b q r .nl)) (K (.o 16 0 0 0 0 .nl)) (Nat.beq lo hi)) (K (.o 2 a b 0 0 .nl)) (Nat.beq (Nat.add c hi) 0))))) false hm))
 (jgv hl l 0 fun lo l => jgv hh l d fun hi l => jgv hm l d fun mx l => tst (Nat.ble lo hi) (tst (Nat.ble hi d) (tst (headQ esz x c d)
   (@Bool.rec (fun _ => Ans)
     (fN (Nat.add c lo) fun q => fN (Nat.sub hi lo) fun r => fN (jhd a esz lo hi d) fun w => fN (jlx b lo hi d) fun b => K (.o 16 w b q r x))
     (tst (Nat.beq hi mx) (fN (Nat.add c lo) fun q => fN (Nat.sub hi lo) fun r => fN (jlx b lo hi d) fun b => K (.o 16 esz b q r x))) hm)))) (Nat.beq t 16)
where
 /-- All elements are of that many cells. -/
 eszOK (esz : Nat) (x : U) (c d : Nat) : Bool := @Nat.rec (fun _ => Nat -> Bool) (fun _ => true) (fun _ ih i => @Bool.rec (fun _ => Bool) false (ih (Nat.succ i)) (elC esz (atR x i))) d c
 headQ (esz : Nat) (x : U) (c d : Nat) : Bool := @Bool.rec (fun _ => Bool) (elC esz (atR x c)) true (Nat.beq d 0)
 elC (esz : Nat) (u : U) : Bool := (@U.rec (fun _ => Bool) (fun k n => Nat.beq 1 esz) (fun x => Nat.beq 1 esz) (fun l x => Nat.beq 1 esz) (fun t a b c d x _ => @Bool.rec (fun _ => Bool) (Nat.beq 1 esz) (Nat.beq (KR x) esz) (Nat.beq t 17)) (false) (fun _ _ _ _ => false) (fun _ _ _ _ _ _ => false) (fun v => false) (fun _ _ _ _ _ _ _ => false) u)
theorem jeu {esz : Nat} {u : U} (h : sliceLF.elC esz u = true) : (toI u).cells.length = esz := by
 cases u with
 | o t a b c d x =>
   rcases jf (show @Bool.rec (fun _ => Bool) (Nat.beq 1 esz) (Nat.beq (KR x) esz) (Nat.beq t 17) = true from h) with ⟨h1, h2⟩ | ⟨h1, h2⟩
   . have := zN h1; subst this;have h2 := zN h2;rw [kw] at h2;rw [zn];split <;> simp [IVal.cells, h2]
   . have h1 : t ≠ 17 := zE h1;have h2 := zN h2;subst h2;simp only [toI, toT];unfold toO;split <;> first | rfl | (exfalso; exact h1 rfl)
 | i k n => exact zN (show Nat.beq 1 esz = true from h)
 | b x => exact zN (show Nat.beq 1 esz = true from h)
 | s l x => exact zN (show Nat.beq 1 esz = true from h)
 | _ => cases h
theorem jbZ {esz : Nat} {x : U} : ∀ {d c : Nat}, sliceLF.eszOK esz x c d = true -> (lst (toT x).g c d).all (fun v => v.cells.length == esz) = true := by
 intro d
 induction d with
 | zero => intro c _; rfl
 | succ d ih =>
   intro c h
   rcases jf (show @Bool.rec (fun _ => Bool) false (sliceLF.eszOK esz x (c + 1) d) (sliceLF.elC esz (atR x c)) = true from h) with ⟨h1, h2⟩ | ⟨_, h2⟩
   . rw [zG] at h1;have h1 := jeu h1;rw [Ye] at h1;have h3 := ih h2;have e : lst (toT x).g c (d + 1) = gat x c :: lst (toT x).g (c + 1) d := by
       simp only [ZF, List.range_succ_eq_map, List.map_cons, List.map_map, Nat.add_zero]
       congr 1
       apply List.map_congr_left;intro i _;simp only [Function.comp, Nat.succ_eq_add_one]
       congr 1; omega
     rw [e, List.all_cons, h3, h1]; simp
   . cases h2
theorem jg7 {esz : Nat} {x : U} {c d : Nat} (h : sliceLF.headQ esz x c d = true) : Zx esz (lst (toT x).g c d) = true := by
 cases d with
 | zero => rfl
 | succ d =>
   have h1 : sliceLF.elC esz (atR x c) = true := h;rw [zG] at h1;have h1 := jeu h1;rw [Ye] at h1;have e : lst (toT x).g c (d + 1) = gat x c :: lst (toT x).g (c + 1) d := by
     simp only [ZF, List.range_succ_eq_map, List.map_cons, List.map_map, Nat.add_zero]
     congr 1
     apply List.map_congr_left;intro i _;simp only [Function.comp, Nat.succ_eq_add_one]
     congr 1; omega
   rw [e]; simp [Zx, h1]
theorem Kx (f : Nat -> Nat -> IVal) (c d lo hi : Nat) (h1 : lo <= hi) (h2 : hi <= d) : ((lst f c d).take hi).drop lo = lst f (c + lo) (hi - lo) := by
 apply List.ext_getElem?;intro i;rw [List.getElem?_drop, List.getElem?_take]
 by_cases hi' : i < hi - lo
 . rw [if_pos (by omega)];simp only [lst, List.getElem?_map];rw [List.getElem?_range (by omega), List.getElem?_range hi'];simp [Nat.add_assoc]
 . rw [if_neg (by omega), List.getElem?_eq_none (by rw [jh]; omega)]
theorem jdv (esz : Nat) (x : Opd) (lo hi mx : Option Opd) (hpl : lo.all yh = true) (hph : hi.all yh = true) (hpm : mx.all yh = true) : PuL (.sliceL esz x lo hi mx) (sliceLF esz lo.isSome hi.isSome mx.isSome) := by
 intro u K ts ts' h hg
 rcases jj h with ⟨_, h2⟩ | ⟨v, l, rfl, h2⟩
 . cases h2
 obtain ⟨t, a, b, c, d, y, rfl, h3⟩ := jq h2;obtain ⟨t1, hx, hg1⟩ := yc hg
 rcases jf h3 with ⟨h4, h5⟩ | ⟨_, h5⟩
 . have := zN h4; subst this;rw [kS] at hx;obtain ⟨n1, l1, h6, h7, h8⟩ := vO hpl h5 hg1;obtain ⟨n2, l2, h9, h10, h11⟩ := vO hph h8 h7;obtain ⟨n3, l3, h12, h13, h14⟩ := vO (rest := []) hpm h11 (by rw [List.append_nil]; exact h10);obtain ⟨-, rfl⟩ := Kt h13;obtain ⟨h15, h16⟩ := jb h14;obtain ⟨h17, h18⟩ := jb h16;obtain ⟨h19, h20⟩ := jb h18;have h15 := ble_iff.1 h15;have h17 := ble_iff.1 h17;have h19 := jg7 h19
   cases mx with
   | none =>
     have h20 : (fN (Nat.add c n1) fun q => fN (Nat.sub n2 n1) fun r => fN (jhd a esz n1 n2 d) fun w => fN (jlx b n1 n2 d) fun b => K (.o 16 w b q r y)) = true := h20;rw [jr, jr, jr, jr, jhe] at h20;refine ⟨_, fun cf σ wr => ?_, h20⟩;simp only [ja, hx, h6, jh, h9, h12, h15, h17, h19, and_self, if_true, rv, kS, Kx _ _ _ _ _ h15 h17, jga];rfl
   | some mx =>
     obtain ⟨h21, h22⟩ := jb (show tst (Nat.beq n2 n3) (fN (Nat.add c n1) fun q => fN (Nat.sub n2 n1) fun r => fN (jlx b n1 n2 d) fun b => K (.o 16 esz b q r y)) = true from h20);have e1 := zN h21;rw [jr, jr, jr] at h22;refine ⟨_, fun cf σ wr => ?_, h22⟩;simp only [ja, hx, h6, jh, h9, h12, h15, h17, h19, and_self, if_true, rv, kS, Kx _ _ _ _ _ h15 h17, jga];rw [if_pos e1]; rfl
 . obtain ⟨h4, h50⟩ := jb h5;have := zN h4; subst this;clear h5;rw [Jt] at hx
   cases mx with
   | some mx => cases h50
   | none =>
     have h5 : (jgv lo.isSome l 0 fun lo l => jgv hi.isSome l d fun hi l => tst (Nat.ble lo hi) (tst (Nat.ble hi d) (tst (Nat.beq a esz)
       (@Bool.rec (fun _ => Ans) (@Bool.rec (fun _ => Ans) (fN (Nat.add c (Nat.mul lo a)) fun q => fN (Nat.sub hi lo) fun r => K (.o 2 a b q r .nl)) (K (.o 16 0 0 0 0 .nl)) (Nat.beq lo hi)) (K (.o 2 a b 0 0 .nl)) (Nat.beq (Nat.add c hi) 0))))) = true := h50
     obtain ⟨n1, l1, h6, h7, h8⟩ := vO hpl h5 hg1;obtain ⟨n2, l2, h9, h10, h11⟩ := vO (rest := []) hph h8 (by rw [List.append_nil]; exact (by simpa using h7));obtain ⟨-, rfl⟩ := Kt h10;obtain ⟨h15, h16⟩ := jb h11;obtain ⟨h17, h18⟩ := jb h16;obtain ⟨h19, h20⟩ := jb h18;have h15 := ble_iff.1 h15;have h17 := ble_iff.1 h17;have h19 := zN h19
     rcases jf h20 with ⟨h21, h22⟩ | ⟨h21, h22⟩
     . have e0 : c + n2 = 0 := zN h21;refine ⟨_, fun cf σ wr => ?_, h22⟩;simp only [ja, hx, h6, h9, h15, h17, h19, and_self, if_true, rv];rw [if_pos e0, <- h19]; rfl
     have e0 : ¬ (c + n2 = 0) := zE h21
     rcases jf h22 with ⟨h21, h22⟩ | ⟨h21, h22⟩
     . have e1 := zN h21;refine ⟨_, fun cf σ wr => ?_, h22⟩;simp only [ja, hx, h6, h9, h15, h17, h19, and_self, if_true, rv];rw [if_neg e0, if_pos e1]; rfl
     . have e1 := zE h21;rw [jr, jr] at h22;refine ⟨_, fun cf σ wr => ?_, h22⟩;simp only [ja, hx, h6, h9, h15, h17, h19, and_self, if_true, rv];rw [if_neg e0, if_neg e1, <- h19]; rfl
end
end Go.Idl
namespace Go.Idl
noncomputable section
set_option maxHeartbeats 40000
def jm9 (a : Nat) (v : U) : U := @Bool.rec (fun _ => U) (jjh v) v (Nat.beq a 0)
theorem jjr (a : Nat) (l : List IVal) (v : U) (i : Nat) (h : l[i]? = some (toI v)) : (if a = 0 then l else l.map un1)[i]? = some (toI (jm9 a v)) := by
 unfold jm9;rw [vV]
 by_cases ha : a = 0
 . subst ha; simpa using h
 . have : ¬ Nat.beq a 0 = true := fun e => ha (zN e);rw [if_neg ha, if_neg this, V3, List.getElem?_map, h]; rfl
def jeF (off : Nat) (u : U) (K : KU) : Ans := uO u fun t a b c d x => tst (Nat.beq t 17) (jkB off x fun v => frc (jm9 a v) K)
theorem jcY (off : Nat) (x : Opd) : Pu1 (.field off none x) (jeF off) := by
 intro u K ts ts' h hg;have hx := j5 hg;obtain ⟨t, a, b, c, d, y, rfl, h2⟩ := jq h;obtain ⟨h3, h4⟩ := jb h2;have := zN h3; subst this;obtain ⟨v, h5, h6⟩ := Jk h4;rw [yb] at h6;rw [zn] at hx;exact ⟨_, fun cf σ wr => by simp only [ja, hx, kx, jjr a _ v off h5, rv], h6⟩
theorem jgB (a : Nat) (l : List IVal) (r : U) (off n : Nat) (h : toL r = (l.drop off).take n) : (((if a = 0 then l else l.map un1).drop off).take n) = (if a = 0 then toL r else (toL r).map un1) := by
 split
 . exact h.symm
 . rw [h, List.map_take, List.map_drop]
def jeG (off n : Nat) (u : U) (K : KU) : Ans := uO u fun t a b c d x => tst (Nat.beq t 17) (jaJ off x fun y => jbG n y fun r => K (.o 17 a 0 0 0 r))
theorem jjs (a : Nat) (l : List IVal) : (if a = 0 then l else l.map un1).length = l.length := by split <;> simp
theorem jcZ (off n : Nat) (x : Opd) : Pu1 (.field off (some n) x) (jeG off n) := by
 intro u K ts ts' h hg;have hx := j5 hg;obtain ⟨t, a, b, c, d, y, rfl, h2⟩ := jq h;obtain ⟨h3, h4⟩ := jb h2;have := zN h3; subst this;obtain ⟨z, h5, h6, h7⟩ := yE h4;obtain ⟨r, h8, h9, h10⟩ := yR h7;rw [zn] at hx;rw [h5] at h8 h9;have hl : off + n <= (if a = 0 then toL y else (toL y).map un1).length := by rw [jjs]; simp at h9; omega
 refine ⟨_, fun cf σ wr => ?_, h10⟩;simp only [ja, hx, kx];rw [if_pos hl, jgB a _ r off n h8];rfl
def jb1 (off : Nat) (n : Option Nat) : U -> KU -> Ans := @Option.rec Nat (fun _ => U -> KU -> Ans) (jeF off) (fun n => jeG off n) n
theorem Vn (off : Nat) (n : Option Nat) (x : Opd) : Pu1 (.field off n x) (jb1 off n) := by
 cases n with
 | none => exact jcY off x
 | some n => exact jcZ off n x
def jma (len esz : Nat) (n : Option Nat) (u i : U) (K : KU) : Ans := uI i fun _ m => tst (Nat.ble 18446744073709551616 m) (fN (Nat.sub m 18446744073709551616) fun j => tst (Nat.blt j len) (fN (Nat.mul j esz) fun q => jb1 q n u K))
theorem jha (len esz : Nat) (n : Option Nat) (x i : Opd) : Pu2 (.idxA len esz n x i) (jma len esz n) := by
 intro u v K ts ts' h hg;obtain ⟨t1, hx, hy⟩ := qP hg;obtain ⟨k, m, rfl, h3⟩ := jV h;obtain ⟨h4, h5⟩ := jb h3;rw [jr] at h5;obtain ⟨h6, h7⟩ := jb h5;rw [jr] at h7;obtain ⟨r, h8, h9⟩ := Vn _ n (.c (toI u)) u K ts ts h7 rfl;have h8 := h8 (fun _ _ _ => none) [] [];obtain ⟨e1, e2⟩ := JM (ble_iff.1 h4);have h6 := jy h6;rw [QO] at h6 h8;rw [jfk] at h8;rw [qJ] at hy;have hlt : (m : Int) - 18446744073709551616 < len := by omega
 refine ⟨r, fun cf σ wr => ?_, h9⟩;simp only [ja, Opd.get] at h8;split at h8
 . rename_i cs t heq;simp only [zO, zP] at heq;obtain ⟨hu, -⟩ := heq;split at h8
   . rename_i w hw;simp only [rv, zO, Res.mk.injEq, true_and] at h8;simp only [ja, hx, hu, hy, if_pos (And.intro e1 hlt), e2, hw, rv, h8.1]
   . cases h8
 . cases h8
def jhz (tn ta tb : Nat) (neg : Bool) (u : U) (K : KU) : Ans := uO u fun t _ _ _ _ _ => @Bool.rec (fun _ => Ans) (@Bool.rec (fun _ => Ans) (tst (Nat.beq t tb) (K (.b neg))) (K (.b neg)) (Nat.beq t ta)) (K (.b (jcb neg))) (Nat.beq t tn)
theorem KA {tn ta tb : Nat} {neg : Bool} {u : U} {K : KU} (h : jhz tn ta tb neg u K = true) : ∃ t a b c d x, u = .o t a b c d x /\ ((t = tn /\ K (.b (true != neg)) = true) \/ ((t = ta \/ t = tb) /\ K (.b (false != neg)) = true)) := by
 obtain ⟨t, a, b, c, d, x, rfl, h2⟩ := jq h;refine ⟨t, a, b, c, d, x, rfl, ?_⟩
 rcases jf h2 with ⟨h3, h4⟩ | ⟨_, h4⟩
 . exact Or.inl ⟨zN h3, by cases neg <;> exact h4⟩
 . rcases jf h4 with ⟨h5, h6⟩ | ⟨_, h6⟩
   . exact Or.inr ⟨Or.inl (zN h5), by cases neg <;> exact h6⟩
   . obtain ⟨h7, h8⟩ := jb h6;exact Or.inr ⟨Or.inr (zN h7), by cases neg <;> exact h8⟩
def jiZ (neg : Bool) (k : Nat) : U -> KU -> Ans := match k with
 | 0 => jhz 8 1 6 neg
 | 1 => jhz 9 5 5 neg
 | 2 => jhz 10 7 7 neg
 | 3 => jhz 11 3 3 neg
 | _ => fun _ _ => false
theorem jeW (neg : Bool) (k : Nat) (x : Opd) : Pu1 (.isnil neg k x) (jiZ neg k) := by
 intro u K ts ts' h hg;have hx := j5 hg
 match k with
 | 0 =>
   obtain ⟨t, a, b, c, d, y, rfl, h2⟩ := KA (show jhz 8 1 6 neg u K = true from h)
   rcases h2 with ⟨rfl, h3⟩ | ⟨rfl | rfl, h3⟩
   all_goals exact ⟨_, fun cf σ wr => by simp only [ja, hx, toI, toT, toO, isNil, rv], h3⟩
 | 1 =>
   obtain ⟨t, a, b, c, d, y, rfl, h2⟩ := KA (show jhz 9 5 5 neg u K = true from h)
   rcases h2 with ⟨rfl, h3⟩ | ⟨rfl | rfl, h3⟩
   all_goals exact ⟨_, fun cf σ wr => by simp only [ja, hx, toI, toT, toO, isNil, rv], h3⟩
 | 2 =>
   obtain ⟨t, a, b, c, d, y, rfl, h2⟩ := KA (show jhz 10 7 7 neg u K = true from h)
   rcases h2 with ⟨rfl, h3⟩ | ⟨rfl | rfl, h3⟩
   all_goals exact ⟨_, fun cf σ wr => by simp only [ja, hx, toI, toT, toO, isNil, rv], h3⟩
 | 3 =>
   obtain ⟨t, a, b, c, d, y, rfl, h2⟩ := KA (show jhz 11 3 3 neg u K = true from h)
   rcases h2 with ⟨rfl, h3⟩ | ⟨rfl | rfl, h3⟩
   all_goals exact ⟨_, fun cf σ wr => by simp only [ja, hx, toI, toT, toO, isNil, rv], h3⟩
 | k + 4 => cases h
def jph (neg : Bool) (u v : U) (K : KU) : Ans := uB u fun x => uB v fun y => K (.b (@Bool.rec (fun _ => Bool) (@Bool.rec (fun _ => Bool) (jcb neg) neg y) (@Bool.rec (fun _ => Bool) neg (jcb neg) y) x))
theorem jjT (neg : Bool) (x y : Opd) : Pu2 (.eqb neg x y) (jph neg) := by
 intro u v K ts ts' h hg;obtain ⟨t1, hx, hy⟩ := qP hg;obtain ⟨a, rfl, h2⟩ := Kj h;obtain ⟨b, rfl, h3⟩ := Kj h2;rw [Xx] at hx hy;refine ⟨_, fun cf σ wr => ?_, h3⟩;simp only [ja, hx, hy, rv];cases a <;> cases b <;> cases neg <;> rfl
def jkG (l : U) (K : KU) : Ans := uC l false fun c l => uC l false fun a l => uC l false fun b _ => uB c fun t => @Bool.rec (fun _ => Ans) (K b) (K a) t
theorem jhM (c a b : Opd) (ha : yh a = true) (hb : yh b = true) : PuL (.pick c a b) jkG := by
 intro u K ts ts' h hg
 rcases jj h with ⟨_, h2⟩ | ⟨x, l, rfl, h2⟩
 . cases h2
 rcases jj h2 with ⟨_, h3⟩ | ⟨y, l1, rfl, h3⟩
 . cases h3
 rcases jj h3 with ⟨_, h4⟩ | ⟨z, l2, rfl, h4⟩
 . cases h4
 obtain ⟨t, rfl, h5⟩ := Kj h4;obtain ⟨t1, g1, g2⟩ := yc hg;obtain ⟨t2, g3, g4⟩ := yc g2;obtain ⟨t3, g5, g6⟩ := yc g4;have := Vr ha g3; subst this;have := Vr hb g5; subst this;obtain ⟨-, rfl⟩ := Kt g6;rw [Xx] at g1
 cases t with
 | true => exact ⟨_, fun cf σ wr => by simp only [ja, g1, g3, rv], h5⟩
 | false => exact ⟨_, fun cf σ wr => by simp only [ja, g1, g5, rv], h5⟩
def frB (b : Bool) (K : Bool -> Ans) : Ans := @Bool.rec (fun _ => (Bool -> Ans) -> Ans) (fun K => K false) (fun K => K true) b K
theorem jl6 (b : Bool) (K : Bool -> Ans) : frB b K = K b := by cases b <;> rfl
def frU (u : U) : (U -> Ans) -> Ans := @U.rec (fun _ => (U -> Ans) -> Ans)
 (fun k n K => fN k fun k => fN n fun n => K (.i k n)) (fun x K => frB x fun x => K (.b x)) (fun l x K => fN l fun l => fN x fun x => K (.s l x))
 (fun t a b c d _ ih K => fN t fun t => fN a fun a => fN b fun b => fN c fun c => fN d fun d => ih fun x => K (.o t a b c d x))
 (fun K => K .nl) (fun _ _ i1 i2 K => i1 fun x => i2 fun y => K (.cn x y)) (fun _ _ _ i1 i2 i3 K => i1 fun x => i2 fun l => i3 fun r => K (.nd x l r))
 (fun v K => K (.z v)) (fun st ps p q e pd _ K => K (.lp st ps p q e pd)) u
theorem jiT : ∀ (u : U) (K : U -> Ans), frU u K = K u := by
 intro u
 induction u with
 | i k n => intro K; show fN k (fun k => fN n fun n => K (.i k n)) = _; rw [jr, jr]
 | b x => intro K; exact jl6 _ _
 | s l x => intro K; show fN l (fun l => fN x fun x => K (.s l x)) = _; rw [jr, jr]
 | o t a b c d x ih => intro K; show fN t (fun t => fN a fun a => fN b fun b => fN c fun c => fN d fun d => frU x fun x => K (.o t a b c d x)) = _; rw [jr, jr, jr, jr, jr, ih]
 | nl => intro K; rfl
 | cn x y i1 i2 => intro K; show frU x (fun x => frU y fun y => K (.cn x y)) = _; rw [i1, i2]
 | nd x l r i1 i2 i3 => intro K; show frU x (fun x => frU l fun l => frU r fun r => K (.nd x l r)) = _; rw [i1, i2, i3]
 | z v => intro K; rfl
 | lp st ps p q e pd _ => intro K; rfl
def YO (op : IOp) (l : U) (K : KU) : Ans := @Option.rec Res (fun _ => Ans) false (fun r => @Bool.rec (fun _ => Ans) (frU (rep r.v) K) false r.pan) (ja (fun _ _ _ => none) (op.with (toL l)) ⟨ts0, [], []⟩)
def XQ : IOp -> Bool
 | .pur _ _ => true
 | .un _ _ => true
 | .conv _ _ => true
 | .eqa _ _ _ => true
 | .boxv _ => true
 | .vOf _ _ _ => true
 | .minmax _ _ => true
 | _ => false
theorem jkP {o : IOp} (hp : XQ o = true) {cf cf' : jo} {ts : Ts} {σ : List IObj} {wr : List (Nat × Bool)} {r : Res} (h : ja cf' o ⟨ts, [], []⟩ = some r) : r.pan = false /\ ja cf o ⟨ts, σ, wr⟩ = some ⟨false, r.v, ⟨r.s.ts, σ, wr⟩⟩ := by
 cases o <;> simp only [XQ] at hp <;> first | (cases hp; done) | skip
 all_goals
   simp only [ja, rv] at h ⊢
   repeat' split at h
   all_goals first | (cases h; done) | (simp only [zO] at h; subst h; refine ⟨rfl, ?_⟩; simp_all; done) | (simp only [zO] at h; subst h; refine ⟨rfl, ?_⟩; simp_all; omega)
theorem jcn (o : IOp) (hp : XQ o = true) (hx : okX o = true) : PuL o (YO o) := by
 intro u K ts ts' h hg;unfold YO at h
 cases hs : ja (fun _ _ _ => none) (o.with (toL u)) ⟨ts0, [], []⟩ with
 | none => rw [hs] at h; cases h
 | some r =>
   rw [hs] at h;have h : @Bool.rec (fun _ => Ans) (frU (rep r.v) K) false r.pan = true := h;rw [jiT] at h
   rcases jf h with ⟨_, h2⟩ | ⟨h1, h2⟩
   . cases h2
   . refine ⟨rep r.v, fun cf σ wr => ?_, h2⟩;letI : Globs := ⟨fun _ => none⟩;have h3 := VX (ts := ts) hx hg hs;obtain ⟨_, h4⟩ := jkP hp (cf := cf) (σ := σ) (wr := wr) h3;rw [zy];exact h4
def jbD (op : IOp) (u : U) (K : KU) : Ans := YO op (.cn u .nl) K
theorem jim (o : IOp) (hp : XQ o = true) (hx : okX o = true) : Pu1 o (jbD o) := fun u K ts ts' h hg => jcn o hp hx (.cn u .nl) K ts ts' h hg
def jo8 (op : IOp) (u v : U) (K : KU) : Ans := YO op (.cn u (.cn v .nl)) K
def jpr (u : U) (K : KU) : Ans := uB u fun x => K (.b (jcb x))
theorem jkx (x : Opd) : Pu1 (.un .not x) jpr := by
 intro u K ts ts' h hg;have hx := j5 hg;obtain ⟨a, rfl, h2⟩ := Kj h;rw [Xx] at hx;refine ⟨_, fun cf σ wr => ?_, h2⟩;simp only [ja, hx, unI, rv, Xx, VB]
def jpp (u : U) (K : KU) : Ans := uI u fun k n => fN (V9 k (Nat.sub 18446744073709551616 (Nat.mod n 18446744073709551616))) fun c => K (.i k c)
theorem jku (x : Opd) : Pu1 (.un .neg x) jpp := by
 intro u K ts ts' h hg;have hx := j5 hg;obtain ⟨k, n, rfl, h2⟩ := jV h;rw [jr] at h2;rw [qJ] at hx;refine ⟨_, fun cf σ wr => ?_, h2⟩;simp only [ja, hx, unI, rv];show some (Res.mk false (IVal.int (kd k) _) _) = some (Res.mk false (jgt k _) _);rw [JI k _ (0 - ((n : Int) - 18446744073709551616)) (yG _ _ _ (by rw [QO, jb9]; omega))]
def unF (op : UnOp) : U -> KU -> Ans := match op with
 | .not => jpr
 | .neg => jpp
 | op => jbD (.un op (.c ju))
theorem jf6 (o o' : IOp) (hp : XQ o = true) (hx : okX o = true) (hw : ∀ l, o.with l = o'.with l \/ l.length ≠ 1) : Pu1 o (jbD o') := by
 intro u K ts ts' h hg;have h' : jbD o u K = true := by
   unfold jbD YO at h ⊢
   rcases hw (toL (.cn u .nl)) with e | e
   . rw [e]; exact h
   . exact absurd rfl e
 exact jim o hp hx u K ts ts' h' hg
theorem jmS (op : UnOp) (x : Opd) : Pu1 (.un op x) (unF op) := by
 cases op
 case not => exact jkx x
 case neg => exact jku x
 all_goals
   refine jf6 _ _ rfl rfl fun l => ?_
   rcases l with _ | ⟨a, _ | ⟨b, l⟩⟩
   . exact Or.inr (by simp)
   . exact Or.inl rfl
   . exact Or.inr (by simp)
def jlT (k : Nat) (u : U) (K : KU) : Ans := uI u fun _ n => fN (V9 k n) fun c => K (.i k c)
theorem jgM (k : IntKind) (x : Opd) : Pu1 (.conv (.int k) x) (jlT (kc k)) := by
 intro u K ts ts' h hg;have hx := j5 hg;obtain ⟨k', n, rfl, h2⟩ := jV h;rw [jr] at h2;rw [qJ] at hx;refine ⟨_, fun cf σ wr => ?_, h2⟩;simp only [ja, hx, rv];show some (Res.mk false (IVal.int k _) _) = some (Res.mk false (jgt (kc k) _) _);have e := JI (kc k) n ((n : Int) - 18446744073709551616) (yG _ _ _ (by omega));rw [e, jhc]
def jmK (u : U) (K : KU) : Ans := uS u fun l x => K (.s l x)
theorem jh7 (x : Opd) : Pu1 (.conv .same x) jmK := by
 intro u K ts ts' h hg;have hx := j5 hg;obtain ⟨l, n, rfl, h2⟩ := qb h;rw [Ju] at hx;exact ⟨_, fun cf σ wr => by simp only [ja, hx, rv]; rfl, h2⟩
def jfa (mx : Bool) (l : U) (K : KU) : Ans := uC l false fun u l => uC l false fun v l => uC l (uI u fun k n => uI v fun k' m => tst (Nat.beq k k') (@Bool.rec (fun _ => Ans)
 (@Bool.rec (fun _ => Ans) (K (.i k n)) (K (.i k m)) (Nat.blt m n)) (@Bool.rec (fun _ => Ans) (K (.i k n)) (K (.i k m)) (Nat.blt n m)) mx)) fun _ _ => false
theorem jc9 (mx : Bool) (xs : List Opd) : PuL (.minmax mx xs) (jfa mx) := by
 intro u K ts ts' h hg
 rcases jj h with ⟨_, h2⟩ | ⟨x, l, rfl, h2⟩
 . cases h2
 rcases jj h2 with ⟨_, h3⟩ | ⟨y, l1, rfl, h3⟩
 . cases h3
 rcases jj h3 with ⟨rfl, h4⟩ | ⟨z, l2, rfl, h4⟩
 . obtain ⟨k, n, rfl, h5⟩ := jV h4;obtain ⟨k', m, rfl, h6⟩ := jV h5;obtain ⟨h7, h8⟩ := jb h6;have := zN h7; subst this;have hg' : getAll xs ts = some ([.int (kd k) ((n : Int) - 18446744073709551616), .int (kd k) ((m : Int) - 18446744073709551616)], ts') := hg
   rcases jf h8 with ⟨h9, h10⟩ | ⟨h9, h10⟩
   . subst h9
     rcases jf h10 with ⟨h11, h12⟩ | ⟨h11, h12⟩
     . have := jy h11;refine ⟨_, fun cf σ wr => ?_, h12⟩;simp only [ja, hg', if_true, rv];rw [if_pos (by omega)]; rfl
     . have := vG h11;refine ⟨_, fun cf σ wr => ?_, h12⟩;simp only [ja, hg', if_true, rv];rw [if_neg (by omega)]; rfl
   . subst h9
     rcases jf h10 with ⟨h11, h12⟩ | ⟨h11, h12⟩
     . have := jy h11;refine ⟨_, fun cf σ wr => ?_, h12⟩;simp only [ja, hg', if_true, rv, Bool.false_eq_true, if_false];rw [if_pos (by omega)]; rfl
     . have := vG h11;refine ⟨_, fun cf σ wr => ?_, h12⟩;simp only [ja, hg', if_true, rv, Bool.false_eq_true, if_false];rw [if_neg (by omega)]; rfl
 . cases h4
def jb6 (t : Nat) (u : U) (K : KU) : Ans := tst (ntU u) (frc (V4 u) fun w => K (.o 5 t 0 0 0 w))
theorem jaY (t : Nat) (x : Opd) : Pu1 (.mkIface t x) (jb6 t) := by
 intro u K ts ts' h hg;have hx := j5 hg;obtain ⟨h1, h2⟩ := jb h;rw [yb] at h2;refine ⟨_, fun cf σ wr => ?_, h2⟩;simp only [ja, hx, rv];rw [if_pos (Qr h1), KN, qc]
def jmq (f n : Nat) (l : U) (K : KU) : Ans := tst (zD ntU l) (je2 V4 l fun r => K (.o 7 f n 0 0 r))
theorem jhv (f : Nat) (xs ys : List Opd) : PuL (.mkFn (.func f) xs ys) (jmq f xs.length) := by
 intro u K ts ts' h hg;letI : Globs := ⟨fun _ => none⟩;obtain ⟨h1, h2⟩ := jb h;obtain ⟨r, h3, h4⟩ := vI qc h2;have hg' : getAll (xs ++ ys) ts = some (toL u, ts') := hg;rw [kG] at hg';obtain ⟨v1, t1, v2, g1, g2, e⟩ := hg';have hl := j8 g1;have hnt := qp (fun {w} hw => Qr hw) h1;rw [e, List.all_append] at hnt;refine ⟨_, fun cf σ wr => ?_, h4⟩;simp only [ja, g1, g2, rv];rw [if_pos hnt, jct, h3, e, List.map_append, <- hl];simp
end
end Go.Idl
namespace Go.Idl
noncomputable section
set_option maxHeartbeats 40000
def jjY (ps : List (Nat × Nat)) : U -> U -> KU -> Ans := @List.rec (Nat × Nat) (fun _ => U -> U -> KU -> Ans) (fun _ cs K => K (.o 17 0 0 0 0 cs))
 (fun p _ ih l cs K => uC l false fun v l => zJ (V4 v) fun w => tst (Nat.beq (KR w) p.2) (tst (zD y4 w) (jmD p.1 w cs fun cs' => ih l cs' K))) ps
theorem jc0 : ∀ {ps : List (Nat × Nat)} {l cs : U} {K : KU}, jjY ps l cs K = true -> ps.length <= (toL l).length -> ∃ r, jaP (toL cs) ((ps.zip (toL l)).map fun p => (p.1.1, p.1.2, un2 p.2)) = some (toL r) /\ K (.o 17 0 0 0 0 r) = true := by
 intro ps
 induction ps with
 | nil => intro l cs K h _; exact ⟨cs, rfl, h⟩
 | cons p ps ih =>
   intro l cs K h hl
   rcases jj (show uC l false (fun v l => zJ (V4 v) fun w => tst (Nat.beq (KR w) p.2) (tst (zD y4 w) (jmD p.1 w cs fun cs' => jjY ps l cs' K))) = true from h) with ⟨_, h2⟩ | ⟨v, l1, rfl, h2⟩
   . cases h2
   obtain ⟨w, h3, h4⟩ := qa h2;obtain ⟨h5, h6⟩ := jb h4;obtain ⟨h7, h8⟩ := jb h6;obtain ⟨cs', h9, h10, h11⟩ := ZS h8;rw [jn] at hl;obtain ⟨r, h12, h13⟩ := ih h11 (by simpa using hl);refine ⟨r, ?_, h13⟩;have h5 := zN h5;have h7 := qp (fun {x} hx => vE hx) h7;rw [kw] at h5;rw [h3, qc] at h5 h7 h9 h10;rw [jn, List.zip_cons_cons, List.map_cons, jaP];rw [if_pos ⟨h5, by rw [<- h5]; exact h10, h7⟩, <- h9];exact h12
def Jo (ps : List (Nat × Nat × Opd)) : List (Nat × Nat) := ps.map fun p => (p.1, p.2.1)
def jiM (z : U) (ps : List (Nat × Nat)) (l : U) (K : KU) : Ans := tst (zD ntU l) (jjY ps l z K)
theorem jd2 (zs : List IVal) (parts : List (Nat × Nat × Opd)) : PuL (.build zs parts) (jiM (Qt zs) (Jo parts)) := by
 intro u K ts ts' h hg;letI : Globs := ⟨fun _ => none⟩;obtain ⟨h1, h2⟩ := jb h;have hg' : getAll (parts.map (·.2.2)) ts = some (toL u, ts') := hg;have hl := j8 hg';obtain ⟨r, h3, h4⟩ := jc0 h2 (by simp only [Jo, List.length_map] at hl ⊢; omega);refine ⟨_, fun cf σ wr => ?_, h4⟩;have e : ∀ (ps : List (Nat × Nat × Opd)) (us : List IVal), ((Jo ps).zip us).map (fun p => (p.1.1, p.1.2, un2 p.2)) = (ps.zip us).map fun p => (p.1.1, p.1.2.1, un2 p.2) := by
   intro ps
   induction ps with
   | nil => intro us; rfl
   | cons p ps ih => intro us; cases us with
     | nil => rfl
     | cons u us => simp only [Jo, List.map_cons, List.zip_cons_cons] at ih ⊢; rw [ih us]
 rw [e, qD] at h3;simp only [ja, hg', rv];rw [if_pos (qp (fun {x} hx => Qr hx) h1)];simp only [h3];rfl
def jlM (u : U) (K : KU) : Ans := zJ u fun l => tst (zD y4 l) (je2 jjh l fun r => fN (@Bool.rec (fun _ => Nat) 1 0 (zD jdL l)) fun q => K (.o 6 q 0 0 0 r))
theorem jiS (b : Bool) : ((@Bool.rec (fun _ => Nat) 1 0 b : Nat) != 0) = !b := by cases b <;> rfl
theorem jgH (x : Opd) : Pu1 (.boxv x) jlM := by
 intro u K ts ts' h hg;have hx := j5 hg;obtain ⟨l, h1, h2⟩ := qa h;obtain ⟨h3, h4⟩ := jb h2;obtain ⟨r, h5, h6⟩ := vI V3 h4;rw [jr] at h6;have h3 := qp (fun {x} hx => vE hx) h3;rw [h1] at h3 h5;refine ⟨_, fun cf σ wr => ?_, h6⟩;simp only [ja, hx, rv];rw [if_pos h3, VZ, jiS, h5, zF Jd, h1];rfl
theorem ZQ : ∀ (vs cs : List IVal), vs.length <= cs.length -> ji cs 0 vs = vs ++ cs.drop vs.length := by
 intro vs
 induction vs with
 | nil => intro cs _; rfl
 | cons v vs ih =>
   intro cs h
   cases cs with
   | nil => simp at h
   | cons c cs =>
     show ji ((c :: cs).set 0 v) (0 + 1) vs = _;rw [List.set_cons_zero, zb, ih cs (by simpa using h)];rfl
theorem jeI {l t : U} {K : U -> Ans} (h : KY l t 0 K = true) : ∃ t', lst (toT t').g 0 (toL l).length = toL l /\ K t' = true := by
 obtain ⟨t', h1, h2⟩ := XI (toL l).length h;refine ⟨t', ?_, h2⟩;rw [h1, ZQ _ _ (by rw [jh]; exact Nat.le_refl _), List.drop_of_length_le (by rw [jh]; exact Nat.le_refl _), List.append_nil]
def Yh (esz : Nat) (l : U) (K : KU) : Ans := fN (KR l) fun n => tst (Nat.ble n 65536) (tst (zD (sliceLF.elC esz) l) (tst (zD ntU l) (tst (Nat.ble (Nat.mul n esz) 16777216)
 (je2 V4 l fun r => KY r .nl 0 fun t => fN (@Bool.rec (fun _ => Nat) 1 0 (zD jdL l)) fun q => K (.o 16 esz q 0 n t)))))
theorem jet {esz : Nat} {l : U} (h : zD (sliceLF.elC esz) l = true) : (toL l).all (fun v => v.cells.length == esz) = true := qp (g := fun v => v.cells.length == esz) (fun {u} hu => by have := jeu hu; simpa using this) h
theorem jaE (esz : Nat) (xs : List Opd) : PuL (.buildSl esz xs) (Yh esz) := by
 intro u K ts ts' h hg;unfold Yh at h;rw [jr] at h;obtain ⟨h1, h⟩ := jb h;obtain ⟨h2, h⟩ := jb h;obtain ⟨h3, h⟩ := jb h;obtain ⟨h4, h⟩ := jb h;obtain ⟨r, h5, h⟩ := vI qc h;obtain ⟨t, h6, h7⟩ := jeI h;rw [jr] at h7;have h1 := ble_iff.1 h1;have h4 := ble_iff.1 h4;rw [jfk] at h4;rw [kw] at h1 h4 h7;have h2 := jet h2;have h3 := qp (fun {x} hx => Qr hx) h3;rw [h5, List.length_map] at h6;refine ⟨_, fun cf σ wr => ?_, h7⟩;have hg' : getAll xs ts = some (toL u, ts') := hg;simp only [ja, hg', rv];rw [if_pos ⟨h1, h2, h3, h4⟩, kS, jiS, h6, zF Jd];rfl
def jjK (x : U) (n i j : Nat) (t : U) (K : U -> Ans) : Ans := @Nat.rec (fun _ => Nat -> Nat -> U -> (U -> Ans) -> Ans) (fun _ _ t K => K t)
 (fun _ ih i j t K => frc (V4 (atR x i)) fun w => jdN w t j fun t' => ih (Nat.succ i) (Nat.succ j) t' K) n i j t K
theorem jcN {x : U} : ∀ {n i j : Nat} {t : U} {K : U -> Ans}, jjK x n i j t K = true -> ∃ t', (∀ k, gat t' k = if j <= k /\ k < j + n then un2 (gat x (i + (k - j))) else gat t k) /\ K t' = true := by
 intro n
 induction n with
 | zero => intro i j t K h; exact ⟨t, fun k => by rw [if_neg (by omega)], h⟩
 | succ n ih =>
   intro i j t K h;have h : frc (V4 (atR x i)) (fun w => jdN w t j (fun t' => jjK x n (i + 1) (j + 1) t' K)) = true := h;rw [yb, Kg] at h;obtain ⟨t', h1, h2⟩ := ih h;refine ⟨t', fun k => ?_, h2⟩;rw [h1, Ka, qc, zG, Ye]
   by_cases e : k = j
   . subst e;rw [if_neg (by omega), if_pos rfl, if_pos (by omega), Nat.sub_self, Nat.add_zero]
   . rw [if_neg e]
     by_cases e2 : j + 1 <= k /\ k < j + 1 + n
     . rw [if_pos e2, if_pos (by omega)]
       congr 2; omega
     . rw [if_neg e2, if_neg (by omega)]
def jkA (x : U) (c d : Nat) : Bool := @Nat.rec (fun _ => Nat -> Bool) (fun _ => true) (fun _ ih i => @Bool.rec (fun _ => Bool) false (ih (Nat.succ i)) (jdL (atR x i))) d c
theorem Yw (x : U) (c d : Nat) : lst (toT x).g c (d + 1) = gat x c :: lst (toT x).g (c + 1) d := by
 simp only [ZF, List.range_succ_eq_map, List.map_cons, List.map_map, Nat.add_zero]
 congr 1
 apply List.map_congr_left;intro i _;simp only [Function.comp, Nat.succ_eq_add_one]
 congr 1; omega
theorem jhD {x : U} : ∀ (d c : Nat), jkA x c d = (lst (toT x).g c d).all nr2 := by
 intro d
 induction d with
 | zero => intro c; rfl
 | succ d ih =>
   intro c;show @Bool.rec (fun _ => Bool) false (jkA x (c + 1) d) (jdL (atR x c)) = _;rw [vV, Yw, List.all_cons, ih, Jd, zG, Ye];cases nr2 (gat x c) <;> simp
theorem jkh {t x y : U} {c d c' d' : Nat} (h : ∀ k, gat t k = if c + d <= k /\ k < c + d + d' then un2 (gat y (c' + (k - (c + d)))) else gat x k) : lst (toT t).g c (d + d') = lst (toT x).g c d ++ (lst (toT y).g c' d').map un2 := by
 apply List.ext_getElem?;intro i
 by_cases h1 : i < d
 . rw [zL (by rw [jh]; exact h1), j0 _ _ _ _ (by omega), j0 _ _ _ _ h1, h, if_neg (by omega)]
 . rw [zR (by rw [jh]; omega), jh, List.getElem?_map]
   by_cases h2 : i < d + d'
   . rw [j0 _ _ _ _ h2, j0 _ _ _ _ (by omega), h, if_pos (by omega)];simp only [Option.map_some]
     congr 3; omega
   . rw [List.getElem?_eq_none (by rw [jh]; omega), List.getElem?_eq_none (by rw [jh]; omega)]; rfl
def jmY (r d n : Nat) (nr : Bool) : Nat := @Bool.rec (fun _ => Nat) (@Bool.rec (fun _ => Nat) 1 (@Bool.rec (fun _ => Nat) r 0 (Nat.beq d 0)) nr) r (Nat.beq n 0)
theorem jdW {r d n : Nat} {nr : Bool} {xs ys : List IVal} (h1 : xs.length = d) (h2 : ys.length = n) (h3 : nr = ys.all nr2) : (jmY r d n nr != 0) = jiK (r != 0) xs ys := by
 unfold jmY jiK
 cases h4 : Nat.beq n 0 with
 | true =>
   have h4 := zN h4;have : ys = [] := List.length_eq_zero_iff.1 (by omega);simp [this]
 | false =>
   have h4 := zE h4;have h5 : ys.isEmpty = false := by cases ys with | nil => exact absurd h2.symm h4 | cons y ys => rfl
   rw [h5, <- h3]
   cases nr with
   | false => simp
   | true =>
     cases h6 : Nat.beq d 0 with
     | true =>
       have h6 := zN h6;have : xs = [] := List.length_eq_zero_iff.1 (by omega);simp [this]
     | false =>
       have h6 := zE h6;have h7 : xs.isEmpty = false := by cases xs with | nil => exact absurd h1.symm h6 | cons y ys => rfl
       simp [h7]
theorem jdC {t a b c d : Nat} {x : U} (h : ¬t = 16) {o : Nat} {r : Bool} {xs : List IVal} : ¬toI (.o t a b c d x) = .sl o r xs := by
 intro e;simp only [toI, toT, toO] at e;split at e <;> simp_all
def jm1 (esz : Nat) (u : U) : U := (@U.rec (fun _ => U) (fun k n => .i k n) (fun x => .b x) (fun l x => .s l x) (fun t a b c d x _ => @Bool.rec (fun _ => U) (.o t a b c d x) (@Bool.rec (fun _ => U) (@Bool.rec (fun _ => U) (.o t a b c d x) (.o 16 esz b c 0 x) (Nat.beq d 0)) (.o t a b c d x) (Nat.beq b 0)) (Nat.beq t 16)) (.nl) (fun x y _ _ => .cn x y) (fun x l r _ _ _ => .nd x l r) (fun v => .z (nilOwn esz v)) (fun a b c d e f _ => .lp a b c d e f) u)
theorem Yz (esz : Nat) (u : U) : toI (jm1 esz u) = nilOwn esz (toI u) := by
 cases u with
 | o t a b c d x =>
   show toI (@Bool.rec (fun _ => U) (.o t a b c d x) (@Bool.rec (fun _ => U) (@Bool.rec (fun _ => U) (.o t a b c d x) (.o 16 esz b c 0 x) (Nat.beq d 0)) (.o t a b c d x) (Nat.beq b 0)) (Nat.beq t 16)) = _
   cases h : Nat.beq t 16 with
   | false =>
     show toI (.o t a b c d x) = _;have ht := zE h;unfold nilOwn;split
     . rename_i h2
       exfalso
       exact jdC ht h2
     . rfl
   | true =>
     have := zN h; subst this
     cases h2 : Nat.beq b 0 with
     | true =>
       have := zN h2; subst this;show toI (.o 16 a 0 c d x) = _;rw [kS]; rfl
     | false =>
       have hb := zE h2;have hb' : (b != 0) = true := by simpa using hb
       cases h3 : Nat.beq d 0 with
       | true =>
         have := zN h3; subst this;show toI (.o 16 esz b c 0 x) = _;rw [kS, kS, hb']; rfl
       | false =>
         have hd := zE h3;show toI (.o 16 a b c d x) = _;rw [kS]
         cases hl : lst (toT x).g c d with
         | nil => have := congrArg List.length hl; rw [jh] at this; exact absurd this hd
         | cons y ys => cases (b != 0) <;> rfl
 | i k n => rfl
 | b x => rfl
 | s l x => rfl
 | z v => rfl
 | _ => rfl
def jlH (esz bytes : Nat) (u v : U) (K : KU) : Ans := uO (jm1 esz u) fun t own r c d x => tst (Nat.beq t 16) (tst (Nat.beq own esz) (tst (Nat.blt 0 esz) (uO v fun t' _ _ c' d' y => tst (Nat.beq t' 16) (fN (Nat.add d d') fun n =>
 tst (Nat.ble (Nat.mul n bytes) 1099511627776) (tst (Nat.ble n 1099511627776) (tst (sliceLF.eszOK esz y c' d') (jjK y d' c' (Nat.add c d) x fun z => fN (jmY r d d' (jkA y c' d')) fun q => K (.o 16 esz q c n z))))))))
theorem jgD (esz bytes : Nat) (sv x : Opd) : Pu2 (.append false false esz bytes sv x) (jlH esz bytes) := by
 intro u v K ts ts' h hg;obtain ⟨t1, hx, hy⟩ := qP hg;obtain ⟨t, own, r, c, d, y, hu, h⟩ := jq h;obtain ⟨h1, h⟩ := jb h;obtain ⟨h2, h⟩ := jb h;obtain ⟨h3, h⟩ := jb h;obtain ⟨t', a', b', c', d', y', rfl, h⟩ := jq h;obtain ⟨h4, h⟩ := jb h;rw [jr] at h;obtain ⟨h5, h⟩ := jb h;obtain ⟨h6, h⟩ := jb h;obtain ⟨h7, h⟩ := jb h;obtain ⟨z, h8, h9⟩ := jcN h;rw [jr] at h9;have := zN h1; subst this;have := zN h2; subst this;have := zN h4; subst this;have h3 := jy h3;have h5 := ble_iff.1 h5;have h6 := ble_iff.1 h6;rw [jfk, K6] at h5;rw [K6] at h6 h8 h9;have h7 := jbZ h7;rw [kS] at hy;have hb : nilOwn own (toI u) = _ := (Yz own u).symm.trans (by rw [hu, kS]);refine ⟨_, fun cf σ wr => ?_, h9⟩;simp only [ja, hx, hy, hb, qr, if_pos h7, jh, rv];rw [if_pos ⟨trivial, h3, h5, h6⟩, kS, jkh h8];simp only [Bool.false_eq_true, if_false];rw [jdW (jh _ _ _) (jh _ _ _) (jhD d' c')]
def jbU (l x : Nat) (n i j : Nat) (t : U) (K : U -> Ans) : Ans := @Nat.rec (fun _ => Nat -> Nat -> U -> (U -> Ans) -> Ans) (fun _ _ t K => K t)
 (fun _ ih i j t K => fN (Nat.add (Nat.mod (Nat.div x (Nat.pow 256 (Nat.sub (Nat.sub l 1) i))) 256) 18446744073709551616) fun b => jdN (.i 4 b) t j fun t' => ih (Nat.succ i) (Nat.succ j) t' K) n i j t K
theorem jnc (q : Nat) : toI (.i 4 (Nat.add (Nat.mod q 256) 18446744073709551616)) = .int .u8 ((UInt8.ofNat q).toNat : Nat) := by
 have h : (UInt8.ofNat q).toNat = q % 256 := by simp
 have e : ((Nat.add (Nat.mod q 256) 18446744073709551616 : Nat) : Int) - 18446744073709551616 = ((UInt8.ofNat q).toNat : Nat) := by
   rw [h, K6, jb9]; omega
 rw [qJ, e]; rfl
theorem Vb {l x : Nat} : ∀ {n i j : Nat} {t : U} {K : U -> Ans}, jbU l x n i j t K = true -> i + n <= l -> ∃ t', (∀ k, gat t' k = if j <= k /\ k < j + n then (match (qG l x)[i + (k - j)]? with | some b => .int .u8 b.toNat | none => ju) else gat t k) /\ K t' = true := by
 intro n
 induction n with
 | zero => intro i j t K h _; exact ⟨t, fun k => by rw [if_neg (by omega)], h⟩
 | succ n ih =>
   intro i j t K h hl;have h : fN (Nat.add (Nat.mod (Nat.div x (Nat.pow 256 (Nat.sub (Nat.sub l 1) i))) 256) 18446744073709551616) (fun b => jdN (.i 4 b) t j fun t' => jbU l x n (i + 1) (j + 1) t' K) = true := h;rw [jr, Kg] at h;obtain ⟨t', h1, h2⟩ := ih h (by omega);refine ⟨t', fun k => ?_, h2⟩;rw [h1, Ka, jnc]
   by_cases e : k = j
   . subst e;rw [if_neg (by omega), if_pos rfl, if_pos (by omega), Nat.sub_self, Nat.add_zero, yt (by omega), jkt, jlu, QO, QO]
   . rw [if_neg e]
     by_cases e2 : j + 1 <= k /\ k < j + 1 + n
     . rw [if_pos e2, if_pos (by omega)]
       congr 2; omega
     . rw [if_neg e2, if_neg (by omega)]
theorem ZE {t x : U} {c d l n : Nat} (h : ∀ k, gat t k = if c + d <= k /\ k < c + d + l then (match (qG l n)[0 + (k - (c + d))]? with | some b => .int .u8 b.toNat | none => ju) else gat x k) : lst (toT t).g c (d + l) = lst (toT x).g c d ++ (qG l n).map fun b => IVal.int .u8 b.toNat := by
 apply List.ext_getElem?;intro i
 by_cases h1 : i < d
 . rw [zL (by rw [jh]; exact h1), j0 _ _ _ _ (by omega), j0 _ _ _ _ h1, h, if_neg (by omega)]
 . rw [zR (by rw [jh]; omega), jh, List.getElem?_map]
   by_cases h2 : i < d + l
   . rw [j0 _ _ _ _ h2, h, if_pos (by omega)];have e : 0 + (c + i - (c + d)) = i - d := by omega
     rw [e, yt (by omega)]; rfl
   . rw [List.getElem?_eq_none (by rw [jh]; omega), List.getElem?_eq_none (by rw [jB]; omega)]; rfl
def jiN (u : U) (K : KU) : Ans := uS u fun l x => jbU l x l 0 0 .nl fun t => K (.o 16 0 0 0 l t)
theorem jd3 (x : Opd) : Pu1 (.conv .bytes x) jiN := by
 intro u K ts ts' h hg;have hx := j5 hg;obtain ⟨l, n, rfl, h2⟩ := qb h;obtain ⟨t', h3, h4⟩ := Vb h2 (by omega);rw [Ju] at hx;refine ⟨_, fun cf σ wr => ?_, h4⟩;have e := ZE (t := t') (x := .nl) (c := 0) (d := 0) (l := l) (n := n) (fun k => by first | (rw [h3]; done) | (rw [h3]; simp));rw [Nat.zero_add] at e;simp only [ja, hx, rv];rw [kS, e];simp [lst]
def jlJ (esz bytes : Nat) (u v : U) (K : KU) : Ans := uO (jm1 esz u) fun t own r c d x => tst (Nat.beq t 16) (tst (Nat.beq own esz) (tst (Nat.beq esz 1) (uS v fun l y => fN (Nat.add d l) fun n =>
 tst (Nat.ble (Nat.mul n bytes) 1099511627776) (tst (Nat.ble n 1099511627776) (jbU l y l 0 (Nat.add c d) x fun z => fN (jmY r d l true) fun q => K (.o 16 esz q c n z))))))
theorem jgF (esz bytes : Nat) (sv x : Opd) : Pu2 (.append false true esz bytes sv x) (jlJ esz bytes) := by
 intro u v K ts ts' h hg;obtain ⟨t1, hx, hy⟩ := qP hg;obtain ⟨t, own, r, c, d, y, hu, h⟩ := jq h;obtain ⟨h1, h⟩ := jb h;obtain ⟨h2, h⟩ := jb h;obtain ⟨h3, h⟩ := jb h;obtain ⟨l, n, rfl, k1⟩ := qb h;rw [jr] at k1;obtain ⟨h5, k2⟩ := jb k1;obtain ⟨h6, k3⟩ := jb k2;obtain ⟨z, h8, h9⟩ := Vb k3 (by omega);rw [jr] at h9;have := zN h1; subst this;have := zN h2; subst this;have := zN h3; subst this;have h5 := ble_iff.1 h5;have h6 := ble_iff.1 h6;rw [jfk, K6] at h5;rw [K6] at h6 h8 h9;rw [Ju] at hy;have hb : nilOwn 1 (toI u) = _ := (Yz 1 u).symm.trans (by rw [hu, kS]);refine ⟨_, fun cf σ wr => ?_, h9⟩;simp only [ja, hx, hy, hb, qr, if_true, List.length_map, jB, jh, rv];rw [if_pos ⟨trivial, Nat.one_pos, h5, h6⟩, kS, ZE h8];simp only [Bool.false_eq_true, if_false];have e1 : true = ((qG l n).map fun b => IVal.int .u8 b.toNat).all nr2 := by simp [nr2, nr1, nr0]
 have e2 : ((qG l n).map fun b => IVal.int .u8 b.toNat).map un2 = (qG l n).map fun b => IVal.int .u8 b.toNat := by simp [un2, un1, Function.comp_def]
 rw [e2, jdW (jh _ _ _) (by simp [jB]) e1]
def jk6 (x : U) (n i acc : Nat) (K : Nat -> Ans) : Ans := @Nat.rec (fun _ => Nat -> Nat -> (Nat -> Ans) -> Ans) (fun _ acc K => K acc)
 (fun _ ih i acc K => uI (atR x i) fun k c => tst (Nat.beq k 4) (fN (Nat.add (Nat.mul acc 256) (Nat.mod (Nat.sub c 18446744073709551616) 256)) fun a => ih (Nat.succ i) a K)) n i acc K
theorem jdB {x : U} : ∀ {n i acc m : Nat} {K : Nat -> Ans}, jk6 x n i acc K = true -> ∃ a s, zl (lst (toT x).g i n) = some s /\ qG (m + n) a = qG m acc ++ s /\ K a = true := by
 intro n
 induction n with
 | zero => intro i acc m K h; exact ⟨acc, [], rfl, by simp, h⟩
 | succ n ih =>
   intro i acc m K h;obtain ⟨k, c, e, h2⟩ := jV (show uI (atR x i) (fun k c => tst (Nat.beq k 4) (fN (Nat.add (Nat.mul acc 256) (Nat.mod (Nat.sub c 18446744073709551616) 256)) fun a => jk6 x n (i + 1) a K)) = true from h);obtain ⟨h3, h4⟩ := jb h2;rw [jr] at h4;have := zN h3; subst this;obtain ⟨a, s, h5, h6, h7⟩ := ih (m := m + 1) h4;have e2 : gat x i = .int .u8 ((c : Int) - 18446744073709551616) := by rw [<- Ye, <- zG, e]; rfl
   refine ⟨a, UInt8.ofNat ((c : Int) - 18446744073709551616).toNat :: s, ?_, ?_, h7⟩
   . rw [Yw, e2]; simp only [zl, h5]
   . have e3 : m + (n + 1) = m + 1 + n := by omega
     rw [e3, h6, qH, K6, jfk, jb9, QO];have e4 : (acc * 256 + (c - 18446744073709551616) % 256) / 256 = acc := by omega
     have e5 : UInt8.ofNat (acc * 256 + (c - 18446744073709551616) % 256) = UInt8.ofNat ((c : Int) - 18446744073709551616).toNat := jan (by omega);rw [e4, e5, zS]; rfl
def jk5 (u : U) (K : KU) : Ans := uO u fun t _ _ c d x => tst (Nat.beq t 16) (jk6 x d c 0 fun a => K (.s d a))
theorem jdA {u : U} {K : KU} (h : jk5 u K = true) : ∃ a r xs s x, toI u = .sl a r xs /\ zl xs = some s /\ toI x = .str s /\ K x = true := by
 obtain ⟨t, a, b, c, d, y, rfl, h⟩ := jq h;obtain ⟨h1, h⟩ := jb h;have := zN h1; subst this;obtain ⟨q, s, h2, h3, h4⟩ := jdB (m := 0) h;refine ⟨_, _, _, s, .s d q, kS _ _ _ _ _, h2, ?_, h4⟩;rw [Ju];rw [Nat.zero_add] at h3;rw [h3]; rfl
theorem jir (x : Opd) : Pu1 (.conv .text x) jk5 := by
 intro u K ts ts' h hg;have hx := j5 hg;obtain ⟨a, r, xs, s, y, h1, h2, h3, h4⟩ := jdA h;rw [h1] at hx;exact ⟨y, fun cf σ wr => by simp only [ja, hx, h2, h3, rv], h4⟩
end
end Go.Idl
