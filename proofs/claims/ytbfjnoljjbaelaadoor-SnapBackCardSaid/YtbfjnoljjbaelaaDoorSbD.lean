/- SnapBack: what the ideal machine makes of its functions, part D; no conditions. -/
import Derived.Test.YtbfjnoljjbaelaaDoorSbC
set_option linter.unusedSectionVars false
set_option linter.unusedVariables false
set_option linter.unusedSimpArgs false
namespace Go.Idl.Sb
open Go Go.Idl Go.Idl.En
abbrev U8s (bs : List Nat) : List UInt8 := bs.map UInt8.ofNat
theorem jg9 {n : Nat} (h : n < 256) : (UInt8.ofNat n).toNat = n := by rw [UInt8.toNat_ofNat']; omega
theorem jdM : ∀ (k m a : Nat), val (U8s (be m k)) a = a * 256 ^ k + m % 256 ^ k
 | 0, m, a => by simp [be, val, Nat.mod_one]
 | k + 1, m, a => by
   rw [U8s, be, List.map_cons, val]
   have ih := jdM k m (a * 256 + (UInt8.ofNat (m / 256 ^ k % 256)).toNat)
   rw [U8s] at ih
   rw [ih]
   have e : (UInt8.ofNat (m / 256 ^ k % 256)).toNat = m / 256 ^ k % 256 := jg9 (Nat.mod_lt _ (by decide))
   rw [e, Nat.mod_pow_succ, Nat.add_mul, Nat.pow_succ, Nat.mul_comm (256 ^ k) (m / 256 ^ k % 256), Nat.mul_assoc a, Nat.mul_comm (256 ^ k) 256]
   omega
theorem jde : ∀ (xs : List UInt8) (a : Nat), U8s (be (val xs a) xs.length) = xs
 | [], a => rfl
 | x :: xs, a => by
   rw [val, List.length_cons, be, U8s, List.map_cons]
   have ih := jde xs (a * 256 + x.toNat)
   rw [U8s] at ih
   rw [ih]
   congr 1
   have e : val xs (a * 256 + x.toNat) / 256 ^ xs.length = a * 256 + x.toNat := by
     rw [Xa, Nat.mul_comm, Nat.mul_add_div (Nat.pow_pos (by decide)), Nat.div_eq_of_lt (jbz xs), Nat.add_zero]
   rw [e]
   have : (a * 256 + x.toNat) % 256 = x.toNat := by have := x.toNat_lt; omega
   rw [this]; exact UInt8.ofNat_toNat
theorem jf1 {t k n L : Nat} (hk : k = L + 1) (hn : n < 2 ^ (8 * k - 2)) (ht : t < 4) : (n + t * 2 ^ (8 * k - 2)) / 256 ^ L % 256 / 64 = t /\ n + t * 2 ^ (8 * k - 2) < 256 ^ k := by
 subst hk
 have k1 : 8 * (L + 1) - 2 = 6 + 8 * L := by omega
 have k2 : 2 ^ (6 + 8 * L) = 64 * 256 ^ L := by rw [Nat.pow_add, Nat.pow_mul]
 rw [k1, k2] at hn ⊢
 have hp : 0 < 256 ^ L := Nat.pow_pos (by decide)
 have e : n + t * (64 * 256 ^ L) = 256 ^ L * (t * 64) + n := by rw [<- Nat.mul_assoc, Nat.mul_comm (t * 64)]; omega
 rw [e, Nat.mul_add_div hp]
 have h1 : n / 256 ^ L < 64 := by rw [Nat.div_lt_iff_lt_mul hp]; exact hn
 refine ⟨by generalize n / 256 ^ L = q at *; clear e hn hp k1 k2; omega, ?_⟩
 rw [Nat.pow_succ, Nat.mul_comm (256 ^ L) (t * 64)]
 have h3 : t * 64 * 256 ^ L <= 192 * 256 ^ L := Nat.mul_le_mul_right _ (by omega)
 omega
theorem jeL {n : Nat} (h : n < 4611686018427387904) (rest : List UInt8) : JM (U8s (nb n) ++ rest) = (n, (nb n).length, 0) := by
 have ht := V1 n
 have hb := V0 h
 have hl := VD n
 generalize hst : srt n = t at *
 obtain ⟨L, hL⟩ : ∃ L, 2 ^ t = L + 1 := ⟨2 ^ t - 1, by have : 0 < 2 ^ t := Nat.pow_pos (by decide); omega⟩
 obtain ⟨f1, f2⟩ := jf1 hL hb ht
 have en : nb n = (n + t * 2 ^ (8 * 2 ^ t - 2)) / 256 ^ L % 256 :: be (n + t * 2 ^ (8 * 2 ^ t - 2)) L := by
   rw [nb, lay, hst, hL, be]
 have ev : val (U8s (nb n)) 0 = n + t * 2 ^ (8 * 2 ^ t - 2) := by
   rw [nb, lay, hst, jdM, Nat.zero_mul, Nat.zero_add, Nat.mod_eq_of_lt f2]
 have hlen : (U8s (nb n)).length = 2 ^ t := by rw [U8s, List.length_map, hl]
 generalize hm : n + t * 2 ^ (8 * 2 ^ t - 2) = m at *
 rw [hl]
 have e1 : U8s (nb n) ++ rest = UInt8.ofNat (m / 256 ^ L % 256) :: (U8s (be m L) ++ rest) := by rw [en]; rfl
 have e2 : (U8s (nb n) ++ rest).take (2 ^ t) = U8s (nb n) := by rw [<- hlen, List.take_append_of_le_length (Nat.le_refl _), List.take_length]
 have e3 : (UInt8.ofNat (m / 256 ^ L % 256)).toNat / 64 = t := by
   have : (UInt8.ofNat (m / 256 ^ L % 256)).toNat = m / 256 ^ L % 256 := jg9 (Nat.mod_lt _ (by decide))
   rw [this, f1]
 rw [e1] at e2
 rw [e1, JM]
 simp only [e3, e2, ev]
 have hlen2 : ¬ (U8s (be m L) ++ rest).length + 1 < 2 ^ t := by
   rw [List.length_append, U8s, List.length_map, ZV]; omega
 rw [if_neg hlen2]
 have em : m % 2 ^ (8 * 2 ^ t - 2) = n := by rw [<- hm, Nat.add_mul_mod_self_right, Nat.mod_eq_of_lt hb]
 rw [em, if_pos hst]
theorem jeI {xs : List UInt8} {n many : Nat} (h : JM xs = (n, many, 0)) : n < 4611686018427387904 /\ many = (nb n).length /\ U8s (nb n) <+: xs := by
 have hlt := jaS xs
 rw [h] at hlt
 refine ⟨hlt, ?_⟩
 cases xs with
 | nil => cases h
 | cons x xs =>
   rw [JM] at h
   generalize ht : x.toNat / 64 = t at h
   simp only [] at h
   split at h
   . cases h
   . rename_i hl
     obtain ⟨v1, v2⟩ := KA ht hl
     split at h
     . rename_i hs
       injection h with h1 h2
       injection h2 with h2 _
       rw [h1] at hs v1
       rw [VD, hs]
       refine ⟨h2.symm, ?_⟩
       have tl : ((x :: xs).take (2 ^ t)).length = 2 ^ t := by rw [List.length_take, List.length_cons]; omega
       have e : U8s (nb n) = (x :: xs).take (2 ^ t) := by
         have bv := jde ((x :: xs).take (2 ^ t)) 0
         rw [tl] at bv
         rw [nb, lay, hs, Nat.add_comm, Nat.mul_comm, v1]
         exact bv
       rw [e]
       exact List.take_prefix _ _
     . cases h
theorem jfh {n : Int} : KY (zz n) = n := by
 unfold zz KY
 split <;> split <;> omega
theorem jfk {m : Nat} : zz (KY m) = m := by
 unfold KY zz
 split <;> split <;> omega
end Go.Idl.Sb
namespace Go.Idl.Sb
open Go Go.Idl Go.Idl.En
/-- What was laid is what was read so far. -/
structure Rel (s : List UInt8) (l : La) (w : Re) : Prop where
 far : l.far = false
 er : w.er = none
 pos : w.pos = l.bs.length
 pre : U8s l.bs <+: s
theorem ZP (a b : List Nat) : U8s (a ++ b) = U8s a ++ U8s b := List.map_append
theorem Qv {s : List UInt8} {l : La} {w : Re} (R : Rel s l w) {bs : List Nat} : U8s (l.bs ++ bs) <+: s ↔ U8s bs <+: s.drop w.pos := by
 obtain ⟨r, hr⟩ := R.pre
 have hp := R.pos
 have hl : (U8s l.bs).length = w.pos := by rw [U8s, List.length_map, hp]
 rw [ZP, <- hr, <- hl, List.drop_left]
 exact List.prefix_append_right_inj _
theorem jgT {s : List UInt8} {l : La} {w : Re} {n : Nat} (R : Rel s l w) (hn : n < 4611686018427387904) (hp : U8s (l.bs ++ nb n) <+: s) : w.u s = (⟨w.pos + (nb n).length, none⟩, n) := by
 obtain ⟨r, hr⟩ := (Qv R).1 hp
 rw [Re.u, R.er, <- hr, jeL hn]
 simp [Option.isSome, Re.fail, R.er]
theorem jdK {s : List UInt8} {l : La} {w : Re} (R : Rel s l w) (he : (w.u s).1.er = none) : (w.u s).2 < 4611686018427387904 /\ U8s (l.bs ++ nb (w.u s).2) <+: s /\ (w.u s).1 = ⟨w.pos + (nb (w.u s).2).length, none⟩ := by
 have hc := jaQ (s.drop w.pos)
 rw [Re.u, R.er] at he ⊢
 simp only [Option.isSome, Bool.false_eq_true, if_false] at he ⊢
 generalize hr : JM (s.drop w.pos) = r at *
 obtain ⟨n, many, c⟩ := r
 have c0 : c = 0 := by
   rcases hc with h | h | h
   . exact h
   . have h : c = 3 := h
     subst h; simp [Re.fail, R.er] at he
   . have h : c = 5 := h
     subst h; simp [Re.fail, R.er] at he
 subst c0
 obtain ⟨h1, h2, h3⟩ := jeI hr
 refine ⟨h1, (Qv R).2 h3, ?_⟩
 simp only [] at he
 rw [he, h2]
theorem jhX {s : List UInt8} {w : Re} (h : w.er.isSome = true) : w.u s = (w, 0) := by rw [Re.u, h]; rfl
theorem yW {w : Re} {is : Bool} {a : Nat} (h : w.er.isSome = true) : w.within is a = w := by rw [Re.within, h]; rfl
/-- A fault stays. -/
theorem jfa {s : List UInt8} {x : Nat} {k : K} {w : Re} {v : IVal} (h : w.er.isSome = true) : (kg (DR s x) k w v).1 = w := by
 have hu := jhX (s := s) h
 have hw : ∀ n lo hi, (Re.whole s w n lo hi).1 = w := fun n lo hi => by rw [Re.whole, hu]; exact yW h
 have hn : ∀ n m, (Re.number s w n m).1 = w := fun n m => by rw [Re.number, hu]; exact yW h
 have hb : (w.b s).1 = w := by rw [Re.b, h]; rfl
 have ht : (w.t s).1 = w := by rw [Re.t, h]; rfl
 unfold kg
 split
 . rename_i n; exact hw n (-1152921504606846976) 1152921504606846976
 . rename_i n; exact hw n (-2147483648) 2147483647
 . exact hb
 . exact ht
 . rename_i n; exact hn n.toNat 65535
 . rename_i n; exact hn n.toNat 1152921504606846975
 . rfl
theorem KE {s : List UInt8} {x : Nat} {k : K} {w : Re} {v : IVal} (h : (kg (DR s x) k w v).1.er = none) : w.er = none := by
 cases he : w.er with
 | none => rfl
 | some e =>
   rw [jfa (by rw [he]; rfl), he] at h; cases h
theorem jfZ {a b c : Bool} (h : (a || (b || c)) = false) : b = false /\ c = false := by cases a <;> cases b <;> cases c <;> simp_all
theorem QP {s : List UInt8} {l : La} {w : Re} {n : Nat} (R : Rel s l w) : U8s (l.bs ++ [n]) <+: s ↔ s[w.pos]? = some (UInt8.ofNat n) := by
 rw [Qv R, U8s, List.map_cons, List.map_nil, <- List.head?_drop]
 cases s.drop w.pos with
 | nil => simp
 | cons c cs => simp [eq_comm]
/-- A number within. -/
theorem jgx {s : List UInt8} {l : La} {w : Re} {n m0 most : Nat} (R : Rel s l w) (hm : most < 4611686018427387904) (hf : (l.number n most).far = false) (hp : U8s (l.number n most).bs <+: s) : ∃ w', Re.number s w m0 most = (w', n) /\ Rel s (l.number n most) w' /\ n <= most := by
 rw [La.number, R.far, Bool.false_or, decide_eq_false_iff_not] at hf
 have hn : n <= most := by omega
 have e : n % 4611686018427387904 = n := Nat.mod_eq_of_lt (by omega)
 simp only [La.number, e] at hp ⊢
 have hu := jgT R (by omega) hp
 have d : decide ((n : Int) <= most) = true := decide_eq_true (by omega)
 rw [Re.number, hu]
 simp only [d, Re.within, Bool.or_true, if_true]
 refine ⟨_, rfl, ⟨?_, rfl, ?_, hp⟩, hn⟩
 . simp only [R.far, Bool.false_or, decide_eq_false_iff_not]; omega
 . simp [R.pos]
theorem jgy {s : List UInt8} {l : La} {w : Re} {m0 most : Nat} (R : Rel s l w) (he : (Re.number s w m0 most).1.er = none) : (Re.number s w m0 most).2 <= most /\ (Re.number s w m0 most).2 < 4611686018427387904 /\ Rel s (l.number (Re.number s w m0 most).2 most) (Re.number s w m0 most).1 := by
 rw [Re.number] at he ⊢
 simp only [] at he ⊢
 have h1 : (w.u s).1.er = none := by
   cases h : (w.u s).1.er with
   | none => rfl
   | some e => rw [yW (by rw [h]; rfl), h] at he; cases he
 obtain ⟨a1, a2, a3⟩ := jdK R h1
 have d : decide (((w.u s).2 : Int) <= most) = true := by
   cases hd : decide (((w.u s).2 : Int) <= most) with
   | true => rfl
   | false => rw [hd, Re.within, h1] at he; cases he
 rw [he, d]
 have d2 := of_decide_eq_true d
 have e : (w.u s).2 % 4611686018427387904 = (w.u s).2 := Nat.mod_eq_of_lt a1
 have ew : (w.u s).1.within true w.pos = (w.u s).1 := by rw [Re.within, Bool.or_true]; rfl
 rw [ew]
 refine ⟨by simp; omega, by simpa using a1, ?_⟩
 simp only [Option.isSome, Bool.false_eq_true, if_false, La.number, e]
 refine ⟨?_, h1, ?_, a2⟩
 . simp only [R.far, Bool.false_or, decide_eq_false_iff_not]; omega
 . rw [a3]; simp [R.pos]
theorem whA {s : List UInt8} {l : La} {w : Re} {n m0 lo hi : Int} (R : Rel s l w) (hlo : -1152921504606846976 <= lo) (hhi : hi <= 1152921504606846976) (hf : (l.whole n lo hi).far = false) (hp : U8s (l.whole n lo hi).bs <+: s) : ∃ w', Re.whole s w m0 lo hi = (w', n) /\ Rel s (l.whole n lo hi) w' /\ lo <= n /\ n <= hi := by
 have hf2 := hf
 rw [La.whole] at hf
 obtain ⟨f1, f2⟩ := jfZ hf
 rw [decide_eq_false_iff_not] at f1 f2
 have hz : zz n < 4611686018427387904 := by unfold zz; split <;> omega
 have e : zz n % 4611686018427387904 = zz n := Nat.mod_eq_of_lt hz
 simp only [La.whole, e] at hp ⊢
 have hu := jgT R hz hp
 have d1 : decide (n ≥ lo) = true := decide_eq_true (by omega)
 have d2 : decide (n <= hi) = true := decide_eq_true (by omega)
 rw [Re.whole, hu]
 simp only [jfh, d1, d2, Re.within, Bool.or_true, Bool.and_true, if_true]
 refine ⟨_, rfl, ⟨?_, rfl, ?_, hp⟩, by omega, by omega⟩
 . rw [La.whole] at hf2; exact hf2
 . simp [R.pos]
theorem whB {s : List UInt8} {l : La} {w : Re} {m0 lo hi : Int} (R : Rel s l w) (he : (Re.whole s w m0 lo hi).1.er = none) : lo <= (Re.whole s w m0 lo hi).2 /\ (Re.whole s w m0 lo hi).2 <= hi /\ Rel s (l.whole (Re.whole s w m0 lo hi).2 lo hi) (Re.whole s w m0 lo hi).1 := by
 rw [Re.whole] at he ⊢
 simp only [] at he ⊢
 have h1 : (w.u s).1.er = none := by
   cases h : (w.u s).1.er with
   | none => rfl
   | some e => rw [yW (by rw [h]; rfl), h] at he; cases he
 obtain ⟨a1, a2, a3⟩ := jdK R h1
 have d : (decide (KY (w.u s).2 ≥ lo) && decide (KY (w.u s).2 <= hi)) = true := by
   cases hd : (decide (KY (w.u s).2 ≥ lo) && decide (KY (w.u s).2 <= hi)) with
   | true => rfl
   | false => rw [hd, Re.within, h1] at he; cases he
 rw [he, d]
 rw [Bool.and_eq_true, decide_eq_true_eq, decide_eq_true_eq] at d
 have e : zz (KY (w.u s).2) % 4611686018427387904 = (w.u s).2 := by rw [jfk, Nat.mod_eq_of_lt a1]
 have ew : (w.u s).1.within true w.pos = (w.u s).1 := by rw [Re.within, Bool.or_true]; rfl
 rw [ew]
 simp only [Option.isSome, Bool.false_eq_true, if_false, La.whole, e]
 refine ⟨d.1, d.2, ?_, h1, ?_, a2⟩
 . simp only [R.far, Bool.false_or, Bool.or_eq_false_iff, decide_eq_false_iff_not]; omega
 . rw [a3]; simp [R.pos]
/-- What was laid is read. -/
theorem jgN {s : List UInt8} {x x' : Nat} {k : K} {l : La} {w : Re} {v v0 : IVal} (R : Rel s l w) (hv : k.ty v) (h0 : k.ty v0) (hf : La.far (kg (DL x) k l v).1 = false) (hp : U8s (La.bs (kg (DL x) k l v).1) <+: s) : ∃ w', kg (DR s x') k w v0 = (w', v) /\ Rel s (kg (DL x) k l v).1 w' := by
 cases k with
 | pl =>
   obtain ⟨n, rfl, hn⟩ := hv
   obtain ⟨m, rfl, hm⟩ := h0
   obtain ⟨w', h1, h2, _⟩ := whA (m0 := m) R (by decide) (by decide) hf hp
   refine ⟨w', ?_, h2⟩
   show ((Re.whole s w m (-1152921504606846976) 1152921504606846976).1, I (Re.whole s w m (-1152921504606846976) 1152921504606846976).2) = _
   rw [h1]
   try rfl
 | wd =>
   obtain ⟨n, rfl, hn⟩ := hv
   obtain ⟨m, rfl, hm⟩ := h0
   obtain ⟨w', h1, h2, _⟩ := whA (m0 := m) R (by decide) (by decide) hf hp
   refine ⟨w', ?_, h2⟩
   show ((Re.whole s w m (-2147483648) 2147483647).1, J (IntKind.i32.wrap (Re.whole s w m (-2147483648) 2147483647).2)) = _
   rw [h1]
   show (w', J (IntKind.i32.wrap n)) = _
   rw [jbB hn.1 hn.2]
   rfl
 | byt =>
   obtain ⟨n, rfl, hn⟩ := hv
   obtain ⟨m, rfl, hm⟩ := h0
   have hp : U8s (l.bs ++ [n]) <+: s := hp
   have h1 := (QP R).1 hp
   have hb : w.b s = (⟨w.pos + 1, none⟩, n) := by
     rw [Re.b, R.er, h1]
     simp only [Option.isSome, Bool.false_eq_true, if_false, jg9 hn]
   refine ⟨⟨w.pos + 1, none⟩, ?_, ⟨R.far, rfl, ?_, hp⟩⟩
   . show ((w.b s).1, B (w.b s).2) = _
     rw [hb]
     try rfl
   . show w.pos + 1 = (l.bs ++ [n]).length
     simp [R.pos]
 | tr =>
   obtain ⟨b, rfl⟩ := hv
   obtain ⟨b0, rfl⟩ := h0
   have hp : U8s (l.bs ++ [if b then 1 else 0]) <+: s := hp
   have h1 := (QP R).1 hp
   have hb : w.t s = (⟨w.pos + 1, none⟩, b) := by
     rw [Re.t, R.er, h1]
     cases b <;> rfl
   refine ⟨⟨w.pos + 1, none⟩, ?_, ⟨R.far, rfl, ?_, hp⟩⟩
   . show ((w.t s).1, IVal.bool (w.t s).2) = _
     rw [hb]
     try rfl
   . show w.pos + 1 = (l.bs ++ [if b then 1 else 0]).length
     simp [R.pos]
 | hf =>
   obtain ⟨n, rfl, hn⟩ := hv
   obtain ⟨m, rfl, hm⟩ := h0
   obtain ⟨w', h1, h2, _⟩ := jgx (m0 := m) (n := n) R (by decide) hf hp
   refine ⟨w', ?_, h2⟩
   show ((Re.number s w m 65535).1, IVal.int .u16 (IntKind.u16.wrap ((Re.number s w m 65535).2 : Int))) = _
   rw [h1, Xb]
   show (w', IVal.int .u16 ((n : Int) % 65536)) = _
   rw [Int.emod_eq_of_lt (by omega) (by omega)]
   rfl
 | nm =>
   obtain ⟨n, rfl, hn⟩ := hv
   obtain ⟨m, rfl, hm⟩ := h0
   obtain ⟨w', h1, h2, _⟩ := jgx (m0 := m) (n := n) R (by decide) hf hp
   refine ⟨w', ?_, h2⟩
   show ((Re.number s w m 1152921504606846975).1, Q (Re.number s w m 1152921504606846975).2) = _
   rw [h1]
   try rfl
/-- What was read is laid so. -/
theorem jgO {s : List UInt8} {x x' : Nat} {k : K} {l : La} {w : Re} {v0 : IVal} (R : Rel s l w) (h0 : k.ty v0) (he : (kg (DR s x') k w v0).1.er = none) : Rel s (kg (DL x) k l (kg (DR s x') k w v0).2).1 (kg (DR s x') k w v0).1 := by
 cases k with
 | pl =>
   obtain ⟨m, rfl, hm⟩ := h0
   exact (whB (m0 := m) R he).2.2
 | wd =>
   obtain ⟨m, rfl, hm⟩ := h0
   obtain ⟨a, b, c⟩ := whB (m0 := m) R he
   show Rel s (l.whole (IntKind.i32.wrap (Re.whole s w m (-2147483648) 2147483647).2) (-2147483648) 2147483647) (Re.whole s w m (-2147483648) 2147483647).1
   rw [jbB a b]; exact c
 | byt =>
   obtain ⟨m, rfl, hm⟩ := h0
   have he : (w.b s).1.er = none := he
   show Rel s (l.byte ((w.b s).2 : Int).toNat) (w.b s).1
   rw [Int.toNat_natCast]
   rw [Re.b, R.er] at he ⊢
   simp only [Option.isSome, Bool.false_eq_true, if_false] at he ⊢
   cases hc : s[w.pos]? with
   | none => rw [hc] at he; cases he
   | some c =>
     have hp : U8s (l.bs ++ [c.toNat]) <+: s := (QP R).2 (by rw [hc, UInt8.ofNat_toNat])
     refine ⟨R.far, rfl, ?_, hp⟩
     show w.pos + 1 = (l.bs ++ [c.toNat]).length
     simp [R.pos]
 | tr =>
   obtain ⟨b0, rfl⟩ := h0
   have he : (w.t s).1.er = none := he
   show Rel s (l.truth (w.t s).2) (w.t s).1
   rw [Re.t, R.er] at he ⊢
   simp only [Option.isSome, Bool.false_eq_true, if_false] at he ⊢
   cases hc : s[w.pos]? with
   | none => rw [hc] at he; cases he
   | some c =>
     rw [hc] at he
     simp only [] at he ⊢
     by_cases h1 : c.toNat > 1
     . rw [if_pos h1] at he; cases he
     . rw [if_neg h1]
       have h2 : (if (c.toNat == 1) = true then 1 else 0) = c.toNat := by
         have : c.toNat = 0 \/ c.toNat = 1 := by omega
         rcases this with h | h <;> rw [h] <;> rfl
       have hp : U8s (l.bs ++ [c.toNat]) <+: s := (QP R).2 (by rw [hc, UInt8.ofNat_toNat])
       refine ⟨R.far, rfl, ?_, ?_⟩
       . show w.pos + 1 = (l.bs ++ [_]).length
         simp [R.pos]
       . show U8s (l.bs ++ [if (c.toNat == 1) = true then 1 else 0]) <+: s
         rw [h2]; exact hp
 | hf =>
   obtain ⟨m, rfl, hm⟩ := h0
   obtain ⟨a, b, c⟩ := jgy (m0 := m) (most := 65535) R he
   show Rel s (l.number (IntKind.u16.wrap ((Re.number s w m 65535).2 : Int)).toNat 65535) (Re.number s w m 65535).1
   have e : (IntKind.u16.wrap ((Re.number s w m 65535).2 : Int)).toNat = (Re.number s w m 65535).2 := by rw [Xb]; omega
   rw [e]; exact c
 | nm =>
   obtain ⟨m, rfl, hm⟩ := h0
   exact (jgy (m0 := m) R he).2.2
end Go.Idl.Sb
namespace Go.Idl.Sb
open Go Go.Idl Go.Idl.En
abbrev Sm (L : List (K × Nat)) : Prop := ∀ q ∈ L, ∀ r ∈ L, q.2 = r.2 -> q.1 = r.1
theorem jfD {q : K × Nat} {L : List (K × Nat)} (h : Sm (q :: L)) : Sm L := fun a ha b hb => h a (List.mem_cons_of_mem _ ha) b (List.mem_cons_of_mem _ hb)
theorem Qr {a b : List Nat} (h : a <+: b) : U8s a <+: U8s b := by
 obtain ⟨r, rfl⟩ := h
 rw [ZP]; exact List.prefix_append _ _
/-- Laying goes on. -/
abbrev Le (a b : La) : Prop := a.bs <+: b.bs /\ (b.far = false -> a.far = false)
theorem Le.refl (a : La) : Le a a := ⟨List.prefix_refl _, fun h => h⟩
theorem Le.trans {a b c : La} (h1 : Le a b) (h2 : Le b c) : Le a c := ⟨h1.1.trans h2.1, fun h => h1.2 (h2.2 h)⟩
theorem QJ (l : La) (n lo hi : Int) : Le l (l.whole n lo hi) := ⟨List.prefix_append _ _, fun h => (Bool.or_eq_false_iff.1 h).1⟩
theorem yM (l : La) (n m : Nat) : Le l (l.number n m) := ⟨List.prefix_append _ _, fun h => (Bool.or_eq_false_iff.1 h).1⟩
theorem jev {x : Nat} (k : K) (l : La) (v : IVal) : Le l (kg (DL x) k l v).1 := by
 unfold kg
 split
 . exact QJ _ _ _ _
 . exact QJ _ _ _ _
 . exact ⟨List.prefix_append _ _, fun h => h⟩
 . exact ⟨List.prefix_append _ _, fun h => h⟩
 . exact yM _ _ _
 . exact yM _ _ _
 . exact Le.refl _
theorem Qa {x : Nat} : ∀ (L : List (K × Nat)) (l : (DL x).W) (cs : List IVal), Le l (jB (DL x) L l cs).1
 | [], l, cs => Le.refl _
 | (k, o) :: L, l, cs => (jev (x := x) k l (kH cs o)).trans (Qa L _ _)
theorem za {s : List UInt8} {x : Nat} : ∀ (L : List (K × Nat)) (w : (DR s x).W) (cs : List IVal), Re.er (jB (DR s x) L w cs).1 = none -> Re.er w = none
 | [], w, cs, h => h
 | (k, o) :: L, w, cs, h => KE (za L _ _ h)
theorem QG {x : Nat} {k : K} {l : (DL x).W} {v : IVal} (hv : k.ty v) : (kg (DL x) k l v).2 = v := by
 have e1 := vg (x := x) [(k, 0)] l [v] (fun q hq => by
   simp at hq; subst hq; exact ⟨v, rfl, hv⟩)
 rw [jB, jB] at e1
 simpa [kH] using e1
theorem jgI {s : List UInt8} {x x' : Nat} : ∀ (L : List (K × Nat)) (l : (DL x).W) (w : (DR s x').W) (cs c0 : List IVal), Rel s l w -> Ty L cs -> Ty L c0 -> Sm L -> La.far (jB (DL x) L l cs).1 = false -> U8s (La.bs (jB (DL x) L l cs).1) <+: s ->
   Rel s (jB (DL x) L l cs).1 (jB (DR s x') L w c0).1 /\ ∀ q ∈ L, (jB (DR s x') L w c0).2[q.2]? = cs[q.2]?
 | [], l, w, cs, c0, R, _, _, _, _, _ => ⟨R, by simp⟩
 | (k, o) :: L, l, w, cs, c0, R, hT, h0, hs, hf, hp => by
   obtain ⟨v, ho, hv⟩ := hT _ List.mem_cons_self
   obtain ⟨v0, ho0, hv0⟩ := h0 _ List.mem_cons_self
   simp only [] at ho hv ho0 hv0
   rw [jB, jF ho] at hf hp ⊢
   have e1 := QG (x := x) (l := l) hv
   simp only [e1, yT ho] at hf hp ⊢
   have hle := Qa (x := x) L (kg (DL x) k l v).1 cs
   obtain ⟨w', h1, R'⟩ := jgN (x' := x') R hv hv0 (hle.2 hf) ((Qr hle.1).trans hp)
   rw [jB, jF ho0, h1]
   simp only []
   have T0 : Ty L (c0.set o v) := vB (k := k) (fun q hq => h0 q (List.mem_cons_of_mem _ hq)) hv (fun q hq e => hs q (List.mem_cons_of_mem _ hq) (k, o) List.mem_cons_self e)
   obtain ⟨R2, hc⟩ := jgI L _ w' cs (c0.set o v) R' (fun q hq => hT q (List.mem_cons_of_mem _ hq)) T0 (jfD hs) hf hp
   refine ⟨R2, ?_⟩
   intro q hq
   rcases List.mem_cons.1 hq with rfl | hq
   . by_cases hin : ∃ r ∈ L, r.2 = o
     . obtain ⟨r, hr, rfl⟩ := hin
       exact hc r hr
     . rw [vw L _ _ (fun r hr e => hin ⟨r, hr, e⟩), ho]
       have := kU ho0
       rw [List.getElem?_set_self (by omega)]
   . exact hc q hq
theorem jgJ {s : List UInt8} {x x' : Nat} : ∀ (L : List (K × Nat)) (l : (DL x).W) (w : (DR s x').W) (c0 : List IVal), Rel s l w -> Ty L c0 -> Sm L -> (L.map (·.2)).Nodup -> Re.er (jB (DR s x') L w c0).1 = none ->
   Rel s (jB (DL x) L l (jB (DR s x') L w c0).2).1 (jB (DR s x') L w c0).1
 | [], l, w, c0, R, _, _, _, _ => R
 | (k, o) :: L, l, w, c0, R, h0, hs, hn, he => by
   obtain ⟨v0, ho0, hv0⟩ := h0 _ List.mem_cons_self
   simp only [] at ho0 hv0
   rw [List.map_cons, List.nodup_cons] at hn
   have hout : ∀ r ∈ L, r.2 ≠ o := fun r hr e => hn.1 (List.mem_map.2 ⟨r, hr, e⟩)
   have u : jB (DR s x') ((k, o) :: L) w c0 = jB (DR s x') L (kg (DR s x') k w v0).1 (c0.set o (kg (DR s x') k w v0).2) := by rw [jB, jF ho0]
   rw [u] at he ⊢
   have he1 := za (x := x') L _ _ he
   have R1 := jgO (x := x) (x' := x') R hv0 he1
   have hv : k.ty (kg (DR s x') k w v0).2 := by
     cases k with
     | pl => obtain ⟨n, rfl, hn⟩ := hv0; exact ⟨_, rfl, by
         show i64 (if _ then n else KY (Re.u s w).2)
         split
         . exact hn
         . exact YN (jgU s w)⟩
     | wd => obtain ⟨n, rfl, hn⟩ := hv0; exact ⟨_, rfl, KK _⟩
     | byt => obtain ⟨n, rfl, hn⟩ := hv0; exact ⟨_, rfl, jhb s w⟩
     | tr => obtain ⟨b, rfl⟩ := hv0; exact ⟨_, rfl⟩
     | hf =>
       obtain ⟨n, rfl, hn⟩ := hv0
       refine ⟨(Re.number s w n 65535).2 % 65536, ?_, by omega⟩
       show IVal.int .u16 (IntKind.u16.wrap ((Re.number s w n 65535).2 : Int)) = _
       rw [Xb]; rfl
     | nm => obtain ⟨n, rfl, hn⟩ := hv0; exact ⟨_, rfl, by
         show (if _ then n else (Re.u s w).2) < _
         have := jgU s w
         split <;> omega⟩
   generalize hr : kg (DR s x') k w v0 = r at *
   obtain ⟨w1, v⟩ := r
   simp only [] at he R1 hv ⊢
   have T1 : Ty L (c0.set o v) := vB (k := k) (fun q hq => h0 q (List.mem_cons_of_mem _ hq)) hv (fun q hq e => absurd e (hout q hq))
   have ih := jgJ L _ w1 (c0.set o v) R1 T1 (jfD hs) hn.2 he
   have hov : (jB (DR s x') L w1 (c0.set o v)).2[o]? = some v := by
     rw [vw L _ _ hout]
     have := kU ho0
     rw [List.getElem?_set_self (by omega)]
   rw [jB, jF hov]
   have e1 := QG (x := x) (l := l) hv
   simp only [e1, yT hov]
   exact ih
/-! ### words -/
abbrev w3i (z : Int) : Prop := -2147483648 <= z /\ z <= 2147483647
def JJ : La -> List Int -> La
 | l, [] => l
 | l, z :: zs => JJ (l.whole z (-2147483648) 2147483647) zs
theorem QI : ∀ (zs : List Int) (l : La), Le l (JJ l zs)
 | [], l => Le.refl _
 | z :: zs, l => (QJ _ _ _ _).trans (QI zs _)
theorem jg8 {z : Int} (h : w3i z) : K.wd.ty (J z) := ⟨z, rfl, h.1, h.2⟩
theorem Yk {x : Nat} : ∀ (zs pre : List Int) (l : (DL x).W), (∀ z ∈ pre ++ zs, w3i z) -> (jB (DL x) (wdL pre.length zs.length) l ((pre ++ zs).map J)).1 = JJ l zs
 | [], pre, l, _ => rfl
 | z :: zs, pre, l, h => by
   have hz : w3i z := h z (by simp)
   have ho : ((pre ++ z :: zs).map J)[pre.length]? = some (J z) := by simp
   rw [List.length_cons, Q6, jB, jF ho]
   have e1 := QG (x := x) (l := l) (jg8 hz)
   simp only [e1, yT ho]
   have e2 : pre ++ z :: zs = (pre ++ [z]) ++ zs := by simp
   have e3 : pre.length + 1 = (pre ++ [z]).length := by simp
   rw [e2, e3]
   exact Yk zs (pre ++ [z]) _ (by rw [<- e2]; exact h)
theorem jec {s : List UInt8} {x x' : Nat} : ∀ (zs : List Int) (l : La) (w : (DR s x').W) (ys : List IVal), Rel s l w -> (∀ z ∈ zs, w3i z) -> (JJ l zs).far = false -> U8s (JJ l zs).bs <+: s ->
   Rel s (JJ l zs) (kT (DR s x') zs.length w ys).1 /\ (kT (DR s x') zs.length w ys).2 = ys ++ zs.map J
 | [], l, w, ys, R, _, _, _ => ⟨R, by simp [kT]⟩
 | z :: zs, l, w, ys, R, h, hf, hp => by
   have hz : w3i z := h z (by simp)
   have hle := QI zs (l.whole z (-2147483648) 2147483647)
   obtain ⟨w', h1, R'⟩ := jgN (k := .wd) (x := x') (x' := x') (v := J z) (v0 := J 0) R (jg8 hz) J0 (hle.2 hf) ((Qr hle.1).trans hp)
   rw [List.length_cons, kT]
   have h1 : kg (DR s x') K.wd w (J 0) = (w', J z) := h1
   rw [h1]
   obtain ⟨R2, h2⟩ := jec (x := x) (x' := x') zs _ w' (ys ++ [J z]) R' (fun u hu => h u (List.mem_cons_of_mem _ hu)) hf hp
   exact ⟨R2, by rw [h2]; simp⟩
theorem jed {s : List UInt8} {x' : Nat} : ∀ (d : Nat) (l : La) (w : (DR s x').W) (ys : List IVal), Rel s l w -> Re.er (kT (DR s x') d w ys).1 = none ->
   ∃ zs : List Int, zs.length = d /\ (∀ z ∈ zs, w3i z) /\ (kT (DR s x') d w ys).2 = ys ++ zs.map J /\ Rel s (JJ l zs) (kT (DR s x') d w ys).1
 | 0, l, w, ys, R, he => ⟨[], rfl, by simp, by simp [kT], R⟩
 | d + 1, l, w, ys, R, he => by
   rw [kT] at he ⊢
   have hst : Re.er (kg (DR s x') .wd w (J 0)).1 = none := by
     have : ∀ (d : Nat) (w : (DR s x').W) (ys : List IVal), Re.er (kT (DR s x') d w ys).1 = none -> Re.er w = none := by
       intro d
       induction d with
       | zero => intro w ys h; exact h
       | succ d ih => intro w ys h; rw [kT] at h; exact KE (ih _ _ h)
     exact this _ _ _ he
   have R1 := jgO (x := x') (x' := x') (l := l) R J0 hst
   have hz := KK (Re.whole s w 0 (-2147483648) 2147483647).2
   have e : (kg (DR s x') .wd w (J 0)).2 = J (IntKind.i32.wrap (Re.whole s w 0 (-2147483648) 2147483647).2) := rfl
   rw [e] at he R1 ⊢
   generalize IntKind.i32.wrap (Re.whole s w 0 (-2147483648) 2147483647).2 = z at *
   obtain ⟨zs, h1, h2, h3, h4⟩ := jed d _ _ (ys ++ [J z]) R1 he
   refine ⟨z :: zs, by simp [h1], ?_, by rw [h3]; simp, h4⟩
   intro u hu
   rcases List.mem_cons.1 hu with rfl | hu
   . exact hz
   . exact h2 u hu
/-! ### handlers -/
abbrev r64 (z : Int × Int × Bool) : Prop := i64 z.1 /\ i64 z.2.1
theorem jdQ {z : Int × Int × Bool} (h : r64 z) : Ty (vf 0) (Rc z) := by
 intro q hq
 simp at hq
 rcases hq with rfl | rfl | rfl
 . exact ⟨_, rfl, _, rfl, h.1⟩
 . exact ⟨_, rfl, _, rfl, h.2⟩
 . exact ⟨_, rfl, _, rfl⟩
def Xy (x : Nat) : (DL x).W -> List (Int × Int × Bool) -> (DL x).W
 | l, [] => l
 | l, z :: zs => Xy x (jB (DL x) (vf 0) l (Rc z)).1 zs
theorem QH {x : Nat} : ∀ (zs : List (Int × Int × Bool)) (l : (DL x).W), Le l (Xy x l zs)
 | [], l => Le.refl _
 | z :: zs, l => (Qa (x := x) (vf 0) l (Rc z)).trans (QH zs _)
theorem Yj {x : Nat} : ∀ (zs pre : List (Int × Int × Bool)) (l : (DL x).W), (∀ z ∈ pre ++ zs, r64 z) -> (jB (DL x) (raL pre.length zs.length) l ((pre ++ zs).flatMap Rc)).1 = Xy x l zs
 | [], pre, l, _ => rfl
 | z :: zs, pre, l, h => by
   have hz : r64 z := h z (by simp)
   rw [List.length_cons, z7, kP]
   have e0 : vf (pre.length * 3) = (vf 0).map fun q => (q.1, (pre.flatMap Rc).length + q.2) := by
     rw [jaA]; rfl
   have e4 : (pre ++ z :: zs).flatMap Rc = pre.flatMap Rc ++ (Rc z ++ zs.flatMap Rc) := by simp
   have sh := Qd (D := DL x) (pre.flatMap Rc) (vf 0) l (Rc z ++ zs.flatMap Rc)
   have tz : Ty (vf 0) (Rc z ++ zs.flatMap Rc) := by
     intro q hq
     obtain ⟨v, h1, h2⟩ := jdQ hz q hq
     exact ⟨v, by rw [List.getElem?_append_left (by rcases Nat.lt_or_ge q.2 (Rc z).length with h | h; exact h; rw [List.getElem?_eq_none h] at h1; cases h1)]; exact h1, h2⟩
   have e5 := vg (x := x) (vf 0) l (Rc z ++ zs.flatMap Rc) tz
   have e6 : (jB (DL x) (vf 0) l (Rc z ++ zs.flatMap Rc)).1 = (jB (DL x) (vf 0) l (Rc z)).1 := rfl
   rw [e4, e0, sh, e5, <- e4, e6]
   have e2 : pre ++ z :: zs = (pre ++ [z]) ++ zs := by simp
   have e3 : pre.length + 1 = (pre ++ [z]).length := by simp
   rw [e2, e3]
   exact Yj zs (pre ++ [z]) _ (by rw [<- e2]; exact h)
theorem jdn {s : List UInt8} {x x' : Nat} : ∀ (zs : List (Int × Int × Bool)) (l : (DL x).W) (w : (DR s x').W) (ys : List IVal), Rel s l w -> (∀ z ∈ zs, r64 z) -> La.far (Xy x l zs) = false -> U8s (La.bs (Xy x l zs)) <+: s ->
   Rel s (Xy x l zs) (qf (DR s x') zs.length w ys).1 /\ (qf (DR s x') zs.length w ys).2 = ys ++ zs.flatMap Rc
 | [], l, w, ys, R, _, _, _ => ⟨R, by simp [qf]⟩
 | z :: zs, l, w, ys, R, h, hf, hp => by
   have hz : r64 z := h z (by simp)
   have hle := QH (x := x) zs (jB (DL x) (vf 0) l (Rc z)).1
   obtain ⟨R', hc⟩ := jgI (x := x) (x' := x') (vf 0) l w (Rc z) Z3 R (jdQ hz) YU vX (hle.2 hf) ((Qr hle.1).trans hp)
   have hl := JQ (D := DR s x') (vf 0) w Z3
   have e : (jB (DR s x') (vf 0) w Z3).2 = Rc z := by
     apply List.ext_getElem?
     intro i
     match i with
     | 0 => exact hc (.pl, 0) (by simp)
     | 1 => exact hc (.pl, 1) (by simp)
     | 2 => exact hc (.tr, 2) (by simp)
     | i + 3 =>
       rw [List.getElem?_eq_none (by rw [hl]; simp), List.getElem?_eq_none (by simp)]
   rw [List.length_cons, qf, e]
   obtain ⟨R2, h2⟩ := jdn (x := x) (x' := x') zs _ _ (ys ++ Rc z) R' (fun u hu => h u (List.mem_cons_of_mem _ hu)) hf hp
   exact ⟨R2, by rw [h2, List.flatMap_cons, List.append_assoc]⟩
theorem jdo {s : List UInt8} {x x' : Nat} (W : ∀ w : (DR s x').W, Ty (vf 0) (jB (DR s x') (vf 0) w Z3).2) : ∀ (d : Nat) (l : La) (w : (DR s x').W) (ys : List IVal), Rel s l w -> Re.er (qf (DR s x') d w ys).1 = none ->
   ∃ zs : List (Int × Int × Bool), zs.length = d /\ (∀ z ∈ zs, r64 z) /\ (qf (DR s x') d w ys).2 = ys ++ zs.flatMap Rc /\ Rel s (Xy x l zs) (qf (DR s x') d w ys).1
 | 0, l, w, ys, R, he => ⟨[], rfl, by simp, by simp [qf], R⟩
 | d + 1, l, w, ys, R, he => by
   rw [qf] at he ⊢
   have hst : Re.er (jB (DR s x') (vf 0) w Z3).1 = none := by
     have : ∀ (d : Nat) (w : (DR s x').W) (ys : List IVal), Re.er (qf (DR s x') d w ys).1 = none -> Re.er w = none := by
       intro d
       induction d with
       | zero => intro w ys h; exact h
       | succ d ih => intro w ys h; rw [qf] at h; exact za (x := x') (vf 0) _ _ (ih _ _ h)
     exact this _ _ _ he
   have R1 := jgJ (x := x) (x' := x') (vf 0) l w Z3 R YU vX (by decide) hst
   have hT := W w
   have hl := JQ (D := DR s x') (vf 0) w Z3
   generalize hr : jB (DR s x') (vf 0) w Z3 = r at *
   obtain ⟨w1, cs⟩ := r
   simp only [] at *
   obtain ⟨v0, a0, n0, rfl, b0⟩ := hT (.pl, 0) (by simp)
   obtain ⟨v1, a1, n1, rfl, b1⟩ := hT (.pl, 1) (by simp)
   obtain ⟨v2, a2, n2, rfl⟩ := hT (.tr, 2) (by simp)
   have e : cs = Rc (n0, n1, n2) := by
     apply List.ext_getElem?
     intro i
     match i with
     | 0 => exact a0
     | 1 => exact a1
     | 2 => exact a2
     | i + 3 => rw [List.getElem?_eq_none (by rw [hl]; simp), List.getElem?_eq_none (by simp)]
   subst e
   obtain ⟨zs, h1, h2, h3, h4⟩ := jdo W d _ w1 (ys ++ Rc (n0, n1, n2)) R1 he
   refine ⟨(n0, n1, n2) :: zs, by simp [h1], ?_, by rw [h3, List.flatMap_cons, List.append_assoc], h4⟩
   intro u hu
   rcases List.mem_cons.1 hu with rfl | hu
   . exact ⟨b0, b1⟩
   . exact h2 u hu
end Go.Idl.Sb
namespace Go.Idl.Sb
open Go Go.Idl Go.Idl.En
variable {F : jJ}
theorem jbb {s : List UInt8} {x : Nat} (W : Way F (DR s x)) (w0 : Re) : Ty lAll (rdS (DR s x) w0 Z55).cs := by
 have sA : ∀ q ∈ lA, q ∈ lAll := by decide
 have sB : ∀ q ∈ lB, q ∈ lAll := by decide
 have sC : ∀ q ∈ lC, q ∈ lAll := by decide
 have hT := zH
 have T1 := qw W lA w0 Z55 hT (jU hT sA) (fun q hq r hr => jV q hq r (sA r hr)) (fun q hq r hr => jV q (sA q hq) r (sA r hr))
 unfold rdS
 simp only []
 generalize jB (DR s x) lA w0 Z55 = rA at *
 generalize kT (DR s x) (cnt (DR s x) (kT (DR s x) (cnt (DR s x) rA.1 512) ((DR s x).number rA.1 0 512).1 []).1 8000) _ [] = g2
 have T2 := qw W lB g2.1 rA.2 T1 (jU T1 sB) (fun q hq r hr => jV q hq r (sB r hr)) (fun q hq r hr => jV q (sB q hq) r (sB r hr))
 generalize jB (DR s x) lB g2.1 rA.2 = rB at *
 generalize qf (DR s x) _ _ [] = g3
 exact qw W lC g3.1 rB.2 T2 (jU T2 sC) (fun q hq r hr => jV q hq r (sC r hr)) (fun q hq r hr => jV q (sC q hq) r (sC r hr))
theorem YC {D : WayD} (w0 : D.W) : (rdS D w0 Z55).cs.length = 55 := by
 unfold rdS
 simp only [JQ]
 rfl
theorem jfx {k : K} {v : IVal} (h : k.ty v) : v.isCell = true := by
 cases k with
 | pl => obtain ⟨n, rfl, _⟩ := h; rfl
 | wd => obtain ⟨n, rfl, _⟩ := h; rfl
 | byt => obtain ⟨n, rfl, _⟩ := h; rfl
 | tr => obtain ⟨b, rfl⟩ := h; rfl
 | hf => obtain ⟨n, rfl, _⟩ := h; rfl
 | nm => obtain ⟨n, rfl, _⟩ := h; rfl
theorem ZR : ∀ i < 55, i = 13 \/ i = 14 \/ i = 16 \/ i ∈ lAll.map (·.2) := by decide
/-- The cells of a state. -/
theorem JS {cs : List IVal} {v1 v2 v3 : IVal} (hl : cs.length = 55) (hT : Ty lAll cs) (h1 : v1.isCell = true) (h2 : v2.isCell = true) (h3 : v3.isCell = true) : (((cs.set 13 v1).set 14 v2).set 16 v3).all IVal.isCell = true := by
 rw [List.all_eq_true]
 intro v hv
 obtain ⟨i, hi, rfl⟩ := List.mem_iff_getElem.1 hv
 simp only [List.length_set, hl] at hi
 have e := List.getElem?_eq_getElem (l := ((cs.set 13 v1).set 14 v2).set 16 v3) (i := i) (by simpa [hl] using hi)
 rcases ZR i hi with rfl | rfl | rfl | hm
 . rw [List.getElem?_set_ne (by decide), List.getElem?_set_ne (by decide), List.getElem?_set_self (by omega)] at e
   rw [<- Option.some.inj e]; exact h1
 . rw [List.getElem?_set_ne (by decide), List.getElem?_set_self (by simp; omega)] at e
   rw [<- Option.some.inj e]; exact h2
 . rw [List.getElem?_set_self (by simp; omega)] at e
   rw [<- Option.some.inj e]; exact h3
 . obtain ⟨q, hq, rfl⟩ := List.mem_map.1 hm
   obtain ⟨v, hv, hk⟩ := hT q hq
   have n13 : q.2 ≠ 13 := (by decide : ∀ q ∈ lAll, q.2 ≠ 13) q hq
   have n14 : q.2 ≠ 14 := (by decide : ∀ q ∈ lAll, q.2 ≠ 14) q hq
   have n16 : q.2 ≠ 16 := (by decide : ∀ q ∈ lAll, q.2 ≠ 16) q hq
   rw [List.getElem?_set_ne (Ne.symm n16), List.getElem?_set_ne (Ne.symm n14), List.getElem?_set_ne (Ne.symm n13), hv] at e
   rw [<- Option.some.inj e]; exact jfx hk
theorem jfB {s : List UInt8} {σ l : List IObj} {a b c : IObj} {w : (DR s (σ.length + 1)).W} {cs : List IVal} : S (DR s (σ.length + 1)) (σ ++ [a, b, c]) (σ.length + 2) w cs l = σ ++ a :: Re.ob s w :: .cells cs :: l := by
 show ((σ ++ [a, b, c]).set (σ.length + 1) (Re.ob s w)).set (σ.length + 2) (.cells cs) ++ l = _
 rw [set_app 1, set_app 2, List.append_assoc]; rfl
theorem Jj {esz b k n : Nat} {lv : IVal} {ys : List IVal} {l : List IObj} (h : LX esz b k lv n ys l) : lv.isCell = true := by
 rcases h with ⟨_, _, e', rfl⟩ | ⟨_, j, rfl, _⟩ <;> rfl
theorem jdO {esz k n : Nat} {lv : IVal} {ys : List IVal} {σ l : List IObj} {a b c : IObj} (h : LX esz (σ.length + 3) k lv n ys l) : LC esz σ.length lv n ys (σ ++ a :: b :: c :: l) := by
 rcases h with ⟨h1, h2, e', rfl⟩ | ⟨_, j, rfl, h3, _⟩
 . exact .inl ⟨h1, h2, e', rfl⟩
 . refine .inr ⟨σ.length + 3 + j, rfl, by omega, ?_⟩
   have e : σ.length + 3 + j = σ.length + (j + 3) := by omega
   rw [e, get_app]
   simpa using h3
theorem jdP {esz b k n : Nat} {lv : IVal} {ys : List IVal} {l : List IObj} {m : Nat} {σ : List IObj} (h : LX esz b k lv n ys l) (hn : nr1 lv = true) : LC esz m lv n ys σ := by
 rcases h with ⟨h1, h2, e', rfl⟩ | ⟨_, j, rfl, _⟩
 . exact .inl ⟨h1, h2, e', rfl⟩
 . cases hn
theorem Yg (h7 : F 7 = some ir7) (h19 : F 19 = some jdq) (h20 : F 20 = some jbG) (h18 : F 18 = some jbF) (h33 : F 33 = some KS) (h34 : F 34 = some QB) (h35 : F 35 = some Xt) (h36 : F 36 = some Xu) (h37 : F 37 = some Xv) (h38 : F 38 = some ZG) (h39 : F 39 = some ZH) (h40 : F 40 = some KM) (h41 : F 41 = some K9) (h42 : F 42 = some Yp)
   {s : List UInt8} {σ : List IObj} (W : Way F (DR s (σ.length + 1))) (hs : s.length < 1000000) {r : Rd (DR s (σ.length + 1))} (hr : rdS (DR s (σ.length + 1)) ⟨0, none⟩ Z55 = r) (hpos : Re.pos r.w <= s.length) {c a : Nat} (hfin : Re.fin s r.w = some (c, a)) :
   ∃ wr, cfw F (.f 7) [.str s] σ = some ⟨false, .tup [.agg Z55, erI (some (c, a))], σ, wr⟩ /\ Fl wr := by
 rw [jQ ir7 h7, jq]
 have n0 := jgt h19 s (σ ++ [.cells Z55])
 rw [List.append_assoc, List.length_append] at n0
 have n0 : cfw F (.f 19) [.str s] (σ ++ [.cells Z55]) = some ⟨false, .ptr (σ.length + 1) 0, σ ++ [.cells Z55, Re.ob s ⟨0, none⟩], []⟩ := n0
 have hx : (σ ++ [.cells Z55, Re.ob s ⟨0, none⟩, .cells Z55])[σ.length + 1]? = some (Re.ob s ⟨0, none⟩) := by rw [get_app]; rfl
 have ha : (σ ++ [.cells Z55, Re.ob s ⟨0, none⟩, .cells Z55])[σ.length + 2]? = some (.cells Z55) := by rw [get_app]; rfl
 obtain ⟨wr, v1, v2, v3, l, st, hf, _, X1, X2, X3⟩ := VL h18 h33 h34 h35 h36 h37 h38 h39 W hs hx ha (by omega)
 have hl := YC (D := DR s (σ.length + 1)) ⟨0, none⟩
 have hT := jbb W ⟨0, none⟩
 rw [hr] at st X1 X2 X3 hl hT
 rw [jfB] at st
 have ll : (σ ++ [IObj.cells Z55, Re.ob s ⟨0, none⟩, .cells Z55]).length = σ.length + 3 := by simp
 rw [ll] at X1 X2 X3
 obtain ⟨wA, cA, n1, w1, y1, n2, w2, y2, wB, cB, n3, w3, y3, w, cs⟩ := r
 simp only [] at st X1 X2 X3 hl hT hpos ⊢
 have c1 := Jj X1
 have c2 := Jj X2
 have c3 := Jj X3
 have r2 := JS hl hT c1 c2 c3
 have r1 : (((cs.set 13 v1).set 14 v2).set 16 v3).length = 55 := by simpa using hl
 have g16 : (((cs.set 13 v1).set 14 v2).set 16 v3)[16]? = some v3 := by rw [List.getElem?_set_self (by simp; omega)]
 have g14 : (((cs.set 13 v1).set 14 v2).set 16 v3)[14]? = some v2 := by rw [List.getElem?_set_ne (by decide), List.getElem?_set_self (by simp; omega)]
 have g13 : (((cs.set 13 v1).set 14 v2).set 16 v3)[13]? = some v1 := by rw [List.getElem?_set_ne (by decide), List.getElem?_set_ne (by decide), List.getElem?_set_self (by omega)]
 generalize hb3 : ((cs.set 13 v1).set 14 v2).set 16 v3 = b3 at *
 have r3 : b3.take 55 = b3 := List.take_of_length_le (by omega)
 have r4 : jb Z55 0 b3 = b3 := VH (by rw [r1]; rfl)
 have r6 : jb Z55 0 Z55 = Z55 := VH rfl
 have r7 : Z55.take 55 = Z55 := rfl
 have r8 : Z55.all IVal.isCell = true := rfl
 have r9 : Z55.all nr1 = true := rfl
 have f0 : yF Z55 [] = some Z55 := rfl
 have fp : yF [IVal.prim (.pointer none)] [(0, 1, .ptr (σ.length + 1) 0)] = some [.ptr (σ.length + 1) 0] := rfl
 have e0 := jfV h20 h40 h41 h42 (s := s) (x := σ.length + 1) (w := w) (σ := σ ++ IObj.cells Z55 :: w.ob s :: .cells b3 :: l) (by rw [get_app]; rfl) hs hpos
 have t0 : (σ ++ IObj.cells Z55 :: Re.ob s w :: IObj.cells b3 :: l).take σ.length = σ := take_app
 rw [hfin] at e0
 have i2 : isNil 1 (erI (some (c, a))) = some false := rfl
 have u3 : un3 (erI (some (c, a))) = erI (some (c, a)) := rfl
 have u4 : nt (erI (some (c, a))) = true := rfl
 have u5 : nr3 (erI (some (c, a))) = true := rfl
 have z1 : Z55.length = 55 := rfl
 simp only [ir7, jG, n0, st, e0, i2, u3, u4, u5, z1, f0, fp, r6, r7, r8, r9, List.zip_cons_cons, List.zip_nil_right, List.zip_nil_left, zV, zS, jy, jM, jc, jk, jR, jg, jl, je, jr, jO, jf, jj, jp, jK, ju, jq, Ts.fill, jS, jP, jh, jT, jo, jm, ji, ja, getAll, stepCall, jn, unI, Opd.get, jx, tag, jv, jb, jI, rv, bin, jW, Nat.reduceAdd, Nat.reduceSub, Nat.reduceMul, Nat.reduceDiv, Nat.reduceMod, Nat.reducePow, Nat.reduceLT, Nat.reduceLeDiff, Nat.reduceEqDiff, Nat.reduceBEq, Nat.reduceBNe, reduceIte, Int.reduceEq, Int.reduceLT, Int.reduceLE, Int.reduceNeg, Int.reduceToNat, Int.reduceMul, Int.reduceAdd, Int.reduceSub, reduceCtorEq]
 have fw : ((wr.all fun p => !p.2 || decide (σ.length <= p.1)) = true) := by
   rw [Fa, List.all_eq_true] at hf
   rw [List.all_eq_true]
   intro q hq; have := hf q hq; simp at this ⊢; rcases this with h | h
   . exact .inl h
   . exact .inr (by omega)
 have ff : Fl (wr.filter fun p => decide (p.1 < σ.length)) := by
   rw [Fa, List.all_eq_true] at hf
   rw [Fl, List.all_eq_true]
   intro q hq
   obtain ⟨h1, h2⟩ := List.mem_filter.mp hq
   have h3 := hf q h1; simp at h2 h3 ⊢; rcases h3 with h | h
   . exact h
   . omega
 have u6 : nr2 (erI (some (c, a))) = true := rfl
 rw [u6, fw]
 exact ⟨_, rfl, ff⟩
theorem Yh (h7 : F 7 = some ir7) (h19 : F 19 = some jdq) (h20 : F 20 = some jbG) (h18 : F 18 = some jbF) (h33 : F 33 = some KS) (h34 : F 34 = some QB) (h35 : F 35 = some Xt) (h36 : F 36 = some Xu) (h37 : F 37 = some Xv) (h38 : F 38 = some ZG) (h39 : F 39 = some ZH) (h40 : F 40 = some KM) (h41 : F 41 = some K9) (h42 : F 42 = some Yp)
   {s : List UInt8} {σ : List IObj} (W : Way F (DR s (σ.length + 1))) (hs : s.length < 1000000) {r : Rd (DR s (σ.length + 1))} (hr : rdS (DR s (σ.length + 1)) ⟨0, none⟩ Z55 = r) (hpos : Re.pos r.w <= s.length) (hfin : Re.fin s r.w = none) :
   ∃ wr v1 v2 v3 e, cfw F (.f 7) [.str s] σ = some ⟨false, .tup [.agg (((r.cs.set 13 v1).set 14 v2).set 16 v3), .prim .nilIface], σ ++ e, wr⟩ /\ Fl wr /\
       LC 1 σ.length v1 r.n1 r.y1 (σ ++ e) /\ LC 1 σ.length v2 r.n2 r.y2 (σ ++ e) /\ LC 3 σ.length v3 r.n3 r.y3 (σ ++ e) := by
 rw [jQ ir7 h7, jq]
 have n0 := jgt h19 s (σ ++ [.cells Z55])
 rw [List.append_assoc, List.length_append] at n0
 have n0 : cfw F (.f 19) [.str s] (σ ++ [.cells Z55]) = some ⟨false, .ptr (σ.length + 1) 0, σ ++ [.cells Z55, Re.ob s ⟨0, none⟩], []⟩ := n0
 have hx : (σ ++ [.cells Z55, Re.ob s ⟨0, none⟩, .cells Z55])[σ.length + 1]? = some (Re.ob s ⟨0, none⟩) := by rw [get_app]; rfl
 have ha : (σ ++ [.cells Z55, Re.ob s ⟨0, none⟩, .cells Z55])[σ.length + 2]? = some (.cells Z55) := by rw [get_app]; rfl
 obtain ⟨wr, v1, v2, v3, l, st, hf, _, X1, X2, X3⟩ := VL h18 h33 h34 h35 h36 h37 h38 h39 W hs hx ha (by omega)
 have hl := YC (D := DR s (σ.length + 1)) ⟨0, none⟩
 have hT := jbb W ⟨0, none⟩
 rw [hr] at st X1 X2 X3 hl hT
 rw [jfB] at st
 have ll : (σ ++ [IObj.cells Z55, Re.ob s ⟨0, none⟩, .cells Z55]).length = σ.length + 3 := by simp
 rw [ll] at X1 X2 X3
 obtain ⟨wA, cA, n1, w1, y1, n2, w2, y2, wB, cB, n3, w3, y3, w, cs⟩ := r
 simp only [] at st X1 X2 X3 hl hT hpos ⊢
 have c1 := Jj X1
 have c2 := Jj X2
 have c3 := Jj X3
 have r2 := JS hl hT c1 c2 c3
 have r1 : (((cs.set 13 v1).set 14 v2).set 16 v3).length = 55 := by simpa using hl
 have g16 : (((cs.set 13 v1).set 14 v2).set 16 v3)[16]? = some v3 := by rw [List.getElem?_set_self (by simp; omega)]
 have g14 : (((cs.set 13 v1).set 14 v2).set 16 v3)[14]? = some v2 := by rw [List.getElem?_set_ne (by decide), List.getElem?_set_self (by simp; omega)]
 have g13 : (((cs.set 13 v1).set 14 v2).set 16 v3)[13]? = some v1 := by rw [List.getElem?_set_ne (by decide), List.getElem?_set_ne (by decide), List.getElem?_set_self (by omega)]
 generalize hb3 : ((cs.set 13 v1).set 14 v2).set 16 v3 = b3 at *
 have r3 : b3.take 55 = b3 := List.take_of_length_le (by omega)
 have r4 : jb Z55 0 b3 = b3 := VH (by rw [r1]; rfl)
 have r6 : jb Z55 0 Z55 = Z55 := VH rfl
 have r7 : Z55.take 55 = Z55 := rfl
 have r8 : Z55.all IVal.isCell = true := rfl
 have r9 : Z55.all nr1 = true := rfl
 have f0 : yF Z55 [] = some Z55 := rfl
 have fp : yF [IVal.prim (.pointer none)] [(0, 1, .ptr (σ.length + 1) 0)] = some [.ptr (σ.length + 1) 0] := rfl
 have e0 := jfV h20 h40 h41 h42 (s := s) (x := σ.length + 1) (w := w) (σ := σ ++ IObj.cells Z55 :: w.ob s :: .cells b3 :: l) (by rw [get_app]; rfl) hs hpos
 have t0 : (σ ++ IObj.cells Z55 :: Re.ob s w :: IObj.cells b3 :: l).take σ.length = σ := take_app
 rw [hfin] at e0
 have i2 : isNil 1 (erI none) = some true := rfl
 have u3 : un3 (erI none) = erI none := rfl
 have u4 : nt (erI none) = true := rfl
 have z1 : Z55.length = 55 := rfl
 simp only [ir7, jG, n0, st, e0, i2, u3, u4, z1, f0, fp, r1, r2, r3, r4, r6, r7, r8, r9, cells_agg, List.zip_cons_cons, List.zip_nil_right, List.zip_nil_left, zV, zS, jy, jM, jc, jk, jR, jg, jl, je, jr, jO, jf, jj, jp, jK, ju, jq, Ts.fill, jS, jP, jh, jT, jo, jm, ji, ja, getAll, stepCall, jn, unI, Opd.get, jx, tag, jv, jb, jI, rv, bin, jW, Nat.reduceAdd, Nat.reduceSub, Nat.reduceMul, Nat.reduceDiv, Nat.reduceMod, Nat.reducePow, Nat.reduceLT, Nat.reduceLeDiff, Nat.reduceEqDiff, Nat.reduceBEq, Nat.reduceBNe, reduceIte, Int.reduceEq, Int.reduceLT, Int.reduceLE, Int.reduceNeg, Int.reduceToNat, Int.reduceMul, Int.reduceAdd, Int.reduceSub, reduceCtorEq]
 have fw : ((wr.all fun p => !p.2 || decide (σ.length <= p.1)) = true) := by
   rw [Fa, List.all_eq_true] at hf
   rw [List.all_eq_true]
   intro q hq; have := hf q hq; simp at this ⊢; rcases this with h | h
   . exact .inl h
   . exact .inr (by omega)
 have ff : Fl (wr.filter fun p => decide (p.1 < σ.length)) := by
   rw [Fa, List.all_eq_true] at hf
   rw [Fl, List.all_eq_true]
   intro q hq
   obtain ⟨h1, h2⟩ := List.mem_filter.mp hq
   have h3 := hf q h1; simp at h2 h3 ⊢; rcases h3 with h | h
   . exact h
   . omega
 have mem : ∀ {o : Nat} {v : IVal}, b3[o]? = some v -> v ∈ b3 := fun h => List.mem_of_getElem? h
 rw [fw]
 by_cases hall : b3.all nr1 = true
 . rw [hall]
   rw [List.all_eq_true] at hall
   exact ⟨_, v1, v2, v3, [], by rw [hb3, List.append_nil]; rfl, ff, jdP X1 (hall _ (mem g13)), jdP X2 (hall _ (mem g14)), jdP X3 (hall _ (mem g16))⟩
 . rw [Bool.not_eq_true] at hall
   rw [hall]
   exact ⟨_, v1, v2, v3, _, by rw [hb3]; rfl, ff, jdO X1, jdO X2, jdO X3⟩
end Go.Idl.Sb
namespace Go.Idl.Sb
open Go Go.Idl Go.Idl.En
variable {F : jJ}
/-- A state: its cells' sorts, its lists. -/
structure StOK (cs : List IVal) (z1 z2 : List Int) (z3 : List (Int × Int × Bool)) : Prop where
 ty : Ty lAll cs
 n1 : z1.length <= 512
 n2 : z2.length <= 8000
 n3 : z3.length <= 8
 w1 : ∀ z ∈ z1, w3i z
 w2 : ∀ z ∈ z2, w3i z
 w3 : ∀ z ∈ z3, r64 z
theorem XD {s : List UInt8} {w : Re} {m0 most : Nat} (h : (Re.number s w m0 most).1.er = none) : w.er = none := by
 cases hh : w.er with
 | none => rfl
 | some e =>
   have h1 : w.er.isSome = true := by rw [hh]; rfl
   rw [Re.number, jhX h1] at h
   simp only [] at h
   rw [yW h1, hh] at h; cases h
theorem sA : ∀ q ∈ lA, q ∈ lAll := by decide
theorem sB : ∀ q ∈ lB, q ∈ lAll := by decide
theorem sC : ∀ q ∈ lC, q ∈ lAll := by decide
theorem smA : Sm lA := fun q hq r hr => jV q (sA q hq) r (sA r hr)
theorem smB : Sm lB := fun q hq r hr => jV q (sB q hq) r (sB r hr)
theorem smC : Sm lC := fun q hq r hr => jV q (sC q hq) r (sC r hr)
theorem jad {x : Nat} {l : La} {zs : List Int} {most : Nat} (h : ∀ z ∈ zs, w3i z) : jbE x l zs.length most (zs.map J) = JJ (l.number zs.length most) zs := Yk (x := x) zs [] _ h
theorem jd3 {x : Nat} {l : La} {zs : List (Int × Int × Bool)} {most : Nat} (h : ∀ z ∈ zs, r64 z) : jfl x l zs.length most (zs.flatMap Rc) = Xy x (l.number zs.length most) zs := Yj (x := x) zs [] _ h
theorem Qw {x : Nat} {cs : List IVal} {z1 z2 : List Int} {z3 : List (Int × Int × Bool)} (h : StOK cs z1 z2 z3) :
   vM x cs z1 z2 z3 = (jB (DL x) lC (Xy x (La.number (jB (DL x) lB (JJ (La.number (JJ (La.number (jB (DL x) lA ⟨[], false⟩ cs).1 z1.length 512) z1) z2.length 8000) z2) cs).1 z3.length 8) z3) cs).1 := by
 rw [vM]
 rw [show jbE x (jB (DL x) lA (⟨[], false⟩ : La) cs).1 z1.length 512 (z1.map J) = JJ (La.number (jB (DL x) lA (⟨[], false⟩ : La) cs).1 z1.length 512) z1 from jad h.w1]
 generalize JJ (La.number (jB (DL x) lA (⟨[], false⟩ : La) cs).1 z1.length 512) z1 = A1
 rw [show jbE x A1 z2.length 8000 (z2.map J) = JJ (La.number A1 z2.length 8000) z2 from jad h.w2]
 generalize JJ (La.number A1 z2.length 8000) z2 = A2
 rw [show jfl x (jB (DL x) lB A2 cs).1 z3.length 8 (z3.flatMap Rc) = Xy x (La.number (jB (DL x) lB A2 cs).1 z3.length 8) z3 from jd3 h.w3]
/-- What a state was laid as is read as that state. -/
theorem jhc {x x' : Nat} {s : List UInt8} {cs : List IVal} {z1 z2 : List Int} {z3 : List (Int × Int × Bool)} (h : StOK cs z1 z2 z3) (hf : (vM x cs z1 z2 z3).far = false) (hp : U8s (vM x cs z1 z2 z3).bs <+: s) {r : Rd (DR s x')} (hr : rdS (DR s x') ⟨0, none⟩ Z55 = r) :
   Rel s (vM x cs z1 z2 z3) r.w /\ (∀ q ∈ lAll, r.cs[q.2]? = cs[q.2]?) /\ r.n1 = z1.length /\ r.y1 = z1.map J /\ r.n2 = z2.length /\ r.y2 = z2.map J /\ r.n3 = z3.length /\ r.y3 = z3.flatMap Rc := by
 rw [Qw h] at hf hp ⊢
 have TA := jU h.ty sA
 have TB := jU h.ty sB
 have TC := jU h.ty sC
 have Z := zH
 -- where laying was
 generalize hA : (jB (DL x) lA (⟨[], false⟩ : La) cs).1 = A at *
 generalize hA1 : JJ (La.number A z1.length 512) z1 = A1 at *
 generalize hA2 : JJ (La.number A1 z2.length 8000) z2 = A2 at *
 generalize hA3 : (jB (DL x) lB A2 cs).1 = A3 at *
 generalize hA4 : Xy x (La.number A3 z3.length 8) z3 = A4 at *
 have g5 : Le A4 (jB (DL x) lC A4 cs).1 := Qa (x := x) lC A4 cs
 have g4 : Le (La.number A3 z3.length 8) A4 := hA4 ▸ QH z3 _
 have g3 : Le A3 (La.number A3 z3.length 8) := yM _ _ _
 have g2 : Le A2 A3 := hA3 ▸ Qa (x := x) lB A2 cs
 have g1 : Le (La.number A1 z2.length 8000) A2 := hA2 ▸ QI z2 _
 have g0 : Le A1 (La.number A1 z2.length 8000) := yM _ _ _
 have gb : Le (La.number A z1.length 512) A1 := hA1 ▸ QI z1 _
 have ga : Le A (La.number A z1.length 512) := yM _ _ _
 have G4 := g5
 have Gn3 := g4.trans G4
 have G3 := g3.trans Gn3
 have G2 := g2.trans G3
 have Gn2 := g1.trans G2
 have G1 := g0.trans Gn2
 have Gn1 := gb.trans G1
 have G0 := ga.trans Gn1
 have fin : ∀ {a : La}, Le a (jB (DL x) lC A4 cs).1 -> a.far = false /\ U8s a.bs <+: s := fun h => ⟨h.2 hf, (Qr h.1).trans hp⟩
 obtain ⟨fA, pA⟩ := fin G0
 obtain ⟨fn1, pn1⟩ := fin Gn1
 obtain ⟨f1, p1⟩ := fin G1
 obtain ⟨fn2, pn2⟩ := fin Gn2
 obtain ⟨f2, p2⟩ := fin G2
 obtain ⟨f3, p3⟩ := fin G3
 obtain ⟨fn3, pn3⟩ := fin Gn3
 obtain ⟨f4, p4⟩ := fin G4
 have R0 : Rel s (⟨[], false⟩ : La) (⟨0, none⟩ : Re) := ⟨rfl, rfl, rfl, List.nil_prefix⟩
 obtain ⟨RA, cA⟩ := jgI (x := x) (x' := x') lA (⟨[], false⟩ : La) (⟨0, none⟩ : Re) cs Z55 R0 TA (jU Z sA) smA (by rw [hA]; exact fA) (by rw [hA]; exact pA)
 rw [hA] at RA
 unfold rdS at hr
 simp only [] at hr
 have keepA : ∀ o, (∀ q ∈ lA, q.2 ≠ o) -> (jB (DR s x') lA (⟨0, none⟩ : Re) Z55).2[o]? = Z55[o]? := fun o ho => vw lA _ _ ho
 have TrA : Ty lAll (jB (DR s x') lA (⟨0, none⟩ : Re) Z55).2 := by
   intro q hq
   by_cases hin : ∃ r ∈ lA, r.2 = q.2
   . obtain ⟨r, hrA, e⟩ := hin
     have := cA r hrA
     rw [e] at this
     obtain ⟨v, hv, hk⟩ := h.ty q hq
     exact ⟨v, by rw [this, hv], hk⟩
   . rw [keepA _ (fun r hr e => hin ⟨r, hr, e⟩)]
     exact Z q hq
 generalize hrA : jB (DR s x') lA (⟨0, none⟩ : Re) Z55 = rA at *
 obtain ⟨w1, hw1, Rn1, _⟩ := jgx (m0 := 0) (most := 512) (n := z1.length) RA (by decide) fn1 pn1
 have c1 : cnt (DR s x') rA.1 512 = z1.length := by
   show min (Re.number s rA.1 0 512).2 512 = _
   rw [hw1]; simp only []; have := h.n1; omega
 have e1 : ((DR s x').number rA.1 0 512).1 = w1 := by show (Re.number s rA.1 0 512).1 = _; rw [hw1]
 rw [c1, e1] at hr
 obtain ⟨R1, y1⟩ := jec (x := x) (x' := x') z1 _ w1 [] Rn1 h.w1 (by rw [hA1]; exact f1) (by rw [hA1]; exact p1)
 rw [hA1] at R1
 generalize hg1 : kT (DR s x') z1.length w1 [] = g1' at *
 obtain ⟨w2, hw2, Rn2, _⟩ := jgx (m0 := 0) (most := 8000) (n := z2.length) R1 (by decide) fn2 pn2
 have c2 : cnt (DR s x') g1'.1 8000 = z2.length := by
   show min (Re.number s g1'.1 0 8000).2 8000 = _
   rw [hw2]; simp only []; have := h.n2; omega
 have e2 : ((DR s x').number g1'.1 0 8000).1 = w2 := by show (Re.number s g1'.1 0 8000).1 = _; rw [hw2]
 rw [c2, e2] at hr
 obtain ⟨R2, y2⟩ := jec (x := x) (x' := x') z2 _ w2 [] Rn2 h.w2 (by rw [hA2]; exact f2) (by rw [hA2]; exact p2)
 rw [hA2] at R2
 generalize hg2 : kT (DR s x') z2.length w2 [] = g2' at *
 obtain ⟨RB, cB⟩ := jgI (x := x) (x' := x') lB A2 g2'.1 cs rA.2 R2 TB (jU TrA sB) smB (by rw [hA3]; exact f3) (by rw [hA3]; exact p3)
 rw [hA3] at RB
 have keepB : ∀ o, (∀ q ∈ lB, q.2 ≠ o) -> (jB (DR s x') lB g2'.1 rA.2).2[o]? = rA.2[o]? := fun o ho => vw lB _ _ ho
 generalize hrB : jB (DR s x') lB g2'.1 rA.2 = rB at *
 obtain ⟨w3, hw3, Rn3, _⟩ := jgx (m0 := 0) (most := 8) (n := z3.length) RB (by decide) fn3 pn3
 have c3 : cnt (DR s x') rB.1 8 = z3.length := by
   show min (Re.number s rB.1 0 8).2 8 = _
   rw [hw3]; simp only []; have := h.n3; omega
 have e3 : ((DR s x').number rB.1 0 8).1 = w3 := by show (Re.number s rB.1 0 8).1 = _; rw [hw3]
 rw [c3, e3] at hr
 obtain ⟨R3, y3⟩ := jdn (x := x) (x' := x') z3 _ w3 [] Rn3 h.w3 (by rw [hA4]; exact f4) (by rw [hA4]; exact p4)
 rw [hA4] at R3
 generalize hg3 : qf (DR s x') z3.length w3 [] = g3' at *
 have TrB : Ty lAll rB.2 := by
   intro q hq
   by_cases hin : ∃ r ∈ lB, r.2 = q.2
   . obtain ⟨r, hrB, e⟩ := hin
     have := cB r hrB
     rw [e] at this
     obtain ⟨v, hv, hk⟩ := h.ty q hq
     exact ⟨v, by rw [this, hv], hk⟩
   . rw [keepB _ (fun r hr e => hin ⟨r, hr, e⟩)]
     exact TrA q hq
 obtain ⟨RC, cC⟩ := jgI (x := x) (x' := x') lC A4 g3'.1 cs rB.2 R3 TC (jU TrB sC) smC hf hp
 have keepC : ∀ o, (∀ q ∈ lC, q.2 ≠ o) -> (jB (DR s x') lC g3'.1 rB.2).2[o]? = rB.2[o]? := fun o ho => vw lC _ _ ho
 generalize hrC : jB (DR s x') lC g3'.1 rB.2 = rC at *
 subst hr
 refine ⟨RC, ?_, rfl, by simpa using y1, rfl, by simpa using y2, rfl, by simpa using y3⟩
 intro q hq
 show rC.2[q.2]? = _
 by_cases inC : ∃ r ∈ lC, r.2 = q.2
 . obtain ⟨r, hr, e⟩ := inC
   rw [<- e]; exact cC r hr
 . rw [keepC _ (fun r hr e => inC ⟨r, hr, e⟩)]
   by_cases inB : ∃ r ∈ lB, r.2 = q.2
   . obtain ⟨r, hr, e⟩ := inB
     rw [<- e]; exact cB r hr
   . rw [keepB _ (fun r hr e => inB ⟨r, hr, e⟩)]
     rcases List.mem_append.1 hq with hq | hq
     . exact cA q hq
     . rcases List.mem_append.1 hq with hq | hq
       . exact absurd ⟨q, hq, rfl⟩ inB
       . exact absurd ⟨q, hq, rfl⟩ inC
/-- What was read is laid so. -/
theorem jhw {x x' : Nat} {s : List UInt8} (W : Way F (DR s x')) {r : Rd (DR s x')} (hr : rdS (DR s x') ⟨0, none⟩ Z55 = r) (he : Re.er r.w = none) :
   ∃ z1 z2 z3, StOK r.cs z1 z2 z3 /\ r.n1 = z1.length /\ r.y1 = z1.map J /\ r.n2 = z2.length /\ r.y2 = z2.map J /\ r.n3 = z3.length /\ r.y3 = z3.flatMap Rc /\ Rel s (vM x r.cs z1 z2 z3) r.w := by
 have hty : Ty lAll r.cs := hr ▸ jbb W ⟨0, none⟩
 have TA0 := qw W lA (⟨0, none⟩ : Re) Z55 zH (jU zH sA) (fun q hq r hr => jV q hq r (sA r hr)) smA
 have W3 : ∀ w : (DR s x').W, Ty (vf 0) (jB (DR s x') (vf 0) w Z3).2 := fun w => qw W (vf 0) w Z3 YU YU vX vX
 unfold rdS at hr
 simp only [] at hr
 generalize hrA : jB (DR s x') lA (⟨0, none⟩ : Re) Z55 = rA at *
 generalize hc1 : cnt (DR s x') rA.1 512 = c1 at *
 generalize hm1 : ((DR s x').number rA.1 0 512).1 = m1 at *
 generalize hg1 : kT (DR s x') c1 m1 [] = g1 at *
 generalize hc2 : cnt (DR s x') g1.1 8000 = c2 at *
 generalize hm2 : ((DR s x').number g1.1 0 8000).1 = m2 at *
 generalize hg2 : kT (DR s x') c2 m2 [] = g2 at *
 have TB0 := qw W lB g2.1 rA.2 TA0 (jU TA0 sB) (fun q hq r hr => jV q hq r (sB r hr)) smB
 have keepB : ∀ o, (∀ q ∈ lB, q.2 ≠ o) -> (jB (DR s x') lB g2.1 rA.2).2[o]? = rA.2[o]? := fun o ho => vw lB _ _ ho
 generalize hrB : jB (DR s x') lB g2.1 rA.2 = rB at *
 generalize hc3 : cnt (DR s x') rB.1 8 = c3 at *
 generalize hm3 : ((DR s x').number rB.1 0 8).1 = m3 at *
 generalize hg3 : qf (DR s x') c3 m3 [] = g3 at *
 have keepC : ∀ o, (∀ q ∈ lC, q.2 ≠ o) -> (jB (DR s x') lC g3.1 rB.2).2[o]? = rB.2[o]? := fun o ho => vw lC _ _ ho
 generalize hrC : jB (DR s x') lC g3.1 rB.2 = rC at *
 subst hr
 have he : Re.er rC.1 = none := he
 -- no fault ahead
 have e3 : Re.er g3.1 = none := za (x := x') lC g3.1 rB.2 (by rw [hrC]; exact he)
 have ng : ∀ (d : Nat) (w : (DR s x').W) (ys : List IVal), Re.er (qf (DR s x') d w ys).1 = none -> Re.er w = none := by
   intro d
   induction d with
   | zero => intro w ys h; exact h
   | succ d ih => intro w ys h; rw [qf] at h; exact za (x := x') (vf 0) _ _ (ih _ _ h)
 have nw : ∀ (d : Nat) (w : (DR s x').W) (ys : List IVal), Re.er (kT (DR s x') d w ys).1 = none -> Re.er w = none := by
   intro d
   induction d with
   | zero => intro w ys h; exact h
   | succ d ih => intro w ys h; rw [kT] at h; exact KE (ih _ _ h)
 have nn : ∀ (w : (DR s x').W) (most : Nat), Re.er ((DR s x').number w 0 most).1 = none -> Re.er w = none := fun w most h => XD h
 have em3 : Re.er m3 = none := ng c3 m3 [] (by rw [hg3]; exact e3)
 have eB : Re.er rB.1 = none := nn rB.1 8 (by rw [hm3]; exact em3)
 have e2 : Re.er g2.1 = none := za (x := x') lB g2.1 rA.2 (by rw [hrB]; exact eB)
 have em2 : Re.er m2 = none := nw c2 m2 [] (by rw [hg2]; exact e2)
 have e1 : Re.er g1.1 = none := nn g1.1 8000 (by rw [hm2]; exact em2)
 have em1 : Re.er m1 = none := nw c1 m1 [] (by rw [hg1]; exact e1)
 have eA : Re.er rA.1 = none := nn rA.1 512 (by rw [hm1]; exact em1)
 -- what was read is laid
 have R0 : Rel s (⟨[], false⟩ : La) (⟨0, none⟩ : Re) := ⟨rfl, rfl, rfl, List.nil_prefix⟩
 have RA := jgJ (x := x) (x' := x') lA (⟨[], false⟩ : La) (⟨0, none⟩ : Re) Z55 R0 (jU zH sA) smA (by decide) (by rw [hrA]; exact eA)
 rw [hrA] at RA
 obtain ⟨b1, _, Rn1⟩ := jgy (m0 := 0) (most := 512) RA (by show Re.er ((DR s x').number rA.1 0 512).1 = none; rw [hm1]; exact em1)
 have k1 : (Re.number s rA.1 0 512).2 = c1 := by
   have : cnt (DR s x') rA.1 512 = min (Re.number s rA.1 0 512).2 512 := rfl
   rw [hc1] at this; omega
 have m1' : (Re.number s rA.1 0 512).1 = m1 := hm1
 rw [k1] at b1 Rn1; rw [m1'] at Rn1
 obtain ⟨z1, l1, v1, y1, R1⟩ := jed (x' := x') c1 _ m1 [] Rn1 (by rw [hg1]; exact e1)
 rw [hg1] at y1 R1
 obtain ⟨b2, _, Rn2⟩ := jgy (m0 := 0) (most := 8000) R1 (by show Re.er ((DR s x').number g1.1 0 8000).1 = none; rw [hm2]; exact em2)
 have k2 : (Re.number s g1.1 0 8000).2 = c2 := by
   have : cnt (DR s x') g1.1 8000 = min (Re.number s g1.1 0 8000).2 8000 := rfl
   rw [hc2] at this; omega
 have m2' : (Re.number s g1.1 0 8000).1 = m2 := hm2
 rw [k2] at b2 Rn2; rw [m2'] at Rn2
 obtain ⟨z2, l2, v2, y2, R2⟩ := jed (x' := x') c2 _ m2 [] Rn2 (by rw [hg2]; exact e2)
 rw [hg2] at y2 R2
 have RB := jgJ (x := x) (x' := x') lB _ g2.1 rA.2 R2 (jU TA0 sB) smB (by decide) (by rw [hrB]; exact eB)
 rw [hrB] at RB
 obtain ⟨b3, _, Rn3⟩ := jgy (m0 := 0) (most := 8) RB (by show Re.er ((DR s x').number rB.1 0 8).1 = none; rw [hm3]; exact em3)
 have k3 : (Re.number s rB.1 0 8).2 = c3 := by
   have : cnt (DR s x') rB.1 8 = min (Re.number s rB.1 0 8).2 8 := rfl
   rw [hc3] at this; omega
 have m3' : (Re.number s rB.1 0 8).1 = m3 := hm3
 rw [k3] at b3 Rn3; rw [m3'] at Rn3
 obtain ⟨z3, l3, v3, y3, R3⟩ := jdo (x := x) (x' := x') W3 c3 _ m3 [] Rn3 (by rw [hg3]; exact e3)
 rw [hg3] at y3 R3
 have RC := jgJ (x := x) (x' := x') lC _ g3.1 rB.2 R3 (jU TB0 sC) smC (by decide) (by rw [hrC]; exact he)
 rw [hrC] at RC
 have ok : StOK rC.2 z1 z2 z3 := ⟨hty, by omega, by omega, by omega, v1, v2, v3⟩
 refine ⟨z1, z2, z3, ok, l1.symm, by simpa using y1, l2.symm, by simpa using y2, l3.symm, by simpa using y3, ?_⟩
 rw [Qw ok, l1, l2, l3]
 have dAB : ∀ q ∈ lA, ∀ r ∈ lB, r.2 ≠ q.2 := by decide
 have dAC : ∀ q ∈ lA, ∀ r ∈ lC, r.2 ≠ q.2 := by decide
 have dBC : ∀ q ∈ lB, ∀ r ∈ lC, r.2 ≠ q.2 := by decide
 have cA : (jB (DL x) lA (⟨[], false⟩ : La) rC.2).1 = (jB (DL x) lA (⟨[], false⟩ : La) rA.2).1 :=
   vD (x := x) lA _ rA.2 rC.2 (jU TA0 sA) fun q hq => by rw [keepC _ (dAC q hq), keepB _ (dAB q hq)]
 have cB : ∀ w : (DL x).W, (jB (DL x) lB w rC.2).1 = (jB (DL x) lB w rB.2).1 := fun w =>
   vD (x := x) lB _ rB.2 rC.2 (jU TB0 sB) fun q hq => by rw [keepC _ (dBC q hq)]
 rw [cA]
 rw [show (jB (DL x) lB (JJ (La.number (JJ (La.number (jB (DL x) lA (⟨[], false⟩ : La) rA.2).1 c1 512) z1) c2 8000) z2) rC.2).1 = (jB (DL x) lB (JJ (La.number (JJ (La.number (jB (DL x) lA (⟨[], false⟩ : La) rA.2).1 c1 512) z1) c2 8000) z2) rB.2).1 from cB _]
 exact RC
end Go.Idl.Sb
namespace Go.Idl.Sb
open Go Go.Idl Go.Idl.En
variable {F : jJ}
theorem neI (z : Int) : (z != z) = false := bne_self_eq_false z
theorem jge {v u : IVal} {zs : List Int} {σ : List IObj} (h1 : LW σ v zs) (h2 : LW σ u zs) (hn : zs.length < 100000) : ∀ (d i : Nat) (f0 : Nat -> Option (Nat × IVal)) (R : Option (IExit × St)),
   evw F (.loop yJ) ⟨E 14 9 5 [] (base f0), σ, []⟩ = R -> i + d = zs.length ->
   f0 0 = some (0, v) -> f0 1 = some (1, u) -> f0 12 = some (12, I zs.length) -> f0 13 = some (13, I i) ->
   ∃ f1, R = some (.exit 0, ⟨E 14 9 5 [] (base f1), σ, []⟩) := by
 intro d
 induction d with
 | zero =>
   intro i f0 R hE hi e0 e1 e12 e13
   have l0 : decide ((i : Int) < (zs.length : Int)) = false := decide_eq_false (by omega)
   rw [jH] at hE
   subst hE
   simp only [yJ, e0, e1, e12, e13, l0, zV, zS, jy, jM, jc, jk, jR, jg, jl, je, jr, jO, jf, jj, jp, jK, ju, jq, Ts.fill, jS, jP, jh, jT, jo, jm, ji, ja, getAll, stepCall, jn, unI, Opd.get, jx, tag, jv, jb, jI, rv, bin, jW, Nat.reduceAdd, Nat.reduceSub, Nat.reduceMul, Nat.reduceDiv, Nat.reduceMod, Nat.reducePow, Nat.reduceLT, Nat.reduceLeDiff, Nat.reduceEqDiff, Nat.reduceBEq, Nat.reduceBNe, reduceIte, Int.reduceEq, Int.reduceLT, Int.reduceLE, Int.reduceNeg, Int.reduceToNat, Int.reduceMul, Int.reduceAdd, Int.reduceSub, reduceCtorEq]
   exact ⟨_, rfl⟩
 | succ d ih =>
   intro i f0 R hE hi e0 e1 e12 e13
   have l0 : decide ((i : Int) < (zs.length : Int)) = true := decide_eq_true (by omega)
   have hi2 : i < zs.length := by omega
   have g1 : zs[i]? = some zs[i] := List.getElem?_eq_getElem hi2
   have d1 : (0 : Int) <= (i : Int) := by omega
   have d2 : (i : Int) < (zs.length : Int) := by omega
   have w1 := yz (n := i) (by omega)
   rw [jH] at hE
   rcases id h1 with ⟨o, r, rfl⟩ | ⟨id1, rfl, hid1⟩ <;> rcases id h2 with ⟨o', r', rfl⟩ | ⟨id2, rfl, hid2⟩
   . simp only [yJ, jG, e0, e1, e12, e13, l0, g1, d1, d2, w1, neI, Int.toNat_natCast, zV, zS, jy, jM, jc, jk, jR, jg, jl, je, jr, jO, jf, jj, jp, jK, ju, jq, Ts.fill, jS, jP, jh, jT, jo, jm, ji, ja, getAll, stepCall, jn, unI, Opd.get, jx, tag, jv, jb, jI, rv, bin, jW, Nat.reduceAdd, Nat.reduceSub, Nat.reduceMul, Nat.reduceDiv, Nat.reduceMod, Nat.reducePow, Nat.reduceLT, Nat.reduceLeDiff, Nat.reduceEqDiff, Nat.reduceBEq, Nat.reduceBNe, reduceIte, Int.reduceEq, Int.reduceLT, Int.reduceLE, Int.reduceNeg, Int.reduceToNat, Int.reduceMul, Int.reduceAdd, Int.reduceSub, reduceCtorEq] at hE
     exact ih (i + 1) _ R hE (by omega) (by (try simp only [upd_get, base_get, Nat.reduceAdd, Nat.reduceSub, Nat.reduceMul, Nat.reduceDiv, Nat.reduceMod, Nat.reducePow, Nat.reduceLT, Nat.reduceLeDiff, Nat.reduceEqDiff, Nat.reduceBEq, Nat.reduceBNe, reduceIte, Int.reduceEq, Int.reduceLT, Int.reduceLE, Int.reduceNeg, Int.reduceToNat, Int.reduceMul, Int.reduceAdd, Int.reduceSub, Int.cast_ofNat_Int, reduceCtorEq, Nat.zero_add, Nat.add_zero, Nat.mul_one]) <;> first | exact e0 | rfl) (by (try simp only [upd_get, base_get, Nat.reduceAdd, Nat.reduceSub, Nat.reduceMul, Nat.reduceDiv, Nat.reduceMod, Nat.reducePow, Nat.reduceLT, Nat.reduceLeDiff, Nat.reduceEqDiff, Nat.reduceBEq, Nat.reduceBNe, reduceIte, Int.reduceEq, Int.reduceLT, Int.reduceLE, Int.reduceNeg, Int.reduceToNat, Int.reduceMul, Int.reduceAdd, Int.reduceSub, Int.cast_ofNat_Int, reduceCtorEq, Nat.zero_add, Nat.add_zero, Nat.mul_one]) <;> first | exact e1 | rfl) (by (try simp only [upd_get, base_get, Nat.reduceAdd, Nat.reduceSub, Nat.reduceMul, Nat.reduceDiv, Nat.reduceMod, Nat.reducePow, Nat.reduceLT, Nat.reduceLeDiff, Nat.reduceEqDiff, Nat.reduceBEq, Nat.reduceBNe, reduceIte, Int.reduceEq, Int.reduceLT, Int.reduceLE, Int.reduceNeg, Int.reduceToNat, Int.reduceMul, Int.reduceAdd, Int.reduceSub, Int.cast_ofNat_Int, reduceCtorEq, Nat.zero_add, Nat.add_zero, Nat.mul_one]) <;> first | exact e12 | rfl) (by (try simp only [upd_get, base_get, Nat.reduceAdd, Nat.reduceSub, Nat.reduceMul, Nat.reduceDiv, Nat.reduceMod, Nat.reducePow, Nat.reduceLT, Nat.reduceLeDiff, Nat.reduceEqDiff, Nat.reduceBEq, Nat.reduceBNe, reduceIte, Int.reduceEq, Int.reduceLT, Int.reduceLE, Int.reduceNeg, Int.reduceToNat, Int.reduceMul, Int.reduceAdd, Int.reduceSub, Int.cast_ofNat_Int, reduceCtorEq, Nat.zero_add, Nat.add_zero, Nat.mul_one]) <;> rfl)
   . simp only [yJ, jG, e0, e1, e12, e13, l0, g1, d1, d2, w1, neI, hid2, Int.toNat_natCast, zV, zS, jy, jM, jc, jk, jR, jg, jl, je, jr, jO, jf, jj, jp, jK, ju, jq, Ts.fill, jS, jP, jh, jT, jo, jm, ji, ja, getAll, stepCall, jn, unI, Opd.get, jx, tag, jv, jb, jI, rv, bin, jW, Nat.reduceAdd, Nat.reduceSub, Nat.reduceMul, Nat.reduceDiv, Nat.reduceMod, Nat.reducePow, Nat.reduceLT, Nat.reduceLeDiff, Nat.reduceEqDiff, Nat.reduceBEq, Nat.reduceBNe, reduceIte, Int.reduceEq, Int.reduceLT, Int.reduceLE, Int.reduceNeg, Int.reduceToNat, Int.reduceMul, Int.reduceAdd, Int.reduceSub, reduceCtorEq] at hE
     exact ih (i + 1) _ R hE (by omega) (by (try simp only [upd_get, base_get, Nat.reduceAdd, Nat.reduceSub, Nat.reduceMul, Nat.reduceDiv, Nat.reduceMod, Nat.reducePow, Nat.reduceLT, Nat.reduceLeDiff, Nat.reduceEqDiff, Nat.reduceBEq, Nat.reduceBNe, reduceIte, Int.reduceEq, Int.reduceLT, Int.reduceLE, Int.reduceNeg, Int.reduceToNat, Int.reduceMul, Int.reduceAdd, Int.reduceSub, Int.cast_ofNat_Int, reduceCtorEq, Nat.zero_add, Nat.add_zero, Nat.mul_one]) <;> first | exact e0 | rfl) (by (try simp only [upd_get, base_get, Nat.reduceAdd, Nat.reduceSub, Nat.reduceMul, Nat.reduceDiv, Nat.reduceMod, Nat.reducePow, Nat.reduceLT, Nat.reduceLeDiff, Nat.reduceEqDiff, Nat.reduceBEq, Nat.reduceBNe, reduceIte, Int.reduceEq, Int.reduceLT, Int.reduceLE, Int.reduceNeg, Int.reduceToNat, Int.reduceMul, Int.reduceAdd, Int.reduceSub, Int.cast_ofNat_Int, reduceCtorEq, Nat.zero_add, Nat.add_zero, Nat.mul_one]) <;> first | exact e1 | rfl) (by (try simp only [upd_get, base_get, Nat.reduceAdd, Nat.reduceSub, Nat.reduceMul, Nat.reduceDiv, Nat.reduceMod, Nat.reducePow, Nat.reduceLT, Nat.reduceLeDiff, Nat.reduceEqDiff, Nat.reduceBEq, Nat.reduceBNe, reduceIte, Int.reduceEq, Int.reduceLT, Int.reduceLE, Int.reduceNeg, Int.reduceToNat, Int.reduceMul, Int.reduceAdd, Int.reduceSub, Int.cast_ofNat_Int, reduceCtorEq, Nat.zero_add, Nat.add_zero, Nat.mul_one]) <;> first | exact e12 | rfl) (by (try simp only [upd_get, base_get, Nat.reduceAdd, Nat.reduceSub, Nat.reduceMul, Nat.reduceDiv, Nat.reduceMod, Nat.reducePow, Nat.reduceLT, Nat.reduceLeDiff, Nat.reduceEqDiff, Nat.reduceBEq, Nat.reduceBNe, reduceIte, Int.reduceEq, Int.reduceLT, Int.reduceLE, Int.reduceNeg, Int.reduceToNat, Int.reduceMul, Int.reduceAdd, Int.reduceSub, Int.cast_ofNat_Int, reduceCtorEq, Nat.zero_add, Nat.add_zero, Nat.mul_one]) <;> rfl)
   . simp only [yJ, jG, e0, e1, e12, e13, l0, g1, d1, d2, w1, neI, hid1, Int.toNat_natCast, zV, zS, jy, jM, jc, jk, jR, jg, jl, je, jr, jO, jf, jj, jp, jK, ju, jq, Ts.fill, jS, jP, jh, jT, jo, jm, ji, ja, getAll, stepCall, jn, unI, Opd.get, jx, tag, jv, jb, jI, rv, bin, jW, Nat.reduceAdd, Nat.reduceSub, Nat.reduceMul, Nat.reduceDiv, Nat.reduceMod, Nat.reducePow, Nat.reduceLT, Nat.reduceLeDiff, Nat.reduceEqDiff, Nat.reduceBEq, Nat.reduceBNe, reduceIte, Int.reduceEq, Int.reduceLT, Int.reduceLE, Int.reduceNeg, Int.reduceToNat, Int.reduceMul, Int.reduceAdd, Int.reduceSub, reduceCtorEq] at hE
     exact ih (i + 1) _ R hE (by omega) (by (try simp only [upd_get, base_get, Nat.reduceAdd, Nat.reduceSub, Nat.reduceMul, Nat.reduceDiv, Nat.reduceMod, Nat.reducePow, Nat.reduceLT, Nat.reduceLeDiff, Nat.reduceEqDiff, Nat.reduceBEq, Nat.reduceBNe, reduceIte, Int.reduceEq, Int.reduceLT, Int.reduceLE, Int.reduceNeg, Int.reduceToNat, Int.reduceMul, Int.reduceAdd, Int.reduceSub, Int.cast_ofNat_Int, reduceCtorEq, Nat.zero_add, Nat.add_zero, Nat.mul_one]) <;> first | exact e0 | rfl) (by (try simp only [upd_get, base_get, Nat.reduceAdd, Nat.reduceSub, Nat.reduceMul, Nat.reduceDiv, Nat.reduceMod, Nat.reducePow, Nat.reduceLT, Nat.reduceLeDiff, Nat.reduceEqDiff, Nat.reduceBEq, Nat.reduceBNe, reduceIte, Int.reduceEq, Int.reduceLT, Int.reduceLE, Int.reduceNeg, Int.reduceToNat, Int.reduceMul, Int.reduceAdd, Int.reduceSub, Int.cast_ofNat_Int, reduceCtorEq, Nat.zero_add, Nat.add_zero, Nat.mul_one]) <;> first | exact e1 | rfl) (by (try simp only [upd_get, base_get, Nat.reduceAdd, Nat.reduceSub, Nat.reduceMul, Nat.reduceDiv, Nat.reduceMod, Nat.reducePow, Nat.reduceLT, Nat.reduceLeDiff, Nat.reduceEqDiff, Nat.reduceBEq, Nat.reduceBNe, reduceIte, Int.reduceEq, Int.reduceLT, Int.reduceLE, Int.reduceNeg, Int.reduceToNat, Int.reduceMul, Int.reduceAdd, Int.reduceSub, Int.cast_ofNat_Int, reduceCtorEq, Nat.zero_add, Nat.add_zero, Nat.mul_one]) <;> first | exact e12 | rfl) (by (try simp only [upd_get, base_get, Nat.reduceAdd, Nat.reduceSub, Nat.reduceMul, Nat.reduceDiv, Nat.reduceMod, Nat.reducePow, Nat.reduceLT, Nat.reduceLeDiff, Nat.reduceEqDiff, Nat.reduceBEq, Nat.reduceBNe, reduceIte, Int.reduceEq, Int.reduceLT, Int.reduceLE, Int.reduceNeg, Int.reduceToNat, Int.reduceMul, Int.reduceAdd, Int.reduceSub, Int.cast_ofNat_Int, reduceCtorEq, Nat.zero_add, Nat.add_zero, Nat.mul_one]) <;> rfl)
   . simp only [yJ, jG, e0, e1, e12, e13, l0, g1, d1, d2, w1, neI, hid1, hid2, Int.toNat_natCast, zV, zS, jy, jM, jc, jk, jR, jg, jl, je, jr, jO, jf, jj, jp, jK, ju, jq, Ts.fill, jS, jP, jh, jT, jo, jm, ji, ja, getAll, stepCall, jn, unI, Opd.get, jx, tag, jv, jb, jI, rv, bin, jW, Nat.reduceAdd, Nat.reduceSub, Nat.reduceMul, Nat.reduceDiv, Nat.reduceMod, Nat.reducePow, Nat.reduceLT, Nat.reduceLeDiff, Nat.reduceEqDiff, Nat.reduceBEq, Nat.reduceBNe, reduceIte, Int.reduceEq, Int.reduceLT, Int.reduceLE, Int.reduceNeg, Int.reduceToNat, Int.reduceMul, Int.reduceAdd, Int.reduceSub, reduceCtorEq] at hE
     exact ih (i + 1) _ R hE (by omega) (by (try simp only [upd_get, base_get, Nat.reduceAdd, Nat.reduceSub, Nat.reduceMul, Nat.reduceDiv, Nat.reduceMod, Nat.reducePow, Nat.reduceLT, Nat.reduceLeDiff, Nat.reduceEqDiff, Nat.reduceBEq, Nat.reduceBNe, reduceIte, Int.reduceEq, Int.reduceLT, Int.reduceLE, Int.reduceNeg, Int.reduceToNat, Int.reduceMul, Int.reduceAdd, Int.reduceSub, Int.cast_ofNat_Int, reduceCtorEq, Nat.zero_add, Nat.add_zero, Nat.mul_one]) <;> first | exact e0 | rfl) (by (try simp only [upd_get, base_get, Nat.reduceAdd, Nat.reduceSub, Nat.reduceMul, Nat.reduceDiv, Nat.reduceMod, Nat.reducePow, Nat.reduceLT, Nat.reduceLeDiff, Nat.reduceEqDiff, Nat.reduceBEq, Nat.reduceBNe, reduceIte, Int.reduceEq, Int.reduceLT, Int.reduceLE, Int.reduceNeg, Int.reduceToNat, Int.reduceMul, Int.reduceAdd, Int.reduceSub, Int.cast_ofNat_Int, reduceCtorEq, Nat.zero_add, Nat.add_zero, Nat.mul_one]) <;> first | exact e1 | rfl) (by (try simp only [upd_get, base_get, Nat.reduceAdd, Nat.reduceSub, Nat.reduceMul, Nat.reduceDiv, Nat.reduceMod, Nat.reducePow, Nat.reduceLT, Nat.reduceLeDiff, Nat.reduceEqDiff, Nat.reduceBEq, Nat.reduceBNe, reduceIte, Int.reduceEq, Int.reduceLT, Int.reduceLE, Int.reduceNeg, Int.reduceToNat, Int.reduceMul, Int.reduceAdd, Int.reduceSub, Int.cast_ofNat_Int, reduceCtorEq, Nat.zero_add, Nat.add_zero, Nat.mul_one]) <;> first | exact e12 | rfl) (by (try simp only [upd_get, base_get, Nat.reduceAdd, Nat.reduceSub, Nat.reduceMul, Nat.reduceDiv, Nat.reduceMod, Nat.reducePow, Nat.reduceLT, Nat.reduceLeDiff, Nat.reduceEqDiff, Nat.reduceBEq, Nat.reduceBNe, reduceIte, Int.reduceEq, Int.reduceLT, Int.reduceLE, Int.reduceNeg, Int.reduceToNat, Int.reduceMul, Int.reduceAdd, Int.reduceSub, Int.cast_ofNat_Int, reduceCtorEq, Nat.zero_add, Nat.add_zero, Nat.mul_one]) <;> rfl)
theorem jhx (h : F 21 = some jfp) {v u : IVal} {zs : List Int} {σ : List IObj} (h1 : LW σ v zs) (h2 : LW σ u zs) (hn : zs.length < 100000) : cfw F (.f 21) [v, u] σ = some ⟨false, .bool true, σ, []⟩ := by
 rw [jQ jfp h, jq]
 have lp := fun f0 R hE e0 e1 e2 e3 => jge (F := F) h1 h2 hn zs.length 0 f0 R hE (by omega) e0 e1 e2 e3
 rcases h1 with ⟨o, r, rfl⟩ | ⟨id1, rfl, hid1⟩ <;> rcases h2 with ⟨o', r', rfl⟩ | ⟨id2, rfl, hid2⟩
 all_goals
   simp only [jfp, neI, zV, zS, jy, jM, jc, jk, jR, jg, jl, je, jr, jO, jf, jj, jp, jK, ju, jq, Ts.fill, jS, jP, jh, jT, jo, jm, ji, ja, getAll, stepCall, jn, unI, Opd.get, jx, tag, jv, jb, jI, rv, bin, jW, Nat.reduceAdd, Nat.reduceSub, Nat.reduceMul, Nat.reduceDiv, Nat.reduceMod, Nat.reducePow, Nat.reduceLT, Nat.reduceLeDiff, Nat.reduceEqDiff, Nat.reduceBEq, Nat.reduceBNe, reduceIte, Int.reduceEq, Int.reduceLT, Int.reduceLE, Int.reduceNeg, Int.reduceToNat, Int.reduceMul, Int.reduceAdd, Int.reduceSub, reduceCtorEq]
   generalize hE : evw F (ICode.loop yJ) _ = R
   obtain ⟨f1, rfl⟩ := lp _ R hE (by (try simp only [upd_get, base_get, Nat.reduceAdd, Nat.reduceSub, Nat.reduceMul, Nat.reduceDiv, Nat.reduceMod, Nat.reducePow, Nat.reduceLT, Nat.reduceLeDiff, Nat.reduceEqDiff, Nat.reduceBEq, Nat.reduceBNe, reduceIte, Int.reduceEq, Int.reduceLT, Int.reduceLE, Int.reduceNeg, Int.reduceToNat, Int.reduceMul, Int.reduceAdd, Int.reduceSub, Int.cast_ofNat_Int, reduceCtorEq, Nat.zero_add, Nat.add_zero, Nat.mul_one]) <;> rfl) (by (try simp only [upd_get, base_get, Nat.reduceAdd, Nat.reduceSub, Nat.reduceMul, Nat.reduceDiv, Nat.reduceMod, Nat.reducePow, Nat.reduceLT, Nat.reduceLeDiff, Nat.reduceEqDiff, Nat.reduceBEq, Nat.reduceBNe, reduceIte, Int.reduceEq, Int.reduceLT, Int.reduceLE, Int.reduceNeg, Int.reduceToNat, Int.reduceMul, Int.reduceAdd, Int.reduceSub, Int.cast_ofNat_Int, reduceCtorEq, Nat.zero_add, Nat.add_zero, Nat.mul_one]) <;> rfl) (by (try simp only [upd_get, base_get, Nat.reduceAdd, Nat.reduceSub, Nat.reduceMul, Nat.reduceDiv, Nat.reduceMod, Nat.reducePow, Nat.reduceLT, Nat.reduceLeDiff, Nat.reduceEqDiff, Nat.reduceBEq, Nat.reduceBNe, reduceIte, Int.reduceEq, Int.reduceLT, Int.reduceLE, Int.reduceNeg, Int.reduceToNat, Int.reduceMul, Int.reduceAdd, Int.reduceSub, Int.cast_ofNat_Int, reduceCtorEq, Nat.zero_add, Nat.add_zero, Nat.mul_one]) <;> rfl) (by (try simp only [upd_get, base_get, Nat.reduceAdd, Nat.reduceSub, Nat.reduceMul, Nat.reduceDiv, Nat.reduceMod, Nat.reducePow, Nat.reduceLT, Nat.reduceLeDiff, Nat.reduceEqDiff, Nat.reduceBEq, Nat.reduceBNe, reduceIte, Int.reduceEq, Int.reduceLT, Int.reduceLE, Int.reduceNeg, Int.reduceToNat, Int.reduceMul, Int.reduceAdd, Int.reduceSub, Int.cast_ofNat_Int, reduceCtorEq, Nat.zero_add, Nat.add_zero, Nat.mul_one]) <;> rfl)
   simp only [zV, zS, jy, jM, jc, jk, jR, jg, jl, je, jr, jO, jf, jj, jp, jK, ju, jq, Ts.fill, jS, jP, jh, jT, jo, jm, ji, ja, getAll, stepCall, jn, unI, Opd.get, jx, tag, jv, jb, jI, rv, bin, jW, Nat.reduceAdd, Nat.reduceSub, Nat.reduceMul, Nat.reduceDiv, Nat.reduceMod, Nat.reducePow, Nat.reduceLT, Nat.reduceLeDiff, Nat.reduceEqDiff, Nat.reduceBEq, Nat.reduceBNe, reduceIte, Int.reduceEq, Int.reduceLT, Int.reduceLE, Int.reduceNeg, Int.reduceToNat, Int.reduceMul, Int.reduceAdd, Int.reduceSub, reduceCtorEq]
theorem eq3 (a b : Int) (c : Bool) : eqK [0, 0, 2] [I a, I b, .bool c] [I a, I b, .bool c] = some true := by
 simp [eqK, Kg, qk]
theorem tkR {zs : List (Int × Int × Bool)} {i : Nat} (h : i < zs.length) : jG (some 3) (zs.flatMap Rc) (i * 3) = some (Ra zs[i]) := by
 have hl := jaA zs
 rw [jG, if_pos (by omega)]
 have e := Ye zs
 have e2 : (vo 3 zs.length (zs.flatMap Rc))[i]? = some (Ra zs[i]) := by rw [e, List.getElem?_map, List.getElem?_eq_getElem h]; rfl
 rw [vo, List.getElem?_map, List.getElem?_range h] at e2
 exact e2
theorem jg5 (a b c : IVal) : jG (some 3) [a, b, c] 0 = some (.agg [a, b, c]) := rfl
theorem jgf {v u : IVal} {zs : List (Int × Int × Bool)} {σ : List IObj} (h1 : LR σ v zs) (h2 : LR σ u zs) (hn : zs.length < 100000) : ∀ (d i : Nat) (f0 : Nat -> Option (Nat × IVal)) (R : Option (IExit × St)),
   evw F (.loop yK) ⟨E 14 9 5 [] (base f0), σ, []⟩ = R -> i + d = zs.length ->
   f0 0 = some (0, v) -> f0 1 = some (1, u) -> f0 12 = some (12, I zs.length) -> f0 13 = some (13, I i) ->
   ∃ f1, R = some (.exit 0, ⟨E 14 9 5 [] (base f1), σ, []⟩) := by
 intro d
 induction d with
 | zero =>
   intro i f0 R hE hi e0 e1 e12 e13
   have l0 : decide ((i : Int) < (zs.length : Int)) = false := decide_eq_false (by omega)
   rw [jH] at hE
   subst hE
   simp only [yK, e0, e1, e12, e13, l0, zV, zS, jy, jM, jc, jk, jR, jg, jl, je, jr, jO, jf, jj, jp, jK, ju, jq, Ts.fill, jS, jP, jh, jT, jo, jm, ji, ja, getAll, stepCall, jn, unI, Opd.get, jx, tag, jv, jb, jI, rv, bin, jW, Nat.reduceAdd, Nat.reduceSub, Nat.reduceMul, Nat.reduceDiv, Nat.reduceMod, Nat.reducePow, Nat.reduceLT, Nat.reduceLeDiff, Nat.reduceEqDiff, Nat.reduceBEq, Nat.reduceBNe, reduceIte, Int.reduceEq, Int.reduceLT, Int.reduceLE, Int.reduceNeg, Int.reduceToNat, Int.reduceMul, Int.reduceAdd, Int.reduceSub, reduceCtorEq]
   exact ⟨_, rfl⟩
 | succ d ih =>
   intro i f0 R hE hi e0 e1 e12 e13
   have l0 : decide ((i : Int) < (zs.length : Int)) = true := decide_eq_true (by omega)
   have hi2 : i < zs.length := by omega
   have g1 : zs[i]? = some zs[i] := List.getElem?_eq_getElem hi2
   have d1 : (0 : Int) <= (i : Int) := by omega
   have d2 : (i : Int) < (zs.length : Int) := by omega
   have w1 := yz (n := i) (by omega)
   have tr := tkR hi2
   rw [jH] at hE
   rcases id h1 with ⟨o, r, rfl⟩ | ⟨id1, rfl, hid1⟩ <;> rcases id h2 with ⟨o', r', rfl⟩ | ⟨id2, rfl, hid2⟩
   . simp only [yK, jg5, tr, eq3, e0, e1, e12, e13, l0, g1, d1, d2, w1, neI, Int.toNat_natCast, zV, zS, jy, jM, jc, jk, jR, jg, jl, je, jr, jO, jf, jj, jp, jK, ju, jq, Ts.fill, jS, jP, jh, jT, jo, jm, ji, ja, getAll, stepCall, jn, unI, Opd.get, jx, tag, jv, jb, jI, rv, bin, jW, Nat.reduceAdd, Nat.reduceSub, Nat.reduceMul, Nat.reduceDiv, Nat.reduceMod, Nat.reducePow, Nat.reduceLT, Nat.reduceLeDiff, Nat.reduceEqDiff, Nat.reduceBEq, Nat.reduceBNe, reduceIte, Int.reduceEq, Int.reduceLT, Int.reduceLE, Int.reduceNeg, Int.reduceToNat, Int.reduceMul, Int.reduceAdd, Int.reduceSub, reduceCtorEq] at hE
     exact ih (i + 1) _ R hE (by omega) (by (try simp only [upd_get, base_get, Nat.reduceAdd, Nat.reduceSub, Nat.reduceMul, Nat.reduceDiv, Nat.reduceMod, Nat.reducePow, Nat.reduceLT, Nat.reduceLeDiff, Nat.reduceEqDiff, Nat.reduceBEq, Nat.reduceBNe, reduceIte, Int.reduceEq, Int.reduceLT, Int.reduceLE, Int.reduceNeg, Int.reduceToNat, Int.reduceMul, Int.reduceAdd, Int.reduceSub, Int.cast_ofNat_Int, reduceCtorEq, Nat.zero_add, Nat.add_zero, Nat.mul_one]) <;> first | exact e0 | rfl) (by (try simp only [upd_get, base_get, Nat.reduceAdd, Nat.reduceSub, Nat.reduceMul, Nat.reduceDiv, Nat.reduceMod, Nat.reducePow, Nat.reduceLT, Nat.reduceLeDiff, Nat.reduceEqDiff, Nat.reduceBEq, Nat.reduceBNe, reduceIte, Int.reduceEq, Int.reduceLT, Int.reduceLE, Int.reduceNeg, Int.reduceToNat, Int.reduceMul, Int.reduceAdd, Int.reduceSub, Int.cast_ofNat_Int, reduceCtorEq, Nat.zero_add, Nat.add_zero, Nat.mul_one]) <;> first | exact e1 | rfl) (by (try simp only [upd_get, base_get, Nat.reduceAdd, Nat.reduceSub, Nat.reduceMul, Nat.reduceDiv, Nat.reduceMod, Nat.reducePow, Nat.reduceLT, Nat.reduceLeDiff, Nat.reduceEqDiff, Nat.reduceBEq, Nat.reduceBNe, reduceIte, Int.reduceEq, Int.reduceLT, Int.reduceLE, Int.reduceNeg, Int.reduceToNat, Int.reduceMul, Int.reduceAdd, Int.reduceSub, Int.cast_ofNat_Int, reduceCtorEq, Nat.zero_add, Nat.add_zero, Nat.mul_one]) <;> first | exact e12 | rfl) (by (try simp only [upd_get, base_get, Nat.reduceAdd, Nat.reduceSub, Nat.reduceMul, Nat.reduceDiv, Nat.reduceMod, Nat.reducePow, Nat.reduceLT, Nat.reduceLeDiff, Nat.reduceEqDiff, Nat.reduceBEq, Nat.reduceBNe, reduceIte, Int.reduceEq, Int.reduceLT, Int.reduceLE, Int.reduceNeg, Int.reduceToNat, Int.reduceMul, Int.reduceAdd, Int.reduceSub, Int.cast_ofNat_Int, reduceCtorEq, Nat.zero_add, Nat.add_zero, Nat.mul_one]) <;> rfl)
   . simp only [yK, jg5, tr, eq3, e0, e1, e12, e13, l0, g1, d1, d2, w1, neI, hid2, Int.toNat_natCast, zV, zS, jy, jM, jc, jk, jR, jg, jl, je, jr, jO, jf, jj, jp, jK, ju, jq, Ts.fill, jS, jP, jh, jT, jo, jm, ji, ja, getAll, stepCall, jn, unI, Opd.get, jx, tag, jv, jb, jI, rv, bin, jW, Nat.reduceAdd, Nat.reduceSub, Nat.reduceMul, Nat.reduceDiv, Nat.reduceMod, Nat.reducePow, Nat.reduceLT, Nat.reduceLeDiff, Nat.reduceEqDiff, Nat.reduceBEq, Nat.reduceBNe, reduceIte, Int.reduceEq, Int.reduceLT, Int.reduceLE, Int.reduceNeg, Int.reduceToNat, Int.reduceMul, Int.reduceAdd, Int.reduceSub, reduceCtorEq] at hE
     exact ih (i + 1) _ R hE (by omega) (by (try simp only [upd_get, base_get, Nat.reduceAdd, Nat.reduceSub, Nat.reduceMul, Nat.reduceDiv, Nat.reduceMod, Nat.reducePow, Nat.reduceLT, Nat.reduceLeDiff, Nat.reduceEqDiff, Nat.reduceBEq, Nat.reduceBNe, reduceIte, Int.reduceEq, Int.reduceLT, Int.reduceLE, Int.reduceNeg, Int.reduceToNat, Int.reduceMul, Int.reduceAdd, Int.reduceSub, Int.cast_ofNat_Int, reduceCtorEq, Nat.zero_add, Nat.add_zero, Nat.mul_one]) <;> first | exact e0 | rfl) (by (try simp only [upd_get, base_get, Nat.reduceAdd, Nat.reduceSub, Nat.reduceMul, Nat.reduceDiv, Nat.reduceMod, Nat.reducePow, Nat.reduceLT, Nat.reduceLeDiff, Nat.reduceEqDiff, Nat.reduceBEq, Nat.reduceBNe, reduceIte, Int.reduceEq, Int.reduceLT, Int.reduceLE, Int.reduceNeg, Int.reduceToNat, Int.reduceMul, Int.reduceAdd, Int.reduceSub, Int.cast_ofNat_Int, reduceCtorEq, Nat.zero_add, Nat.add_zero, Nat.mul_one]) <;> first | exact e1 | rfl) (by (try simp only [upd_get, base_get, Nat.reduceAdd, Nat.reduceSub, Nat.reduceMul, Nat.reduceDiv, Nat.reduceMod, Nat.reducePow, Nat.reduceLT, Nat.reduceLeDiff, Nat.reduceEqDiff, Nat.reduceBEq, Nat.reduceBNe, reduceIte, Int.reduceEq, Int.reduceLT, Int.reduceLE, Int.reduceNeg, Int.reduceToNat, Int.reduceMul, Int.reduceAdd, Int.reduceSub, Int.cast_ofNat_Int, reduceCtorEq, Nat.zero_add, Nat.add_zero, Nat.mul_one]) <;> first | exact e12 | rfl) (by (try simp only [upd_get, base_get, Nat.reduceAdd, Nat.reduceSub, Nat.reduceMul, Nat.reduceDiv, Nat.reduceMod, Nat.reducePow, Nat.reduceLT, Nat.reduceLeDiff, Nat.reduceEqDiff, Nat.reduceBEq, Nat.reduceBNe, reduceIte, Int.reduceEq, Int.reduceLT, Int.reduceLE, Int.reduceNeg, Int.reduceToNat, Int.reduceMul, Int.reduceAdd, Int.reduceSub, Int.cast_ofNat_Int, reduceCtorEq, Nat.zero_add, Nat.add_zero, Nat.mul_one]) <;> rfl)
   . simp only [yK, jg5, tr, eq3, e0, e1, e12, e13, l0, g1, d1, d2, w1, neI, hid1, Int.toNat_natCast, zV, zS, jy, jM, jc, jk, jR, jg, jl, je, jr, jO, jf, jj, jp, jK, ju, jq, Ts.fill, jS, jP, jh, jT, jo, jm, ji, ja, getAll, stepCall, jn, unI, Opd.get, jx, tag, jv, jb, jI, rv, bin, jW, Nat.reduceAdd, Nat.reduceSub, Nat.reduceMul, Nat.reduceDiv, Nat.reduceMod, Nat.reducePow, Nat.reduceLT, Nat.reduceLeDiff, Nat.reduceEqDiff, Nat.reduceBEq, Nat.reduceBNe, reduceIte, Int.reduceEq, Int.reduceLT, Int.reduceLE, Int.reduceNeg, Int.reduceToNat, Int.reduceMul, Int.reduceAdd, Int.reduceSub, reduceCtorEq] at hE
     exact ih (i + 1) _ R hE (by omega) (by (try simp only [upd_get, base_get, Nat.reduceAdd, Nat.reduceSub, Nat.reduceMul, Nat.reduceDiv, Nat.reduceMod, Nat.reducePow, Nat.reduceLT, Nat.reduceLeDiff, Nat.reduceEqDiff, Nat.reduceBEq, Nat.reduceBNe, reduceIte, Int.reduceEq, Int.reduceLT, Int.reduceLE, Int.reduceNeg, Int.reduceToNat, Int.reduceMul, Int.reduceAdd, Int.reduceSub, Int.cast_ofNat_Int, reduceCtorEq, Nat.zero_add, Nat.add_zero, Nat.mul_one]) <;> first | exact e0 | rfl) (by (try simp only [upd_get, base_get, Nat.reduceAdd, Nat.reduceSub, Nat.reduceMul, Nat.reduceDiv, Nat.reduceMod, Nat.reducePow, Nat.reduceLT, Nat.reduceLeDiff, Nat.reduceEqDiff, Nat.reduceBEq, Nat.reduceBNe, reduceIte, Int.reduceEq, Int.reduceLT, Int.reduceLE, Int.reduceNeg, Int.reduceToNat, Int.reduceMul, Int.reduceAdd, Int.reduceSub, Int.cast_ofNat_Int, reduceCtorEq, Nat.zero_add, Nat.add_zero, Nat.mul_one]) <;> first | exact e1 | rfl) (by (try simp only [upd_get, base_get, Nat.reduceAdd, Nat.reduceSub, Nat.reduceMul, Nat.reduceDiv, Nat.reduceMod, Nat.reducePow, Nat.reduceLT, Nat.reduceLeDiff, Nat.reduceEqDiff, Nat.reduceBEq, Nat.reduceBNe, reduceIte, Int.reduceEq, Int.reduceLT, Int.reduceLE, Int.reduceNeg, Int.reduceToNat, Int.reduceMul, Int.reduceAdd, Int.reduceSub, Int.cast_ofNat_Int, reduceCtorEq, Nat.zero_add, Nat.add_zero, Nat.mul_one]) <;> first | exact e12 | rfl) (by (try simp only [upd_get, base_get, Nat.reduceAdd, Nat.reduceSub, Nat.reduceMul, Nat.reduceDiv, Nat.reduceMod, Nat.reducePow, Nat.reduceLT, Nat.reduceLeDiff, Nat.reduceEqDiff, Nat.reduceBEq, Nat.reduceBNe, reduceIte, Int.reduceEq, Int.reduceLT, Int.reduceLE, Int.reduceNeg, Int.reduceToNat, Int.reduceMul, Int.reduceAdd, Int.reduceSub, Int.cast_ofNat_Int, reduceCtorEq, Nat.zero_add, Nat.add_zero, Nat.mul_one]) <;> rfl)
   . simp only [yK, jg5, tr, eq3, e0, e1, e12, e13, l0, g1, d1, d2, w1, neI, hid1, hid2, Int.toNat_natCast, zV, zS, jy, jM, jc, jk, jR, jg, jl, je, jr, jO, jf, jj, jp, jK, ju, jq, Ts.fill, jS, jP, jh, jT, jo, jm, ji, ja, getAll, stepCall, jn, unI, Opd.get, jx, tag, jv, jb, jI, rv, bin, jW, Nat.reduceAdd, Nat.reduceSub, Nat.reduceMul, Nat.reduceDiv, Nat.reduceMod, Nat.reducePow, Nat.reduceLT, Nat.reduceLeDiff, Nat.reduceEqDiff, Nat.reduceBEq, Nat.reduceBNe, reduceIte, Int.reduceEq, Int.reduceLT, Int.reduceLE, Int.reduceNeg, Int.reduceToNat, Int.reduceMul, Int.reduceAdd, Int.reduceSub, reduceCtorEq] at hE
     exact ih (i + 1) _ R hE (by omega) (by (try simp only [upd_get, base_get, Nat.reduceAdd, Nat.reduceSub, Nat.reduceMul, Nat.reduceDiv, Nat.reduceMod, Nat.reducePow, Nat.reduceLT, Nat.reduceLeDiff, Nat.reduceEqDiff, Nat.reduceBEq, Nat.reduceBNe, reduceIte, Int.reduceEq, Int.reduceLT, Int.reduceLE, Int.reduceNeg, Int.reduceToNat, Int.reduceMul, Int.reduceAdd, Int.reduceSub, Int.cast_ofNat_Int, reduceCtorEq, Nat.zero_add, Nat.add_zero, Nat.mul_one]) <;> first | exact e0 | rfl) (by (try simp only [upd_get, base_get, Nat.reduceAdd, Nat.reduceSub, Nat.reduceMul, Nat.reduceDiv, Nat.reduceMod, Nat.reducePow, Nat.reduceLT, Nat.reduceLeDiff, Nat.reduceEqDiff, Nat.reduceBEq, Nat.reduceBNe, reduceIte, Int.reduceEq, Int.reduceLT, Int.reduceLE, Int.reduceNeg, Int.reduceToNat, Int.reduceMul, Int.reduceAdd, Int.reduceSub, Int.cast_ofNat_Int, reduceCtorEq, Nat.zero_add, Nat.add_zero, Nat.mul_one]) <;> first | exact e1 | rfl) (by (try simp only [upd_get, base_get, Nat.reduceAdd, Nat.reduceSub, Nat.reduceMul, Nat.reduceDiv, Nat.reduceMod, Nat.reducePow, Nat.reduceLT, Nat.reduceLeDiff, Nat.reduceEqDiff, Nat.reduceBEq, Nat.reduceBNe, reduceIte, Int.reduceEq, Int.reduceLT, Int.reduceLE, Int.reduceNeg, Int.reduceToNat, Int.reduceMul, Int.reduceAdd, Int.reduceSub, Int.cast_ofNat_Int, reduceCtorEq, Nat.zero_add, Nat.add_zero, Nat.mul_one]) <;> first | exact e12 | rfl) (by (try simp only [upd_get, base_get, Nat.reduceAdd, Nat.reduceSub, Nat.reduceMul, Nat.reduceDiv, Nat.reduceMod, Nat.reducePow, Nat.reduceLT, Nat.reduceLeDiff, Nat.reduceEqDiff, Nat.reduceBEq, Nat.reduceBNe, reduceIte, Int.reduceEq, Int.reduceLT, Int.reduceLE, Int.reduceNeg, Int.reduceToNat, Int.reduceMul, Int.reduceAdd, Int.reduceSub, Int.cast_ofNat_Int, reduceCtorEq, Nat.zero_add, Nat.add_zero, Nat.mul_one]) <;> rfl)
theorem jh9 (h : F 22 = some jfq) {v u : IVal} {zs : List (Int × Int × Bool)} {σ : List IObj} (h1 : LR σ v zs) (h2 : LR σ u zs) (hn : zs.length < 100000) : cfw F (.f 22) [v, u] σ = some ⟨false, .bool true, σ, []⟩ := by
 rw [jQ jfq h, jq]
 have lp := fun f0 R hE e0 e1 e2 e3 => jgf (F := F) h1 h2 hn zs.length 0 f0 R hE (by omega) e0 e1 e2 e3
 rcases h1 with ⟨o, r, rfl⟩ | ⟨id1, rfl, hid1⟩ <;> rcases h2 with ⟨o', r', rfl⟩ | ⟨id2, rfl, hid2⟩
 all_goals
   simp only [jfq, neI, zV, zS, jy, jM, jc, jk, jR, jg, jl, je, jr, jO, jf, jj, jp, jK, ju, jq, Ts.fill, jS, jP, jh, jT, jo, jm, ji, ja, getAll, stepCall, jn, unI, Opd.get, jx, tag, jv, jb, jI, rv, bin, jW, Nat.reduceAdd, Nat.reduceSub, Nat.reduceMul, Nat.reduceDiv, Nat.reduceMod, Nat.reducePow, Nat.reduceLT, Nat.reduceLeDiff, Nat.reduceEqDiff, Nat.reduceBEq, Nat.reduceBNe, reduceIte, Int.reduceEq, Int.reduceLT, Int.reduceLE, Int.reduceNeg, Int.reduceToNat, Int.reduceMul, Int.reduceAdd, Int.reduceSub, reduceCtorEq]
   generalize hE : evw F (ICode.loop yK) _ = R
   obtain ⟨f1, rfl⟩ := lp _ R hE (by (try simp only [upd_get, base_get, Nat.reduceAdd, Nat.reduceSub, Nat.reduceMul, Nat.reduceDiv, Nat.reduceMod, Nat.reducePow, Nat.reduceLT, Nat.reduceLeDiff, Nat.reduceEqDiff, Nat.reduceBEq, Nat.reduceBNe, reduceIte, Int.reduceEq, Int.reduceLT, Int.reduceLE, Int.reduceNeg, Int.reduceToNat, Int.reduceMul, Int.reduceAdd, Int.reduceSub, Int.cast_ofNat_Int, reduceCtorEq, Nat.zero_add, Nat.add_zero, Nat.mul_one]) <;> rfl) (by (try simp only [upd_get, base_get, Nat.reduceAdd, Nat.reduceSub, Nat.reduceMul, Nat.reduceDiv, Nat.reduceMod, Nat.reducePow, Nat.reduceLT, Nat.reduceLeDiff, Nat.reduceEqDiff, Nat.reduceBEq, Nat.reduceBNe, reduceIte, Int.reduceEq, Int.reduceLT, Int.reduceLE, Int.reduceNeg, Int.reduceToNat, Int.reduceMul, Int.reduceAdd, Int.reduceSub, Int.cast_ofNat_Int, reduceCtorEq, Nat.zero_add, Nat.add_zero, Nat.mul_one]) <;> rfl) (by (try simp only [upd_get, base_get, Nat.reduceAdd, Nat.reduceSub, Nat.reduceMul, Nat.reduceDiv, Nat.reduceMod, Nat.reducePow, Nat.reduceLT, Nat.reduceLeDiff, Nat.reduceEqDiff, Nat.reduceBEq, Nat.reduceBNe, reduceIte, Int.reduceEq, Int.reduceLT, Int.reduceLE, Int.reduceNeg, Int.reduceToNat, Int.reduceMul, Int.reduceAdd, Int.reduceSub, Int.cast_ofNat_Int, reduceCtorEq, Nat.zero_add, Nat.add_zero, Nat.mul_one]) <;> rfl) (by (try simp only [upd_get, base_get, Nat.reduceAdd, Nat.reduceSub, Nat.reduceMul, Nat.reduceDiv, Nat.reduceMod, Nat.reducePow, Nat.reduceLT, Nat.reduceLeDiff, Nat.reduceEqDiff, Nat.reduceBEq, Nat.reduceBNe, reduceIte, Int.reduceEq, Int.reduceLT, Int.reduceLE, Int.reduceNeg, Int.reduceToNat, Int.reduceMul, Int.reduceAdd, Int.reduceSub, Int.cast_ofNat_Int, reduceCtorEq, Nat.zero_add, Nat.add_zero, Nat.mul_one]) <;> rfl)
   simp only [zV, zS, jy, jM, jc, jk, jR, jg, jl, je, jr, jO, jf, jj, jp, jK, ju, jq, Ts.fill, jS, jP, jh, jT, jo, jm, ji, ja, getAll, stepCall, jn, unI, Opd.get, jx, tag, jv, jb, jI, rv, bin, jW, Nat.reduceAdd, Nat.reduceSub, Nat.reduceMul, Nat.reduceDiv, Nat.reduceMod, Nat.reducePow, Nat.reduceLT, Nat.reduceLeDiff, Nat.reduceEqDiff, Nat.reduceBEq, Nat.reduceBNe, reduceIte, Int.reduceEq, Int.reduceLT, Int.reduceLE, Int.reduceNeg, Int.reduceToNat, Int.reduceMul, Int.reduceAdd, Int.reduceSub, reduceCtorEq]
end Go.Idl.Sb
namespace Go.Idl.Sb
open Go Go.Idl Go.Idl.En
variable {F : jJ}
theorem Qx : ∀ (ks : List Nat) (xs : List IVal), ks.length = xs.length -> (∀ (i k : Nat) (x : IVal), ks[i]? = some k -> xs[i]? = some x -> Kg k x = true /\ qk x x = some true) -> eqK ks xs xs = some true
 | [], [], _, _ => rfl
 | [], _ :: _, h, _ => by cases h
 | _ :: _, [], h, _ => by cases h
 | k :: ks, x :: xs, h, ha => by
   obtain ⟨h1, h2⟩ := ha 0 k x rfl rfl
   rw [eqK, h1, h2]
   simp only [if_true]
   exact Qx ks xs (by simpa using h) (fun i k x hk hx => ha (i + 1) k x hk hx)
def kk : K -> Nat
 | .tr => 2
 | _ => 0
theorem jga {k : K} {v : IVal} (h : k.ty v) : Kg (kk k) v = true /\ qk v v = some true := by
 cases k with
 | pl => obtain ⟨n, rfl, _⟩ := h; exact ⟨rfl, by simp [qk]⟩
 | wd => obtain ⟨n, rfl, _⟩ := h; exact ⟨rfl, by simp [qk]⟩
 | byt => obtain ⟨n, rfl, _⟩ := h; exact ⟨rfl, by simp [qk]⟩
 | tr => obtain ⟨b, rfl⟩ := h; exact ⟨rfl, by simp [qk]⟩
 | hf => obtain ⟨n, rfl, _⟩ := h; exact ⟨rfl, by simp [qk]⟩
 | nm => obtain ⟨n, rfl, _⟩ := h; exact ⟨rfl, by simp [qk]⟩
/-- Parts of the cells are like themselves. -/
theorem ja3 {cs : List IVal} {o n : Nat} {ks : List Nat} (hT : Ty lAll cs) (hl : cs.length = 55) (hn : o + n <= 55) (hk : ks.length = n) (h : ∀ i < n, ∃ q ∈ lAll, q.2 = o + i /\ ks[i]? = some (kk q.1)) : eqK ks ((cs.drop o).take n) ((cs.drop o).take n) = some true := by
 refine Qx ks _ (by rw [List.length_take, List.length_drop]; omega) ?_
 intro i k x h1 h2
 have hi : i < n := by
   rcases Nat.lt_or_ge i n with h3 | h3
   . exact h3
   . rw [List.getElem?_eq_none (by omega)] at h1; cases h1
 obtain ⟨q, hq, e1, e2⟩ := h i hi
 obtain ⟨v, hv, hkv⟩ := hT q hq
 rw [List.getElem?_take_of_lt hi, List.getElem?_drop, <- e1, hv] at h2
 rw [h1] at e2
 rw [Option.some.inj e2, <- Option.some.inj h2]
 exact jga hkv
theorem jdg {cs cs' : List IVal} {o n : Nat} (hl : cs.length = 55) (hl' : cs'.length = 55) (he : ∀ q ∈ lAll, cs'[q.2]? = cs[q.2]?) (h : ∀ i < n, o + i ∈ lAll.map (·.2)) : (cs'.drop o).take n = (cs.drop o).take n := by
 apply List.ext_getElem?
 intro i
 by_cases hi : i < n
 . obtain ⟨q, hq, e⟩ := List.mem_map.1 (h i hi)
   rw [List.getElem?_take_of_lt hi, List.getElem?_take_of_lt hi, List.getElem?_drop, List.getElem?_drop, <- e, he q hq]
 . rw [List.getElem?_eq_none (by rw [List.length_take]; omega), List.getElem?_eq_none (by rw [List.length_take]; omega)]
theorem VG {cs : List IVal} (hT : Ty lAll cs) {o : Nat} (h : (.pl, o) ∈ lAll) : ∃ n : Int, cs[o]? = some (I n) := by
 obtain ⟨v, hv, n, rfl, _⟩ := hT (.pl, o) h
 exact ⟨n, hv⟩
def Xk (cs : List IVal) : List IVal := [0, 1, 2, 3, 15, 52, 53, 54].map (kH cs)
theorem vH {cs : List IVal} (hc : cs.all IVal.isCell = true) : (cs.map un1).all IVal.isCell = true := by
 rw [List.all_eq_true] at hc ⊢
 intro v hv
 obtain ⟨u, hu, rfl⟩ := List.mem_map.mp hv
 have := hc u hu
 cases u <;> first | rfl | cases this
theorem Z5 (h : F 23 = some jfr) {cs : List IVal} {σ : List IObj} (hl : cs.length = 55) (hc : cs.all IVal.isCell = true) (hT : Ty lAll cs) : cfw F (.f 23) [.agg cs] σ = some ⟨false, .agg (Xk cs), σ, []⟩ := by
 rw [jQ jfr h, jq]
 have hT2 := Xh hT
 have hs : ∀ q ∈ lAll, (cs.map un1)[q.2]? = cs[q.2]? := by
   intro q hq
   obtain ⟨v, hv, hk⟩ := hT q hq
   rw [List.getElem?_map, hv]; simp [ZL hk]
 obtain ⟨n0, p0⟩ := VG hT (o := 0) (by decide)
 obtain ⟨n1, p1⟩ := VG hT (o := 1) (by decide)
 obtain ⟨n2, p2⟩ := VG hT (o := 2) (by decide)
 obtain ⟨n3, p3⟩ := VG hT (o := 3) (by decide)
 obtain ⟨n4, p4⟩ := VG hT (o := 15) (by decide)
 obtain ⟨n5, p5⟩ := VG hT (o := 52) (by decide)
 obtain ⟨n6, p6⟩ := VG hT (o := 53) (by decide)
 obtain ⟨n7, p7⟩ := VG hT (o := 54) (by decide)
 have ec : Xk cs = [I n0, I n1, I n2, I n3, I n4, I n5, I n6, I n7] := by
   simp only [Xk, List.map_cons, List.map_nil, jF p0, jF p1, jF p2, jF p3, jF p4, jF p5, jF p6, jF p7]
 have q0 := (hs (.pl, 0) (by decide)).trans p0
 have q1 := (hs (.pl, 1) (by decide)).trans p1
 have q2 := (hs (.pl, 2) (by decide)).trans p2
 have q3 := (hs (.pl, 3) (by decide)).trans p3
 have q4 := (hs (.pl, 15) (by decide)).trans p4
 have q5 := (hs (.pl, 52) (by decide)).trans p5
 have q6 := (hs (.pl, 53) (by decide)).trans p6
 have q7 := (hs (.pl, 54) (by decide)).trans p7
 simp only [] at q0 q1 q2 q3 q4 q5 q6 q7
 rw [ec]
 have hc2 := vH hc
 have uu := vK cs
 generalize hB : cs.map un1 = bs at *
 have f8 : ∀ a b c d e f g h : IVal, a.cells = [a] -> b.cells = [b] -> c.cells = [c] -> d.cells = [d] -> e.cells = [e] -> f.cells = [f] -> g.cells = [g] -> h.cells = [h] -> True := fun _ _ _ _ _ _ _ _ _ _ _ _ _ _ _ _ => trivial
 have fl : yF [.int .i64 0, .int .i64 0, .int .i64 0, .int .i64 0, .int .i64 0, .int .i64 0, .int .i64 0, .int .i64 0] [(0, 1, I n0), (1, 1, I n1), (2, 1, I n2), (3, 1, I n3), (4, 1, I n4), (5, 1, I n5), (6, 1, I n6), (7, 1, I n7)] = some [I n0, I n1, I n2, I n3, I n4, I n5, I n6, I n7] := rfl
 have t8 : ∀ a b c d e f g h : IVal, jG (some 8) [a, b, c, d, e, f, g, h] 0 = some (.agg [a, b, c, d, e, f, g, h]) := fun _ _ _ _ _ _ _ _ => rfl
 have tn : ∀ (l : List IVal) (o : Nat), jG none l o = l[o]? := fun _ _ => rfl
 simp only [jfr, cells_agg, hB, hc2, uu, fl, t8, tn, q0, q1, q2, q3, q4, q5, q6, q7, List.zip_cons_cons, List.zip_nil_right, zV, zS, jy, jM, jc, jk, jR, jg, jl, je, jr, jO, jf, jj, jp, jK, ju, jq, Ts.fill, jS, jP, jh, jT, jo, jm, ji, ja, getAll, stepCall, jn, unI, Opd.get, jx, tag, jv, jb, jI, rv, bin, jW, Nat.reduceAdd, Nat.reduceSub, Nat.reduceMul, Nat.reduceDiv, Nat.reduceMod, Nat.reducePow, Nat.reduceLT, Nat.reduceLeDiff, Nat.reduceEqDiff, Nat.reduceBEq, Nat.reduceBNe, reduceIte, Int.reduceEq, Int.reduceLT, Int.reduceLE, Int.reduceNeg, Int.reduceToNat, Int.reduceMul, Int.reduceAdd, Int.reduceSub, reduceCtorEq]
end Go.Idl.Sb
namespace Go.Idl.Sb
open Go Go.Idl Go.Idl.En
variable {F : jJ}
theorem jbt {cs : List IVal} {o n : Nat} (h : cs.map un1 = cs) : (((cs.drop o).take n).map un1) = (cs.drop o).take n := by
 rw [List.map_take, List.map_drop, h]
theorem jht (l : List IVal) (o : Nat) : jG none l o = l[o]? := rfl
theorem jc2 {l : List IVal} {o n : Nat} (h : o + n <= l.length) : jG (some n) l o = some (.agg ((l.drop o).take n)) := by rw [jG, if_pos h]
theorem jh1 {cs : List IVal} (hT : Ty lAll cs) {o : Nat} (h : (.wd, o) ∈ lAll) : ∃ n : Int, cs[o]? = some (J n) := by
 obtain ⟨v, hv, n, rfl, _⟩ := hT (.wd, o) h
 exact ⟨n, hv⟩
theorem jhZ {cs : List IVal} (hT : Ty lAll cs) {o : Nat} (h : (.byt, o) ∈ lAll) : ∃ n : Nat, cs[o]? = some (B n) := by
 obtain ⟨v, hv, n, rfl, _⟩ := hT (.byt, o) h
 exact ⟨n, hv⟩
theorem jgY {cs : List IVal} (hT : Ty lAll cs) {o : Nat} (h : (.nm, o) ∈ lAll) : ∃ n : Nat, cs[o]? = some (Q n) := by
 obtain ⟨v, hv, n, rfl, _⟩ := hT (.nm, o) h
 exact ⟨n, hv⟩
theorem Jz (v : IVal) (h : v.isCell = true) : un3 (un1 v) = un1 v := by cases v <;> first | rfl | cases h
theorem jh8 (z : Int) : (z == z) = true := beq_self_eq_true z
set_option maxRecDepth 100000 in
set_option maxHeartbeats 8000000 in
theorem jhq (h8 : F 8 = some ir8) (h21 : F 21 = some jfp) (h22 : F 22 = some jfq) (h23 : F 23 = some jfr) {cs cs' : List IVal} {σ : List IObj} (hl : cs.length = 55) (hl' : cs'.length = 55) (hc : cs.all IVal.isCell = true) (hc' : cs'.all IVal.isCell = true) (hT : Ty lAll cs) (he : ∀ q ∈ lAll, cs'[q.2]? = cs[q.2]?)
   {v1 v2 v3 u1 u2 u3 : IVal} {z1 z2 : List Int} {z3 : List (Int × Int × Bool)} (c1 : cs[13]? = some v1) (c2 : cs[14]? = some v2) (c3 : cs[16]? = some v3) (d1 : cs'[13]? = some u1) (d2 : cs'[14]? = some u2) (d3 : cs'[16]? = some u3)
   (L1 : LW σ v1 z1) (L2 : LW σ v2 z2) (L3 : LR σ v3 z3) (M1 : LW σ u1 z1) (M2 : LW σ u2 z2) (M3 : LR σ u3 z3) (n1 : z1.length < 100000) (n2 : z2.length < 100000) (n3 : z3.length < 100000) :
   cfw F (.f 8) [.agg cs, .agg cs'] σ = some ⟨false, .bool true, σ, []⟩ := by
 rw [jQ ir8 h8, jq]
 have hT' : Ty lAll cs' := fun q hq => by
   obtain ⟨v, hv, hk⟩ := hT q hq
   exact ⟨v, by rw [he q hq, hv], hk⟩
 have he2 : ∀ q ∈ lAll, (cs'.map un1)[q.2]? = (cs.map un1)[q.2]? := fun q hq => by rw [List.getElem?_map, List.getElem?_map, he q hq]
 have b1 : (cs.map un1)[13]? = some (un1 v1) := by rw [List.getElem?_map, c1]; rfl
 have b2 : (cs.map un1)[14]? = some (un1 v2) := by rw [List.getElem?_map, c2]; rfl
 have b3 : (cs.map un1)[16]? = some (un1 v3) := by rw [List.getElem?_map, c3]; rfl
 have e1 : (cs'.map un1)[13]? = some (un1 u1) := by rw [List.getElem?_map, d1]; rfl
 have e2 : (cs'.map un1)[14]? = some (un1 u2) := by rw [List.getElem?_map, d2]; rfl
 have e3 : (cs'.map un1)[16]? = some (un1 u3) := by rw [List.getElem?_map, d3]; rfl
 have q1 := jhx h21 (zi L1) (zi M1) n1
 have q2 := jhx h21 (zi L2) (zi M2) n2
 have q3 := jh9 h22 (Vc L3) (Vc M3) n3
 have lb : (cs.map un1).length = 55 := by simpa using hl
 have lb' : (cs'.map un1).length = 55 := by simpa using hl'
 have kb := vH hc
 have kb' := vH hc'
 have uu := vK cs
 have uu' := vK cs'
 have tb := Xh hT
 have tb' := Xh hT'
 have s1 := yu v1 (qu L1)
 have s2 := yu v2 (qu L2)
 have s3 := yu v3 (zr L3)
 have r1 := yu u1 (qu M1)
 have r2 := yu u2 (qu M2)
 have r3 := yu u3 (zr M3)
 have s4 := Jz v1 (qu L1)
 have s5 := Jz v2 (qu L2)
 have s6 := Jz v3 (zr L3)
 have r4 := Jz u1 (qu M1)
 have r5 := Jz u2 (qu M2)
 have r6 := Jz u3 (zr M3)
 have x1 := qu (zi L1)
 have x2 := qu (zi L2)
 have x3 := zr (Vc L3)
 have y1 := qu (zi M1)
 have y2 := qu (zi M2)
 have y3 := zr (Vc M3)
 generalize hB : cs.map un1 = bs at *
 generalize hB' : cs'.map un1 = bs' at *
 generalize un1 v1 = w1 at *
 generalize un1 v2 = w2 at *
 generalize un1 v3 = w3 at *
 generalize un1 u1 = m1 at *
 generalize un1 u2 = m2 at *
 generalize un1 u3 = m3 at *
 have k1 := Z5 (σ := σ) h23 lb kb tb
 have k2 := Z5 (σ := σ) h23 lb' kb' tb'
 have ke : Xk bs' = Xk bs := by
   have : ∀ o, o ∈ lAll.map (·.2) -> kH bs' o = kH bs o := fun o ho => by
     obtain ⟨q, hq, rfl⟩ := List.mem_map.1 ho
     rw [kH, kH, he2 q hq]
   have hm : ∀ o ∈ [0, 1, 2, 3, 15, 52, 53, 54], o ∈ lAll.map (·.2) := by decide
   rw [Xk, Xk]
   exact List.map_congr_left fun o ho => this o (hm o ho)
 have kq : eqK [0, 0, 0, 0, 0, 0, 0, 0] (Xk bs) (Xk bs) = some true := by
   refine Qx _ _ rfl ?_
   intro i k x h1 h2
   have : ∀ o ∈ [0, 1, 2, 3, 15, 52, 53, 54], (K.pl, o) ∈ lAll := by decide
   rw [Xk] at h2
   obtain ⟨o, ho, rfl⟩ := List.mem_map.1 (List.mem_of_getElem? h2)
   obtain ⟨v, hv, hk⟩ := tb (.pl, o) (this o ho)
   simp only [] at hv
   rw [jF hv]
   have k0 : k = 0 := by
     have := List.mem_of_getElem? h1
     simpa using this
   rw [k0]; exact jga hk
 have ku : (Xk bs).map un1 = Xk bs := by
   rw [Xk, List.map_map]
   refine List.map_congr_left fun o ho => ?_
   have : ∀ o ∈ [0, 1, 2, 3, 15, 52, 53, 54], (K.pl, o) ∈ lAll := by decide
   obtain ⟨v, hv, hk⟩ := tb (.pl, o) (this o ho)
   simp only [] at hv
   show un1 (kH bs o) = _
   rw [jF hv]; exact ZL hk
 have kl : (Xk bs).length = 8 := rfl
 have a1 : (bs'.drop 5).take 8 = (bs.drop 5).take 8 := jdg lb lb' he2 (by decide)
 have a2 : (bs'.drop 17).take 32 = (bs.drop 17).take 32 := jdg lb lb' he2 (by decide)
 have p1 : eqK [0, 0, 0, 0, 0, 0, 0, 0] ((bs.drop 5).take 8) ((bs.drop 5).take 8) = some true := ja3 tb lb (by decide) rfl (by decide)
 have p2 : eqK [0, 0, 0, 0, 0, 0, 0, 0, 0, 0, 0, 0, 0, 0, 0, 0, 0, 0, 0, 0, 0, 2, 0, 0, 0, 0, 0, 0, 0, 0, 0, 0] ((bs.drop 17).take 32) ((bs.drop 17).take 32) = some true := ja3 tb lb (by decide) rfl (by decide)
 have o1 := jbt (o := 5) (n := 8) uu
 have o2 := jbt (o := 17) (n := 32) uu
 have g1 : ((bs.drop 5).take 8).length = 8 := by rw [List.length_take, List.length_drop]; omega
 have g2 : ((bs.drop 17).take 32).length = 32 := by rw [List.length_take, List.length_drop]; omega
 have t1 : jG (some 55) bs 0 = some (.agg bs) := jdH lb
 have t2 : jG (some 55) bs' 0 = some (.agg bs') := jdH lb'
 have t3 : jG (some 8) bs 5 = some (.agg ((bs.drop 5).take 8)) := jc2 (by omega)
 have t4 : jG (some 8) bs' 5 = some (.agg ((bs.drop 5).take 8)) := by rw [jc2 (by omega), a1]
 have t5 : jG (some 32) bs 17 = some (.agg ((bs.drop 17).take 32)) := jc2 (by omega)
 have t6 : jG (some 32) bs' 17 = some (.agg ((bs.drop 17).take 32)) := by rw [jc2 (by omega), a2]
 generalize (bs.drop 5).take 8 = D5 at *
 generalize (bs.drop 17).take 32 = D17 at *
 rw [ke] at k2
 generalize Xk bs = D8 at *
 obtain ⟨j4, i1⟩ := jh1 tb (o := 4) (by decide)
 obtain ⟨j49, i2⟩ := jhZ tb (o := 49) (by decide)
 obtain ⟨j50, i3⟩ := jgY tb (o := 50) (by decide)
 obtain ⟨j51, i4⟩ := jgY tb (o := 51) (by decide)
 have i5 : bs'[4]? = some (J j4) := (he2 (.wd, 4) (by decide)).trans i1
 have i6 : bs'[49]? = some (B j49) := (he2 (.byt, 49) (by decide)).trans i2
 have i7 : bs'[50]? = some (Q j50) := (he2 (.nm, 50) (by decide)).trans i3
 have i8 : bs'[51]? = some (Q j51) := (he2 (.nm, 51) (by decide)).trans i4
 have n8 : [0, 0, 0, 0, 0, 0, 0, 0].length = 8 := rfl
 simp only [ir8, cells_agg, hB, hB', kb, kb', uu, uu', t1, t2, t3, t4, t5, t6, jht, b1, b2, b3, e1, e2, e3, q1, q2, q3, k1, k2, kq, ku, kl, p1, p2, o1, o2, g1, g2, i1, i2, i3, i4, i5, i6, i7, i8, s1, s2, s3, r1, r2, r3, s4, s5, s6, r4, r5, r6, x1, x2, x3, y1, y2, y3, jh8, tne, zV, zS, jy, jM, jc, jk, jR, jg, jl, je, jr, jO, jf, jj, jp, jK, ju, jq, Ts.fill, jS, jP, jh, jT, jo, jm, ji, ja, getAll, stepCall, jn, unI, Opd.get, jx, tag, jv, jb, jI, rv, bin, jW, Nat.reduceAdd, Nat.reduceSub, Nat.reduceMul, Nat.reduceDiv, Nat.reduceMod, Nat.reducePow, Nat.reduceLT, Nat.reduceLeDiff, Nat.reduceEqDiff, Nat.reduceBEq, Nat.reduceBNe, reduceIte, Int.reduceEq, Int.reduceLT, Int.reduceLE, Int.reduceNeg, Int.reduceToNat, Int.reduceMul, Int.reduceAdd, Int.reduceSub, reduceCtorEq]
end Go.Idl.Sb
