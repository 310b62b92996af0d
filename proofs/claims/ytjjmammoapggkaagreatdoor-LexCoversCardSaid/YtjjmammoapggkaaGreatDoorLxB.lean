/- Chapter 2: what the ideal machine makes of its functions, part B; no conditions. -/
import Derived.Test.YtjjmammoapggkaaGreatDoorLxA
set_option linter.defProp false
set_option linter.unusedSectionVars false
set_option linter.unusedVariables false
set_option linter.unusedSimpArgs false
namespace Go.Idl.Lx
open Go Go.Idl Go.Idl.En
variable {F : kg}
def jf6 (a b : Nat) : Nat := (BitVec.ofInt 8 a &&& BitVec.ofInt 8 b).toNat
theorem jb6 (a b : Nat) : IntKind.u8.wrap (((BitVec.ofInt IntKind.u8.bits (a : Int) &&& BitVec.ofInt IntKind.u8.bits (b : Int)).toNat : Nat) : Int) = ((jf6 a b : Nat) : Int) := by
 rw [zb]
 have : (BitVec.ofInt IntKind.u8.bits (a : Int) &&& BitVec.ofInt IntKind.u8.bits (b : Int)).toNat < 256 := (BitVec.ofInt 8 (a : Int) &&& BitVec.ofInt 8 (b : Int)).isLt
 show _ = (((BitVec.ofInt IntKind.u8.bits (a : Int) &&& BitVec.ofInt IntKind.u8.bits (b : Int)).toNat : Nat) : Int)
 omega
def isS (k c : Nat) : Bool := ((jf6 (jeZ c) k : Nat) : Int) != 0
def nl (s : List UInt8) : Nat := X8 10 s 0
theorem KH (c : Nat) : ∀ (s : List UInt8) (n : Nat), X8 c s n = n + X8 c s 0
 | [], n => rfl
 | b :: s, n => by
   rw [X8, X8, KH c s]
   rw [KH c s (bif Nat.beq b.toNat c then 0 + 1 else 0)]
   cases Nat.beq b.toNat c <;> simp only [cond_true, cond_false] <;> omega
theorem JH (b : UInt8) (s : List UInt8) : nl (b :: s) = (if b.toNat = 10 then 1 else 0) + nl s := by
 rw [nl, X8, KH]
 by_cases h : b.toNat = 10
 . rw [h]; rfl
 . have : Nat.beq b.toNat 10 = false := by rw [<- Bool.not_eq_true]; intro e; exact h (Nat.eq_of_beq_eq_true e)
   rw [this, if_neg h]; rfl
theorem Qy : ∀ (s t : List UInt8), nl (s ++ t) = nl s + nl t
 | [], t => by simp [nl, X8]
 | b :: s, t => by rw [tI, JH, JH, Qy s t]; omega
theorem jaH : ∀ s : List UInt8, nl s <= s.length
 | [] => rP _
 | b :: s => by rw [JH, tB]; have := jaH s; split <;> omega
theorem jcX (s : List UInt8) (a n : Nat) : nl (s.take a) + nl ((s.take (a + n)).drop a) = nl (s.take (a + n)) := by
 rw [<- Qy]; congr 1
 conv => rhs; rw [<- List.take_append_drop a (s.take (a + n))]
 rw [List.take_take, Nat.min_eq_left (by omega)]
def dn (r : Bool) : Int := if r then 1 else 0
def tb (r : Bool) : Nat -> Nat := if r then jeZ else fun _ => 0
abbrev LP (r : Bool) (tx : List UInt8) (a : Nat) (er : IVal) : List IVal := LC (dn r) 0 (tb r) tx (a : Int) ((1 + nl (tx.take a) : Nat) : Int) er
section
variable {tx : List UInt8} {a : Nat} {er : IVal} {q : Nat} {σ : List IObj} {r : Bool}
set_option maxRecDepth 20000 in
theorem jfF (H : FTab F) {k c : Nat} (hc : c < 256) (hq : σ[q]? = some (.cells (LP r tx a er))) : ∃ wr, cfw F (.f 38) [.ptr q 0, B c, B k] σ = some ⟨false, .bool (isS k c), σ.set q (.cells (LP true tx a er)), wr⟩ /\ Fl wr := by
 rw [cfw_of jfb H.h38, jw]
 obtain ⟨wr, u, gw⟩ := jgl H (by cases r; exact Or.inl rfl; exact Or.inr rfl) hq
 have e : (if dn r = 0 then Ve (tb r) else tb r) = jeZ := by cases r <;> rfl
 rw [e] at u
 have t1 := jbF 1 0 jeZ tx (a : Int) ((1 + nl (tx.take a) : Nat) : Int) er hc
 have d3 : (0 : Int) <= ((c : Nat) : Int) := by omega
 have d4 : ((c : Nat) : Int) < 256 := by omega
 have gq := gs hq (y := .cells (LC 1 0 jeZ tx (a : Int) ((1 + nl (tx.take a) : Nat) : Int) er))
 simp only [jfb, u, nr3_fn, d3, d4, t1, gq, jb6, take_set, kb gw, rI, ext, jA, Option.toList, jq, nat, j6, jO, j5, jr, lc0, lc1, jE, jF, jG, jH, j7, j8, ju, jt, jv, zV, zS, jC, jS, jc, jh, jX, je, jl, jd, jx, jU, jj, ji, jp, jR, jy, jw, Ts.fill, jY, jV, jf, jZ, jo, jm, jg, ja, getAll, stepCall, jn, unI, Opd.get, jB, tag, jz, jb, jP, rv, bin, j0, Nat.reduceAdd, Nat.reduceSub, Nat.reduceMul, Nat.reduceDiv, Nat.reduceMod, Nat.reducePow, Nat.reduceLT, Nat.reduceLeDiff, Nat.reduceEqDiff, Nat.reduceBEq, Nat.reduceBNe, reduceIte, Int.reduceEq, Int.reduceLT, Int.reduceLE, Int.reduceNeg, Int.reduceToNat, Int.reduceMul, Int.reduceAdd, Int.reduceSub, Int.reduceBEq, Int.reduceBNe, reduceCtorEq]
 exact ⟨_, rfl, jN gw⟩
theorem jas (H : FTab F) {k c : Nat} (hc : c < 256) (hq : σ[q]? = some (.cells (LP true tx a er))) : ∃ wr, cfw F (.f 38) [.ptr q 0, B c, B k] σ = some ⟨false, .bool (isS k c), σ, wr⟩ /\ Fl wr := by
 obtain ⟨wr, u, gw⟩ := jfF H (k := k) hc hq
 rw [vt hq] at u
 exact ⟨wr, u, gw⟩
theorem Kj (h : F 42 = some jea) {c p : Int} (hq : σ[q]? = some (.cells (LP r tx a er))) : ∃ wr, cfw F (.f 42) [.ptr q 0, I c, I p] σ = some ⟨false, .tup [], σ.set q (.cells (LP r tx a (.iface 56 (.pv false [I c, I p] 0)))), wr⟩ /\ Fl wr := by
 rw [cfw_of jea h, jw]
 have f2 : yZ [.int .i64 0, .int .i64 0] [(0, 1, I c), (1, 1, I p)] = some [I c, I p] := rfl
 simp only [jea, hq, f2, ext, take_set, tC, tM, jA, Option.toList, jq, nat, j6, jO, j5, jr, lc0, lc1, jE, jF, jG, jH, j7, j8, ju, jt, jv, zV, zS, jC, jS, jc, jh, jX, je, jl, jd, jx, jU, jj, ji, jp, jR, jy, jw, Ts.fill, jY, jV, jf, jZ, jo, jm, jg, ja, getAll, stepCall, jn, unI, Opd.get, jB, tag, jz, jb, jP, rv, bin, j0, Nat.reduceAdd, Nat.reduceSub, Nat.reduceMul, Nat.reduceDiv, Nat.reduceMod, Nat.reducePow, Nat.reduceLT, Nat.reduceLeDiff, Nat.reduceEqDiff, Nat.reduceBEq, Nat.reduceBNe, reduceIte, Int.reduceEq, Int.reduceLT, Int.reduceLE, Int.reduceNeg, Int.reduceToNat, Int.reduceMul, Int.reduceAdd, Int.reduceSub, Int.reduceBEq, Int.reduceBNe, reduceCtorEq]
 exact ⟨_, rfl, by split <;> rfl⟩
theorem Yp (h : F 15 = some jcs) {s : List UInt8} : cfw F (.f 15) [.str s, .str [10]] σ = some ⟨false, I (nl s), σ, []⟩ := by
 rw [cfw_of jcs h, jw]
 have t10 : (10 : UInt8).toNat = 10 := rfl
 simp only [jcs, j5, t10, jA, Option.toList, jq, nat, j6, jO, jr, lc0, lc1, jE, jF, jG, jH, j7, j8, ju, jt, jv, zV, zS, jC, jS, jc, jh, jX, je, jl, jd, jx, jU, jj, ji, jp, jR, jy, jw, Ts.fill, jY, jV, jf, jZ, jo, jm, jg, ja, getAll, stepCall, jn, unI, Opd.get, jB, tag, jz, jb, jP, rv, bin, j0, Nat.reduceAdd, Nat.reduceSub, Nat.reduceMul, Nat.reduceDiv, Nat.reduceMod, Nat.reducePow, Nat.reduceLT, Nat.reduceLeDiff, Nat.reduceEqDiff, Nat.reduceBEq, Nat.reduceBNe, reduceIte, Int.reduceEq, Int.reduceLT, Int.reduceLE, Int.reduceNeg, Int.reduceToNat, Int.reduceMul, Int.reduceAdd, Int.reduceSub, Int.reduceBEq, Int.reduceBNe, reduceCtorEq]
 rfl
end
end Go.Idl.Lx
namespace Go.Idl.Lx
open Go Go.Idl Go.Idl.En
variable {F : kg}
section
variable {tx : List UInt8} {a : Nat} {er : IVal} {q : Nat} {σ : List IObj} {r : Bool}
set_option maxRecDepth 20000 in
theorem QY (h : F 55 = some jeb) (h15 : F 15 = some jcs) {n : Nat} (ha : a + n <= tx.length) (hl : tx.length <= 20000) (hq : σ[q]? = some (.cells (LP r tx a er))) :
   ∃ wr, cfw F (.f 55) [.ptr q 0, I n] σ = some ⟨false, .str ((tx.take (a + n)).drop a), σ.set q (.cells (LP r tx (a + n) er)), wr⟩ /\ Fl wr := by
 rw [cfw_of jeb h, jw]
 have w1 : IntKind.i64.wrap ((a : Int) + (n : Int)) = ((a + n : Nat) : Int) := by rw [qN (by omega) (by omega)]; omega
 have n1 := jcX tx a n
 have n2 := jaH (tx.take (a + n))
 have n3 : (tx.take (a + n)).length <= 20000 := by rw [tE]; omega
 have w2 : IntKind.i64.wrap (((1 + nl (tx.take a) : Nat) : Int) + ((nl ((tx.take (a + n)).drop a) : Nat) : Int)) = ((1 + nl (tx.take (a + n)) : Nat) : Int) := by rw [qN (by omega) (by omega)]; omega
 have d1 : (0 : Int) <= (a : Int) := by omega
 have d2 : (0 : Int) <= ((a + n : Nat) : Int) := by omega
 have d3 : a <= a + n := by omega
 have u := fun σ => Yp h15 (s := (tx.take (a + n)).drop a) (σ := σ)
 have g1 := gs hq (y := .cells (LC (dn r) 0 (tb r) tx ((a + n : Nat) : Int) ((1 + nl (tx.take a) : Nat) : Int) er))
 have dq : decide (q < σ.length) = true := rB (jk hq)
 simp only [jeb, hq, dq, rC, w1, w2, d1, d2, d3, ha, u, g1, jq, nat, rI, r7, take_set, jA, Option.toList, j6, jO, j5, jr, lc0, lc1, jE, jF, jG, jH, j7, j8, ju, jt, jv, zV, zS, jC, jS, jc, jh, jX, je, jl, jd, jx, jU, jj, ji, jp, jR, jy, jw, Ts.fill, jY, jV, jf, jZ, jo, jm, jg, ja, getAll, stepCall, jn, unI, Opd.get, jB, tag, jz, jb, jP, rv, bin, j0, Nat.reduceAdd, Nat.reduceSub, Nat.reduceMul, Nat.reduceDiv, Nat.reduceMod, Nat.reducePow, Nat.reduceLT, Nat.reduceLeDiff, Nat.reduceEqDiff, Nat.reduceBEq, Nat.reduceBNe, reduceIte, Int.reduceEq, Int.reduceLT, Int.reduceLE, Int.reduceNeg, Int.reduceToNat, Int.reduceMul, Int.reduceAdd, Int.reduceSub, Int.reduceBEq, Int.reduceBNe, reduceCtorEq]
 exact ⟨_, rfl, rfl⟩
theorem jfQ (h : F 53 = some jbB) {s p : List UInt8} (hl : s.length <= 20000) (hp : p.length <= 20000) : cfw F (.f 53) [.str s, .str p] σ = some ⟨false, .bool (p.isPrefixOf s), σ, []⟩ := by
 rw [cfw_of jbB h, jw]
 by_cases hle : p.length <= s.length
 . have d1 : decide ((s.length : Int) ≥ (p.length : Int)) = true := rB (by omega)
   have d2 : (0 : Int) <= (p.length : Int) := by omega
   have e : (s.take p.length == p) = p.isPrefixOf s := by
     rw [Bool.eq_iff_iff, beq_iff_eq, List.isPrefixOf_iff_prefix, List.prefix_iff_eq_take]
     exact eq_comm
   simp only [jbB, d1, d2, hle, e, jq, nat, rI, j6, jA, Option.toList, jO, j5, jr, lc0, lc1, jE, jF, jG, jH, j7, j8, ju, jt, jv, zV, zS, jC, jS, jc, jh, jX, je, jl, jd, jx, jU, jj, ji, jp, jR, jy, jw, Ts.fill, jY, jV, jf, jZ, jo, jm, jg, ja, getAll, stepCall, jn, unI, Opd.get, jB, tag, jz, jb, jP, rv, bin, j0, Nat.reduceAdd, Nat.reduceSub, Nat.reduceMul, Nat.reduceDiv, Nat.reduceMod, Nat.reducePow, Nat.reduceLT, Nat.reduceLeDiff, Nat.reduceEqDiff, Nat.reduceBEq, Nat.reduceBNe, reduceIte, Int.reduceEq, Int.reduceLT, Int.reduceLE, Int.reduceNeg, Int.reduceToNat, Int.reduceMul, Int.reduceAdd, Int.reduceSub, Int.reduceBEq, Int.reduceBNe, reduceCtorEq]
 . have d1 : decide ((s.length : Int) ≥ (p.length : Int)) = false := rE (by omega)
   have e : p.isPrefixOf s = false := by
     rw [<- Bool.not_eq_true, List.isPrefixOf_iff_prefix]
     intro hh; exact hle hh.length_le
   simp only [jbB, d1, e, jl, jA, Option.toList, jq, nat, j6, jO, j5, jr, lc0, lc1, jE, jF, jG, jH, j7, j8, ju, jt, jv, zV, zS, jC, jS, jc, jh, jX, je, jd, jx, jU, jj, ji, jp, jR, jy, jw, Ts.fill, jY, jV, jf, jZ, jo, jm, jg, ja, getAll, stepCall, jn, unI, Opd.get, jB, tag, jz, jb, jP, rv, bin, j0, Nat.reduceAdd, Nat.reduceSub, Nat.reduceMul, Nat.reduceDiv, Nat.reduceMod, Nat.reducePow, Nat.reduceLT, Nat.reduceLeDiff, Nat.reduceEqDiff, Nat.reduceBEq, Nat.reduceBNe, reduceIte, Int.reduceEq, Int.reduceLT, Int.reduceLE, Int.reduceNeg, Int.reduceToNat, Int.reduceMul, Int.reduceAdd, Int.reduceSub, Int.reduceBEq, Int.reduceBNe, reduceCtorEq]
theorem jaQ (h : F 34 = some jdA) (h53 : F 53 = some jbB) {s p : List UInt8} (hl : s.length <= 20000) (hp : p.length <= 20000) : cfw F (.f 34) [.str s, .str p] σ = some ⟨false, .bool (p.isPrefixOf s), σ, []⟩ := by
 rw [cfw_of jdA h, jw]
 have u := fun σ => jfQ h53 (σ := σ) hl hp
 simp only [jdA, u, jA, Option.toList, jq, nat, j6, jO, j5, jr, lc0, lc1, jE, jF, jG, jH, j7, j8, ju, jt, jv, zV, zS, jC, jS, jc, jh, jX, je, jl, jd, jx, jU, jj, ji, jp, jR, jy, jw, Ts.fill, jY, jV, jf, jZ, jo, jm, jg, ja, getAll, stepCall, jn, unI, Opd.get, jB, tag, jz, jb, jP, rv, bin, j0, Nat.reduceAdd, Nat.reduceSub, Nat.reduceMul, Nat.reduceDiv, Nat.reduceMod, Nat.reducePow, Nat.reduceLT, Nat.reduceLeDiff, Nat.reduceEqDiff, Nat.reduceBEq, Nat.reduceBNe, reduceIte, Int.reduceEq, Int.reduceLT, Int.reduceLE, Int.reduceNeg, Int.reduceToNat, Int.reduceMul, Int.reduceAdd, Int.reduceSub, Int.reduceBEq, Int.reduceBNe, reduceCtorEq]
theorem jf7 (h : F 26 = some YQ) {s : List UInt8} {c : Nat} (hc : c < 256) : cfw F (.f 26) [.str s, B c] σ = some ⟨false, I (Q2 c s 0), σ, []⟩ := by
 rw [cfw_of YQ h, jw]
 have e : c % 256 = c := Nat.mod_eq_of_lt hc
 simp only [YQ, j5, e, rI, jA, Option.toList, jq, nat, j6, jO, jr, lc0, lc1, jE, jF, jG, jH, j7, j8, ju, jt, jv, zV, zS, jC, jS, jc, jh, jX, je, jl, jd, jx, jU, jj, ji, jp, jR, jy, jw, Ts.fill, jY, jV, jf, jZ, jo, jm, jg, ja, getAll, stepCall, jn, unI, Opd.get, jB, tag, jz, jb, jP, rv, bin, j0, Nat.reduceAdd, Nat.reduceSub, Nat.reduceMul, Nat.reduceDiv, Nat.reduceMod, Nat.reducePow, Nat.reduceLT, Nat.reduceLeDiff, Nat.reduceEqDiff, Nat.reduceBEq, Nat.reduceBNe, reduceIte, Int.reduceEq, Int.reduceLT, Int.reduceLE, Int.reduceNeg, Int.reduceToNat, Int.reduceMul, Int.reduceAdd, Int.reduceSub, Int.reduceBEq, Int.reduceBNe, reduceCtorEq]
theorem jfD (h : F 12 = some jcr) (h26 : F 26 = some YQ) {s : List UInt8} {c : Nat} (hc : c < 256) : cfw F (.f 12) [.str s, B c] σ = some ⟨false, I (Q2 c s 0), σ, []⟩ := by
 rw [cfw_of jcr h, jw]
 have u := fun σ => jf7 h26 (σ := σ) (s := s) hc
 simp only [jcr, u, jA, Option.toList, jq, nat, j6, jO, j5, jr, lc0, lc1, jE, jF, jG, jH, j7, j8, ju, jt, jv, zV, zS, jC, jS, jc, jh, jX, je, jl, jd, jx, jU, jj, ji, jp, jR, jy, jw, Ts.fill, jY, jV, jf, jZ, jo, jm, jg, ja, getAll, stepCall, jn, unI, Opd.get, jB, tag, jz, jb, jP, rv, bin, j0, Nat.reduceAdd, Nat.reduceSub, Nat.reduceMul, Nat.reduceDiv, Nat.reduceMod, Nat.reducePow, Nat.reduceLT, Nat.reduceLeDiff, Nat.reduceEqDiff, Nat.reduceBEq, Nat.reduceBNe, reduceIte, Int.reduceEq, Int.reduceLT, Int.reduceLE, Int.reduceNeg, Int.reduceToNat, Int.reduceMul, Int.reduceAdd, Int.reduceSub, Int.reduceBEq, Int.reduceBNe, reduceCtorEq]
theorem jfE (h : F 50 = some jbA) (h26 : F 26 = some YQ) {s : List UInt8} : cfw F (.f 50) [.str s, .str [10]] σ = some ⟨false, I (Q2 10 s 0), σ, []⟩ := by
 rw [cfw_of jbA h, jw]
 have u := fun σ => jf7 h26 (σ := σ) (s := s) (c := 10) (by omega)
 have t10 : (10 : UInt8).toNat = 10 := rfl
 have u : ∀ σ, cfw F (.f 26) [.str s, .int .u8 10] σ = _ := u
 cases hb : ([10] == s) with
 | true =>
   rw [beq_iff_eq] at hb
   subst hb
   have hb : (([10] : List UInt8) == [10]) = true := rfl
   simp only [jbA, u, t10, hb, jl, jA, Option.toList, jq, nat, j6, jO, j5, jr, lc0, lc1, jE, jF, jG, jH, j7, j8, ju, jt, jv, zV, zS, jC, jS, jc, jh, jX, je, jd, jx, jU, jj, ji, jp, jR, jy, jw, Ts.fill, jY, jV, jf, jZ, jo, jm, jg, ja, getAll, stepCall, jn, unI, Opd.get, jB, tag, jz, jb, jP, rv, bin, j0, Nat.reduceAdd, Nat.reduceSub, Nat.reduceMul, Nat.reduceDiv, Nat.reduceMod, Nat.reducePow, Nat.reduceLT, Nat.reduceLeDiff, Nat.reduceEqDiff, Nat.reduceBEq, Nat.reduceBNe, reduceIte, Int.reduceEq, Int.reduceLT, Int.reduceLE, Int.reduceNeg, Int.reduceToNat, Int.reduceMul, Int.reduceAdd, Int.reduceSub, Int.reduceBEq, Int.reduceBNe, reduceCtorEq]
   rfl
 | false => simp only [jbA, u, t10, hb, jl, jA, Option.toList, jq, nat, j6, jO, j5, jr, lc0, lc1, jE, jF, jG, jH, j7, j8, ju, jt, jv, zV, zS, jC, jS, jc, jh, jX, je, jd, jx, jU, jj, ji, jp, jR, jy, jw, Ts.fill, jY, jV, jf, jZ, jo, jm, jg, ja, getAll, stepCall, jn, unI, Opd.get, jB, tag, jz, jb, jP, rv, bin, j0, Nat.reduceAdd, Nat.reduceSub, Nat.reduceMul, Nat.reduceDiv, Nat.reduceMod, Nat.reducePow, Nat.reduceLT, Nat.reduceLeDiff, Nat.reduceEqDiff, Nat.reduceBEq, Nat.reduceBNe, reduceIte, Int.reduceEq, Int.reduceLT, Int.reduceLE, Int.reduceNeg, Int.reduceToNat, Int.reduceMul, Int.reduceAdd, Int.reduceSub, Int.reduceBEq, Int.reduceBNe, reduceCtorEq]
theorem jby (c : Nat) : ∀ (s : List UInt8) (k : Nat), Q2 c s k = match s.findIdx? (fun b => Nat.beq b.toNat c) with | some i => ((k + i : Nat) : Int) | none => -1
 | [], k => rfl
 | b :: s, k => by
   rw [Q2, List.findIdx?_cons, jby c s (k + 1)]
   cases Nat.beq b.toNat c with
   | true => rfl
   | false =>
     simp only [cond_false, r8, if_false]
     cases s.findIdx? (fun b => Nat.beq b.toNat c) with
     | none => rfl
     | some i => show ((k + 1 + i : Nat) : Int) = ((k + (i + 1) : Nat) : Int); omega
def lnN (s : List UInt8) : Nat := (s.takeWhile fun b => !(Nat.beq b.toNat 10)).length
theorem qI (b : UInt8) (s : List UInt8) : lnN (b :: s) = if b.toNat = 10 then 0 else 1 + lnN s := by
 rw [lnN, List.takeWhile_cons]
 by_cases h : b.toNat = 10
 . rw [h]; rfl
 . have : Nat.beq b.toNat 10 = false := by rw [<- Bool.not_eq_true]; intro e; exact h (Nat.eq_of_beq_eq_true e)
   rw [this, if_neg h]; simp [lnN]; omega
theorem Y1 : ∀ s : List UInt8, lnN s <= s.length
 | [] => rP _
 | b :: s => by rw [qI, tB]; have := Y1 s; split <;> omega
theorem jcp : ∀ s : List UInt8, (Q2 10 s 0 = -1 /\ lnN s = s.length) \/ (Q2 10 s 0 = (lnN s : Int) /\ lnN s < s.length)
 | [] => Or.inl ⟨rfl, rfl⟩
 | b :: s => by
   have ih := jcp s
   rw [jby] at ih ⊢
   rw [qI, List.findIdx?_cons]
   by_cases h : b.toNat = 10
   . rw [h]; exact Or.inr ⟨rfl, by simp⟩
   . have : Nat.beq b.toNat 10 = false := by rw [<- Bool.not_eq_true]; intro e; exact h (Nat.eq_of_beq_eq_true e)
     rw [this, if_neg h]
     cases hf : s.findIdx? (fun b => Nat.beq b.toNat 10) with
     | none =>
       rw [hf] at ih
       rcases ih with ⟨_, e⟩ | ⟨e, _⟩
       . exact Or.inl ⟨rfl, by rw [e, tB]; omega⟩
       . exact absurd e (by simp only; omega)
     | some i =>
       rw [hf] at ih
       rcases ih with ⟨e, _⟩ | ⟨e, e2⟩
       . exact absurd e (by simp only; omega)
       . refine Or.inr ⟨?_, by rw [tB]; omega⟩
         simp only [r8, if_false, tU]
         have e : ((0 + i : Nat) : Int) = ((lnN s : Nat) : Int) := e
         show ((0 + (i + 1) : Nat) : Int) = ((1 + lnN s : Nat) : Int)
         omega
theorem jft (h : F 73 = some jcz) (h50 : F 50 = some jbA) (h26 : F 26 = some YQ) {s : List UInt8} (hl : s.length <= 20000) : ∃ y b, cfw F (.f 73) [.str s, .str [10]] σ = some ⟨false, .tup [.str (s.take (lnN s)), .str y, .bool b], σ, []⟩ := by
 rw [cfw_of jcz h, jw]
 have u := fun σ => jfE h50 h26 (σ := σ) (s := s)
 rcases jcp s with ⟨e1, e2⟩ | ⟨e1, e2⟩
 . have d1 : decide ((-1 : Int) ≥ 0) = false := rfl
   rw [e1] at u
   simp only [jcz, u, d1, jA, Option.toList, jq, nat, j6, jO, j5, jr, lc0, lc1, jE, jF, jG, jH, j7, j8, ju, jt, jv, zV, zS, jC, jS, jc, jh, jX, je, jl, jd, jx, jU, jj, ji, jp, jR, jy, jw, Ts.fill, jY, jV, jf, jZ, jo, jm, jg, ja, getAll, stepCall, jn, unI, Opd.get, jB, tag, jz, jb, jP, rv, bin, j0, Nat.reduceAdd, Nat.reduceSub, Nat.reduceMul, Nat.reduceDiv, Nat.reduceMod, Nat.reducePow, Nat.reduceLT, Nat.reduceLeDiff, Nat.reduceEqDiff, Nat.reduceBEq, Nat.reduceBNe, reduceIte, Int.reduceEq, Int.reduceLT, Int.reduceLE, Int.reduceNeg, Int.reduceToNat, Int.reduceMul, Int.reduceAdd, Int.reduceSub, Int.reduceBEq, Int.reduceBNe, reduceCtorEq]
   rw [e2, List.take_length]
   exact ⟨_, _, rfl⟩
 . have d1 : decide ((lnN s : Int) ≥ 0) = true := rB (by omega)
   have d2 : (0 : Int) <= (lnN s : Int) := by omega
   have d3 : lnN s <= s.length := by omega
   have w1 : IntKind.i64.wrap ((lnN s : Int) + 1) = ((lnN s + 1 : Nat) : Int) := Je (by omega)
   have d4 : (0 : Int) <= ((lnN s + 1 : Nat) : Int) := by omega
   have d5 : lnN s + 1 <= s.length := by omega
   rw [e1] at u
   simp only [jcz, u, d1, d2, d3, d4, d5, w1, rI, jA, Option.toList, jq, nat, j6, jO, j5, jr, lc0, lc1, jE, jF, jG, jH, j7, j8, ju, jt, jv, zV, zS, jC, jS, jc, jh, jX, je, jl, jd, jx, jU, jj, ji, jp, jR, jy, jw, Ts.fill, jY, jV, jf, jZ, jo, jm, jg, ja, getAll, stepCall, jn, unI, Opd.get, jB, tag, jz, jb, jP, rv, bin, j0, Nat.reduceAdd, Nat.reduceSub, Nat.reduceMul, Nat.reduceDiv, Nat.reduceMod, Nat.reducePow, Nat.reduceLT, Nat.reduceLeDiff, Nat.reduceEqDiff, Nat.reduceBEq, Nat.reduceBNe, reduceIte, Int.reduceEq, Int.reduceLT, Int.reduceLE, Int.reduceNeg, Int.reduceToNat, Int.reduceMul, Int.reduceAdd, Int.reduceSub, Int.reduceBEq, Int.reduceBNe, reduceCtorEq]
   exact ⟨_, _, rfl⟩
theorem jfs (h : F 56 = some jec) (h73 : F 73 = some jcz) (h50 : F 50 = some jbA) (h26 : F 26 = some YQ) {s : List UInt8} (hl : s.length <= 20000) : ∃ y b, cfw F (.f 56) [.str s, .str [10]] σ = some ⟨false, .tup [.str (s.take (lnN s)), .str y, .bool b], σ, []⟩ := by
 rw [cfw_of jec h, jw]
 obtain ⟨y, b, u⟩ := jft (σ := σ) h73 h50 h26 hl
 simp only [jec, u, jA, Option.toList, jq, nat, j6, jO, j5, jr, lc0, lc1, jE, jF, jG, jH, j7, j8, ju, jt, jv, zV, zS, jC, jS, jc, jh, jX, je, jl, jd, jx, jU, jj, ji, jp, jR, jy, jw, Ts.fill, jY, jV, jf, jZ, jo, jm, jg, ja, getAll, stepCall, jn, unI, Opd.get, jB, tag, jz, jb, jP, rv, bin, j0, Nat.reduceAdd, Nat.reduceSub, Nat.reduceMul, Nat.reduceDiv, Nat.reduceMod, Nat.reducePow, Nat.reduceLT, Nat.reduceLeDiff, Nat.reduceEqDiff, Nat.reduceBEq, Nat.reduceBNe, reduceIte, Int.reduceEq, Int.reduceLT, Int.reduceLE, Int.reduceNeg, Int.reduceToNat, Int.reduceMul, Int.reduceAdd, Int.reduceSub, Int.reduceBEq, Int.reduceBNe, reduceCtorEq]
 exact ⟨_, _, rfl⟩
end
end Go.Idl.Lx
namespace Go.Idl.Lx
open Go Go.Idl Go.Idl.En
variable {F : kg}
theorem XK : ∀ c : Nat, c < 256 -> isS 1 c = (c == 32 || c == 9 || c == 10) := by decide +kernel
theorem jcF : ∀ c : Nat, c < 256 -> isS 2 c = (decide (97 <= c /\ c <= 122) || decide (65 <= c /\ c <= 90) || c == 95) := by decide +kernel
theorem jcG : ∀ c : Nat, c < 256 -> isS 4 c = decide (48 <= c /\ c <= 57) := by decide +kernel
theorem jcH : ∀ c : Nat, c < 256 -> isS 6 c = (isS 2 c || isS 4 c) := by decide +kernel
def skN : Bool -> List UInt8 -> Nat
 | _, [] => 0
 | true, c :: s => if c.toNat = 10 then 1 + skN false s else 1 + skN true s
 | false, c :: s => if isS 1 c.toNat then 1 + skN false s else if [47, 47].isPrefixOf (c :: s) then 1 + skN true s else 0
theorem yV : ∀ (b : Bool) (s : List UInt8), skN b s <= s.length
 | b, [] => by cases b <;> exact rP _
 | true, c :: s => by rw [skN, tB]; have := yV true s; have := yV false s; split <;> omega
 | false, c :: s => by rw [skN, tB]; have := yV true s; have := yV false s; split; omega; split <;> omega
theorem Xm : ∀ s : List UInt8, skN true s = lnN s + skN false (s.drop (lnN s))
 | [] => rfl
 | c :: s => by
   rw [skN, qI]
   by_cases h : c.toNat = 10
   . rw [if_pos h, if_pos h, List.drop_zero, skN, h]
     have : isS 1 10 = true := XK 10 (by omega)
     rw [this]; simp
   . rw [if_neg h, if_neg h, Xm s]
     have : 1 + lnN s = lnN s + 1 := by omega
     rw [this, tR]; omega
theorem ZH {s : List UInt8} (h : [47, 47].isPrefixOf s = true) : skN false s = lnN s + skN false (s.drop (lnN s)) := by
 rw [<- Xm]
 cases s with
 | nil => simp at h
 | cons c s =>
   have hc : c = 47 := by
     rw [List.isPrefixOf] at h; simp at h; exact h.1.symm
   subst hc
   have h1 : isS 1 (47 : UInt8).toNat = false := XK 47 (by omega)
   have h2 : ¬ (47 : UInt8).toNat = 10 := by decide
   rw [skN, skN, h1, h, if_neg h2]; rfl
theorem Y2 {s : List UInt8} (h : [47, 47].isPrefixOf s = true) : 0 < lnN s := by
 cases s with
 | nil => simp at h
 | cons c s =>
   have hc : c = 47 := by
     rw [List.isPrefixOf] at h; simp at h; exact h.1.symm
   subst hc
   have h2 : ¬ (47 : UInt8).toNat = 10 := by decide
   rw [qI, if_neg h2]; omega
structure FSkp (F : kg) : Prop extends FTab F where
 h15 : F 15 = some jcs
 h26 : F 26 = some YQ
 h34 : F 34 = some jdA
 h37 : F 37 = some jfa
 h42 : F 42 = some jea
 h50 : F 50 = some jbA
 h53 : F 53 = some jbB
 h55 : F 55 = some jeb
 h56 : F 56 = some jec
 h73 : F 73 = some jcz
section
variable {tx : List UInt8} {er : IVal} {q : Nat}
set_option maxRecDepth 20000 in
theorem jev (H : FSkp F) (hl : tx.length <= 20000) : ∀ (m a : Nat) (r : Bool) (f0 : Nat -> Option (Nat × IVal)) (σ : List IObj) (wr : List (Nat × Bool)) (R : Option (IExit × St)), evw F (.loop vA) ⟨E 35 6 6 [] f0, σ, wr⟩ = R -> tx.length - a <= m -> a <= tx.length -> σ[q]? = some (.cells (LP r tx a er)) -> f0 0 = some (0, .ptr q 0) -> Fl wr ->
   ∃ f1 wr1 r1, R = some (.exit 0, ⟨E 35 6 6 [] f1, σ.set q (.cells (LP r1 tx (a + skN false (tx.drop a)) er)), wr1⟩) /\ Fl wr1 := by
 intro m
 induction m with
 | zero =>
   intro a r f0 σ wr R hE hm ha hq e0 hw
   have d1 : decide ((a : Int) < (tx.length : Nat)) = false := rE (by omega)
   change evw F (.loop vA) ⟨E 35 6 6 [] (base f0), σ, wr⟩ = R at hE
   rw [jT] at hE
   simp only [vA, hq, e0, d1, jA, Option.toList, jq, nat, j6, jO, j5, jr, lc0, lc1, jE, jF, jG, jH, j7, j8, ju, jt, jv, zV, zS, jC, jS, jc, jh, jX, je, jl, jd, jx, jU, jj, ji, jp, jR, jy, jw, Ts.fill, jY, jV, jf, jZ, jo, jm, jg, ja, getAll, stepCall, jn, unI, Opd.get, jB, tag, jz, jb, jP, rv, bin, j0, Nat.reduceAdd, Nat.reduceSub, Nat.reduceMul, Nat.reduceDiv, Nat.reduceMod, Nat.reducePow, Nat.reduceLT, Nat.reduceLeDiff, Nat.reduceEqDiff, Nat.reduceBEq, Nat.reduceBNe, reduceIte, Int.reduceEq, Int.reduceLT, Int.reduceLE, Int.reduceNeg, Int.reduceToNat, Int.reduceMul, Int.reduceAdd, Int.reduceSub, Int.reduceBEq, Int.reduceBNe, reduceCtorEq] at hE
   rw [tN (by omega), skN, Nat.add_zero]
   exact ⟨_, _, r, by rw [vt hq]; exact hE.symm, hw⟩
 | succ m ih =>
   intro a r f0 σ wr R hE hm ha hq e0 hw
   change evw F (.loop vA) ⟨E 35 6 6 [] (base f0), σ, wr⟩ = R at hE
   by_cases hlt : a < tx.length
   . obtain ⟨c, hg⟩ := qT hlt
     have d1 : decide ((a : Int) < (tx.length : Nat)) = true := rB (by omega)
     have d2 : (0 : Int) <= (a : Int) := by omega
     have hd := qG hg
     have hg0 : (tx.drop a)[0]? = some c := by rw [hd]; rfl
     have hc : c.toNat < 256 := c.toNat_lt
     obtain ⟨w1, u1, g1⟩ := jfF H.toFTab (k := 1) hc hq
     have gq := gs hq (y := .cells (LP true tx a er))
     have u1 : cfw F (.f 38) [.ptr q 0, .int .u8 c.toNat, .int .u8 1] σ = _ := u1
     cases hb : isS 1 c.toNat with
     | true =>
       obtain ⟨w2, u2, g2⟩ := QY H.h55 H.h15 (n := 1) (by omega) hl gq
       rw [r7] at u2
       have u2 : cfw F (.f 55) [.ptr q 0, .int .i64 1] (σ.set q (.cells (LP true tx a er))) = _ := u2
       rw [hb] at u1
       rw [jT] at hE
       simp only [vA, hq, e0, d1, d2, ha, hg0, u1, u2, rI, jA, Option.toList, jq, nat, j6, jO, j5, jr, lc0, lc1, jE, jF, jG, jH, j7, j8, ju, jt, jv, zV, zS, jC, jS, jc, jh, jX, je, jl, jd, jx, jU, jj, ji, jp, jR, jy, jw, Ts.fill, jY, jV, jf, jZ, jo, jm, jg, ja, getAll, stepCall, jn, unI, Opd.get, jB, tag, jz, jb, jP, rv, bin, j0, Nat.reduceAdd, Nat.reduceSub, Nat.reduceMul, Nat.reduceDiv, Nat.reduceMod, Nat.reducePow, Nat.reduceLT, Nat.reduceLeDiff, Nat.reduceEqDiff, Nat.reduceBEq, Nat.reduceBNe, reduceIte, Int.reduceEq, Int.reduceLT, Int.reduceLE, Int.reduceNeg, Int.reduceToNat, Int.reduceMul, Int.reduceAdd, Int.reduceSub, Int.reduceBEq, Int.reduceBNe, reduceCtorEq] at hE
       obtain ⟨f1, wr1, r1, hR, gw⟩ := ih (a + 1) true _ _ _ _ hE (by omega) (by omega) (gs hq) (by first | exact e0 | rfl) (jQ g2 (jQ g1 hw))
       refine ⟨f1, wr1, r1, ?_, gw⟩
       rw [hR, r7, hd, skN, hb, if_pos rfl, Nat.add_assoc]
     | false =>
       have hle : (tx.drop a).length <= 20000 := by rw [List.length_drop]; omega
       have u3 := fun σ => jaQ H.h34 H.h53 (σ := σ) (s := tx.drop a) (p := [47, 47]) hle (by simp)
       rw [hb] at u1
       cases hp : [47, 47].isPrefixOf (tx.drop a) with
       | true =>
         have h3 := Y1 (tx.drop a)
         have h4 := Y2 hp
         rw [List.length_drop] at h3
         have u4 := fun σ => jfs H.h56 H.h73 H.h50 H.h26 (σ := σ) hle
         obtain ⟨y, b, u4⟩ := u4 (σ.set q (.cells (LP true tx a er)))
         obtain ⟨w2, u2, g2⟩ := QY H.h55 H.h15 (n := lnN (tx.drop a)) (by omega) hl gq
         have e5 : ((tx.drop a).take (lnN (tx.drop a))).length = lnN (tx.drop a) := by rw [tE, List.length_drop]; omega
         rw [r7] at u2
         rw [jT] at hE
         simp only [vA, hq, e0, d1, d2, ha, hg0, u1, u2, u3, u4, hp, e5, rI, jA, Option.toList, jq, nat, j6, jO, j5, jr, lc0, lc1, jE, jF, jG, jH, j7, j8, ju, jt, jv, zV, zS, jC, jS, jc, jh, jX, je, jl, jd, jx, jU, jj, ji, jp, jR, jy, jw, Ts.fill, jY, jV, jf, jZ, jo, jm, jg, ja, getAll, stepCall, jn, unI, Opd.get, jB, tag, jz, jb, jP, rv, bin, j0, Nat.reduceAdd, Nat.reduceSub, Nat.reduceMul, Nat.reduceDiv, Nat.reduceMod, Nat.reducePow, Nat.reduceLT, Nat.reduceLeDiff, Nat.reduceEqDiff, Nat.reduceBEq, Nat.reduceBNe, reduceIte, Int.reduceEq, Int.reduceLT, Int.reduceLE, Int.reduceNeg, Int.reduceToNat, Int.reduceMul, Int.reduceAdd, Int.reduceSub, Int.reduceBEq, Int.reduceBNe, reduceCtorEq] at hE
         obtain ⟨f1, wr1, r1, hR, gw⟩ := ih (a + lnN (tx.drop a)) true _ _ _ _ hE (by omega) (by omega) (gs hq) (by first | exact e0 | rfl) (jQ g2 (jQ g1 hw))
         refine ⟨f1, wr1, r1, ?_, gw⟩
         rw [hR, r7, ZH hp, List.drop_drop, Nat.add_assoc]
       | false =>
         rw [jT] at hE
         simp only [vA, hq, e0, d1, d2, ha, hg0, u1, u3, hp, rI, jA, Option.toList, jq, nat, j6, jO, j5, jr, lc0, lc1, jE, jF, jG, jH, j7, j8, ju, jt, jv, zV, zS, jC, jS, jc, jh, jX, je, jl, jd, jx, jU, jj, ji, jp, jR, jy, jw, Ts.fill, jY, jV, jf, jZ, jo, jm, jg, ja, getAll, stepCall, jn, unI, Opd.get, jB, tag, jz, jb, jP, rv, bin, j0, Nat.reduceAdd, Nat.reduceSub, Nat.reduceMul, Nat.reduceDiv, Nat.reduceMod, Nat.reducePow, Nat.reduceLT, Nat.reduceLeDiff, Nat.reduceEqDiff, Nat.reduceBEq, Nat.reduceBNe, reduceIte, Int.reduceEq, Int.reduceLT, Int.reduceLE, Int.reduceNeg, Int.reduceToNat, Int.reduceMul, Int.reduceAdd, Int.reduceSub, Int.reduceBEq, Int.reduceBNe, reduceCtorEq] at hE
         have e9 : skN false (tx.drop a) = 0 := by rw [hd, skN, hb, <- hd, hp]; rfl
         rw [e9]
         exact ⟨_, _, true, hE.symm, jQ g1 hw⟩
   . have d1 : decide ((a : Int) < (tx.length : Nat)) = false := rE (by omega)
     rw [jT] at hE
     simp only [vA, hq, e0, d1, jA, Option.toList, jq, nat, j6, jO, j5, jr, lc0, lc1, jE, jF, jG, jH, j7, j8, ju, jt, jv, zV, zS, jC, jS, jc, jh, jX, je, jl, jd, jx, jU, jj, ji, jp, jR, jy, jw, Ts.fill, jY, jV, jf, jZ, jo, jm, jg, ja, getAll, stepCall, jn, unI, Opd.get, jB, tag, jz, jb, jP, rv, bin, j0, Nat.reduceAdd, Nat.reduceSub, Nat.reduceMul, Nat.reduceDiv, Nat.reduceMod, Nat.reducePow, Nat.reduceLT, Nat.reduceLeDiff, Nat.reduceEqDiff, Nat.reduceBEq, Nat.reduceBNe, reduceIte, Int.reduceEq, Int.reduceLT, Int.reduceLE, Int.reduceNeg, Int.reduceToNat, Int.reduceMul, Int.reduceAdd, Int.reduceSub, Int.reduceBEq, Int.reduceBNe, reduceCtorEq] at hE
     rw [tN (by omega), skN, Nat.add_zero]
     exact ⟨_, _, r, by rw [vt hq]; exact hE.symm, hw⟩
theorem jb1 (H : FSkp F) (hl : tx.length <= 20000) {a : Nat} {r : Bool} {σ : List IObj} (ha : a <= tx.length) (hq : σ[q]? = some (.cells (LP r tx a er))) :
   ∃ wr r1, cfw F (.f 37) [.ptr q 0] σ = some ⟨false, .tup [], σ.set q (.cells (LP r1 tx (a + skN false (tx.drop a)) er)), wr⟩ /\ Fl wr := by
 rw [cfw_of jfa H.h37, jw]
 simp only [jfa, jA, Option.toList, jq, nat, j6, jO, j5, jr, lc0, lc1, jE, jF, jG, jH, j7, j8, ju, jt, jv, zV, zS, jC, jS, jc, jh, jX, je, jl, jd, jx, jU, jj, ji, jp, jR, jy, jw, Ts.fill, jY, jV, jf, jZ, jo, jm, jg, ja, getAll, stepCall, jn, unI, Opd.get, jB, tag, jz, jb, jP, rv, bin, j0, Nat.reduceAdd, Nat.reduceSub, Nat.reduceMul, Nat.reduceDiv, Nat.reduceMod, Nat.reducePow, Nat.reduceLT, Nat.reduceLeDiff, Nat.reduceEqDiff, Nat.reduceBEq, Nat.reduceBNe, reduceIte, Int.reduceEq, Int.reduceLT, Int.reduceLE, Int.reduceNeg, Int.reduceToNat, Int.reduceMul, Int.reduceAdd, Int.reduceSub, Int.reduceBEq, Int.reduceBNe, reduceCtorEq]
 generalize hE : evw F (ICode.loop vA) _ = R
 obtain ⟨f1, wr1, r1, rfl, gw⟩ := jev H hl tx.length a r _ _ _ _ hE (by omega) ha hq (by rfl) rfl
 simp only [take_set, kb gw, jA, Option.toList, jq, nat, j6, jO, j5, jr, lc0, lc1, jE, jF, jG, jH, j7, j8, ju, jt, jv, zV, zS, jC, jS, jc, jh, jX, je, jl, jd, jx, jU, jj, ji, jp, jR, jy, jw, Ts.fill, jY, jV, jf, jZ, jo, jm, jg, ja, getAll, stepCall, jn, unI, Opd.get, jB, tag, jz, jb, jP, rv, bin, j0, Nat.reduceAdd, Nat.reduceSub, Nat.reduceMul, Nat.reduceDiv, Nat.reduceMod, Nat.reducePow, Nat.reduceLT, Nat.reduceLeDiff, Nat.reduceEqDiff, Nat.reduceBEq, Nat.reduceBNe, reduceIte, Int.reduceEq, Int.reduceLT, Int.reduceLE, Int.reduceNeg, Int.reduceToNat, Int.reduceMul, Int.reduceAdd, Int.reduceSub, Int.reduceBEq, Int.reduceBNe, reduceCtorEq]
 exact ⟨_, _, rfl, jN gw⟩
end
end Go.Idl.Lx
namespace Go.Idl.Lx
open Go Go.Idl Go.Idl.En
variable {F : kg}
def spn (k : Nat) (s : List UInt8) : Nat := (s.takeWhile fun c => isS k c.toNat).length
theorem vu (k : Nat) (c : UInt8) (s : List UInt8) : spn k (c :: s) = if isS k c.toNat then 1 + spn k s else 0 := by
 rw [spn, List.takeWhile_cons]
 cases isS k c.toNat with
 | true => simp [spn]; omega
 | false => rfl
theorem ZJ (k : Nat) : ∀ s : List UInt8, spn k s <= s.length
 | [] => rP _
 | c :: s => by rw [vu, tB]; have := ZJ k s; split <;> omega
section
variable {tx : List UInt8} {er : IVal} {q : Nat} {σ : List IObj}
set_option maxRecDepth 20000 in
theorem jex (H : FTab F) {k a : Nat} {s : List UInt8} (hl : s.length <= 20000) (hq : σ[q]? = some (.cells (LP true tx a er))) : ∀ (m i : Nat) (f0 : Nat -> Option (Nat × IVal)) (wr : List (Nat × Bool)) (R : Option (IExit × St)), evw F (.loop yn) ⟨E 19 9 5 [] f0, σ, wr⟩ = R -> i + m = s.length -> spn k s = i + spn k (s.drop i) -> f0 0 = some (0, .ptr q 0) -> f0 1 = some (1, B k) -> f0 5 = some (5, .str s) -> f0 17 = some (17, I s.length) -> f0 18 = some (18, I i) -> Fl wr ->
   ∃ f1 wr1, Fl wr1 /\ ((R = some (.ret, ⟨E 19 9 5 [] (base f1), σ, wr1⟩) /\ f1 4 = some (4, I (spn k s))) \/ (R = some (.exit 0, ⟨E 19 9 5 [] (base f1), σ, wr1⟩) /\ f1 5 = some (5, .str s) /\ spn k s = s.length)) := by
 intro m
 induction m with
 | zero =>
   intro i f0 wr R hE hm hi e0 e1 e5 e17 e18 hw
   have d1 : decide ((i : Int) < (s.length : Nat)) = false := rE (by omega)
   change evw F (.loop yn) ⟨E 19 9 5 [] (base f0), σ, wr⟩ = R at hE
   rw [jT] at hE
   simp only [yn, e0, e1, e5, e17, e18, d1, jA, Option.toList, jq, nat, j6, jO, j5, jr, lc0, lc1, jE, jF, jG, jH, j7, j8, ju, jt, jv, zV, zS, jC, jS, jc, jh, jX, je, jl, jd, jx, jU, jj, ji, jp, jR, jy, jw, Ts.fill, jY, jV, jf, jZ, jo, jm, jg, ja, getAll, stepCall, jn, unI, Opd.get, jB, tag, jz, jb, jP, rv, bin, j0, Nat.reduceAdd, Nat.reduceSub, Nat.reduceMul, Nat.reduceDiv, Nat.reduceMod, Nat.reducePow, Nat.reduceLT, Nat.reduceLeDiff, Nat.reduceEqDiff, Nat.reduceBEq, Nat.reduceBNe, reduceIte, Int.reduceEq, Int.reduceLT, Int.reduceLE, Int.reduceNeg, Int.reduceToNat, Int.reduceMul, Int.reduceAdd, Int.reduceSub, Int.reduceBEq, Int.reduceBNe, reduceCtorEq] at hE
   refine ⟨_, _, hw, Or.inr ⟨hE.symm, (by first | exact e5 | rfl), ?_⟩⟩
   rw [hi, tN (by omega)]
   show i + 0 = _
   omega
 | succ m ih =>
   intro i f0 wr R hE hm hi e0 e1 e5 e17 e18 hw
   obtain ⟨c, hg⟩ := qT (l := s) (i := i) (by omega)
   have d1 : decide ((i : Int) < (s.length : Nat)) = true := rB (by omega)
   have d2 : (0 : Int) <= (i : Int) := by omega
   have hc : c.toNat < 256 := c.toNat_lt
   have w1 := Je (n := i) (by omega)
   obtain ⟨wa, u1, g1⟩ := jas H (k := k) hc hq
   change evw F (.loop yn) ⟨E 19 9 5 [] (base f0), σ, wr⟩ = R at hE
   rw [qG hg, vu] at hi
   rw [jT] at hE
   cases hb : isS k c.toNat with
   | true =>
     rw [hb] at u1 hi
     simp only [yn, e0, e1, e5, e17, e18, d1, d2, hg, u1, w1, rI, jA, Option.toList, jq, nat, j6, jO, j5, jr, lc0, lc1, jE, jF, jG, jH, j7, j8, ju, jt, jv, zV, zS, jC, jS, jc, jh, jX, je, jl, jd, jx, jU, jj, ji, jp, jR, jy, jw, Ts.fill, jY, jV, jf, jZ, jo, jm, jg, ja, getAll, stepCall, jn, unI, Opd.get, jB, tag, jz, jb, jP, rv, bin, j0, Nat.reduceAdd, Nat.reduceSub, Nat.reduceMul, Nat.reduceDiv, Nat.reduceMod, Nat.reducePow, Nat.reduceLT, Nat.reduceLeDiff, Nat.reduceEqDiff, Nat.reduceBEq, Nat.reduceBNe, reduceIte, Int.reduceEq, Int.reduceLT, Int.reduceLE, Int.reduceNeg, Int.reduceToNat, Int.reduceMul, Int.reduceAdd, Int.reduceSub, Int.reduceBEq, Int.reduceBNe, reduceCtorEq] at hE
     exact ih (i + 1) _ _ _ hE (by omega) (by rw [hi, if_pos rfl]; omega) (by first | exact e0 | rfl) (by first | exact e1 | rfl) (by first | exact e5 | rfl) (by first | exact e17 | rfl) (by rfl) (jQ g1 hw)
   | false =>
     rw [hb] at u1 hi
     simp only [yn, e0, e1, e5, e17, e18, d1, d2, hg, u1, w1, rI, jA, Option.toList, jq, nat, j6, jO, j5, jr, lc0, lc1, jE, jF, jG, jH, j7, j8, ju, jt, jv, zV, zS, jC, jS, jc, jh, jX, je, jl, jd, jx, jU, jj, ji, jp, jR, jy, jw, Ts.fill, jY, jV, jf, jZ, jo, jm, jg, ja, getAll, stepCall, jn, unI, Opd.get, jB, tag, jz, jb, jP, rv, bin, j0, Nat.reduceAdd, Nat.reduceSub, Nat.reduceMul, Nat.reduceDiv, Nat.reduceMod, Nat.reducePow, Nat.reduceLT, Nat.reduceLeDiff, Nat.reduceEqDiff, Nat.reduceBEq, Nat.reduceBNe, reduceIte, Int.reduceEq, Int.reduceLT, Int.reduceLE, Int.reduceNeg, Int.reduceToNat, Int.reduceMul, Int.reduceAdd, Int.reduceSub, Int.reduceBEq, Int.reduceBNe, reduceCtorEq] at hE
     have hi : spn k s = i := hi
     exact ⟨_, _, jQ g1 hw, Or.inl ⟨hE.symm, by rw [hi]; rfl⟩⟩
theorem jdv (H : FTab F) (h60 : F 60 = some jdD) {k a : Nat} (hl : tx.length <= 20000) (ha : a <= tx.length) (hq : σ[q]? = some (.cells (LP true tx a er))) :
   ∃ wr, cfw F (.f 60) [.ptr q 0, B k] σ = some ⟨false, I (spn k (tx.drop a)), σ, wr⟩ /\ Fl wr := by
 rw [cfw_of jdD h60, jw]
 have d2 : (0 : Int) <= (a : Int) := by omega
 simp only [jdD, hq, d2, ha, rI, jA, Option.toList, jq, nat, j6, jO, j5, jr, lc0, lc1, jE, jF, jG, jH, j7, j8, ju, jt, jv, zV, zS, jC, jS, jc, jh, jX, je, jl, jd, jx, jU, jj, ji, jp, jR, jy, jw, Ts.fill, jY, jV, jf, jZ, jo, jm, jg, ja, getAll, stepCall, jn, unI, Opd.get, jB, tag, jz, jb, jP, rv, bin, j0, Nat.reduceAdd, Nat.reduceSub, Nat.reduceMul, Nat.reduceDiv, Nat.reduceMod, Nat.reducePow, Nat.reduceLT, Nat.reduceLeDiff, Nat.reduceEqDiff, Nat.reduceBEq, Nat.reduceBNe, reduceIte, Int.reduceEq, Int.reduceLT, Int.reduceLE, Int.reduceNeg, Int.reduceToNat, Int.reduceMul, Int.reduceAdd, Int.reduceSub, Int.reduceBEq, Int.reduceBNe, reduceCtorEq]
 generalize hE : evw F (ICode.loop yn) _ = R
 obtain ⟨f1, wr1, gw, ⟨rfl, e4⟩ | ⟨rfl, e5, e6⟩⟩ := jex H (k := k) (s := tx.drop a) (by rw [List.length_drop]; omega) hq (tx.drop a).length 0 _ _ _ hE (by omega) (by rw [List.drop_zero]; omega) (by rfl) (by rfl) (by rfl) (by rfl) (by rfl) rfl
 . simp only [e4, kb gw, jA, Option.toList, jq, nat, j6, jO, j5, jr, lc0, lc1, jE, jF, jG, jH, j7, j8, ju, jt, jv, zV, zS, jC, jS, jc, jh, jX, je, jl, jd, jx, jU, jj, ji, jp, jR, jy, jw, Ts.fill, jY, jV, jf, jZ, jo, jm, jg, ja, getAll, stepCall, jn, unI, Opd.get, jB, tag, jz, jb, jP, rv, bin, j0, Nat.reduceAdd, Nat.reduceSub, Nat.reduceMul, Nat.reduceDiv, Nat.reduceMod, Nat.reducePow, Nat.reduceLT, Nat.reduceLeDiff, Nat.reduceEqDiff, Nat.reduceBEq, Nat.reduceBNe, reduceIte, Int.reduceEq, Int.reduceLT, Int.reduceLE, Int.reduceNeg, Int.reduceToNat, Int.reduceMul, Int.reduceAdd, Int.reduceSub, Int.reduceBEq, Int.reduceBNe, reduceCtorEq]
   exact ⟨_, rfl, jN gw⟩
 . simp only [e5, kb gw, jA, Option.toList, jq, nat, j6, jO, j5, jr, lc0, lc1, jE, jF, jG, jH, j7, j8, ju, jt, jv, zV, zS, jC, jS, jc, jh, jX, je, jl, jd, jx, jU, jj, ji, jp, jR, jy, jw, Ts.fill, jY, jV, jf, jZ, jo, jm, jg, ja, getAll, stepCall, jn, unI, Opd.get, jB, tag, jz, jb, jP, rv, bin, j0, Nat.reduceAdd, Nat.reduceSub, Nat.reduceMul, Nat.reduceDiv, Nat.reduceMod, Nat.reducePow, Nat.reduceLT, Nat.reduceLeDiff, Nat.reduceEqDiff, Nat.reduceBEq, Nat.reduceBNe, reduceIte, Int.reduceEq, Int.reduceLT, Int.reduceLE, Int.reduceNeg, Int.reduceToNat, Int.reduceMul, Int.reduceAdd, Int.reduceSub, Int.reduceBEq, Int.reduceBNe, reduceCtorEq]
   rw [e6]
   exact ⟨_, rfl, jN gw⟩
abbrev TC (k : Int) (a ln : Nat) (t : List UInt8) (n : Int) : List IVal := [I k, I a, I ln, .str t, I n]
set_option maxRecDepth 20000 in
theorem jeG (H : FSkp F) (h39 : F 39 = some jdC) (h60 : F 60 = some jdD) {a p ln : Nat} (hl : tx.length <= 20000) (ha : a <= tx.length) (hq : σ[q]? = some (.cells (LP true tx a er))) (hp : σ[p]? = some (.cells (TC 0 a ln [] 0))) (hne : p ≠ q) :
   ∃ wr, Fl wr /\ cfw F (.f 39) [.ptr q 0, .ptr p 0] σ = some ⟨false, .tup [], if spn 6 (tx.drop a) > 16 then σ.set q (.cells (LP true tx a (.iface 56 (.pv false [I 4, I a] 0)))) else (σ.set q (.cells (LP true tx (a + spn 6 (tx.drop a)) er))).set p (.cells (TC 1 a ln ((tx.take (a + spn 6 (tx.drop a))).drop a) 0)), wr⟩ := by
 rw [cfw_of jdC h39, jw]
 obtain ⟨w1, u1, g1⟩ := jdv H.toFTab h60 (k := 6) hl ha hq
 have u1 : cfw F (.f 60) [.ptr q 0, .int .u8 6] σ = _ := u1
 have hsp := ZJ 6 (tx.drop a)
 rw [List.length_drop] at hsp
 by_cases h16 : spn 6 (tx.drop a) > 16
 . have d1 : decide (((spn 6 (tx.drop a) : Nat) : Int) > 16) = true := rB (by omega)
   obtain ⟨w2, u2, g2⟩ := Kj H.h42 (c := 4) (p := a) hq
   simp only [jdC, u1, u2, d1, hq, kb g2, take_set, jA, Option.toList, jq, nat, j6, jO, j5, jr, lc0, lc1, jE, jF, jG, jH, j7, j8, ju, jt, jv, zV, zS, jC, jS, jc, jh, jX, je, jl, jd, jx, jU, jj, ji, jp, jR, jy, jw, Ts.fill, jY, jV, jf, jZ, jo, jm, jg, ja, getAll, stepCall, jn, unI, Opd.get, jB, tag, jz, jb, jP, rv, bin, j0, Nat.reduceAdd, Nat.reduceSub, Nat.reduceMul, Nat.reduceDiv, Nat.reduceMod, Nat.reducePow, Nat.reduceLT, Nat.reduceLeDiff, Nat.reduceEqDiff, Nat.reduceBEq, Nat.reduceBNe, reduceIte, Int.reduceEq, Int.reduceLT, Int.reduceLE, Int.reduceNeg, Int.reduceToNat, Int.reduceMul, Int.reduceAdd, Int.reduceSub, Int.reduceBEq, Int.reduceBNe, reduceCtorEq]
   rw [if_pos h16, kb (jQ g2 g1)]
   exact ⟨_, jN (jQ g2 g1), rfl⟩
 . have d1 : decide (((spn 6 (tx.drop a) : Nat) : Int) > 16) = false := rE (by omega)
   obtain ⟨w2, u2, g2⟩ := QY H.h55 H.h15 (n := spn 6 (tx.drop a)) (by omega) hl hq
   have gp := get_set (x := .cells (LP true tx (a + spn 6 (tx.drop a)) er)) hp (j := q) (fun e => hne e.symm)
   have gp2 := gs gp (y := .cells (TC 1 a ln [] 0))
   have lt2 : ∀ x : IObj, ((σ.set q (.cells (LP true tx (a + spn 6 (tx.drop a)) er))).set p x).take σ.length = (σ.set q (.cells (LP true tx (a + spn 6 (tx.drop a)) er))).set p x := fun x => by rw [rU (by simp)]
   simp only [jdC, u1, u2, d1, gp, gp2, lt2, r7, jA, Option.toList, jq, nat, j6, jO, j5, jr, lc0, lc1, jE, jF, jG, jH, j7, j8, ju, jt, jv, zV, zS, jC, jS, jc, jh, jX, je, jl, jd, jx, jU, jj, ji, jp, jR, jy, jw, Ts.fill, jY, jV, jf, jZ, jo, jm, jg, ja, getAll, stepCall, jn, unI, Opd.get, jB, tag, jz, jb, jP, rv, bin, j0, Nat.reduceAdd, Nat.reduceSub, Nat.reduceMul, Nat.reduceDiv, Nat.reduceMod, Nat.reducePow, Nat.reduceLT, Nat.reduceLeDiff, Nat.reduceEqDiff, Nat.reduceBEq, Nat.reduceBNe, reduceIte, Int.reduceEq, Int.reduceLT, Int.reduceLE, Int.reduceNeg, Int.reduceToNat, Int.reduceMul, Int.reduceAdd, Int.reduceSub, Int.reduceBEq, Int.reduceBNe, reduceCtorEq]
   rw [if_neg h16]
   rw [kb (jQ g2 g1)]
   refine ⟨_, ?_, rfl⟩
   have := jQ g2 g1
   repeat (first | exact jN this | apply V1 | apply KK)
end
end Go.Idl.Lx
namespace Go.Idl.Lx
open Go Go.Idl Go.Idl.En
variable {F : kg}
theorem jdT {s : List UInt8} {i : Nat} {b : UInt8} (h : s[i]? = some b) (hb : 128 <= b.toNat) : 128 <= (Utf8.decode ⟨s.toArray⟩ i).1 := by
 have e : (ByteArray.get! ⟨s.toArray⟩ (i + 0)).toNat = b.toNat := by
   have : (ByteArray.get! ⟨s.toArray⟩ (i + 0)) = s.toArray[i]! := rfl
   rw [this]; simp [h]
 unfold Utf8.decode
 simp only [e, Utf8.runeError]
 rw [if_neg (by omega)]
 repeat' split
 all_goals (first | (simp only; omega) | (rename_i hh; simp only [Bool.and_eq_true, decide_eq_true_eq] at hh; simp only; omega))
theorem jad {n : Int} (hn : 128 <= n) : ∃ pre b, (Utf8.encode n).data.toList = pre ++ [b] /\ 128 <= b.toNat /\ pre.length <= 3 := by
 have hc : ∃ c, (if Utf8.valid n then n.toNat else Utf8.runeError) = c /\ 128 <= c := by
   refine ⟨_, rfl, ?_⟩
   split
   . omega
   . decide
 obtain ⟨c, hc, h⟩ := hc
 unfold Utf8.encode
 simp only [hc]
 have hu : ∀ k, k < 64 -> (UInt8.ofNat (0x80 + k)).toNat = 0x80 + k := fun k hk => by simp; omega
 rw [if_neg (by omega)]
 split
 . exact ⟨[_], _, rfl, by rw [hu _ (by omega)]; omega, by simp⟩
 . split
   . exact ⟨[_, _], _, rfl, by rw [hu _ (by omega)]; omega, by simp⟩
   . exact ⟨[_, _, _], _, rfl, by rw [hu _ (by omega)]; omega, by simp⟩
theorem Qp {c : Nat} (hc : 128 <= c) : ∀ (s : List UInt8) (k : Nat), (∀ b ∈ s, b.toNat < 128) -> Q2 c s k = -1
 | [], _, _ => rfl
 | b :: s, k, h => by
   have : Nat.beq b.toNat c = false := by rw [<- Bool.not_eq_true]; intro e; have := Nat.eq_of_beq_eq_true e; have := h b (by simp); omega
   rw [Q2, this]
   exact Qp hc s (k + 1) fun x hx => h x (by simp [hx])
section
variable {σ : List IObj} {s : List UInt8}
theorem jf2 (h : F 88 = some ZZ) (r : Int) (σ : List IObj) : ∃ b, cfw F (.f 88) [.int .i32 r] σ = some ⟨false, .bool b, σ, []⟩ := by
 rw [cfw_of ZZ h, jw]
 by_cases h1 : 0 <= r
 . have d1 : decide ((0 : Int) <= r) = true := rB h1
   by_cases h2 : r < 55296
   . have d2 : decide (r < 55296) = true := rB h2
     simp only [ZZ, d1, d2, jl, jA, Option.toList, jq, nat, j6, jO, j5, jr, lc0, lc1, jE, jF, jG, jH, j7, j8, ju, jt, jv, zV, zS, jC, jS, jc, jh, jX, je, jd, jx, jU, jj, ji, jp, jR, jy, jw, Ts.fill, jY, jV, jf, jZ, jo, jm, jg, ja, getAll, stepCall, jn, unI, Opd.get, jB, tag, jz, jb, jP, rv, bin, j0, Nat.reduceAdd, Nat.reduceSub, Nat.reduceMul, Nat.reduceDiv, Nat.reduceMod, Nat.reducePow, Nat.reduceLT, Nat.reduceLeDiff, Nat.reduceEqDiff, Nat.reduceBEq, Nat.reduceBNe, reduceIte, Int.reduceEq, Int.reduceLT, Int.reduceLE, Int.reduceNeg, Int.reduceToNat, Int.reduceMul, Int.reduceAdd, Int.reduceSub, Int.reduceBEq, Int.reduceBNe, reduceCtorEq]; exact ⟨_, rfl⟩
   . have d2 : decide (r < 55296) = false := rE h2
     by_cases h3 : 57343 < r
     . have d3 : decide (57343 < r) = true := rB h3
       by_cases h4 : r <= 1114111
       . have d4 : decide (r <= 1114111) = true := rB h4
         simp only [ZZ, d1, d2, d3, d4, jl, jA, Option.toList, jq, nat, j6, jO, j5, jr, lc0, lc1, jE, jF, jG, jH, j7, j8, ju, jt, jv, zV, zS, jC, jS, jc, jh, jX, je, jd, jx, jU, jj, ji, jp, jR, jy, jw, Ts.fill, jY, jV, jf, jZ, jo, jm, jg, ja, getAll, stepCall, jn, unI, Opd.get, jB, tag, jz, jb, jP, rv, bin, j0, Nat.reduceAdd, Nat.reduceSub, Nat.reduceMul, Nat.reduceDiv, Nat.reduceMod, Nat.reducePow, Nat.reduceLT, Nat.reduceLeDiff, Nat.reduceEqDiff, Nat.reduceBEq, Nat.reduceBNe, reduceIte, Int.reduceEq, Int.reduceLT, Int.reduceLE, Int.reduceNeg, Int.reduceToNat, Int.reduceMul, Int.reduceAdd, Int.reduceSub, Int.reduceBEq, Int.reduceBNe, reduceCtorEq]; exact ⟨_, rfl⟩
       . have d4 : decide (r <= 1114111) = false := rE h4
         simp only [ZZ, d1, d2, d3, d4, jl, jA, Option.toList, jq, nat, j6, jO, j5, jr, lc0, lc1, jE, jF, jG, jH, j7, j8, ju, jt, jv, zV, zS, jC, jS, jc, jh, jX, je, jd, jx, jU, jj, ji, jp, jR, jy, jw, Ts.fill, jY, jV, jf, jZ, jo, jm, jg, ja, getAll, stepCall, jn, unI, Opd.get, jB, tag, jz, jb, jP, rv, bin, j0, Nat.reduceAdd, Nat.reduceSub, Nat.reduceMul, Nat.reduceDiv, Nat.reduceMod, Nat.reducePow, Nat.reduceLT, Nat.reduceLeDiff, Nat.reduceEqDiff, Nat.reduceBEq, Nat.reduceBNe, reduceIte, Int.reduceEq, Int.reduceLT, Int.reduceLE, Int.reduceNeg, Int.reduceToNat, Int.reduceMul, Int.reduceAdd, Int.reduceSub, Int.reduceBEq, Int.reduceBNe, reduceCtorEq]; exact ⟨_, rfl⟩
     . have d3 : decide (57343 < r) = false := rE h3
       simp only [ZZ, d1, d2, d3, jl, jA, Option.toList, jq, nat, j6, jO, j5, jr, lc0, lc1, jE, jF, jG, jH, j7, j8, ju, jt, jv, zV, zS, jC, jS, jc, jh, jX, je, jd, jx, jU, jj, ji, jp, jR, jy, jw, Ts.fill, jY, jV, jf, jZ, jo, jm, jg, ja, getAll, stepCall, jn, unI, Opd.get, jB, tag, jz, jb, jP, rv, bin, j0, Nat.reduceAdd, Nat.reduceSub, Nat.reduceMul, Nat.reduceDiv, Nat.reduceMod, Nat.reducePow, Nat.reduceLT, Nat.reduceLeDiff, Nat.reduceEqDiff, Nat.reduceBEq, Nat.reduceBNe, reduceIte, Int.reduceEq, Int.reduceLT, Int.reduceLE, Int.reduceNeg, Int.reduceToNat, Int.reduceMul, Int.reduceAdd, Int.reduceSub, Int.reduceBEq, Int.reduceBNe, reduceCtorEq]; exact ⟨_, rfl⟩
 . have d1 : decide ((0 : Int) <= r) = false := rE h1
   have d3 : decide (57343 < r) = false := rE (by omega)
   simp only [ZZ, d1, d3, jl, jA, Option.toList, jq, nat, j6, jO, j5, jr, lc0, lc1, jE, jF, jG, jH, j7, j8, ju, jt, jv, zV, zS, jC, jS, jc, jh, jX, je, jd, jx, jU, jj, ji, jp, jR, jy, jw, Ts.fill, jY, jV, jf, jZ, jo, jm, jg, ja, getAll, stepCall, jn, unI, Opd.get, jB, tag, jz, jb, jP, rv, bin, j0, Nat.reduceAdd, Nat.reduceSub, Nat.reduceMul, Nat.reduceDiv, Nat.reduceMod, Nat.reducePow, Nat.reduceLT, Nat.reduceLeDiff, Nat.reduceEqDiff, Nat.reduceBEq, Nat.reduceBNe, reduceIte, Int.reduceEq, Int.reduceLT, Int.reduceLE, Int.reduceNeg, Int.reduceToNat, Int.reduceMul, Int.reduceAdd, Int.reduceSub, Int.reduceBEq, Int.reduceBNe, reduceCtorEq]; exact ⟨_, rfl⟩
set_option maxRecDepth 20000 in
theorem jeA (hs : ∀ b ∈ s, b.toNat < 128) (hl : s.length < 1000) : ∀ (m i : Nat) (f0 : Nat -> Option (Nat × IVal)) (wr : List (Nat × Bool)) (R : Option (IExit × St)), evw F (.loop y5) ⟨E 184 3 8 [] f0, σ ++ [.it s i], wr⟩ = R -> i + m = s.length -> f0 175 = some (175, .ptr σ.length 0) -> Fl wr ->
   ∃ f1 wr1, Fl wr1 /\ R = some (.exit 9, ⟨E 184 3 8 [] (base f1), σ ++ [.it s s.length], wr1⟩) := by
 intro m
 induction m with
 | zero =>
   intro i f0 wr R hE hm e hw
   have hi : i = s.length := by omega
   subst hi
   have hg : s[s.length]? = none := by simp
   change evw F (.loop y5) ⟨E 184 3 8 [] (base f0), σ ++ [.it s s.length], wr⟩ = R at hE
   rw [jT] at hE
   simp only [y5, e, hg, jA, Option.toList, jq, nat, j6, jO, j5, jr, lc0, lc1, jE, jF, jG, jH, j7, j8, ju, jt, jv, zV, zS, jC, jS, jc, jh, jX, je, jl, jd, jx, jU, jj, ji, jp, jR, jy, jw, Ts.fill, jY, jV, jf, jZ, jo, jm, jg, ja, getAll, stepCall, jn, unI, Opd.get, jB, tag, jz, jb, jP, rv, bin, j0, Nat.reduceAdd, Nat.reduceSub, Nat.reduceMul, Nat.reduceDiv, Nat.reduceMod, Nat.reducePow, Nat.reduceLT, Nat.reduceLeDiff, Nat.reduceEqDiff, Nat.reduceBEq, Nat.reduceBNe, reduceIte, Int.reduceEq, Int.reduceLT, Int.reduceLE, Int.reduceNeg, Int.reduceToNat, Int.reduceMul, Int.reduceAdd, Int.reduceSub, Int.reduceBEq, Int.reduceBNe, reduceCtorEq] at hE
   exact ⟨_, _, hw, hE.symm⟩
 | succ m ih =>
   intro i f0 wr R hE hm e hw
   obtain ⟨c, hg⟩ := qT (l := s) (i := i) (by omega)
   have hc := hs c (List.mem_of_getElem? hg)
   have b1 : ((c.toNat : Int) == 65533) = false := by rw [beq_eq_false_iff_ne]; omega
   change evw F (.loop y5) ⟨E 184 3 8 [] (base f0), σ ++ [.it s i], wr⟩ = R at hE
   rw [jT] at hE
   simp only [y5, e, hg, hc, b1, jA, Option.toList, jq, nat, j6, jO, j5, jr, lc0, lc1, jE, jF, jG, jH, j7, j8, ju, jt, jv, zV, zS, jC, jS, jc, jh, jX, je, jl, jd, jx, jU, jj, ji, jp, jR, jy, jw, Ts.fill, jY, jV, jf, jZ, jo, jm, jg, ja, getAll, stepCall, jn, unI, Opd.get, jB, tag, jz, jb, jP, rv, bin, j0, Nat.reduceAdd, Nat.reduceSub, Nat.reduceMul, Nat.reduceDiv, Nat.reduceMod, Nat.reducePow, Nat.reduceLT, Nat.reduceLeDiff, Nat.reduceEqDiff, Nat.reduceBEq, Nat.reduceBNe, reduceIte, Int.reduceEq, Int.reduceLT, Int.reduceLE, Int.reduceNeg, Int.reduceToNat, Int.reduceMul, Int.reduceAdd, Int.reduceSub, Int.reduceBEq, Int.reduceBNe, reduceCtorEq] at hE
   exact ih (i + 1) _ _ _ hE (by omega) (by first | exact e | rfl) (by simpa using hw)
set_option maxRecDepth 20000 in
theorem jeR (h : F 76 = some jbC) (h12 : F 12 = some jcr) (h26 : F 26 = some YQ) (h88 : F 88 = some ZZ) (hs : ∀ b ∈ s, b.toNat < 128) (h4 : 4 <= s.length) (hl : s.length < 1000) (r : Nat) :
   ∃ wr, cfw F (.f 76) [.str s, .int .i32 r] σ = some ⟨false, I (if r < 128 then Q2 r s 0 else -1), σ, wr⟩ /\ Fl wr := by
 rw [cfw_of jbC h, jw]
 have d1 : decide ((0 : Int) <= (r : Int)) = true := rB (by omega)
 by_cases h1 : r < 128
 . have d2 : decide ((r : Int) < 128) = true := rB (by omega)
   have w1 : IntKind.u8.wrap (r : Int) = (r : Int) := by rw [zb]; omega
   have u := jfD h12 h26 (σ := σ) (s := s) (c := r) (by omega)
   rw [if_pos h1]
   simp only [jbC, d1, d2, w1, u, jl, jA, Option.toList, jq, nat, j6, jO, j5, jr, lc0, lc1, jE, jF, jG, jH, j7, j8, ju, jt, jv, zV, zS, jC, jS, jc, jh, jX, je, jd, jx, jU, jj, ji, jp, jR, jy, jw, Ts.fill, jY, jV, jf, jZ, jo, jm, jg, ja, getAll, stepCall, jn, unI, Opd.get, jB, tag, jz, jb, jP, rv, bin, j0, Nat.reduceAdd, Nat.reduceSub, Nat.reduceMul, Nat.reduceDiv, Nat.reduceMod, Nat.reducePow, Nat.reduceLT, Nat.reduceLeDiff, Nat.reduceEqDiff, Nat.reduceBEq, Nat.reduceBNe, reduceIte, Int.reduceEq, Int.reduceLT, Int.reduceLE, Int.reduceNeg, Int.reduceToNat, Int.reduceMul, Int.reduceAdd, Int.reduceSub, Int.reduceBEq, Int.reduceBNe, reduceCtorEq]
   exact ⟨_, rfl, rfl⟩
 . have d2 : decide ((r : Int) < 128) = false := rE (by omega)
   rw [if_neg h1]
   by_cases h2 : r = 65533
   . subst h2
     have b1 : (((65533 : Nat) : Int) == 65533) = true := rfl
     simp only [jbC, d1, d2, b1, jl, jA, Option.toList, jq, nat, j6, jO, j5, jr, lc0, lc1, jE, jF, jG, jH, j7, j8, ju, jt, jv, zV, zS, jC, jS, jc, jh, jX, je, jd, jx, jU, jj, ji, jp, jR, jy, jw, Ts.fill, jY, jV, jf, jZ, jo, jm, jg, ja, getAll, stepCall, jn, unI, Opd.get, jB, tag, jz, jb, jP, rv, bin, j0, Nat.reduceAdd, Nat.reduceSub, Nat.reduceMul, Nat.reduceDiv, Nat.reduceMod, Nat.reducePow, Nat.reduceLT, Nat.reduceLeDiff, Nat.reduceEqDiff, Nat.reduceBEq, Nat.reduceBNe, reduceIte, Int.reduceEq, Int.reduceLT, Int.reduceLE, Int.reduceNeg, Int.reduceToNat, Int.reduceMul, Int.reduceAdd, Int.reduceSub, Int.reduceBEq, Int.reduceBNe, reduceCtorEq]
     generalize hE : evw F (ICode.loop y5) _ = R
     obtain ⟨f1, wr1, gw, rfl⟩ := jeA hs hl s.length 0 _ _ _ hE (by omega) (by rfl) rfl
     simp only [jA, Option.toList, jq, nat, j6, jO, j5, jr, lc0, lc1, jE, jF, jG, jH, j7, j8, ju, jt, jv, zV, zS, jC, jS, jc, jh, jX, je, jl, jd, jx, jU, jj, ji, jp, jR, jy, jw, Ts.fill, jY, jV, jf, jZ, jo, jm, jg, ja, getAll, stepCall, jn, unI, Opd.get, jB, tag, jz, jb, jP, rv, bin, j0, Nat.reduceAdd, Nat.reduceSub, Nat.reduceMul, Nat.reduceDiv, Nat.reduceMod, Nat.reducePow, Nat.reduceLT, Nat.reduceLeDiff, Nat.reduceEqDiff, Nat.reduceBEq, Nat.reduceBNe, reduceIte, Int.reduceEq, Int.reduceLT, Int.reduceLE, Int.reduceNeg, Int.reduceToNat, Int.reduceMul, Int.reduceAdd, Int.reduceSub, Int.reduceBEq, Int.reduceBNe, reduceCtorEq]
     rw [kb gw]
     exact ⟨_, rfl, jN gw⟩
   . have b1 : ((r : Int) == 65533) = false := by rw [beq_eq_false_iff_ne]; omega
     obtain ⟨b, u⟩ := jf2 h88 (r : Int) σ
     cases b with
     | false =>
       simp only [jbC, d1, d2, b1, u, jl, jA, Option.toList, jq, nat, j6, jO, j5, jr, lc0, lc1, jE, jF, jG, jH, j7, j8, ju, jt, jv, zV, zS, jC, jS, jc, jh, jX, je, jd, jx, jU, jj, ji, jp, jR, jy, jw, Ts.fill, jY, jV, jf, jZ, jo, jm, jg, ja, getAll, stepCall, jn, unI, Opd.get, jB, tag, jz, jb, jP, rv, bin, j0, Nat.reduceAdd, Nat.reduceSub, Nat.reduceMul, Nat.reduceDiv, Nat.reduceMod, Nat.reducePow, Nat.reduceLT, Nat.reduceLeDiff, Nat.reduceEqDiff, Nat.reduceBEq, Nat.reduceBNe, reduceIte, Int.reduceEq, Int.reduceLT, Int.reduceLE, Int.reduceNeg, Int.reduceToNat, Int.reduceMul, Int.reduceAdd, Int.reduceSub, Int.reduceBEq, Int.reduceBNe, reduceCtorEq]
       exact ⟨_, rfl, rfl⟩
     | true =>
       obtain ⟨pre, b, he, hb, hp⟩ := jad (n := (r : Int)) (by omega)
       obtain ⟨x, hg⟩ := qT (l := s) (i := pre.length) (by omega)
       have hx := hs x (List.mem_of_getElem? hg)
       have nr : ¬ ((0 : Int) <= (r : Int) /\ (r : Int) < 128) := by omega
       have hl2 : (pre ++ [b]).length = pre.length + 1 := by simp
       have w1 : IntKind.i64.wrap (((pre.length + 1 : Nat) : Int) - 1) = (pre.length : Int) := by rw [qN (by omega) (by omega)]; omega
       have w2 := Je (n := pre.length) (by omega)
       have hb2 : (pre ++ [b])[pre.length]? = some b := by simp
       have d3 : decide ((pre.length : Int) < (s.length : Int)) = true := rB (by omega)
       have d4 : (0 : Int) <= (pre.length : Int) := by omega
       have d5 : (0 : Int) <= ((pre.length + 1 : Nat) : Int) := by omega
       have d6 : pre.length + 1 <= s.length := by omega
       have ne1 : ((x.toNat : Int) != (b.toNat : Int)) = true := by rw [bne_iff_ne]; omega
       have u2 := jfD h12 h26 (σ := σ) (s := s.drop (pre.length + 1)) (c := b.toNat) b.toNat_lt
       rw [Qp hb _ _ (fun y hy => hs y (tF hy))] at u2
       have d7 : decide ((-1 : Int) < 0) = true := rfl
       simp only [jbC, d1, d2, b1, u, jl, jA, Option.toList, jq, nat, j6, jO, j5, jr, lc0, lc1, jE, jF, jG, jH, j7, j8, ju, jt, jv, zV, zS, jC, jS, jc, jh, jX, je, jd, jx, jU, jj, ji, jp, jR, jy, jw, Ts.fill, jY, jV, jf, jZ, jo, jm, jg, ja, getAll, stepCall, jn, unI, Opd.get, jB, tag, jz, jb, jP, rv, bin, j0, Nat.reduceAdd, Nat.reduceSub, Nat.reduceMul, Nat.reduceDiv, Nat.reduceMod, Nat.reducePow, Nat.reduceLT, Nat.reduceLeDiff, Nat.reduceEqDiff, Nat.reduceBEq, Nat.reduceBNe, reduceIte, Int.reduceEq, Int.reduceLT, Int.reduceLE, Int.reduceNeg, Int.reduceToNat, Int.reduceMul, Int.reduceAdd, Int.reduceSub, Int.reduceBEq, Int.reduceBNe, reduceCtorEq]
       rw [if_neg nr, he]
       generalize hrs : pre ++ [b] = rs at hl2 hb2 ⊢
       simp only [hl2, w1, jA, Option.toList, jq, nat, j6, jO, j5, jr, lc0, lc1, jE, jF, jG, jH, j7, j8, ju, jt, jv, zV, zS, jC, jS, jc, jh, jX, je, jl, jd, jx, jU, jj, ji, jp, jR, jy, jw, Ts.fill, jY, jV, jf, jZ, jo, jm, jg, ja, getAll, stepCall, jn, unI, Opd.get, jB, tag, jz, jb, jP, rv, bin, j0, Nat.reduceAdd, Nat.reduceSub, Nat.reduceMul, Nat.reduceDiv, Nat.reduceMod, Nat.reducePow, Nat.reduceLT, Nat.reduceLeDiff, Nat.reduceEqDiff, Nat.reduceBEq, Nat.reduceBNe, reduceIte, Int.reduceEq, Int.reduceLT, Int.reduceLE, Int.reduceNeg, Int.reduceToNat, Int.reduceMul, Int.reduceAdd, Int.reduceSub, Int.reduceBEq, Int.reduceBNe, reduceCtorEq]
       rw [jT]
       simp only [YU, hl2, w1, w2, hb2, hg, d3, d4, d5, d6, ne1, u2, d7, rI, jl, jA, Option.toList, jq, nat, j6, jO, j5, jr, lc0, lc1, jE, jF, jG, jH, j7, j8, ju, jt, jv, zV, zS, jC, jS, jc, jh, jX, je, jd, jx, jU, jj, ji, jp, jR, jy, jw, Ts.fill, jY, jV, jf, jZ, jo, jm, jg, ja, getAll, stepCall, jn, unI, Opd.get, jB, tag, jz, jb, jP, rv, bin, j0, Nat.reduceAdd, Nat.reduceSub, Nat.reduceMul, Nat.reduceDiv, Nat.reduceMod, Nat.reducePow, Nat.reduceLT, Nat.reduceLeDiff, Nat.reduceEqDiff, Nat.reduceBEq, Nat.reduceBNe, reduceIte, Int.reduceEq, Int.reduceLT, Int.reduceLE, Int.reduceNeg, Int.reduceToNat, Int.reduceMul, Int.reduceAdd, Int.reduceSub, Int.reduceBEq, Int.reduceBNe, reduceCtorEq]
       exact ⟨_, rfl, rfl⟩
end
end Go.Idl.Lx
namespace Go.Idl.Lx
open Go Go.Idl Go.Idl.En
variable {F : kg}
def hexs : List UInt8 := [48, 49, 50, 51, 52, 53, 54, 55, 56, 57, 97, 98, 99, 100, 101, 102, 65, 66, 67, 68, 69, 70]
def cr (s : List UInt8) (r : Nat) : Bool := decide ((if r < 128 then Q2 r s 0 else -1) ≥ 0)
def oth (ba : Int) (r : Nat) : Bool := (ba == 10 && !cr digs r) || !cr hexs r
theorem jbT {ba : Int} {r : Nat} (h : 128 <= r) : oth ba r = true := by
 have : cr hexs r = false := by rw [cr, if_neg (by omega)]; rfl
 rw [oth, this]; simp
structure FNum (F : kg) : Prop extends FSkp F where
 h12 : F 12 = some jcr
 h61 : F 61 = some jdE
 h62 : F 62 = some jfe
 h63 : F 63 = some jff
 h76 : F 76 = some jbC
 h77 : F 77 = some jfh
 h88 : F 88 = some ZZ
section
variable {σ : List IObj} {s : List UInt8}
set_option maxRecDepth 20000 in
theorem jdP (H : FNum F) (hs : ∀ b ∈ s, b.toNat < 128) (h4 : 4 <= s.length) (hl : s.length < 1000) (r : Nat) : ∃ wr, cfw F (.f 62) [.str s, .int .i32 r] σ = some ⟨false, .bool (cr s r), σ, wr⟩ /\ Fl wr := by
 rw [cfw_of jfe H.h62, jw]
 obtain ⟨wr, u, gw⟩ := jeR H.h76 H.h12 H.h26 H.h88 hs h4 hl r (σ := σ)
 simp only [jfe, u, kb gw, <- cr.eq_1, jA, Option.toList, jq, nat, j6, jO, j5, jr, lc0, lc1, jE, jF, jG, jH, j7, j8, ju, jt, jv, zV, zS, jC, jS, jc, jh, jX, je, jl, jd, jx, jU, jj, ji, jp, jR, jy, jw, Ts.fill, jY, jV, jf, jZ, jo, jm, jg, ja, getAll, stepCall, jn, unI, Opd.get, jB, tag, jz, jb, jP, rv, bin, j0, Nat.reduceAdd, Nat.reduceSub, Nat.reduceMul, Nat.reduceDiv, Nat.reduceMod, Nat.reducePow, Nat.reduceLT, Nat.reduceLeDiff, Nat.reduceEqDiff, Nat.reduceBEq, Nat.reduceBNe, reduceIte, Int.reduceEq, Int.reduceLT, Int.reduceLE, Int.reduceNeg, Int.reduceToNat, Int.reduceMul, Int.reduceAdd, Int.reduceSub, Int.reduceBEq, Int.reduceBNe, reduceCtorEq]
 exact ⟨_, rfl, jN gw⟩
set_option maxRecDepth 20000 in
theorem jeL (H : FNum F) {bx : Nat} {ba : Int} (hb : σ[bx]? = some (.cells [I ba])) (r : Nat) : ∃ wr, cfw F (.f 61) [.int .i32 r, .ptr bx 0] σ = some ⟨false, .bool (oth ba r), σ, wr⟩ /\ Fl wr := by
 rw [cfw_of jdE H.h61, jw]
 obtain ⟨w1, u1, g1⟩ := jdP H (s := digs) (by decide) (by decide) (by decide) r (σ := σ)
 obtain ⟨w2, u2, g2⟩ := jdP H (s := hexs) (by decide) (by decide) (by decide) r (σ := σ)
 rw [oth]
 simp only [digs, hexs] at u1 u2
 rw [<- digs.eq_1] at u1
 rw [<- hexs.eq_1] at u2
 simp only [digs] at u1
 simp only [hexs] at u2
 cases e0 : (ba == 10) with
 | true =>
   cases e1 : cr [48, 49, 50, 51, 52, 53, 54, 55, 56, 57] r with
   | true =>
     have e1' : cr digs r = true := e1
     rw [e1] at u1
     simp only [jdE, hb, e0, u1, u2, jl, jA, Option.toList, jq, nat, j6, jO, j5, jr, lc0, lc1, jE, jF, jG, jH, j7, j8, ju, jt, jv, zV, zS, jC, jS, jc, jh, jX, je, jd, jx, jU, jj, ji, jp, jR, jy, jw, Ts.fill, jY, jV, jf, jZ, jo, jm, jg, ja, getAll, stepCall, jn, unI, Opd.get, jB, tag, jz, jb, jP, rv, bin, j0, Nat.reduceAdd, Nat.reduceSub, Nat.reduceMul, Nat.reduceDiv, Nat.reduceMod, Nat.reducePow, Nat.reduceLT, Nat.reduceLeDiff, Nat.reduceEqDiff, Nat.reduceBEq, Nat.reduceBNe, reduceIte, Int.reduceEq, Int.reduceLT, Int.reduceLE, Int.reduceNeg, Int.reduceToNat, Int.reduceMul, Int.reduceAdd, Int.reduceSub, Int.reduceBEq, Int.reduceBNe, reduceCtorEq]
     rw [kb (jQ g2 g1), e1']
     exact ⟨_, rfl, jN (jQ g2 g1)⟩
   | false =>
     have e1' : cr digs r = false := e1
     rw [e1] at u1
     simp only [jdE, hb, e0, u1, u2, jl, jA, Option.toList, jq, nat, j6, jO, j5, jr, lc0, lc1, jE, jF, jG, jH, j7, j8, ju, jt, jv, zV, zS, jC, jS, jc, jh, jX, je, jd, jx, jU, jj, ji, jp, jR, jy, jw, Ts.fill, jY, jV, jf, jZ, jo, jm, jg, ja, getAll, stepCall, jn, unI, Opd.get, jB, tag, jz, jb, jP, rv, bin, j0, Nat.reduceAdd, Nat.reduceSub, Nat.reduceMul, Nat.reduceDiv, Nat.reduceMod, Nat.reducePow, Nat.reduceLT, Nat.reduceLeDiff, Nat.reduceEqDiff, Nat.reduceBEq, Nat.reduceBNe, reduceIte, Int.reduceEq, Int.reduceLT, Int.reduceLE, Int.reduceNeg, Int.reduceToNat, Int.reduceMul, Int.reduceAdd, Int.reduceSub, Int.reduceBEq, Int.reduceBNe, reduceCtorEq]
     rw [kb g1, e1']
     exact ⟨_, rfl, jN g1⟩
 | false =>
   simp only [jdE, hb, e0, u1, u2, jl, jA, Option.toList, jq, nat, j6, jO, j5, jr, lc0, lc1, jE, jF, jG, jH, j7, j8, ju, jt, jv, zV, zS, jC, jS, jc, jh, jX, je, jd, jx, jU, jj, ji, jp, jR, jy, jw, Ts.fill, jY, jV, jf, jZ, jo, jm, jg, ja, getAll, stepCall, jn, unI, Opd.get, jB, tag, jz, jb, jP, rv, bin, j0, Nat.reduceAdd, Nat.reduceSub, Nat.reduceMul, Nat.reduceDiv, Nat.reduceMod, Nat.reducePow, Nat.reduceLT, Nat.reduceLeDiff, Nat.reduceEqDiff, Nat.reduceBEq, Nat.reduceBNe, reduceIte, Int.reduceEq, Int.reduceLT, Int.reduceLE, Int.reduceNeg, Int.reduceToNat, Int.reduceMul, Int.reduceAdd, Int.reduceSub, Int.reduceBEq, Int.reduceBNe, reduceCtorEq]
   rw [kb g2]
   exact ⟨_, rfl, jN g2⟩
def dgs (ba : Int) (s : List UInt8) : Nat := (s.takeWhile fun c => !oth ba c.toNat).length
theorem vp (ba : Int) (c : UInt8) (s : List UInt8) : dgs ba (c :: s) = if oth ba c.toNat then 0 else 1 + dgs ba s := by
 rw [dgs, List.takeWhile_cons]
 cases oth ba c.toNat with
 | true => rfl
 | false => simp [dgs]; omega
theorem Jv (ba : Int) : ∀ s : List UInt8, dgs ba s <= s.length
 | [] => rP _
 | c :: s => by rw [vp, tB]; have := Jv ba s; split <;> omega
set_option maxRecDepth 20000 in
theorem jeB (H : FNum F) {bx : Nat} {ba : Int} (hb : σ[bx]? = some (.cells [I ba])) (hl : s.length <= 20000) : ∀ (m i : Nat) (f0 : Nat -> Option (Nat × IVal)) (wr : List (Nat × Bool)) (R : Option (IExit × St)), evw F (.loop vV) ⟨E 12 5 5 [] f0, σ ++ [.it s i], wr⟩ = R -> i + m = s.length -> dgs ba s = i + dgs ba (s.drop i) -> f0 1 = some (1, .fn (.func 61) [] [.ptr bx 0]) -> f0 2 = some (2, .bool true) -> f0 10 = some (10, .ptr σ.length 0) -> Fl wr ->
   ∃ f1 wr1 k, Fl wr1 /\ ((R = some (.ret, ⟨E 12 5 5 [] (base f1), σ ++ [.it s k], wr1⟩) /\ f1 6 = some (6, I (dgs ba s)) /\ dgs ba s < s.length) \/ (R = some (.exit 0, ⟨E 12 5 5 [] (base f1), σ ++ [.it s k], wr1⟩) /\ dgs ba s = s.length)) := by
 intro m
 induction m with
 | zero =>
   intro i f0 wr R hE hm hd e1 e2 e10 hw
   have hi : i = s.length := by omega
   subst hi
   have hg : s[s.length]? = none := by simp
   change evw F (.loop vV) ⟨E 12 5 5 [] (base f0), σ ++ [.it s s.length], wr⟩ = R at hE
   rw [jT] at hE
   simp only [vV, e1, e2, e10, hg, jA, Option.toList, jq, nat, j6, jO, j5, jr, lc0, lc1, jE, jF, jG, jH, j7, j8, ju, jt, jv, zV, zS, jC, jS, jc, jh, jX, je, jl, jd, jx, jU, jj, ji, jp, jR, jy, jw, Ts.fill, jY, jV, jf, jZ, jo, jm, jg, ja, getAll, stepCall, jn, unI, Opd.get, jB, tag, jz, jb, jP, rv, bin, j0, Nat.reduceAdd, Nat.reduceSub, Nat.reduceMul, Nat.reduceDiv, Nat.reduceMod, Nat.reducePow, Nat.reduceLT, Nat.reduceLeDiff, Nat.reduceEqDiff, Nat.reduceBEq, Nat.reduceBNe, reduceIte, Int.reduceEq, Int.reduceLT, Int.reduceLE, Int.reduceNeg, Int.reduceToNat, Int.reduceMul, Int.reduceAdd, Int.reduceSub, Int.reduceBEq, Int.reduceBNe, reduceCtorEq] at hE
   refine ⟨_, _, _, hw, Or.inr ⟨hE.symm, ?_⟩⟩
   rw [hd, tN (rP _)]
   show s.length + 0 = _
   omega
 | succ m ih =>
   intro i f0 wr R hE hm hd e1 e2 e10 hw
   obtain ⟨c, hg⟩ := qT (l := s) (i := i) (by omega)
   have ee : (true == true) = true := rfl
   have ee2 : (false == true) = false := rfl
   have hnp : nt (.fn (.func 61) [] [.ptr bx 0]) = true := rfl
   rw [qG hg, vp] at hd
   change evw F (.loop vV) ⟨E 12 5 5 [] (base f0), σ ++ [.it s i], wr⟩ = R at hE
   rw [jT] at hE
   by_cases hc : c.toNat < 128
   . obtain ⟨w1, u1, g1⟩ := jeL H (vb hb [IObj.it s (i + 1)]) c.toNat
     cases ho : oth ba c.toNat with
     | true =>
       rw [ho] at u1 hd
       simp only [vV, e1, e2, e10, hg, hc, u1, ee, rI, jA, Option.toList, jq, nat, j6, jO, j5, jr, lc0, lc1, jE, jF, jG, jH, j7, j8, ju, jt, jv, zV, zS, jC, jS, jc, jh, jX, je, jl, jd, jx, jU, jj, ji, jp, jR, jy, jw, Ts.fill, jY, jV, jf, jZ, jo, jm, jg, ja, getAll, stepCall, jn, unI, Opd.get, jB, tag, jz, jb, jP, rv, bin, j0, Nat.reduceAdd, Nat.reduceSub, Nat.reduceMul, Nat.reduceDiv, Nat.reduceMod, Nat.reducePow, Nat.reduceLT, Nat.reduceLeDiff, Nat.reduceEqDiff, Nat.reduceBEq, Nat.reduceBNe, reduceIte, Int.reduceEq, Int.reduceLT, Int.reduceLE, Int.reduceNeg, Int.reduceToNat, Int.reduceMul, Int.reduceAdd, Int.reduceSub, Int.reduceBEq, Int.reduceBNe, reduceCtorEq] at hE
       have hd : dgs ba s = i := hd
       exact ⟨_, _, _, by simpa using jQ g1 hw, Or.inl ⟨hE.symm, by rw [hd]; rfl, by omega⟩⟩
     | false =>
       rw [ho] at u1 hd
       simp only [vV, e1, e2, e10, hg, hc, u1, ee2, rI, jA, Option.toList, jq, nat, j6, jO, j5, jr, lc0, lc1, jE, jF, jG, jH, j7, j8, ju, jt, jv, zV, zS, jC, jS, jc, jh, jX, je, jl, jd, jx, jU, jj, ji, jp, jR, jy, jw, Ts.fill, jY, jV, jf, jZ, jo, jm, jg, ja, getAll, stepCall, jn, unI, Opd.get, jB, tag, jz, jb, jP, rv, bin, j0, Nat.reduceAdd, Nat.reduceSub, Nat.reduceMul, Nat.reduceDiv, Nat.reduceMod, Nat.reducePow, Nat.reduceLT, Nat.reduceLeDiff, Nat.reduceEqDiff, Nat.reduceBEq, Nat.reduceBNe, reduceIte, Int.reduceEq, Int.reduceLT, Int.reduceLE, Int.reduceNeg, Int.reduceToNat, Int.reduceMul, Int.reduceAdd, Int.reduceSub, Int.reduceBEq, Int.reduceBNe, reduceCtorEq] at hE
       exact ih (i + 1) _ _ _ hE (by omega) (by rw [hd, if_neg (by simp)]; omega) (by first | exact e1 | rfl) (by first | exact e2 | rfl) (by first | exact e10 | rfl) (by simpa using jQ g1 hw)
   . have hge := jdT hg (by omega)
     generalize hz : Utf8.decode ⟨s.toArray⟩ i = z at hge
     obtain ⟨z1, z2⟩ := z
     obtain ⟨w1, u1, g1⟩ := jeL H (vb hb [IObj.it s (i + z2)]) z1
     rw [jbT hge] at u1
     rw [jbT (r := c.toNat) (by omega)] at hd
     simp only [vV, e1, e2, e10, hg, hc, hz, u1, ee, rI, jA, Option.toList, jq, nat, j6, jO, j5, jr, lc0, lc1, jE, jF, jG, jH, j7, j8, ju, jt, jv, zV, zS, jC, jS, jc, jh, jX, je, jl, jd, jx, jU, jj, ji, jp, jR, jy, jw, Ts.fill, jY, jV, jf, jZ, jo, jm, jg, ja, getAll, stepCall, jn, unI, Opd.get, jB, tag, jz, jb, jP, rv, bin, j0, Nat.reduceAdd, Nat.reduceSub, Nat.reduceMul, Nat.reduceDiv, Nat.reduceMod, Nat.reducePow, Nat.reduceLT, Nat.reduceLeDiff, Nat.reduceEqDiff, Nat.reduceBEq, Nat.reduceBNe, reduceIte, Int.reduceEq, Int.reduceLT, Int.reduceLE, Int.reduceNeg, Int.reduceToNat, Int.reduceMul, Int.reduceAdd, Int.reduceSub, Int.reduceBEq, Int.reduceBNe, reduceCtorEq] at hE
     have hd : dgs ba s = i := hd
     exact ⟨_, _, _, by simpa using jQ g1 hw, Or.inl ⟨hE.symm, by rw [hd]; rfl, by omega⟩⟩
set_option maxRecDepth 20000 in
theorem jfG (H : FNum F) {bx : Nat} {ba : Int} (hb : σ[bx]? = some (.cells [I ba])) (hl : s.length <= 20000) : ∃ wr, cfw F (.f 63) [.str s, .fn (.func 61) [] [.ptr bx 0]] σ = some ⟨false, I (if dgs ba s < s.length then dgs ba s else -1), σ, wr⟩ /\ Fl wr := by
 have u : ∃ wr, cfw F (.f 77) [.str s, .fn (.func 61) [] [.ptr bx 0], .bool true] σ = some ⟨false, I (if dgs ba s < s.length then dgs ba s else -1), σ, wr⟩ /\ Fl wr := by
   rw [cfw_of jfh H.h77, jw]
   have hnp : nt (.fn (.func 61) [] [.ptr bx 0]) = true := rfl
   simp only [jfh, nr3_fn, jA, Option.toList, jq, nat, j6, jO, j5, jr, lc0, lc1, jE, jF, jG, jH, j7, j8, ju, jt, jv, zV, zS, jC, jS, jc, jh, jX, je, jl, jd, jx, jU, jj, ji, jp, jR, jy, jw, Ts.fill, jY, jV, jf, jZ, jo, jm, jg, ja, getAll, stepCall, jn, unI, Opd.get, jB, tag, jz, jb, jP, rv, bin, j0, Nat.reduceAdd, Nat.reduceSub, Nat.reduceMul, Nat.reduceDiv, Nat.reduceMod, Nat.reducePow, Nat.reduceLT, Nat.reduceLeDiff, Nat.reduceEqDiff, Nat.reduceBEq, Nat.reduceBNe, reduceIte, Int.reduceEq, Int.reduceLT, Int.reduceLE, Int.reduceNeg, Int.reduceToNat, Int.reduceMul, Int.reduceAdd, Int.reduceSub, Int.reduceBEq, Int.reduceBNe, reduceCtorEq]
   generalize hE : evw F (ICode.loop vV) _ = R
   obtain ⟨f1, wr1, k, gw, ⟨rfl, e6, hlt⟩ | ⟨rfl, heq⟩⟩ := jeB H hb hl s.length 0 _ _ _ hE (by omega) (by rw [List.drop_zero]; omega) (by rfl) (by rfl) (by rfl) rfl
   . simp only [e6, jA, Option.toList, jq, nat, j6, jO, j5, jr, lc0, lc1, jE, jF, jG, jH, j7, j8, ju, jt, jv, zV, zS, jC, jS, jc, jh, jX, je, jl, jd, jx, jU, jj, ji, jp, jR, jy, jw, Ts.fill, jY, jV, jf, jZ, jo, jm, jg, ja, getAll, stepCall, jn, unI, Opd.get, jB, tag, jz, jb, jP, rv, bin, j0, Nat.reduceAdd, Nat.reduceSub, Nat.reduceMul, Nat.reduceDiv, Nat.reduceMod, Nat.reducePow, Nat.reduceLT, Nat.reduceLeDiff, Nat.reduceEqDiff, Nat.reduceBEq, Nat.reduceBNe, reduceIte, Int.reduceEq, Int.reduceLT, Int.reduceLE, Int.reduceNeg, Int.reduceToNat, Int.reduceMul, Int.reduceAdd, Int.reduceSub, Int.reduceBEq, Int.reduceBNe, reduceCtorEq]
     rw [if_pos hlt, kb gw]
     exact ⟨_, rfl, jN gw⟩
   . simp only [jA, Option.toList, jq, nat, j6, jO, j5, jr, lc0, lc1, jE, jF, jG, jH, j7, j8, ju, jt, jv, zV, zS, jC, jS, jc, jh, jX, je, jl, jd, jx, jU, jj, ji, jp, jR, jy, jw, Ts.fill, jY, jV, jf, jZ, jo, jm, jg, ja, getAll, stepCall, jn, unI, Opd.get, jB, tag, jz, jb, jP, rv, bin, j0, Nat.reduceAdd, Nat.reduceSub, Nat.reduceMul, Nat.reduceDiv, Nat.reduceMod, Nat.reducePow, Nat.reduceLT, Nat.reduceLeDiff, Nat.reduceEqDiff, Nat.reduceBEq, Nat.reduceBNe, reduceIte, Int.reduceEq, Int.reduceLT, Int.reduceLE, Int.reduceNeg, Int.reduceToNat, Int.reduceMul, Int.reduceAdd, Int.reduceSub, Int.reduceBEq, Int.reduceBNe, reduceCtorEq]
     rw [if_neg (show ¬ dgs ba s < s.length by omega), kb gw]
     exact ⟨_, rfl, jN gw⟩
 obtain ⟨wr, u, gw⟩ := u
 rw [cfw_of jff H.h63, jw]
 simp only [jff, u, jA, Option.toList, jq, nat, j6, jO, j5, jr, lc0, lc1, jE, jF, jG, jH, j7, j8, ju, jt, jv, zV, zS, jC, jS, jc, jh, jX, je, jl, jd, jx, jU, jj, ji, jp, jR, jy, jw, Ts.fill, jY, jV, jf, jZ, jo, jm, jg, ja, getAll, stepCall, jn, unI, Opd.get, jB, tag, jz, jb, jP, rv, bin, j0, Nat.reduceAdd, Nat.reduceSub, Nat.reduceMul, Nat.reduceDiv, Nat.reduceMod, Nat.reducePow, Nat.reduceLT, Nat.reduceLeDiff, Nat.reduceEqDiff, Nat.reduceBEq, Nat.reduceBNe, reduceIte, Int.reduceEq, Int.reduceLT, Int.reduceLE, Int.reduceNeg, Int.reduceToNat, Int.reduceMul, Int.reduceAdd, Int.reduceSub, Int.reduceBEq, Int.reduceBNe, reduceCtorEq]
 rw [kb gw]
 exact ⟨_, rfl, jN gw⟩
end
end Go.Idl.Lx
namespace Go.Idl.Lx
open Go Go.Idl Go.Idl.En
variable {F : kg}
def vdg (c : Nat) : Nat := if c <= 57 then c - 48 else if c <= 70 then c - 55 else c - 87
def T64 : Nat := 18446744073709551616
def pz (ba : Nat) : Nat -> List UInt8 -> Option Nat
 | n, [] => some n
 | n, c :: s => if T64 <= n * ba + vdg c.toNat then none else pz ba (n * ba + vdg c.toNat) s
theorem wr3 {T x : Nat} (hT : T = T64) (h : x < T) : IntKind.u64.wrap (x : Int) = (x : Int) := by
 subst hT
 have h : x < 18446744073709551616 := h
 rw [vx]; omega
theorem wr4 {T x v : Nat} (hT : T = T64) (h : x < T) (h2 : T <= x + v) (hv : v < 16) : ∃ y : Nat, IntKind.u64.wrap ((x : Int) + (v : Int)) = (y : Int) /\ y < x := by
 subst hT
 have h : x < 18446744073709551616 := h
 have h2 : 18446744073709551616 <= x + v := h2
 have e : IntKind.u64.wrap ((x : Int) + (v : Int)) = (x : Int) + (v : Int) - 18446744073709551616 := by rw [vx]; omega
 refine ⟨((x : Int) + (v : Int) - 18446744073709551616).toNat, ?_, ?_⟩
 . rw [e, Int.toNat_of_nonneg (by omega)]
 . omega
theorem wr5 {T x v : Nat} (hT : T = T64) (h2 : x + v < T) : IntKind.u64.wrap ((x : Int) + (v : Int)) = ((x + v : Nat) : Int) := by
 subst hT
 have h2 : x + v < 18446744073709551616 := h2
 rw [vx]; omega
structure FPar (F : kg) : Prop extends FNum F where
 h40 : F 40 = some jd9
 h64 : F 64 = some jef
 h78 : F 78 = some jdF
 h79 : F 79 = some jfi
 h89 : F 89 = some jcD
 h92 : ∀ (s : List UInt8) (σ : List IObj), s.length <= 20000 -> ∃ v, cfw F (.f 92) [.str [80, 97, 114, 115, 101, 85, 105, 110, 116], .str s] σ = some ⟨false, .pv false v 0, σ, []⟩
theorem jfJ (h : F 89 = some jcD) (c : Nat) (σ : List IObj) : cfw F (.f 89) [B c] σ = some ⟨false, B (or8 c 32), σ, []⟩ := by
 rw [cfw_of jcD h, jw]
 have u := jbS c 32
 have u : IntKind.u8.wrap (((BitVec.ofInt IntKind.u8.bits (c : Int) ||| BitVec.ofInt IntKind.u8.bits 32).toNat : Nat) : Int) = ((or8 c 32 : Nat) : Int) := u
 simp only [jcD, u, jA, Option.toList, jq, nat, j6, jO, j5, jr, lc0, lc1, jE, jF, jG, jH, j7, j8, ju, jt, jv, zV, zS, jC, jS, jc, jh, jX, je, jl, jd, jx, jU, jj, ji, jp, jR, jy, jw, Ts.fill, jY, jV, jf, jZ, jo, jm, jg, ja, getAll, stepCall, jn, unI, Opd.get, jB, tag, jz, jb, jP, rv, bin, j0, Nat.reduceAdd, Nat.reduceSub, Nat.reduceMul, Nat.reduceDiv, Nat.reduceMod, Nat.reducePow, Nat.reduceLT, Nat.reduceLeDiff, Nat.reduceEqDiff, Nat.reduceBEq, Nat.reduceBNe, reduceIte, Int.reduceEq, Int.reduceLT, Int.reduceLE, Int.reduceNeg, Int.reduceToNat, Int.reduceMul, Int.reduceAdd, Int.reduceSub, Int.reduceBEq, Int.reduceBNe, reduceCtorEq]
theorem Y3 : ∀ c : Nat, c < 256 -> oth 16 c = false -> 57 < c -> 97 <= or8 c 32 /\ or8 c 32 <= 122 /\ or8 c 32 - 97 + 10 = vdg c /\ vdg c < 16 := by decide +kernel
theorem Q8 : ∀ c : Nat, c < 256 -> oth 16 c = false -> c <= 57 -> 48 <= c /\ vdg c = c - 48 /\ vdg c < 10 := by decide +kernel
theorem Zl : ∀ c : Nat, c < 256 -> oth 10 c = false -> c <= 57 /\ oth 16 c = false := by decide +kernel
section
variable {σ : List IObj}
set_option maxRecDepth 20000 in
theorem jbJ (h89 : F 89 = some jcD) {ba : Nat} {T : Nat} {K M : Int} {s : List UInt8} (hT : T = T64) (hba : ba = 10 \/ ba = 16) (hK1 : ∀ n d : Nat, K <= (n : Int) -> T <= n * ba + d) (hK2 : ∀ n : Nat, (n : Int) < K -> n * ba < T) (hM : M + 1 = (T : Int)) (hs : ∀ c ∈ s, oth ba c.toNat = false) (hl : s.length <= 20000) : ∀ (m i n : Nat) (f0 : Nat -> Option (Nat × IVal)) (wr : List (Nat × Bool)) (R : Option (IExit × St)), evw F (.loop qy) ⟨E 122 8 8 [] f0, σ, wr⟩ = R -> i + m = s.length -> n < T -> f0 1 = some (1, I ba) -> f0 8 = some (8, .bool false) -> f0 10 = some (10, .int .u64 K) -> f0 11 = some (11, .int .u64 M) -> f0 12 = some (12, .bool false) -> f0 13 = some (13, .int .u64 n) -> f0 99 = some (99, .sl 0 false (s.map fun c => .int .u8 c.toNat)) -> f0 100 = some (100, I s.length) -> f0 101 = some (101, I i) -> Fl wr ->
   ∃ f1 wr1, Fl wr1 /\ match pz ba n (s.drop i) with
     | some v => R = some (.exit 3, ⟨E 122 8 8 [] (base f1), σ, wr1⟩) /\ f1 13 = some (13, .int .u64 v) /\ f1 12 = some (12, .bool false) /\ v < T
     | none => R = some (.ret, ⟨E 122 8 8 [] (base f1), σ, wr1⟩) /\ f1 6 = some (6, .int .u64 M) /\ f1 7 = some (7, .iface 156 (I 1)) := by
 intro m
 induction m with
 | zero =>
   intro i n f0 wr R hE hm hn e1 e8 e10 e11 e12 e13 e99 e100 e101 hw
   have d1 : decide ((i : Int) < (s.length : Nat)) = false := rE (by omega)
   change evw F (.loop qy) ⟨E 122 8 8 [] (base f0), σ, wr⟩ = R at hE
   rw [jT] at hE
   simp only [qy, e99, e100, e101, d1, jA, Option.toList, jq, nat, j6, jO, j5, jr, lc0, lc1, jE, jF, jG, jH, j7, j8, ju, jt, jv, zV, zS, jC, jS, jc, jh, jX, je, jl, jd, jx, jU, jj, ji, jp, jR, jy, jw, Ts.fill, jY, jV, jf, jZ, jo, jm, jg, ja, getAll, stepCall, jn, unI, Opd.get, jB, tag, jz, jb, jP, rv, bin, j0, Nat.reduceAdd, Nat.reduceSub, Nat.reduceMul, Nat.reduceDiv, Nat.reduceMod, Nat.reducePow, Nat.reduceLT, Nat.reduceLeDiff, Nat.reduceEqDiff, Nat.reduceBEq, Nat.reduceBNe, reduceIte, Int.reduceEq, Int.reduceLT, Int.reduceLE, Int.reduceNeg, Int.reduceToNat, Int.reduceMul, Int.reduceAdd, Int.reduceSub, Int.reduceBEq, Int.reduceBNe, reduceCtorEq] at hE
   rw [tN (by omega)]
   exact ⟨_, _, hw, hE.symm, (by first | exact e13 | rfl), (by first | exact e12 | rfl), hn⟩
 | succ m ih =>
   intro i n f0 wr R hE hm hn e1 e8 e10 e11 e12 e13 e99 e100 e101 hw
   obtain ⟨c, hg⟩ := qT (l := s) (i := i) (by omega)
   have hc := hs c (List.mem_of_getElem? hg)
   have hc256 : c.toNat < 256 := c.toNat_lt
   have d1 : decide ((i : Int) < (s.length : Nat)) = true := rB (by omega)
   have d2 : (0 : Int) <= (i : Int) := by omega
   have w1 := Je (n := i) (by omega)
   have hwb : IntKind.u8.wrap (ba : Int) = (ba : Int) := by rw [zb]; omega
   have hwb2 : IntKind.u64.wrap (ba : Int) = (ba : Int) := by rw [vx]; omega
   have hT' : T = T64 := hT
   have h16 : oth 16 c.toNat = false := by
     rcases hba with rfl | rfl
     . exact (Zl _ hc256 hc).2
     . exact hc
   have b95 : ((c.toNat : Int) == 95) = false := by
     rw [beq_eq_false_iff_ne]
     intro e
     have : c.toNat = 95 := by omega
     rw [this] at h16; revert h16; decide
   -- the digit
   have hv : vdg c.toNat < ba := by
     rcases hba with rfl | rfl
     . exact (Q8 _ hc256 h16 (Zl _ hc256 hc).1).2.2
     . by_cases h57 : c.toNat <= 57
       . have := (Q8 _ hc256 h16 h57).2.2; omega
       . exact (Y3 _ hc256 h16 (by omega)).2.2.2
   have hv16 : vdg c.toNat < 16 := by omega
   have d5 : decide (((vdg c.toNat : Nat) : Int) ≥ (ba : Int)) = false := rE (by omega)
   have wd : IntKind.u64.wrap ((vdg c.toNat : Nat) : Int) = ((vdg c.toNat : Nat) : Int) := by rw [vx]; omega
   rw [qG hg, pz, <- hT]
   change evw F (.loop qy) ⟨E 122 8 8 [] (base f0), σ, wr⟩ = R at hE
   rw [jT] at hE
   by_cases h57 : c.toNat <= 57
   . obtain ⟨g1, g2, _⟩ := Q8 _ hc256 h16 h57
     have d3 : decide ((48 : Int) <= (c.toNat : Int)) = true := rB (by omega)
     have d4 : decide ((c.toNat : Int) <= 57) = true := rB (by omega)
     have w2 : IntKind.u8.wrap ((c.toNat : Int) - 48) = ((vdg c.toNat : Nat) : Int) := by rw [zb]; omega
     by_cases hk : K <= (n : Int)
     . have d6 : decide ((n : Int) ≥ K) = true := rB hk
       have := hK1 n (vdg c.toNat) hk
       simp only [qy, e1, e8, e10, e11, e12, e13, e99, e100, e101, d1, d2, d5, d6, hg, w1, w2, hwb, hwb2, wd, b95, d3, d4, jl, rI, jA, Option.toList, jq, nat, j6, jO, j5, jr, lc0, lc1, jE, jF, jG, jH, j7, j8, ju, jt, jv, zV, zS, jC, jS, jc, jh, jX, je, jd, jx, jU, jj, ji, jp, jR, jy, jw, Ts.fill, jY, jV, jf, jZ, jo, jm, jg, ja, getAll, stepCall, jn, unI, Opd.get, jB, tag, jz, jb, jP, rv, bin, j0, Nat.reduceAdd, Nat.reduceSub, Nat.reduceMul, Nat.reduceDiv, Nat.reduceMod, Nat.reducePow, Nat.reduceLT, Nat.reduceLeDiff, Nat.reduceEqDiff, Nat.reduceBEq, Nat.reduceBNe, reduceIte, Int.reduceEq, Int.reduceLT, Int.reduceLE, Int.reduceNeg, Int.reduceToNat, Int.reduceMul, Int.reduceAdd, Int.reduceSub, Int.reduceBEq, Int.reduceBNe, reduceCtorEq] at hE
       rw [if_pos this]
       exact ⟨_, _, hw, hE.symm, (by rfl), (by rfl)⟩
     . have d6 : decide ((n : Int) ≥ K) = false := rE hk
       have hnk := hK2 n (by omega)
       have w3 : IntKind.u64.wrap ((n : Int) * (ba : Int)) = ((n * ba : Nat) : Int) := by rw [<- Int.natCast_mul]; exact wr3 hT hnk
       by_cases hov : T <= n * ba + vdg c.toNat
       . obtain ⟨n1, w4, hn1⟩ := wr4 hT hnk hov hv16
         have d7 : decide ((n1 : Int) < ((n * ba : Nat) : Int)) = true := rB (by omega)
         simp only [qy, e1, e8, e10, e11, e12, e13, e99, e100, e101, d1, d2, d5, d6, d7, hg, w1, w2, w3, w4, hwb, hwb2, wd, b95, d3, d4, jl, rI, jA, Option.toList, jq, nat, j6, jO, j5, jr, lc0, lc1, jE, jF, jG, jH, j7, j8, ju, jt, jv, zV, zS, jC, jS, jc, jh, jX, je, jd, jx, jU, jj, ji, jp, jR, jy, jw, Ts.fill, jY, jV, jf, jZ, jo, jm, jg, ja, getAll, stepCall, jn, unI, Opd.get, jB, tag, jz, jb, jP, rv, bin, j0, Nat.reduceAdd, Nat.reduceSub, Nat.reduceMul, Nat.reduceDiv, Nat.reduceMod, Nat.reducePow, Nat.reduceLT, Nat.reduceLeDiff, Nat.reduceEqDiff, Nat.reduceBEq, Nat.reduceBNe, reduceIte, Int.reduceEq, Int.reduceLT, Int.reduceLE, Int.reduceNeg, Int.reduceToNat, Int.reduceMul, Int.reduceAdd, Int.reduceSub, Int.reduceBEq, Int.reduceBNe, reduceCtorEq] at hE
         rw [if_pos hov]
         exact ⟨_, _, hw, hE.symm, (by rfl), (by rfl)⟩
       . have w4 : IntKind.u64.wrap (((n * ba : Nat) : Int) + ((vdg c.toNat : Nat) : Int)) = ((n * ba + vdg c.toNat : Nat) : Int) := wr5 hT (by omega)
         have d7 : decide (((n * ba + vdg c.toNat : Nat) : Int) < ((n * ba : Nat) : Int)) = false := rE (by omega)
         have d8 : decide (((n * ba + vdg c.toNat : Nat) : Int) > M) = false := rE (by omega)
         simp only [qy, e1, e8, e10, e11, e12, e13, e99, e100, e101, d1, d2, d5, d6, d7, d8, hg, w1, w2, w3, w4, hwb, hwb2, wd, b95, d3, d4, jl, rI, jA, Option.toList, jq, nat, j6, jO, j5, jr, lc0, lc1, jE, jF, jG, jH, j7, j8, ju, jt, jv, zV, zS, jC, jS, jc, jh, jX, je, jd, jx, jU, jj, ji, jp, jR, jy, jw, Ts.fill, jY, jV, jf, jZ, jo, jm, jg, ja, getAll, stepCall, jn, unI, Opd.get, jB, tag, jz, jb, jP, rv, bin, j0, Nat.reduceAdd, Nat.reduceSub, Nat.reduceMul, Nat.reduceDiv, Nat.reduceMod, Nat.reducePow, Nat.reduceLT, Nat.reduceLeDiff, Nat.reduceEqDiff, Nat.reduceBEq, Nat.reduceBNe, reduceIte, Int.reduceEq, Int.reduceLT, Int.reduceLE, Int.reduceNeg, Int.reduceToNat, Int.reduceMul, Int.reduceAdd, Int.reduceSub, Int.reduceBEq, Int.reduceBNe, reduceCtorEq] at hE
         rw [if_neg hov]
         exact ih (i + 1) _ _ _ _ hE (by omega) (by omega) (by first | exact e1 | rfl) (by first | exact e8 | rfl) (by first | exact e10 | rfl) (by first | exact e11 | rfl) (by first | exact e12 | rfl) (by rfl) (by first | exact e99 | rfl) (by first | exact e100 | rfl) (by rfl) hw
   . obtain ⟨g1, g2, g3, _⟩ := Y3 _ hc256 h16 (by omega)
     have ul := fun σ => jfJ h89 c.toNat (σ := σ)
     have d3 : decide ((48 : Int) <= (c.toNat : Int)) = true := rB (by omega)
     have d4 : decide ((c.toNat : Int) <= 57) = false := rE (by omega)
     have d4b : decide ((97 : Int) <= ((or8 c.toNat 32 : Nat) : Int)) = true := rB (by omega)
     have d4c : decide (((or8 c.toNat 32 : Nat) : Int) <= 122) = true := rB (by omega)
     have wl : IntKind.u8.wrap (((or8 c.toNat 32 : Nat) : Int) - 97) = ((or8 c.toNat 32 - 97 : Nat) : Int) := by rw [zb]; omega
     have w2 : IntKind.u8.wrap (((or8 c.toNat 32 - 97 : Nat) : Int) + 10) = ((vdg c.toNat : Nat) : Int) := by rw [zb]; omega
     by_cases hk : K <= (n : Int)
     . have d6 : decide ((n : Int) ≥ K) = true := rB hk
       have := hK1 n (vdg c.toNat) hk
       simp only [qy, e1, e8, e10, e11, e12, e13, e99, e100, e101, d1, d2, d5, d6, hg, w1, w2, hwb, hwb2, wd, b95, d3, d4, d4b, d4c, ul, wl, jl, rI, jA, Option.toList, jq, nat, j6, jO, j5, jr, lc0, lc1, jE, jF, jG, jH, j7, j8, ju, jt, jv, zV, zS, jC, jS, jc, jh, jX, je, jd, jx, jU, jj, ji, jp, jR, jy, jw, Ts.fill, jY, jV, jf, jZ, jo, jm, jg, ja, getAll, stepCall, jn, unI, Opd.get, jB, tag, jz, jb, jP, rv, bin, j0, Nat.reduceAdd, Nat.reduceSub, Nat.reduceMul, Nat.reduceDiv, Nat.reduceMod, Nat.reducePow, Nat.reduceLT, Nat.reduceLeDiff, Nat.reduceEqDiff, Nat.reduceBEq, Nat.reduceBNe, reduceIte, Int.reduceEq, Int.reduceLT, Int.reduceLE, Int.reduceNeg, Int.reduceToNat, Int.reduceMul, Int.reduceAdd, Int.reduceSub, Int.reduceBEq, Int.reduceBNe, reduceCtorEq] at hE
       rw [if_pos this]
       exact ⟨_, _, hw, hE.symm, (by rfl), (by rfl)⟩
     . have d6 : decide ((n : Int) ≥ K) = false := rE hk
       have hnk := hK2 n (by omega)
       have w3 : IntKind.u64.wrap ((n : Int) * (ba : Int)) = ((n * ba : Nat) : Int) := by rw [<- Int.natCast_mul]; exact wr3 hT hnk
       by_cases hov : T <= n * ba + vdg c.toNat
       . obtain ⟨n1, w4, hn1⟩ := wr4 hT hnk hov hv16
         have d7 : decide ((n1 : Int) < ((n * ba : Nat) : Int)) = true := rB (by omega)
         simp only [qy, e1, e8, e10, e11, e12, e13, e99, e100, e101, d1, d2, d5, d6, d7, hg, w1, w2, w3, w4, hwb, hwb2, wd, b95, d3, d4, d4b, d4c, ul, wl, jl, rI, jA, Option.toList, jq, nat, j6, jO, j5, jr, lc0, lc1, jE, jF, jG, jH, j7, j8, ju, jt, jv, zV, zS, jC, jS, jc, jh, jX, je, jd, jx, jU, jj, ji, jp, jR, jy, jw, Ts.fill, jY, jV, jf, jZ, jo, jm, jg, ja, getAll, stepCall, jn, unI, Opd.get, jB, tag, jz, jb, jP, rv, bin, j0, Nat.reduceAdd, Nat.reduceSub, Nat.reduceMul, Nat.reduceDiv, Nat.reduceMod, Nat.reducePow, Nat.reduceLT, Nat.reduceLeDiff, Nat.reduceEqDiff, Nat.reduceBEq, Nat.reduceBNe, reduceIte, Int.reduceEq, Int.reduceLT, Int.reduceLE, Int.reduceNeg, Int.reduceToNat, Int.reduceMul, Int.reduceAdd, Int.reduceSub, Int.reduceBEq, Int.reduceBNe, reduceCtorEq] at hE
         rw [if_pos hov]
         exact ⟨_, _, hw, hE.symm, (by rfl), (by rfl)⟩
       . have w4 : IntKind.u64.wrap (((n * ba : Nat) : Int) + ((vdg c.toNat : Nat) : Int)) = ((n * ba + vdg c.toNat : Nat) : Int) := wr5 hT (by omega)
         have d7 : decide (((n * ba + vdg c.toNat : Nat) : Int) < ((n * ba : Nat) : Int)) = false := rE (by omega)
         have d8 : decide (((n * ba + vdg c.toNat : Nat) : Int) > M) = false := rE (by omega)
         simp only [qy, e1, e8, e10, e11, e12, e13, e99, e100, e101, d1, d2, d5, d6, d7, d8, hg, w1, w2, w3, w4, hwb, hwb2, wd, b95, d3, d4, d4b, d4c, ul, wl, jl, rI, jA, Option.toList, jq, nat, j6, jO, j5, jr, lc0, lc1, jE, jF, jG, jH, j7, j8, ju, jt, jv, zV, zS, jC, jS, jc, jh, jX, je, jd, jx, jU, jj, ji, jp, jR, jy, jw, Ts.fill, jY, jV, jf, jZ, jo, jm, jg, ja, getAll, stepCall, jn, unI, Opd.get, jB, tag, jz, jb, jP, rv, bin, j0, Nat.reduceAdd, Nat.reduceSub, Nat.reduceMul, Nat.reduceDiv, Nat.reduceMod, Nat.reducePow, Nat.reduceLT, Nat.reduceLeDiff, Nat.reduceEqDiff, Nat.reduceBEq, Nat.reduceBNe, reduceIte, Int.reduceEq, Int.reduceLT, Int.reduceLE, Int.reduceNeg, Int.reduceToNat, Int.reduceMul, Int.reduceAdd, Int.reduceSub, Int.reduceBEq, Int.reduceBNe, reduceCtorEq] at hE
         rw [if_neg hov]
         exact ih (i + 1) _ _ _ _ hE (by omega) (by omega) (by first | exact e1 | rfl) (by first | exact e8 | rfl) (by first | exact e10 | rfl) (by first | exact e11 | rfl) (by first | exact e12 | rfl) (by rfl) (by first | exact e99 | rfl) (by first | exact e100 | rfl) (by rfl) hw
end
end Go.Idl.Lx
namespace Go.Idl.Lx
open Go Go.Idl Go.Idl.En
variable {F : kg}
section
variable {σ : List IObj}
theorem jeV : QP .shl .u64 1 64 = some (.int .u64 0) := by
 show some (IVal.int .u64 (IntKind.u64.wrap (1 * 2 ^ (min (64 : Int).toNat 64)))) = _
 rw [vx]; rfl
theorem w64 : IntKind.u64.wrap 64 = 64 := by rw [vx]; rfl
theorem jgb : IntKind.u64.wrap (-1) = (T64 : Int) - 1 := by rw [vx]; show _ = ((18446744073709551616 : Nat) : Int) - 1; omega
theorem k10 (n d : Nat) (h : (1844674407370955162 : Int) <= (n : Int)) : T64 <= n * 10 + d := by show 18446744073709551616 <= _; omega
theorem jgw (n : Nat) (h : (n : Int) < (1844674407370955162 : Int)) : n * 10 < T64 := by show _ < 18446744073709551616; omega
theorem k16 (n d : Nat) (h : (1152921504606846976 : Int) <= (n : Int)) : T64 <= n * 16 + d := by show 18446744073709551616 <= _; omega
theorem jgx (n : Nat) (h : (n : Int) < (1152921504606846976 : Int)) : n * 16 < T64 := by show _ < 18446744073709551616; omega
def pzV : Option Nat -> List IVal
 | some v => [.int .u64 v, .prim .nilIface]
 | none => [.int .u64 ((T64 : Int) - 1), .iface 156 (I 1)]
set_option maxRecDepth 20000 in
theorem jfO (h : F 78 = some jdF) (h89 : F 89 = some jcD) {ba : Nat} {s : List UInt8} (hba : ba = 10 \/ ba = 16) (hs : ∀ c ∈ s, oth ba c.toNat = false) (h0 : s ≠ []) (hl : s.length <= 20000) :
   ∃ wr, cfw F (.f 78) [.str s, I ba, I 64] σ = some ⟨false, .tup (pzV (pz ba 0 s)), σ, wr⟩ /\ Fl wr := by
 rw [cfw_of jdF h, jw]
 have se : (s == []) = false := by cases s with | nil => exact absurd rfl h0 | cons c s => rfl
 rcases hba with rfl | rfl
 . have b2 : (((10 : Nat) : Int) == 0) = false := rfl
   have d1 : decide ((2 : Int) <= ((10 : Nat) : Int)) = true := rfl
   have d2 : decide (((10 : Nat) : Int) <= 36) = true := rfl
   have d3 : decide ((64 : Int) < 0) = false := rfl
   have d4 : decide ((64 : Int) > 64) = false := rfl
   have b3 : (((10 : Nat) : Int) == 10) = true := rfl
   simp only [jdF, se, b2, b3, d1, d2, d3, d4, w64, jeV, jgb, jl, jA, Option.toList, jq, nat, j6, jO, j5, jr, lc0, lc1, jE, jF, jG, jH, j7, j8, ju, jt, jv, zV, zS, jC, jS, jc, jh, jX, je, jd, jx, jU, jj, ji, jp, jR, jy, jw, Ts.fill, jY, jV, jf, jZ, jo, jm, jg, ja, getAll, stepCall, jn, unI, Opd.get, jB, tag, jz, jb, jP, rv, bin, j0, Nat.reduceAdd, Nat.reduceSub, Nat.reduceMul, Nat.reduceDiv, Nat.reduceMod, Nat.reducePow, Nat.reduceLT, Nat.reduceLeDiff, Nat.reduceEqDiff, Nat.reduceBEq, Nat.reduceBNe, reduceIte, Int.reduceEq, Int.reduceLT, Int.reduceLE, Int.reduceNeg, Int.reduceToNat, Int.reduceMul, Int.reduceAdd, Int.reduceSub, Int.reduceBEq, Int.reduceBNe, reduceCtorEq]
   generalize hE : evw F (ICode.loop qy) _ = R
   obtain ⟨f1, wr1, gw, hR⟩ := jbJ (T := T64) (M := (T64 : Int) - 1) h89 (ba := 10) rfl (Or.inl rfl) k10 jgw (by omega) hs hl s.length 0 0 _ _ _ hE (by omega) (by decide) (by rfl) (by rfl) (by rfl) (by rfl) (by rfl) (by rfl) (by rfl) (by rfl) (by rfl) rfl
   rw [List.drop_zero] at hR
   cases hp : pz 10 0 s with
   | none =>
     rw [hp] at hR
     obtain ⟨rfl, e6, e7⟩ := hR
     have n2 : nr2 (.iface 156 (I 1)) = true := rfl
     simp only [e6, e7, pzV, n2, kb gw, jA, Option.toList, jq, nat, j6, jO, j5, jr, lc0, lc1, jE, jF, jG, jH, j7, j8, ju, jt, jv, zV, zS, jC, jS, jc, jh, jX, je, jl, jd, jx, jU, jj, ji, jp, jR, jy, jw, Ts.fill, jY, jV, jf, jZ, jo, jm, jg, ja, getAll, stepCall, jn, unI, Opd.get, jB, tag, jz, jb, jP, rv, bin, j0, Nat.reduceAdd, Nat.reduceSub, Nat.reduceMul, Nat.reduceDiv, Nat.reduceMod, Nat.reducePow, Nat.reduceLT, Nat.reduceLeDiff, Nat.reduceEqDiff, Nat.reduceBEq, Nat.reduceBNe, reduceIte, Int.reduceEq, Int.reduceLT, Int.reduceLE, Int.reduceNeg, Int.reduceToNat, Int.reduceMul, Int.reduceAdd, Int.reduceSub, Int.reduceBEq, Int.reduceBNe, reduceCtorEq]
     exact ⟨_, rfl, jN gw⟩
   | some v =>
     rw [hp] at hR
     obtain ⟨rfl, e13, e12, hv⟩ := hR
     simp only [e12, e13, pzV, jl, kb gw, jA, Option.toList, jq, nat, j6, jO, j5, jr, lc0, lc1, jE, jF, jG, jH, j7, j8, ju, jt, jv, zV, zS, jC, jS, jc, jh, jX, je, jd, jx, jU, jj, ji, jp, jR, jy, jw, Ts.fill, jY, jV, jf, jZ, jo, jm, jg, ja, getAll, stepCall, jn, unI, Opd.get, jB, tag, jz, jb, jP, rv, bin, j0, Nat.reduceAdd, Nat.reduceSub, Nat.reduceMul, Nat.reduceDiv, Nat.reduceMod, Nat.reducePow, Nat.reduceLT, Nat.reduceLeDiff, Nat.reduceEqDiff, Nat.reduceBEq, Nat.reduceBNe, reduceIte, Int.reduceEq, Int.reduceLT, Int.reduceLE, Int.reduceNeg, Int.reduceToNat, Int.reduceMul, Int.reduceAdd, Int.reduceSub, Int.reduceBEq, Int.reduceBNe, reduceCtorEq]
     exact ⟨_, rfl, jN gw⟩
 . have b2 : (((16 : Nat) : Int) == 0) = false := rfl
   have d1 : decide ((2 : Int) <= ((16 : Nat) : Int)) = true := rfl
   have d2 : decide (((16 : Nat) : Int) <= 36) = true := rfl
   have d3 : decide ((64 : Int) < 0) = false := rfl
   have d4 : decide ((64 : Int) > 64) = false := rfl
   have b3 : (((16 : Nat) : Int) == 10) = false := rfl
   have b4 : (((16 : Nat) : Int) == 16) = true := rfl
   simp only [jdF, se, b2, b3, b4, d1, d2, d3, d4, w64, jeV, jgb, jl, jA, Option.toList, jq, nat, j6, jO, j5, jr, lc0, lc1, jE, jF, jG, jH, j7, j8, ju, jt, jv, zV, zS, jC, jS, jc, jh, jX, je, jd, jx, jU, jj, ji, jp, jR, jy, jw, Ts.fill, jY, jV, jf, jZ, jo, jm, jg, ja, getAll, stepCall, jn, unI, Opd.get, jB, tag, jz, jb, jP, rv, bin, j0, Nat.reduceAdd, Nat.reduceSub, Nat.reduceMul, Nat.reduceDiv, Nat.reduceMod, Nat.reducePow, Nat.reduceLT, Nat.reduceLeDiff, Nat.reduceEqDiff, Nat.reduceBEq, Nat.reduceBNe, reduceIte, Int.reduceEq, Int.reduceLT, Int.reduceLE, Int.reduceNeg, Int.reduceToNat, Int.reduceMul, Int.reduceAdd, Int.reduceSub, Int.reduceBEq, Int.reduceBNe, reduceCtorEq]
   generalize hE : evw F (ICode.loop qy) _ = R
   obtain ⟨f1, wr1, gw, hR⟩ := jbJ (T := T64) (M := (T64 : Int) - 1) h89 (ba := 16) rfl (Or.inr rfl) k16 jgx (by omega) hs hl s.length 0 0 _ _ _ hE (by omega) (by decide) (by rfl) (by rfl) (by rfl) (by rfl) (by rfl) (by rfl) (by rfl) (by rfl) (by rfl) rfl
   rw [List.drop_zero] at hR
   cases hp : pz 16 0 s with
   | none =>
     rw [hp] at hR
     obtain ⟨rfl, e6, e7⟩ := hR
     have n2 : nr2 (.iface 156 (I 1)) = true := rfl
     simp only [e6, e7, pzV, n2, kb gw, jA, Option.toList, jq, nat, j6, jO, j5, jr, lc0, lc1, jE, jF, jG, jH, j7, j8, ju, jt, jv, zV, zS, jC, jS, jc, jh, jX, je, jl, jd, jx, jU, jj, ji, jp, jR, jy, jw, Ts.fill, jY, jV, jf, jZ, jo, jm, jg, ja, getAll, stepCall, jn, unI, Opd.get, jB, tag, jz, jb, jP, rv, bin, j0, Nat.reduceAdd, Nat.reduceSub, Nat.reduceMul, Nat.reduceDiv, Nat.reduceMod, Nat.reducePow, Nat.reduceLT, Nat.reduceLeDiff, Nat.reduceEqDiff, Nat.reduceBEq, Nat.reduceBNe, reduceIte, Int.reduceEq, Int.reduceLT, Int.reduceLE, Int.reduceNeg, Int.reduceToNat, Int.reduceMul, Int.reduceAdd, Int.reduceSub, Int.reduceBEq, Int.reduceBNe, reduceCtorEq]
     exact ⟨_, rfl, jN gw⟩
   | some v =>
     rw [hp] at hR
     obtain ⟨rfl, e13, e12, hv⟩ := hR
     simp only [e12, e13, pzV, jl, kb gw, jA, Option.toList, jq, nat, j6, jO, j5, jr, lc0, lc1, jE, jF, jG, jH, j7, j8, ju, jt, jv, zV, zS, jC, jS, jc, jh, jX, je, jd, jx, jU, jj, ji, jp, jR, jy, jw, Ts.fill, jY, jV, jf, jZ, jo, jm, jg, ja, getAll, stepCall, jn, unI, Opd.get, jB, tag, jz, jb, jP, rv, bin, j0, Nat.reduceAdd, Nat.reduceSub, Nat.reduceMul, Nat.reduceDiv, Nat.reduceMod, Nat.reducePow, Nat.reduceLT, Nat.reduceLeDiff, Nat.reduceEqDiff, Nat.reduceBEq, Nat.reduceBNe, reduceIte, Int.reduceEq, Int.reduceLT, Int.reduceLE, Int.reduceNeg, Int.reduceToNat, Int.reduceMul, Int.reduceAdd, Int.reduceSub, Int.reduceBEq, Int.reduceBNe, reduceCtorEq]
     exact ⟨_, rfl, jN gw⟩
def pzW : Option Nat -> IVal -> List IVal
 | some v, _ => [.int .u64 v, .prim .nilIface]
 | none, e => [.int .u64 ((T64 : Int) - 1), e]
theorem eI (a b : Int) : qh (.int .i64 a) (.int .i64 b) = some (a == b) := by simp [qh]
theorem kI (n : Int) : Jf 0 (.int .i64 n) = true := rfl
set_option maxRecDepth 20000 in
theorem jfu (H : FPar F) {ba : Int} {s : List UInt8} (hl : s.length <= 20000) (σ : List IObj) : ∃ v, cfw F (.f 79) [.str [80, 97, 114, 115, 101, 85, 105, 110, 116], .str s, I ba, I 64, .iface 156 (I 1)] σ = some ⟨false, .iface 158 (.pv false v 0), σ, []⟩ := by
 rw [cfw_of jfi H.h79, jw]
 obtain ⟨v, u⟩ := H.h92 s σ hl
 have tf : (true != false) = true := rfl
 simp only [jfi, u, eI, kI, tf, List.find?, jA, Option.toList, jq, nat, j6, jO, j5, jr, lc0, lc1, jE, jF, jG, jH, j7, j8, ju, jt, jv, zV, zS, jC, jS, jc, jh, jX, je, jl, jd, jx, jU, jj, ji, jp, jR, jy, jw, Ts.fill, jY, jV, jf, jZ, jo, jm, jg, ja, getAll, stepCall, jn, unI, Opd.get, jB, tag, jz, jb, jP, rv, bin, j0, Nat.reduceAdd, Nat.reduceSub, Nat.reduceMul, Nat.reduceDiv, Nat.reduceMod, Nat.reducePow, Nat.reduceLT, Nat.reduceLeDiff, Nat.reduceEqDiff, Nat.reduceBEq, Nat.reduceBNe, reduceIte, Int.reduceEq, Int.reduceLT, Int.reduceLE, Int.reduceNeg, Int.reduceToNat, Int.reduceMul, Int.reduceAdd, Int.reduceSub, Int.reduceBEq, Int.reduceBNe, reduceCtorEq]
 exact ⟨_, rfl⟩
set_option maxRecDepth 20000 in
theorem jfN (H : FPar F) {ba : Nat} {s : List UInt8} (hba : ba = 10 \/ ba = 16) (hs : ∀ c ∈ s, oth ba c.toNat = false) (h0 : s ≠ []) (hl : s.length <= 20000) :
   ∃ wr v, cfw F (.f 64) [.str s, I ba, I 64] σ = some ⟨false, .tup (pzW (pz ba 0 s) (.iface 158 (.pv false v 0))), σ, wr⟩ /\ Fl wr := by
 rw [cfw_of jef H.h64, jw]
 obtain ⟨wr, u, gw⟩ := jfO H.h78 H.h89 (σ := σ) hba hs h0 hl
 cases hp : pz ba 0 s with
 | none =>
   obtain ⟨v, u2⟩ := jfu H (ba := ba) hl σ
   rw [hp] at u
   simp only [pzV] at u
   simp only [jef, u, u2, pzW, jA, Option.toList, jq, nat, j6, jO, j5, jr, lc0, lc1, jE, jF, jG, jH, j7, j8, ju, jt, jv, zV, zS, jC, jS, jc, jh, jX, je, jl, jd, jx, jU, jj, ji, jp, jR, jy, jw, Ts.fill, jY, jV, jf, jZ, jo, jm, jg, ja, getAll, stepCall, jn, unI, Opd.get, jB, tag, jz, jb, jP, rv, bin, j0, Nat.reduceAdd, Nat.reduceSub, Nat.reduceMul, Nat.reduceDiv, Nat.reduceMod, Nat.reducePow, Nat.reduceLT, Nat.reduceLeDiff, Nat.reduceEqDiff, Nat.reduceBEq, Nat.reduceBNe, reduceIte, Int.reduceEq, Int.reduceLT, Int.reduceLE, Int.reduceNeg, Int.reduceToNat, Int.reduceMul, Int.reduceAdd, Int.reduceSub, Int.reduceBEq, Int.reduceBNe, reduceCtorEq]
   rw [kb gw]
   exact ⟨_, v, rfl, jN gw⟩
 | some n =>
   rw [hp] at u
   simp only [pzV] at u
   simp only [jef, u, pzW, jA, Option.toList, jq, nat, j6, jO, j5, jr, lc0, lc1, jE, jF, jG, jH, j7, j8, ju, jt, jv, zV, zS, jC, jS, jc, jh, jX, je, jl, jd, jx, jU, jj, ji, jp, jR, jy, jw, Ts.fill, jY, jV, jf, jZ, jo, jm, jg, ja, getAll, stepCall, jn, unI, Opd.get, jB, tag, jz, jb, jP, rv, bin, j0, Nat.reduceAdd, Nat.reduceSub, Nat.reduceMul, Nat.reduceDiv, Nat.reduceMod, Nat.reducePow, Nat.reduceLT, Nat.reduceLeDiff, Nat.reduceEqDiff, Nat.reduceBEq, Nat.reduceBNe, reduceIte, Int.reduceEq, Int.reduceLT, Int.reduceLE, Int.reduceNeg, Int.reduceToNat, Int.reduceMul, Int.reduceAdd, Int.reduceSub, Int.reduceBEq, Int.reduceBNe, reduceCtorEq]
   rw [kb gw]
   exact ⟨_, [], rfl, jN gw⟩
end
end Go.Idl.Lx
namespace Go.Idl.Lx
open Go Go.Idl Go.Idl.En
variable {F : kg}
def KV (tx : List UInt8) (a ba hd : Nat) : (Nat × Nat) ⊕ (Nat × Nat) :=
 let d := dgs ba (tx.drop (a + hd))
 let ed := a + hd + d
 if d = 0 then .inl (7, ed) else
 match pz ba 0 ((tx.drop (a + hd)).take d) with
 | none => .inl (10, a)
 | some v => if 4294967296 <= v then .inl (10, a) else match tx[ed]? with
   | some c => if isS 6 c.toNat then .inl (7, ed) else .inr (ed, v)
   | none => .inr (ed, v)
abbrev flt (f : Nat × Nat) : IVal := .iface 56 (.pv false [I f.1, I f.2] 0)
section
variable {tx : List UInt8} {er : IVal} {p q : Nat}
theorem jdR {v : Nat} (h : v < 4294967296) : IntKind.i64.wrap (v : Int) = (v : Int) := qN (by omega) (by omega)
theorem jce (ba : Int) (s : List UInt8) : ∀ c ∈ s.take (dgs ba s), oth ba c.toNat = false := by
 induction s with
 | nil => intro c hc; simp at hc
 | cons b s ih =>
   rw [vp]
   cases h : oth ba b.toNat with
   | true => intro c hc; simp at hc
   | false =>
     rw [if_neg (by simp), Nat.add_comm, r5]
     intro c hc
     rcases List.mem_cons.1 hc with rfl | hc
     . exact h
     . exact ih c hc
set_option maxRecDepth 20000 in
theorem Qz (H : FPar F) {a hd dn ln : Nat} {V : Int} {τ : List IObj} {f0 : Nat -> Option (Nat × IVal)} {R : Option (IExit × St)} {wr : List (Nat × Bool)} {dg : List UInt8} (hE : evw F YR ⟨E 80 19 7 [] (base f0), τ, wr⟩ = R) (hl : tx.length <= 20000) (ha : a + hd + dn <= tx.length) (hdg : dg.length = dn)
   (hq : τ[q]? = some (.cells (LP true tx a er))) (hp : τ[p]? = some (.cells (TC 0 a ln [] 0))) (hne : p ≠ q)
   (e0 : f0 0 = some (0, .ptr q 0)) (e1 : f0 1 = some (1, .ptr p 0)) (e6 : f0 6 = some (6, I hd)) (e9 : f0 9 = some (9, .str dg)) (e12 : f0 12 = some (12, .int .u64 V)) (hw : Fl wr) :
   ∃ f1 wr1, Fl wr1 /\ R = some (.normal, ⟨E 80 19 7 [] (base f1), (τ.set q (.cells (LP true tx (a + hd + dn) er))).set p (.cells (TC 2 a ln ((tx.take (a + hd + dn)).drop a) (IntKind.i64.wrap V))), wr1⟩) := by
 obtain ⟨w2, u2, g2⟩ := QY H.h55 H.h15 (n := hd + dn) (by omega) hl hq
 have w1 : IntKind.i64.wrap ((hd : Int) + ((dg.length : Nat) : Int)) = ((hd + dn : Nat) : Int) := by rw [qN (by omega) (by omega)]; omega
 rw [<- Nat.add_assoc] at u2
 have gp := get_set (x := .cells (LP true tx (a + hd + dn) er)) hp (j := q) (fun e => hne e.symm)
 have gp1 := fun y => gs gp (y := y)
 simp only [YR, e0, e1, e6, e9, e12, w1, u2, gp, gp1, r7, jA, Option.toList, jq, nat, j6, jO, j5, jr, lc0, lc1, jE, jF, jG, jH, j7, j8, ju, jt, jv, zV, zS, jC, jS, jc, jh, jX, je, jl, jd, jx, jU, jj, ji, jp, jR, jy, jw, Ts.fill, jY, jV, jf, jZ, jo, jm, jg, ja, getAll, stepCall, jn, unI, Opd.get, jB, tag, jz, jb, jP, rv, bin, j0, Nat.reduceAdd, Nat.reduceSub, Nat.reduceMul, Nat.reduceDiv, Nat.reduceMod, Nat.reducePow, Nat.reduceLT, Nat.reduceLeDiff, Nat.reduceEqDiff, Nat.reduceBEq, Nat.reduceBNe, reduceIte, Int.reduceEq, Int.reduceLT, Int.reduceLE, Int.reduceNeg, Int.reduceToNat, Int.reduceMul, Int.reduceAdd, Int.reduceSub, Int.reduceBEq, Int.reduceBNe, reduceCtorEq] at hE
 exact ⟨_, _, by simpa using jQ g2 hw, hE.symm⟩
set_option maxRecDepth 20000 in
theorem jbP (H : FPar F) {a bx ba hd ln : Nat} {τ : List IObj} {f0 : Nat -> Option (Nat × IVal)} {R : Option (IExit × St)} {wr : List (Nat × Bool)} (hE : evw F zk ⟨E 80 19 7 [] f0, τ, wr⟩ = R) (hl : tx.length <= 20000) (ha : a + hd <= tx.length) (hba : ba = 10 \/ ba = 16) (hhd : hd <= 2)
   (hq : τ[q]? = some (.cells (LP true tx a er))) (hp : τ[p]? = some (.cells (TC 0 a ln [] 0))) (hb : τ[bx]? = some (.cells [I ba])) (hne : p ≠ q) (hne2 : bx ≠ q)
   (e0 : f0 0 = some (0, .ptr q 0)) (e1 : f0 1 = some (1, .ptr p 0)) (e4 : f0 4 = some (4, I a)) (e5 : f0 5 = some (5, .ptr bx 0)) (e6 : f0 6 = some (6, I hd)) (e9 : f0 9 = some (9, .str ((tx.drop (a + hd)).take (dgs ba (tx.drop (a + hd)))))) (hw : Fl wr) :
   ∃ x f1 wr1, (x = .normal \/ x = .ret) /\ Fl wr1 /\ match KV tx a ba hd with
     | .inl f => ∃ a' y, R = some (x, ⟨E 80 19 7 [] (base f1), (τ.set q (.cells (LP true tx a' (flt f)))).set p y, wr1⟩)
     | .inr (ed, v) => R = some (x, ⟨E 80 19 7 [] (base f1), (τ.set q (.cells (LP true tx ed er))).set p (.cells (TC 2 a ln ((tx.take ed).drop a) v)), wr1⟩) := by
 have d1 : (0 : Int) <= (a : Int) := by omega
 have w1 : IntKind.i64.wrap ((a : Int) + (hd : Int)) = ((a + hd : Nat) : Int) := by rw [qN (by omega) (by omega)]; omega
 change evw F zk ⟨E 80 19 7 [] (base f0), τ, wr⟩ = R at hE
 have hdl := Jv ba (tx.drop (a + hd))
 have hall := jce ba (tx.drop (a + hd))
 rw [List.length_drop] at hdl
 unfold KV
 simp only
 have hgl : ((tx.drop (a + hd)).take (dgs ba (tx.drop (a + hd)))).length = dgs ba (tx.drop (a + hd)) := by rw [tE, List.length_drop]; omega
 generalize hdg : (tx.drop (a + hd)).take (dgs ba (tx.drop (a + hd))) = dg at *
 generalize hdn : dgs ba (tx.drop (a + hd)) = dn at *
 have w2 : IntKind.i64.wrap (((a + hd : Nat) : Int) + ((dg.length : Nat) : Int)) = ((a + hd + dn : Nat) : Int) := by rw [qN (by omega) (by omega)]; omega
 by_cases h0 : dn = 0
 . have hd0 : dg = [] := List.length_eq_zero_iff.1 (by omega)
   have be : (([] : List UInt8) == []) = true := rfl
   subst hd0
   have w2' : IntKind.i64.wrap (((a + hd : Nat) : Int) + 0) = ((a + hd + dn : Nat) : Int) := w2
   obtain ⟨w3, u3, g3⟩ := Kj H.h42 (c := 7) (p := ((a + hd + dn : Nat) : Int)) hq
   rw [if_pos h0]
   simp only [zk, hq, e0, e1, e4, e5, e6, e9, w1, w2', u3, be, jA, Option.toList, jq, nat, j6, jO, j5, jr, lc0, lc1, jE, jF, jG, jH, j7, j8, ju, jt, jv, zV, zS, jC, jS, jc, jh, jX, je, jl, jd, jx, jU, jj, ji, jp, jR, jy, jw, Ts.fill, jY, jV, jf, jZ, jo, jm, jg, ja, getAll, stepCall, jn, unI, Opd.get, jB, tag, jz, jb, jP, rv, bin, j0, Nat.reduceAdd, Nat.reduceSub, Nat.reduceMul, Nat.reduceDiv, Nat.reduceMod, Nat.reducePow, Nat.reduceLT, Nat.reduceLeDiff, Nat.reduceEqDiff, Nat.reduceBEq, Nat.reduceBNe, reduceIte, Int.reduceEq, Int.reduceLT, Int.reduceLE, Int.reduceNeg, Int.reduceToNat, Int.reduceMul, Int.reduceAdd, Int.reduceSub, Int.reduceBEq, Int.reduceBNe, reduceCtorEq] at hE
   have es := vt (get_set (x := .cells (LP true tx a (.iface 56 (.pv false [I 7, I ((a + hd + dn : Nat) : Int)] 0)))) hp (j := q) (fun e => hne e.symm))
   rw [<- es] at hE
   exact ⟨.ret, _, _, Or.inr rfl, jQ g3 hw, a, _, hE.symm⟩
 . rw [if_neg h0]
   have be : (dg == []) = false := by cases dg with | nil => simp at hgl; omega | cons c s => rfl
   obtain ⟨w3, vv, u3, g3⟩ := jfN H (σ := τ) hba hall (by intro e; rw [e] at hgl; simp at hgl; omega) (by omega)
   have gp1 := fun x => get_set (x := x) hp (j := q) (fun e => hne e.symm)
   cases hpz : pz ba 0 dg with
   | none =>
     rw [hpz] at u3
     simp only [pzW] at u3
     obtain ⟨w4, u4, g4⟩ := Kj H.h42 (c := 10) (p := (a : Int)) hq
     simp only [zk, hq, hb, e0, e1, e4, e5, e6, e9, w1, w2, u3, u4, be, jl, jA, Option.toList, jq, nat, j6, jO, j5, jr, lc0, lc1, jE, jF, jG, jH, j7, j8, ju, jt, jv, zV, zS, jC, jS, jc, jh, jX, je, jd, jx, jU, jj, ji, jp, jR, jy, jw, Ts.fill, jY, jV, jf, jZ, jo, jm, jg, ja, getAll, stepCall, jn, unI, Opd.get, jB, tag, jz, jb, jP, rv, bin, j0, Nat.reduceAdd, Nat.reduceSub, Nat.reduceMul, Nat.reduceDiv, Nat.reduceMod, Nat.reducePow, Nat.reduceLT, Nat.reduceLeDiff, Nat.reduceEqDiff, Nat.reduceBEq, Nat.reduceBNe, reduceIte, Int.reduceEq, Int.reduceLT, Int.reduceLE, Int.reduceNeg, Int.reduceToNat, Int.reduceMul, Int.reduceAdd, Int.reduceSub, Int.reduceBEq, Int.reduceBNe, reduceCtorEq] at hE
     obtain ⟨f1, wr1, gw, hR⟩ := Qz (a := a) (hd := hd) (dn := dn) H hE hl (by omega) hgl (gs hq) (gp1 _) hne (by first | exact e0 | rfl) (by first | exact e1 | rfl) (by first | exact e6 | rfl) (by first | exact e9 | rfl) (by rfl) (jQ g4 (jQ g3 hw))
     rw [r7] at hR
     exact ⟨.normal, f1, wr1, Or.inl rfl, gw, _, _, hR⟩
   | some v =>
     rw [hpz] at u3
     simp only [pzW] at u3
     by_cases hv : 4294967296 <= v
     . have dv : decide (((v : Nat) : Int) ≥ 4294967296) = true := rB (by omega)
       obtain ⟨w4, u4, g4⟩ := Kj H.h42 (c := 10) (p := (a : Int)) hq
       simp only [zk, hq, hb, e0, e1, e4, e5, e6, e9, w1, w2, u3, u4, be, dv, jl, jA, Option.toList, jq, nat, j6, jO, j5, jr, lc0, lc1, jE, jF, jG, jH, j7, j8, ju, jt, jv, zV, zS, jC, jS, jc, jh, jX, je, jd, jx, jU, jj, ji, jp, jR, jy, jw, Ts.fill, jY, jV, jf, jZ, jo, jm, jg, ja, getAll, stepCall, jn, unI, Opd.get, jB, tag, jz, jb, jP, rv, bin, j0, Nat.reduceAdd, Nat.reduceSub, Nat.reduceMul, Nat.reduceDiv, Nat.reduceMod, Nat.reducePow, Nat.reduceLT, Nat.reduceLeDiff, Nat.reduceEqDiff, Nat.reduceBEq, Nat.reduceBNe, reduceIte, Int.reduceEq, Int.reduceLT, Int.reduceLE, Int.reduceNeg, Int.reduceToNat, Int.reduceMul, Int.reduceAdd, Int.reduceSub, Int.reduceBEq, Int.reduceBNe, reduceCtorEq] at hE
       obtain ⟨f1, wr1, gw, hR⟩ := Qz (a := a) (hd := hd) (dn := dn) H hE hl (by omega) hgl (gs hq) (gp1 _) hne (by first | exact e0 | rfl) (by first | exact e1 | rfl) (by first | exact e6 | rfl) (by first | exact e9 | rfl) (by rfl) (jQ g4 (jQ g3 hw))
       simp only [if_pos hv]
       rw [r7] at hR
       exact ⟨.normal, f1, wr1, Or.inl rfl, gw, _, _, hR⟩
     . have dv : decide (((v : Nat) : Int) ≥ 4294967296) = false := rE (by omega)
       have cv := jdR (v := v) (by omega)
       simp only [if_neg hv]
       by_cases hlt : a + hd + dn < tx.length
       . obtain ⟨c, hg⟩ := qT hlt
         have dl : decide (((a + hd + dn : Nat) : Int) < ((tx.length : Nat) : Int)) = true := rB (by omega)
         have d3 : (0 : Int) <= ((a + hd + dn : Nat) : Int) := by omega
         have hc : c.toNat < 256 := c.toNat_lt
         obtain ⟨w5, u5, g5⟩ := jas H.toFTab (k := 6) hc hq
         have u5 : cfw F (.f 38) [.ptr q 0, .int .u8 c.toNat, .int .u8 6] τ = _ := u5
         simp only [hg]
         cases hs6 : isS 6 c.toNat with
         | true =>
           obtain ⟨w4, u4, g4⟩ := Kj H.h42 (c := 7) (p := ((a + hd + dn : Nat) : Int)) hq
           rw [hs6] at u5
           simp only [zk, hq, hb, e0, e1, e4, e5, e6, e9, w1, w2, u3, u4, u5, be, dv, dl, d3, hg, rI, jl, jA, Option.toList, jq, nat, j6, jO, j5, jr, lc0, lc1, jE, jF, jG, jH, j7, j8, ju, jt, jv, zV, zS, jC, jS, jc, jh, jX, je, jd, jx, jU, jj, ji, jp, jR, jy, jw, Ts.fill, jY, jV, jf, jZ, jo, jm, jg, ja, getAll, stepCall, jn, unI, Opd.get, jB, tag, jz, jb, jP, rv, bin, j0, Nat.reduceAdd, Nat.reduceSub, Nat.reduceMul, Nat.reduceDiv, Nat.reduceMod, Nat.reducePow, Nat.reduceLT, Nat.reduceLeDiff, Nat.reduceEqDiff, Nat.reduceBEq, Nat.reduceBNe, reduceIte, Int.reduceEq, Int.reduceLT, Int.reduceLE, Int.reduceNeg, Int.reduceToNat, Int.reduceMul, Int.reduceAdd, Int.reduceSub, Int.reduceBEq, Int.reduceBNe, reduceCtorEq] at hE
           obtain ⟨f1, wr1, gw, hR⟩ := Qz (a := a) (hd := hd) (dn := dn) H hE hl (by omega) hgl (gs hq) (gp1 _) hne (by first | exact e0 | rfl) (by first | exact e1 | rfl) (by first | exact e6 | rfl) (by first | exact e9 | rfl) (by rfl) (jQ g4 (jQ g5 (jQ g3 hw)))
           rw [r7] at hR
           simp only [if_true]
           exact ⟨.normal, f1, wr1, Or.inl rfl, gw, _, _, hR⟩
         | false =>
           rw [hs6] at u5
           simp only [zk, hq, hb, e0, e1, e4, e5, e6, e9, w1, w2, u3, u5, be, dv, dl, d3, hg, rI, jl, jA, Option.toList, jq, nat, j6, jO, j5, jr, lc0, lc1, jE, jF, jG, jH, j7, j8, ju, jt, jv, zV, zS, jC, jS, jc, jh, jX, je, jd, jx, jU, jj, ji, jp, jR, jy, jw, Ts.fill, jY, jV, jf, jZ, jo, jm, jg, ja, getAll, stepCall, jn, unI, Opd.get, jB, tag, jz, jb, jP, rv, bin, j0, Nat.reduceAdd, Nat.reduceSub, Nat.reduceMul, Nat.reduceDiv, Nat.reduceMod, Nat.reducePow, Nat.reduceLT, Nat.reduceLeDiff, Nat.reduceEqDiff, Nat.reduceBEq, Nat.reduceBNe, reduceIte, Int.reduceEq, Int.reduceLT, Int.reduceLE, Int.reduceNeg, Int.reduceToNat, Int.reduceMul, Int.reduceAdd, Int.reduceSub, Int.reduceBEq, Int.reduceBNe, reduceCtorEq] at hE
           obtain ⟨f1, wr1, gw, hR⟩ := Qz (a := a) (hd := hd) (dn := dn) H hE hl (by omega) hgl hq hp hne (by first | exact e0 | rfl) (by first | exact e1 | rfl) (by first | exact e6 | rfl) (by first | exact e9 | rfl) (by rfl) (jQ g5 (jQ g3 hw))
           rw [cv] at hR
           simp only [r8, if_false]
           exact ⟨.normal, f1, wr1, Or.inl rfl, gw, hR⟩
       . have dl : decide (((a + hd + dn : Nat) : Int) < ((tx.length : Nat) : Int)) = false := rE (by omega)
         rw [rV (by omega)]
         simp only [zk, hq, hb, e0, e1, e4, e5, e6, e9, w1, w2, u3, be, dv, dl, jl, jA, Option.toList, jq, nat, j6, jO, j5, jr, lc0, lc1, jE, jF, jG, jH, j7, j8, ju, jt, jv, zV, zS, jC, jS, jc, jh, jX, je, jd, jx, jU, jj, ji, jp, jR, jy, jw, Ts.fill, jY, jV, jf, jZ, jo, jm, jg, ja, getAll, stepCall, jn, unI, Opd.get, jB, tag, jz, jb, jP, rv, bin, j0, Nat.reduceAdd, Nat.reduceSub, Nat.reduceMul, Nat.reduceDiv, Nat.reduceMod, Nat.reducePow, Nat.reduceLT, Nat.reduceLeDiff, Nat.reduceEqDiff, Nat.reduceBEq, Nat.reduceBNe, reduceIte, Int.reduceEq, Int.reduceLT, Int.reduceLE, Int.reduceNeg, Int.reduceToNat, Int.reduceMul, Int.reduceAdd, Int.reduceSub, Int.reduceBEq, Int.reduceBNe, reduceCtorEq] at hE
         obtain ⟨f1, wr1, gw, hR⟩ := Qz (a := a) (hd := hd) (dn := dn) H hE hl (by omega) hgl hq hp hne (by first | exact e0 | rfl) (by first | exact e1 | rfl) (by first | exact e6 | rfl) (by first | exact e9 | rfl) (by rfl) (jQ g3 hw)
         rw [cv] at hR
         exact ⟨.normal, f1, wr1, Or.inl rfl, gw, hR⟩
end
end Go.Idl.Lx
namespace Go.Idl.Lx
open Go Go.Idl Go.Idl.En
variable {F : kg}
section
variable {tx : List UInt8} {er : IVal} {p q : Nat}
set_option maxRecDepth 20000 in
theorem jbQ (H : FPar F) {a bx ba hd ln : Nat} {τ : List IObj} {f0 : Nat -> Option (Nat × IVal)} {R : Option (IExit × St)} {wr : List (Nat × Bool)} (hE : evw F Kn ⟨E 80 19 7 [] (base f0), τ, wr⟩ = R) (hl : tx.length <= 20000) (ha : a + hd <= tx.length) (hba : ba = 10 \/ ba = 16) (hhd : hd <= 2)
   (hq : τ[q]? = some (.cells (LP true tx a er))) (hp : τ[p]? = some (.cells (TC 0 a ln [] 0))) (hb : τ[bx]? = some (.cells [I ba])) (hne : p ≠ q) (hne2 : bx ≠ q)
   (e0 : f0 0 = some (0, .ptr q 0)) (e1 : f0 1 = some (1, .ptr p 0)) (e4 : f0 4 = some (4, I a)) (e5 : f0 5 = some (5, .ptr bx 0)) (e6 : f0 6 = some (6, I hd)) (hw : Fl wr) :
   ∃ x f1 wr1, (x = .normal \/ x = .ret) /\ Fl wr1 /\ match KV tx a ba hd with
     | .inl f => ∃ a' y, R = some (x, ⟨E 80 19 7 [] (base f1), (τ.set q (.cells (LP true tx a' (flt f)))).set p y, wr1⟩)
     | .inr (ed, v) => R = some (x, ⟨E 80 19 7 [] (base f1), (τ.set q (.cells (LP true tx ed er))).set p (.cells (TC 2 a ln ((tx.take ed).drop a) v)), wr1⟩) := by
 have d1 : (0 : Int) <= (a : Int) := by omega
 have d2 : (0 : Int) <= ((a + hd : Nat) : Int) := by omega
 have w1 : IntKind.i64.wrap ((a : Int) + (hd : Int)) = ((a + hd : Nat) : Int) := by rw [qN (by omega) (by omega)]; omega
 obtain ⟨wi, ui, gi⟩ := jfG H.toFNum hb (s := tx.drop (a + hd)) (by rw [List.length_drop]; omega)
 have hdl := Jv ba (tx.drop (a + hd))
 by_cases h : dgs ba (tx.drop (a + hd)) < (tx.drop (a + hd)).length
 . rw [if_pos h] at ui
   have d3 : decide (((dgs ba (tx.drop (a + hd)) : Nat) : Int) ≥ 0) = true := rB (by omega)
   have d4 : (0 : Int) <= ((dgs ba (tx.drop (a + hd)) : Nat) : Int) := by omega
   simp only [Kn, hq, e0, e1, e4, e5, e6, d1, d2, d3, d4, hdl, w1, ha, ui, nr3_fn, rI, jA, Option.toList, jq, nat, j6, jO, j5, jr, lc0, lc1, jE, jF, jG, jH, j7, j8, ju, jt, jv, zV, zS, jC, jS, jc, jh, jX, je, jl, jd, jx, jU, jj, ji, jp, jR, jy, jw, Ts.fill, jY, jV, jf, jZ, jo, jm, jg, ja, getAll, stepCall, jn, unI, Opd.get, jB, tag, jz, jb, jP, rv, bin, j0, Nat.reduceAdd, Nat.reduceSub, Nat.reduceMul, Nat.reduceDiv, Nat.reduceMod, Nat.reducePow, Nat.reduceLT, Nat.reduceLeDiff, Nat.reduceEqDiff, Nat.reduceBEq, Nat.reduceBNe, reduceIte, Int.reduceEq, Int.reduceLT, Int.reduceLE, Int.reduceNeg, Int.reduceToNat, Int.reduceMul, Int.reduceAdd, Int.reduceSub, Int.reduceBEq, Int.reduceBNe, reduceCtorEq] at hE
   exact jbP H hE hl ha hba hhd hq hp hb hne hne2 (by first | exact e0 | rfl) (by first | exact e1 | rfl) (by first | exact e4 | rfl) (by first | exact e5 | rfl) (by first | exact e6 | rfl) (by rfl) (jQ gi hw)
 . rw [if_neg h] at ui
   have d3 : decide ((-1 : Int) ≥ 0) = false := rfl
   have e9 : (tx.drop (a + hd)).take (dgs ba (tx.drop (a + hd))) = tx.drop (a + hd) := rU (by omega)
   simp only [Kn, hq, e0, e1, e4, e5, e6, d1, d2, d3, w1, ha, ui, nr3_fn, rI, jA, Option.toList, jq, nat, j6, jO, j5, jr, lc0, lc1, jE, jF, jG, jH, j7, j8, ju, jt, jv, zV, zS, jC, jS, jc, jh, jX, je, jl, jd, jx, jU, jj, ji, jp, jR, jy, jw, Ts.fill, jY, jV, jf, jZ, jo, jm, jg, ja, getAll, stepCall, jn, unI, Opd.get, jB, tag, jz, jb, jP, rv, bin, j0, Nat.reduceAdd, Nat.reduceSub, Nat.reduceMul, Nat.reduceDiv, Nat.reduceMod, Nat.reducePow, Nat.reduceLT, Nat.reduceLeDiff, Nat.reduceEqDiff, Nat.reduceBEq, Nat.reduceBNe, reduceIte, Int.reduceEq, Int.reduceLT, Int.reduceLE, Int.reduceNeg, Int.reduceToNat, Int.reduceMul, Int.reduceAdd, Int.reduceSub, Int.reduceBEq, Int.reduceBNe, reduceCtorEq] at hE
   exact jbP H hE hl ha hba hhd hq hp hb hne hne2 (by first | exact e0 | rfl) (by first | exact e1 | rfl) (by first | exact e4 | rfl) (by first | exact e5 | rfl) (by first | exact e6 | rfl) (by rw [e9]; rfl) (jQ gi hw)
def Vs (tx : List UInt8) (a : Nat) : (Nat × Nat) ⊕ (Nat × Nat) := if [48, 120].isPrefixOf (tx.drop a) then KV tx a 16 2 else KV tx a 10 0
theorem Zs {s : List UInt8} (h : [48, 120].isPrefixOf s = true) : 2 <= s.length := by
 rw [List.isPrefixOf_iff_prefix] at h; exact h.length_le
set_option maxRecDepth 20000 in
theorem jaK (H : FPar F) {a ln : Nat} {σ : List IObj} (hl : tx.length <= 20000) (ha : a <= tx.length)
   (hq : σ[q]? = some (.cells (LP true tx a er))) (hp : σ[p]? = some (.cells (TC 0 a ln [] 0))) (hne : p ≠ q) :
   ∃ wr, Fl wr /\ match Vs tx a with
     | .inl f => ∃ a' y, cfw F (.f 40) [.ptr q 0, .ptr p 0] σ = some ⟨false, .tup [], (σ.set q (.cells (LP true tx a' (flt f)))).set p y, wr⟩
     | .inr (ed, v) => cfw F (.f 40) [.ptr q 0, .ptr p 0] σ = some ⟨false, .tup [], (σ.set q (.cells (LP true tx ed er))).set p (.cells (TC 2 a ln ((tx.take ed).drop a) v)), wr⟩ := by
 rw [cfw_of jd9 H.h40, jw]
 have d1 : (0 : Int) <= (a : Int) := by omega
 have hle : (tx.drop a).length <= 20000 := by rw [List.length_drop]; omega
 have u3 := fun σ => jaQ H.h34 H.h53 (σ := σ) (s := tx.drop a) (p := [48, 120]) hle (by simp)
 have hq2 := vb hq
 have hp2 := vb hp
 have lq := jk hq
 have lp := jk hp
 have fin : ∀ (x y z : IObj), ((σ ++ [z]).set q x).set p y = (σ.set q x).set p y ++ [z] := fun x y z => by
   rw [vg lq, vg (by simpa using lp)]
 have tk : ∀ (x y : IObj) (l : List IObj), ((σ.set q x).set p y ++ l).take σ.length = (σ.set q x).set p y := fun x y l => by
   simp
 have gb : ∀ (z : IObj), (σ ++ [z])[σ.length]? = some z := fun z => by rw [get_app0]; rfl
 cases hx : [48, 120].isPrefixOf (tx.drop a) with
 | true =>
   have := Zs hx
   rw [List.length_drop] at this
   simp only [jd9, Vs, hx, hq, hq2, d1, ha, u3, rI, jA, Option.toList, jq, nat, j6, jO, j5, jr, lc0, lc1, jE, jF, jG, jH, j7, j8, ju, jt, jv, zV, zS, jC, jS, jc, jh, jX, je, jl, jd, jx, jU, jj, ji, jp, jR, jy, jw, Ts.fill, jY, jV, jf, jZ, jo, jm, jg, ja, getAll, stepCall, jn, unI, Opd.get, jB, tag, jz, jb, jP, rv, bin, j0, Nat.reduceAdd, Nat.reduceSub, Nat.reduceMul, Nat.reduceDiv, Nat.reduceMod, Nat.reducePow, Nat.reduceLT, Nat.reduceLeDiff, Nat.reduceEqDiff, Nat.reduceBEq, Nat.reduceBNe, reduceIte, Int.reduceEq, Int.reduceLT, Int.reduceLE, Int.reduceNeg, Int.reduceToNat, Int.reduceMul, Int.reduceAdd, Int.reduceSub, Int.reduceBEq, Int.reduceBNe, reduceCtorEq]
   generalize hE : evw F Kn _ = R
   obtain ⟨x, f1, wr1, hxx, gw, hm⟩ := jbQ (hd := 2) (ba := 16) H hE hl (by omega) (Or.inr rfl) (by omega) (hq2 _) (hp2 _) (gb _) hne (by omega) (by rfl) (by rfl) (by rfl) (by rfl) (by rfl) (by simp)
   cases hn : KV tx a 16 2 with
   | inl f =>
     rw [hn] at hm
     obtain ⟨a', y, rfl⟩ := hm
     rcases hxx with rfl | rfl
     all_goals
       simp only [fin, tk, kb gw, jA, Option.toList, jq, nat, j6, jO, j5, jr, lc0, lc1, jE, jF, jG, jH, j7, j8, ju, jt, jv, zV, zS, jC, jS, jc, jh, jX, je, jl, jd, jx, jU, jj, ji, jp, jR, jy, jw, Ts.fill, jY, jV, jf, jZ, jo, jm, jg, ja, getAll, stepCall, jn, unI, Opd.get, jB, tag, jz, jb, jP, rv, bin, j0, Nat.reduceAdd, Nat.reduceSub, Nat.reduceMul, Nat.reduceDiv, Nat.reduceMod, Nat.reducePow, Nat.reduceLT, Nat.reduceLeDiff, Nat.reduceEqDiff, Nat.reduceBEq, Nat.reduceBNe, reduceIte, Int.reduceEq, Int.reduceLT, Int.reduceLE, Int.reduceNeg, Int.reduceToNat, Int.reduceMul, Int.reduceAdd, Int.reduceSub, Int.reduceBEq, Int.reduceBNe, reduceCtorEq]
       exact ⟨_, jN gw, a', y, rfl⟩
   | inr v =>
     obtain ⟨ed, v⟩ := v
     rw [hn] at hm
     simp only at hm
     subst hm
     rcases hxx with rfl | rfl
     all_goals
       simp only [fin, tk, kb gw, jA, Option.toList, jq, nat, j6, jO, j5, jr, lc0, lc1, jE, jF, jG, jH, j7, j8, ju, jt, jv, zV, zS, jC, jS, jc, jh, jX, je, jl, jd, jx, jU, jj, ji, jp, jR, jy, jw, Ts.fill, jY, jV, jf, jZ, jo, jm, jg, ja, getAll, stepCall, jn, unI, Opd.get, jB, tag, jz, jb, jP, rv, bin, j0, Nat.reduceAdd, Nat.reduceSub, Nat.reduceMul, Nat.reduceDiv, Nat.reduceMod, Nat.reducePow, Nat.reduceLT, Nat.reduceLeDiff, Nat.reduceEqDiff, Nat.reduceBEq, Nat.reduceBNe, reduceIte, Int.reduceEq, Int.reduceLT, Int.reduceLE, Int.reduceNeg, Int.reduceToNat, Int.reduceMul, Int.reduceAdd, Int.reduceSub, Int.reduceBEq, Int.reduceBNe, reduceCtorEq]
       exact ⟨_, jN gw, rfl⟩
 | false =>
   simp only [jd9, Vs, hx, hq, hq2, d1, ha, u3, rI, jA, Option.toList, jq, nat, j6, jO, j5, jr, lc0, lc1, jE, jF, jG, jH, j7, j8, ju, jt, jv, zV, zS, jC, jS, jc, jh, jX, je, jl, jd, jx, jU, jj, ji, jp, jR, jy, jw, Ts.fill, jY, jV, jf, jZ, jo, jm, jg, ja, getAll, stepCall, jn, unI, Opd.get, jB, tag, jz, jb, jP, rv, bin, j0, Nat.reduceAdd, Nat.reduceSub, Nat.reduceMul, Nat.reduceDiv, Nat.reduceMod, Nat.reducePow, Nat.reduceLT, Nat.reduceLeDiff, Nat.reduceEqDiff, Nat.reduceBEq, Nat.reduceBNe, reduceIte, Int.reduceEq, Int.reduceLT, Int.reduceLE, Int.reduceNeg, Int.reduceToNat, Int.reduceMul, Int.reduceAdd, Int.reduceSub, Int.reduceBEq, Int.reduceBNe, reduceCtorEq]
   generalize hE : evw F Kn _ = R
   obtain ⟨x, f1, wr1, hxx, gw, hm⟩ := jbQ (hd := 0) (ba := 10) H hE hl (by omega) (Or.inl rfl) (by omega) (hq2 _) (hp2 _) (gb _) hne (by omega) (by rfl) (by rfl) (by rfl) (by rfl) (by rfl) (by simp)
   cases hn : KV tx a 10 0 with
   | inl f =>
     rw [hn] at hm
     obtain ⟨a', y, rfl⟩ := hm
     rcases hxx with rfl | rfl
     all_goals
       simp only [fin, tk, kb gw, jA, Option.toList, jq, nat, j6, jO, j5, jr, lc0, lc1, jE, jF, jG, jH, j7, j8, ju, jt, jv, zV, zS, jC, jS, jc, jh, jX, je, jl, jd, jx, jU, jj, ji, jp, jR, jy, jw, Ts.fill, jY, jV, jf, jZ, jo, jm, jg, ja, getAll, stepCall, jn, unI, Opd.get, jB, tag, jz, jb, jP, rv, bin, j0, Nat.reduceAdd, Nat.reduceSub, Nat.reduceMul, Nat.reduceDiv, Nat.reduceMod, Nat.reducePow, Nat.reduceLT, Nat.reduceLeDiff, Nat.reduceEqDiff, Nat.reduceBEq, Nat.reduceBNe, reduceIte, Int.reduceEq, Int.reduceLT, Int.reduceLE, Int.reduceNeg, Int.reduceToNat, Int.reduceMul, Int.reduceAdd, Int.reduceSub, Int.reduceBEq, Int.reduceBNe, reduceCtorEq]
       exact ⟨_, jN gw, a', y, rfl⟩
   | inr v =>
     obtain ⟨ed, v⟩ := v
     rw [hn] at hm
     simp only at hm
     subst hm
     rcases hxx with rfl | rfl
     all_goals
       simp only [fin, tk, kb gw, jA, Option.toList, jq, nat, j6, jO, j5, jr, lc0, lc1, jE, jF, jG, jH, j7, j8, ju, jt, jv, zV, zS, jC, jS, jc, jh, jX, je, jl, jd, jx, jU, jj, ji, jp, jR, jy, jw, Ts.fill, jY, jV, jf, jZ, jo, jm, jg, ja, getAll, stepCall, jn, unI, Opd.get, jB, tag, jz, jb, jP, rv, bin, j0, Nat.reduceAdd, Nat.reduceSub, Nat.reduceMul, Nat.reduceDiv, Nat.reduceMod, Nat.reducePow, Nat.reduceLT, Nat.reduceLeDiff, Nat.reduceEqDiff, Nat.reduceBEq, Nat.reduceBNe, reduceIte, Int.reduceEq, Int.reduceLT, Int.reduceLE, Int.reduceNeg, Int.reduceToNat, Int.reduceMul, Int.reduceAdd, Int.reduceSub, Int.reduceBEq, Int.reduceBNe, reduceCtorEq]
       exact ⟨_, jN gw, rfl⟩
end
end Go.Idl.Lx
namespace Go.Idl.Lx
open Go Go.Idl Go.Idl.En
variable {F : kg}
def dbls : List (List UInt8) := [[60, 60], [62, 62], [60, 61], [62, 61], [61, 61], [33, 61]]
def mkN (s : List UInt8) : Nat := if dbls.any (fun m => m.isPrefixOf s) then 2 else 1
structure FMrk (F : kg) : Prop extends FPar F where
 h39 : F 39 = some jdC
 h41 : F 41 = some jfc
 h60 : F 60 = some jdD
 h65 : ∀ σ : List IObj, cfw F (.f 65) [.str [60, 60, 32, 62, 62, 32, 60, 61, 32, 62, 61, 32, 61, 61, 32, 33, 61]] σ = some ⟨false, .sl 0 false (dbls.map .str), σ, []⟩
section
variable {tx : List UInt8} {er : IVal} {p q : Nat} {σ : List IObj}
set_option maxRecDepth 20000 in
theorem jew (H : FMrk F) {s : List UInt8} {ms : List (List UInt8)} (hms : ∀ m ∈ ms, m.length = 2) (hml : ms.length <= 1000) (hl : s.length <= 20000) : ∀ (m i : Nat) (f0 : Nat -> Option (Nat × IVal)) (wr : List (Nat × Bool)) (R : Option (IExit × St)), evw F (.loop ym) ⟨E 20 9 5 [] f0, σ, wr⟩ = R -> i + m = ms.length -> f0 0 = some (0, .ptr q 0) -> f0 1 = some (1, .ptr p 0) -> f0 4 = some (4, I 1) -> f0 5 = some (5, .str s) -> f0 17 = some (17, .sl 0 false (ms.map .str)) -> f0 18 = some (18, I ms.length) -> f0 19 = some (19, I i) -> Fl wr ->
   ∃ f1 wr1, Fl wr1 /\ R = some (.exit 0, ⟨E 20 9 5 [] (base f1), σ, wr1⟩) /\ f1 0 = some (0, .ptr q 0) /\ f1 1 = some (1, .ptr p 0) /\ f1 4 = some (4, I ((if (ms.drop i).any (fun m => m.isPrefixOf s) then 2 else 1 : Nat) : Int)) := by
 intro m
 induction m with
 | zero =>
   intro i f0 wr R hE hm e0 e1 e4 e5 e17 e18 e19 hw
   have d1 : decide ((i : Int) < (ms.length : Nat)) = false := rE (by omega)
   change evw F (.loop ym) ⟨E 20 9 5 [] (base f0), σ, wr⟩ = R at hE
   rw [jT] at hE
   simp only [ym, e0, e1, e4, e5, e17, e18, e19, d1, jA, Option.toList, jq, nat, j6, jO, j5, jr, lc0, lc1, jE, jF, jG, jH, j7, j8, ju, jt, jv, zV, zS, jC, jS, jc, jh, jX, je, jl, jd, jx, jU, jj, ji, jp, jR, jy, jw, Ts.fill, jY, jV, jf, jZ, jo, jm, jg, ja, getAll, stepCall, jn, unI, Opd.get, jB, tag, jz, jb, jP, rv, bin, j0, Nat.reduceAdd, Nat.reduceSub, Nat.reduceMul, Nat.reduceDiv, Nat.reduceMod, Nat.reducePow, Nat.reduceLT, Nat.reduceLeDiff, Nat.reduceEqDiff, Nat.reduceBEq, Nat.reduceBNe, reduceIte, Int.reduceEq, Int.reduceLT, Int.reduceLE, Int.reduceNeg, Int.reduceToNat, Int.reduceMul, Int.reduceAdd, Int.reduceSub, Int.reduceBEq, Int.reduceBNe, reduceCtorEq] at hE
   refine ⟨_, _, hw, hE.symm, (by first | exact e0 | rfl), (by first | exact e1 | rfl), ?_⟩
   rw [tN (by omega)]
   exact (by first | exact e4 | rfl)
 | succ m ih =>
   intro i f0 wr R hE hm e0 e1 e4 e5 e17 e18 e19 hw
   obtain ⟨c, hg⟩ := qT (l := ms) (i := i) (by omega)
   have hc := hms c (List.mem_of_getElem? hg)
   have d1 : decide ((i : Int) < (ms.length : Nat)) = true := rB (by omega)
   have d2 : (0 : Int) <= (i : Int) := by omega
   have w1 := Je (n := i) (by omega)
   have u1 := jaQ H.h34 H.h53 (σ := σ) (s := s) (p := c) hl (by omega)
   change evw F (.loop ym) ⟨E 20 9 5 [] (base f0), σ, wr⟩ = R at hE
   rw [jT] at hE
   rw [qG hg, List.any_cons]
   cases hb : c.isPrefixOf s with
   | true =>
     rw [hb] at u1
     simp only [ym, e0, e1, e4, e5, e17, e18, e19, d1, d2, hg, hc, u1, rI, jA, Option.toList, jq, nat, j6, jO, j5, jr, lc0, lc1, jE, jF, jG, jH, j7, j8, ju, jt, jv, zV, zS, jC, jS, jc, jh, jX, je, jl, jd, jx, jU, jj, ji, jp, jR, jy, jw, Ts.fill, jY, jV, jf, jZ, jo, jm, jg, ja, getAll, stepCall, jn, unI, Opd.get, jB, tag, jz, jb, jP, rv, bin, j0, Nat.reduceAdd, Nat.reduceSub, Nat.reduceMul, Nat.reduceDiv, Nat.reduceMod, Nat.reducePow, Nat.reduceLT, Nat.reduceLeDiff, Nat.reduceEqDiff, Nat.reduceBEq, Nat.reduceBNe, reduceIte, Int.reduceEq, Int.reduceLT, Int.reduceLE, Int.reduceNeg, Int.reduceToNat, Int.reduceMul, Int.reduceAdd, Int.reduceSub, Int.reduceBEq, Int.reduceBNe, reduceCtorEq] at hE
     exact ⟨_, _, hw, hE.symm, (by first | exact e0 | rfl), (by first | exact e1 | rfl), (by rfl)⟩
   | false =>
     rw [hb] at u1
     simp only [ym, e0, e1, e4, e5, e17, e18, e19, d1, d2, hg, w1, u1, rI, jA, Option.toList, jq, nat, j6, jO, j5, jr, lc0, lc1, jE, jF, jG, jH, j7, j8, ju, jt, jv, zV, zS, jC, jS, jc, jh, jX, je, jl, jd, jx, jU, jj, ji, jp, jR, jy, jw, Ts.fill, jY, jV, jf, jZ, jo, jm, jg, ja, getAll, stepCall, jn, unI, Opd.get, jB, tag, jz, jb, jP, rv, bin, j0, Nat.reduceAdd, Nat.reduceSub, Nat.reduceMul, Nat.reduceDiv, Nat.reduceMod, Nat.reducePow, Nat.reduceLT, Nat.reduceLeDiff, Nat.reduceEqDiff, Nat.reduceBEq, Nat.reduceBNe, reduceIte, Int.reduceEq, Int.reduceLT, Int.reduceLE, Int.reduceNeg, Int.reduceToNat, Int.reduceMul, Int.reduceAdd, Int.reduceSub, Int.reduceBEq, Int.reduceBNe, reduceCtorEq] at hE
     rw [Bool.false_or]
     exact ih (i + 1) _ _ _ hE (by omega) (by first | exact e0 | rfl) (by first | exact e1 | rfl) (by first | exact e4 | rfl) (by first | exact e5 | rfl) (by first | exact e17 | rfl) (by first | exact e18 | rfl) (by rfl) hw
set_option maxRecDepth 20000 in
theorem jeC (H : FMrk F) {a ln : Nat} (hl : tx.length <= 20000) (ha : a + mkN (tx.drop a) <= tx.length) (hq : σ[q]? = some (.cells (LP true tx a er))) (hp : σ[p]? = some (.cells (TC 0 a ln [] 0))) (hne : p ≠ q) :
   ∃ wr, Fl wr /\ cfw F (.f 41) [.ptr q 0, .ptr p 0] σ = some ⟨false, .tup [], (σ.set q (.cells (LP true tx (a + mkN (tx.drop a)) er))).set p (.cells (TC 3 a ln ((tx.take (a + mkN (tx.drop a))).drop a) 0)), wr⟩ := by
 rw [cfw_of jfc H.h41, jw]
 have d1 : (0 : Int) <= (a : Int) := by omega
 have ha2 : a <= tx.length := by omega
 have hle : (tx.drop a).length <= 20000 := by rw [List.length_drop]; omega
 have u := H.h65 σ
 have l6 : (dbls.map IVal.str).length = 6 := rfl
 obtain ⟨w2, u2, g2⟩ := QY H.h55 H.h15 (n := mkN (tx.drop a)) ha hl hq
 have gp := get_set (x := .cells (LP true tx (a + mkN (tx.drop a)) er)) hp (j := q) (fun e => hne e.symm)
 have gp1 := fun y => gs gp (y := y)
 have tk : ∀ (x y : IObj), ((σ.set q x).set p y).take σ.length = (σ.set q x).set p y := fun x y => by rw [rU (by simp)]
 simp only [jfc, hq, d1, ha2, u, l6, rI, jA, Option.toList, jq, nat, j6, jO, j5, jr, lc0, lc1, jE, jF, jG, jH, j7, j8, ju, jt, jv, zV, zS, jC, jS, jc, jh, jX, je, jl, jd, jx, jU, jj, ji, jp, jR, jy, jw, Ts.fill, jY, jV, jf, jZ, jo, jm, jg, ja, getAll, stepCall, jn, unI, Opd.get, jB, tag, jz, jb, jP, rv, bin, j0, Nat.reduceAdd, Nat.reduceSub, Nat.reduceMul, Nat.reduceDiv, Nat.reduceMod, Nat.reducePow, Nat.reduceLT, Nat.reduceLeDiff, Nat.reduceEqDiff, Nat.reduceBEq, Nat.reduceBNe, reduceIte, Int.reduceEq, Int.reduceLT, Int.reduceLE, Int.reduceNeg, Int.reduceToNat, Int.reduceMul, Int.reduceAdd, Int.reduceSub, Int.reduceBEq, Int.reduceBNe, reduceCtorEq]
 generalize hE : evw F (ICode.loop ym) _ = R
 obtain ⟨f1, wr1, gw, rfl, e0, e1, e4⟩ := jew H (s := tx.drop a) (ms := dbls) (by decide) (by decide) hle 6 0 _ _ _ hE rfl (by rfl) (by rfl) (by rfl) (by rfl) (by rfl) (by rfl) (by rfl) rfl
 rw [List.drop_zero, <- mkN] at e4
 simp only [e0, e1, e4, u2, gp, gp1, tk, r7, jA, Option.toList, jq, nat, j6, jO, j5, jr, lc0, lc1, jE, jF, jG, jH, j7, j8, ju, jt, jv, zV, zS, jC, jS, jc, jh, jX, je, jl, jd, jx, jU, jj, ji, jp, jR, jy, jw, Ts.fill, jY, jV, jf, jZ, jo, jm, jg, ja, getAll, stepCall, jn, unI, Opd.get, jB, tag, jz, jb, jP, rv, bin, j0, Nat.reduceAdd, Nat.reduceSub, Nat.reduceMul, Nat.reduceDiv, Nat.reduceMod, Nat.reducePow, Nat.reduceLT, Nat.reduceLeDiff, Nat.reduceEqDiff, Nat.reduceBEq, Nat.reduceBNe, reduceIte, Int.reduceEq, Int.reduceLT, Int.reduceLE, Int.reduceNeg, Int.reduceToNat, Int.reduceMul, Int.reduceAdd, Int.reduceSub, Int.reduceBEq, Int.reduceBNe, reduceCtorEq]
 rw [kb (jQ g2 gw)]
 refine ⟨_, ?_, rfl⟩
 have := jQ g2 gw
 repeat (first | exact jN this | apply V1 | apply KK)
end
end Go.Idl.Lx
namespace Go.Idl.Lx
open Go Go.Idl Go.Idl.En
variable {F : kg}
def zH (tx : List UInt8) (a : Nat) : (Nat × Nat) ⊕ (Nat × Nat × Nat) :=
 match tx[a]? with
 | none => .inl (7, a)
 | some c =>
   if isS 2 c.toNat then (if spn 6 (tx.drop a) > 16 then .inl (4, a) else .inr (1, a + spn 6 (tx.drop a), 0))
   else if isS 4 c.toNat then (match Vs tx a with
     | .inl f => .inl f
     | .inr (ed, v) => .inr (2, ed, v))
   else if isS 8 c.toNat then .inr (3, a + mkN (tx.drop a), 0)
   else .inl (7, a)
theorem jcZ {tx : List UInt8} {a ba hd ed v : Nat} (h : KV tx a ba hd = .inr (ed, v)) : a < ed /\ ed <= tx.length := by
 unfold KV at h
 simp only at h
 have hd2 := Jv ba (tx.drop (a + hd))
 rw [List.length_drop] at hd2
 by_cases h0 : dgs ba (tx.drop (a + hd)) = 0
 . rw [if_pos h0] at h; cases h
 . rw [if_neg h0] at h
   have e : ed = a + hd + dgs ba (tx.drop (a + hd)) := by
     split at h
     . cases h
     . split at h
       . cases h
       . split at h
         . split at h
           . cases h
           . cases h; rfl
         . cases h; rfl
   omega
theorem jc0 {tx : List UInt8} {a ed v : Nat} (h : Vs tx a = .inr (ed, v)) : a < ed /\ ed <= tx.length := by
 unfold Vs at h
 split at h <;> exact jcZ h
theorem jbL {s : List UInt8} (h : s ≠ []) : 1 <= mkN s /\ mkN s <= s.length := by
 unfold mkN
 split
 . rename_i hh
   rw [List.any_eq_true] at hh
   obtain ⟨m, hm, hp⟩ := hh
   rw [List.isPrefixOf_iff_prefix] at hp
   have := hp.length_le
   have h2 : ∀ m ∈ dbls, m.length = 2 := by decide
   have := h2 m hm
   omega
 . have : s.length ≠ 0 := fun e => h (List.length_eq_zero_iff.1 e)
   omega
theorem jem {c : Nat} (hc : c < 256) (h : isS 2 c = true) : isS 6 c = true := by rw [jcH c hc, h]; rfl
theorem QA {tx : List UInt8} {a k ed v : Nat} (h : zH tx a = .inr (k, ed, v)) : a < ed /\ ed <= tx.length := by
 unfold zH at h
 cases hg : tx[a]? with
 | none => rw [hg] at h; cases h
 | some c =>
   rw [hg] at h
   simp only at h
   have hd := qG hg
   have hl := (List.getElem?_eq_some_iff.1 hg).1
   have hc : c.toNat < 256 := c.toNat_lt
   split at h
   . rename_i h2
     split at h
     . cases h
     . cases h
       have h3 := ZJ 6 (tx.drop a)
       rw [List.length_drop] at h3
       have h4 : 0 < spn 6 (tx.drop a) := by rw [hd, vu, jem hc h2, if_pos rfl]; omega
       omega
   . split at h
     . split at h
       . cases h
       . rename_i e2; cases h; exact jc0 e2
     . split at h
       . cases h
         have := jbL (s := tx.drop a) (by rw [hd]; simp)
         rw [List.length_drop] at this
         omega
       . cases h
section
variable {tx : List UInt8} {p q y : Nat}
def Sw (tx : List UInt8) (a ln p q : Nat) (S S1 : List IObj) : Prop := S1.length = S.length /\ (∀ i, i ≠ q -> i ≠ p -> S1[i]? = S[i]?) /\ match zH tx a with
 | .inl f => ∃ a', S1[q]? = some (.cells (LP true tx a' (flt f)))
 | .inr (k, ed, v) => S1[q]? = some (.cells (LP true tx ed zG)) /\ S1[p]? = some (.cells (TC k a ln ((tx.take ed).drop a) v))
set_option maxRecDepth 20000 in
theorem jgB (H : FMrk F) {a ln : Nat} {r : Bool} {S : List IObj} {c : UInt8} {f0 : Nat -> Option (Nat × IVal)} {R : Option (IExit × St)} {wr : List (Nat × Bool)} (hE : evw F zj ⟨E 60 11 7 [] (base f0), S, wr⟩ = R) (hl : tx.length <= 20000) (hg : tx[a]? = some c)
   (hq : S[q]? = some (.cells (LP r tx a zG))) (hp : S[p]? = some (.cells (TC 0 a ln [] 0))) (hne : p ≠ q)
   (e0 : f0 0 = some (0, .yl y)) (e1 : f0 1 = some (1, .pv true [.ptr q 0] 0)) (e3 : f0 3 = some (3, .ptr p 0)) (e4 : f0 4 = some (4, B c.toNat)) (hw : Fl wr) :
   ∃ f1 wr1 S1, Fl wr1 /\ R = some (.normal, ⟨E 60 11 7 [] (base f1), S1, wr1⟩) /\ f1 0 = some (0, .yl y) /\ f1 1 = some (1, .pv true [.ptr q 0] 0) /\ f1 3 = some (3, .ptr p 0) /\ Sw tx a ln p q S S1 := by
 have hc : c.toNat < 256 := c.toNat_lt
 have ha : a < tx.length := (List.getElem?_eq_some_iff.1 hg).1
 have hqs := gs hq (y := .cells (LP true tx a zG))
 have hps := get_set (x := .cells (LP true tx a zG)) hp (j := q) (fun e => hne e.symm)
 have lp := jk hp
 have lq := jk hq
 obtain ⟨w1, u1, g1⟩ := jfF H.toFTab (k := 2) hc hq
 have u1 : cfw F (.f 38) [.ptr q 0, .int .u8 c.toNat, .int .u8 2] S = _ := u1
 obtain ⟨w2, u2, g2⟩ := jas H.toFTab (k := 4) hc hqs
 have u2 : cfw F (.f 38) [.ptr q 0, .int .u8 c.toNat, .int .u8 4] (S.set q (.cells (LP true tx a zG))) = _ := u2
 obtain ⟨w3, u3, g3⟩ := jas H.toFTab (k := 8) hc hqs
 have u3 : cfw F (.f 38) [.ptr q 0, .int .u8 c.toNat, .int .u8 8] (S.set q (.cells (LP true tx a zG))) = _ := u3
 have kp : ∀ (x z : IObj), ∀ i, i ≠ q -> i ≠ p -> ((S.set q x).set p z)[i]? = S[i]? := fun x z i h1 h2 => by
   rw [rA (fun e => h2 e.symm), rA (fun e => h1 e.symm)]
 have gq : ∀ (x z : IObj), ((S.set q x).set p z)[q]? = some x := fun x z => by rw [rA hne, rH lq]
 have gp : ∀ (x z : IObj), ((S.set q x).set p z)[p]? = some z := fun x z => by rw [rH (by simpa using lp)]
 have kp1 : ∀ (x : IObj), ∀ i, i ≠ q -> i ≠ p -> (S.set q x)[i]? = S[i]? := fun x i h1 h2 => by rw [rA (fun e => h1 e.symm)]
 cases b2 : isS 2 c.toNat with
 | true =>
   rw [b2] at u1
   obtain ⟨w4, g4, u4⟩ := jeG H.toFSkp H.h39 H.h60 hl (by omega) hqs hps hne
   by_cases h16 : spn 6 (tx.drop a) > 16
   . rw [if_pos h16, r7] at u4
     simp only [zj, e0, e1, e3, e4, u1, u4, jA, Option.toList, jq, nat, j6, jO, j5, jr, lc0, lc1, jE, jF, jG, jH, j7, j8, ju, jt, jv, zV, zS, jC, jS, jc, jh, jX, je, jl, jd, jx, jU, jj, ji, jp, jR, jy, jw, Ts.fill, jY, jV, jf, jZ, jo, jm, jg, ja, getAll, stepCall, jn, unI, Opd.get, jB, tag, jz, jb, jP, rv, bin, j0, Nat.reduceAdd, Nat.reduceSub, Nat.reduceMul, Nat.reduceDiv, Nat.reduceMod, Nat.reducePow, Nat.reduceLT, Nat.reduceLeDiff, Nat.reduceEqDiff, Nat.reduceBEq, Nat.reduceBNe, reduceIte, Int.reduceEq, Int.reduceLT, Int.reduceLE, Int.reduceNeg, Int.reduceToNat, Int.reduceMul, Int.reduceAdd, Int.reduceSub, Int.reduceBEq, Int.reduceBNe, reduceCtorEq] at hE
     refine ⟨_, _, _, jQ g4 (jQ g1 hw), hE.symm, (by first | exact e0 | rfl), (by first | exact e1 | rfl), (by first | exact e3 | rfl), by simp, kp1 _, ?_⟩
     simp only [zH, hg, b2, if_true, if_pos h16]
     exact ⟨a, rH lq⟩
   . rw [if_neg h16, r7] at u4
     simp only [zj, e0, e1, e3, e4, u1, u4, jA, Option.toList, jq, nat, j6, jO, j5, jr, lc0, lc1, jE, jF, jG, jH, j7, j8, ju, jt, jv, zV, zS, jC, jS, jc, jh, jX, je, jl, jd, jx, jU, jj, ji, jp, jR, jy, jw, Ts.fill, jY, jV, jf, jZ, jo, jm, jg, ja, getAll, stepCall, jn, unI, Opd.get, jB, tag, jz, jb, jP, rv, bin, j0, Nat.reduceAdd, Nat.reduceSub, Nat.reduceMul, Nat.reduceDiv, Nat.reduceMod, Nat.reducePow, Nat.reduceLT, Nat.reduceLeDiff, Nat.reduceEqDiff, Nat.reduceBEq, Nat.reduceBNe, reduceIte, Int.reduceEq, Int.reduceLT, Int.reduceLE, Int.reduceNeg, Int.reduceToNat, Int.reduceMul, Int.reduceAdd, Int.reduceSub, Int.reduceBEq, Int.reduceBNe, reduceCtorEq] at hE
     refine ⟨_, _, _, jQ g4 (jQ g1 hw), hE.symm, (by first | exact e0 | rfl), (by first | exact e1 | rfl), (by first | exact e3 | rfl), by simp, kp _ _, ?_⟩
     simp only [zH, hg, b2, if_true, if_neg h16]
     exact ⟨gq _ _, gp _ _⟩
 | false =>
   rw [b2] at u1
   cases b4 : isS 4 c.toNat with
   | true =>
     rw [b4] at u2
     obtain ⟨w4, g4, u4⟩ := jaK H.toFPar hl (by omega) hqs hps hne
     cases hn : Vs tx a with
     | inl f =>
       rw [hn] at u4
       obtain ⟨a', z, u4⟩ := u4
       rw [r7] at u4
       simp only [zj, e0, e1, e3, e4, u1, u2, u4, jA, Option.toList, jq, nat, j6, jO, j5, jr, lc0, lc1, jE, jF, jG, jH, j7, j8, ju, jt, jv, zV, zS, jC, jS, jc, jh, jX, je, jl, jd, jx, jU, jj, ji, jp, jR, jy, jw, Ts.fill, jY, jV, jf, jZ, jo, jm, jg, ja, getAll, stepCall, jn, unI, Opd.get, jB, tag, jz, jb, jP, rv, bin, j0, Nat.reduceAdd, Nat.reduceSub, Nat.reduceMul, Nat.reduceDiv, Nat.reduceMod, Nat.reducePow, Nat.reduceLT, Nat.reduceLeDiff, Nat.reduceEqDiff, Nat.reduceBEq, Nat.reduceBNe, reduceIte, Int.reduceEq, Int.reduceLT, Int.reduceLE, Int.reduceNeg, Int.reduceToNat, Int.reduceMul, Int.reduceAdd, Int.reduceSub, Int.reduceBEq, Int.reduceBNe, reduceCtorEq] at hE
       refine ⟨_, _, _, jQ g4 (jQ g2 (jQ g1 hw)), hE.symm, (by first | exact e0 | rfl), (by first | exact e1 | rfl), (by first | exact e3 | rfl), by simp, kp _ _, ?_⟩
       simp only [zH, hg, b2, b4, hn, r8, if_false, if_true]
       exact ⟨a', gq _ _⟩
     | inr v =>
       obtain ⟨ed, v⟩ := v
       rw [hn] at u4
       simp only at u4
       rw [r7] at u4
       simp only [zj, e0, e1, e3, e4, u1, u2, u4, jA, Option.toList, jq, nat, j6, jO, j5, jr, lc0, lc1, jE, jF, jG, jH, j7, j8, ju, jt, jv, zV, zS, jC, jS, jc, jh, jX, je, jl, jd, jx, jU, jj, ji, jp, jR, jy, jw, Ts.fill, jY, jV, jf, jZ, jo, jm, jg, ja, getAll, stepCall, jn, unI, Opd.get, jB, tag, jz, jb, jP, rv, bin, j0, Nat.reduceAdd, Nat.reduceSub, Nat.reduceMul, Nat.reduceDiv, Nat.reduceMod, Nat.reducePow, Nat.reduceLT, Nat.reduceLeDiff, Nat.reduceEqDiff, Nat.reduceBEq, Nat.reduceBNe, reduceIte, Int.reduceEq, Int.reduceLT, Int.reduceLE, Int.reduceNeg, Int.reduceToNat, Int.reduceMul, Int.reduceAdd, Int.reduceSub, Int.reduceBEq, Int.reduceBNe, reduceCtorEq] at hE
       refine ⟨_, _, _, jQ g4 (jQ g2 (jQ g1 hw)), hE.symm, (by first | exact e0 | rfl), (by first | exact e1 | rfl), (by first | exact e3 | rfl), by simp, kp _ _, ?_⟩
       simp only [zH, hg, b2, b4, hn, r8, if_false, if_true]
       exact ⟨gq _ _, gp _ _⟩
   | false =>
     rw [b4] at u2
     cases b8 : isS 8 c.toNat with
     | true =>
       rw [b8] at u3
       have hm := jbL (s := tx.drop a) (by rw [qG hg]; simp)
       rw [List.length_drop] at hm
       obtain ⟨w4, g4, u4⟩ := jeC H hl (by omega) hqs hps hne
       rw [r7] at u4
       simp only [zj, e0, e1, e3, e4, u1, u2, u3, u4, jA, Option.toList, jq, nat, j6, jO, j5, jr, lc0, lc1, jE, jF, jG, jH, j7, j8, ju, jt, jv, zV, zS, jC, jS, jc, jh, jX, je, jl, jd, jx, jU, jj, ji, jp, jR, jy, jw, Ts.fill, jY, jV, jf, jZ, jo, jm, jg, ja, getAll, stepCall, jn, unI, Opd.get, jB, tag, jz, jb, jP, rv, bin, j0, Nat.reduceAdd, Nat.reduceSub, Nat.reduceMul, Nat.reduceDiv, Nat.reduceMod, Nat.reducePow, Nat.reduceLT, Nat.reduceLeDiff, Nat.reduceEqDiff, Nat.reduceBEq, Nat.reduceBNe, reduceIte, Int.reduceEq, Int.reduceLT, Int.reduceLE, Int.reduceNeg, Int.reduceToNat, Int.reduceMul, Int.reduceAdd, Int.reduceSub, Int.reduceBEq, Int.reduceBNe, reduceCtorEq] at hE
       refine ⟨_, _, _, jQ g4 (jQ g3 (jQ g2 (jQ g1 hw))), hE.symm, (by first | exact e0 | rfl), (by first | exact e1 | rfl), (by first | exact e3 | rfl), by simp, kp _ _, ?_⟩
       simp only [zH, hg, b2, b4, b8, r8, if_false, if_true]
       exact ⟨gq _ _, gp _ _⟩
     | false =>
       rw [b8] at u3
       obtain ⟨w4, u4, g4⟩ := Kj H.h42 (c := 7) (p := (a : Int)) hqs
       rw [r7] at u4
       simp only [zj, e0, e1, e3, e4, u1, u2, u3, u4, hqs, jA, Option.toList, jq, nat, j6, jO, j5, jr, lc0, lc1, jE, jF, jG, jH, j7, j8, ju, jt, jv, zV, zS, jC, jS, jc, jh, jX, je, jl, jd, jx, jU, jj, ji, jp, jR, jy, jw, Ts.fill, jY, jV, jf, jZ, jo, jm, jg, ja, getAll, stepCall, jn, unI, Opd.get, jB, tag, jz, jb, jP, rv, bin, j0, Nat.reduceAdd, Nat.reduceSub, Nat.reduceMul, Nat.reduceDiv, Nat.reduceMod, Nat.reducePow, Nat.reduceLT, Nat.reduceLeDiff, Nat.reduceEqDiff, Nat.reduceBEq, Nat.reduceBNe, reduceIte, Int.reduceEq, Int.reduceLT, Int.reduceLE, Int.reduceNeg, Int.reduceToNat, Int.reduceMul, Int.reduceAdd, Int.reduceSub, Int.reduceBEq, Int.reduceBNe, reduceCtorEq] at hE
       refine ⟨_, _, _, jQ g4 (jQ g3 (jQ g2 (jQ g1 hw))), hE.symm, (by first | exact e0 | rfl), (by first | exact e1 | rfl), (by first | exact e3 | rfl), by simp, kp1 _, ?_⟩
       simp only [zH, hg, b2, b4, b8, r8, if_false]
       exact ⟨a, rH lq⟩
end
end Go.Idl.Lx
namespace Go.Idl.Lx
open Go Go.Idl Go.Idl.En
variable {F : kg}
def Q4 (l : List IVal) : IVal := match l with
 | [] => .sl 5 true []
 | l => .sl 5 false l
theorem tk5 (a b c d e : IVal) : [a, b, c, d, e].take 5 = [a, b, c, d, e] := rfl
def cA : ICode := .ops [⟨(some 6), .alloc [(.int .i64 0), (.int .i64 0), (.int .i64 0), (.str []), (.int .i64 0)], none⟩, ⟨none, .store 5 (.m 6) (.t 18), none⟩]
def cB : ICode := .block 1 (.ops [⟨(some 19), .load true none (.t 5), none⟩, ⟨(some 20), .load false (some 5) (.t 6), none⟩, ⟨(some 21), .buildSl 5 [(.m 20)], none⟩, ⟨(some 22), .append false false 5 48 (.m 19) (.m 21), none⟩, ⟨none, .store 1 (.t 5) (.m 22), none⟩])
theorem eA (s : St) : evw F cA s = evw F (.ops [⟨(some 6), .alloc [(.int .i64 0), (.int .i64 0), (.int .i64 0), (.str []), (.int .i64 0)], none⟩, ⟨none, .store 5 (.m 6) (.t 18), none⟩]) s := rfl
theorem eB (s : St) : evw F cB s = evw F (.block 1 (.ops [⟨(some 19), .load true none (.t 5), none⟩, ⟨(some 20), .load false (some 5) (.t 6), none⟩, ⟨(some 21), .buildSl 5 [(.m 20)], none⟩, ⟨(some 22), .append false false 5 48 (.m 19) (.m 21), none⟩, ⟨none, .store 1 (.t 5) (.m 22), none⟩])) s := rfl
def jdd (f : Nat -> Option (Nat × IVal)) : ILoop := ⟨0, E 19 5 5 [] f, [18], cA, cB, none, XL.none⟩
section
variable {k : Int} {a ln : Nat} {t : List UInt8} {n : Int}
set_option maxRecDepth 20000 in
theorem round (al id : Nat) (f : Nat -> Option (Nat × IVal)) (L : List IVal) (hl : L.length <= 60000) (hf : f 5 = some (5, .ptr al 0)) (S : List IObj) (hy : S[id]? = some (.loop (jdd f))) (ha : S[al]? = some (.cells [Q4 L])) (hne : al ≠ id) :
   ∃ wr, cfw F (.y id) [.agg (TC k a ln t n)] S = some ⟨false, .bool true, S.set al (.cells [Q4 (L ++ [.agg (TC k a ln t n)])]), wr⟩ /\ Fl wr := by
 rw [jfr, vI, hy]
 have lid := jk hy
 have lal := jk ha
 have s1 : ∀ (x : IObj) (l : List IObj), (S ++ l).set id x = S.set id x ++ l := fun x l => vg lid
 have s2 : ∀ (x y : IObj) (l : List IObj), (S.set id x ++ l).set al y = (S.set id x).set al y ++ l := fun x y l => vg (by simpa using lal)
 have s3 : ∀ (x y z : IObj) (l : List IObj), ((S.set id x).set al y ++ l).set id z = ((S.set id x).set al y).set id z ++ l := fun x y z l => vg (by simpa using lid)
 have s4 : ∀ (x y : IObj), ((S.set id x).set al y).set id (.loop (jdd f)) = S.set al y := fun x y => by
   rw [List.set_comm _ _ hne, r7, vt hy]
 have hy' : S[id]? = some (.loop ⟨0, E 19 5 5 [] (base f), [18], cA, cB, none, XL.none⟩) := hy
 have g0 := fun l => vb hy' l
 have s4 : ∀ (x y : IObj), ((S.set id x).set al y).set id (.loop ⟨0, E 19 5 5 [] (base f), [18], cA, cB, none, XL.none⟩) = S.set al y := s4
 have g1 : ∀ (x : IObj) (l : List IObj), (S.set id x ++ l)[al]? = some (.cells [Q4 L]) := fun x l => by rw [List.getElem?_append_left (by simpa using lal), rA (fun e => hne e.symm)]; exact ha
 have g2 : ∀ (x y : IObj) (l : List IObj), ((S.set id x).set al y ++ l)[id]? = some x := fun x y l => by rw [List.getElem?_append_left (by simpa using lid), rA hne, rH lid]
 have g7 : ∀ (x y : IObj) (l : List IObj), ((S.set id x).set al y ++ l)[al]? = some y := fun x y l => by rw [List.getElem?_append_left (by simpa using lal), rH (by simpa using lal)]
 have s5 : ∀ (x y z : IObj) (l : List IObj), ((S.set id x).set al y ++ l).set al z = (S.set id x).set al z ++ l := fun x y z l => by rw [vg (by simpa using lal), r7]
 have ln1 : ∀ (x : IObj), (S.set id x).length = S.length := fun x => rC
 have tk : ∀ (y : IObj) (l : List IObj), (S.set al y ++ l).take S.length = S.set al y := fun y l => QZ
 have g5 : ∀ (x : IObj) (l : List IObj), (S.set id x ++ l)[S.length]? = l[0]? := fun x l => by
   have := get_app0 (σ := S.set id x) (l := l); rwa [ln1] at this
 have g6 : ∀ (x y : IObj) (l : List IObj), ((S.set id x).set al y ++ l)[S.length]? = l[0]? := fun x y l => by
   have := get_app0 (σ := (S.set id x).set al y) (l := l); simpa using this
 have fb : f = base f := rfl
 have dl1 : decide (id < S.length) = true := rB lid
 have dl2 : decide (al < S.length) = true := rB lal
 have w1 : (L.length + 1) * 48 <= 1099511627776 := by omega
 have w2 : L.length + 1 <= 1099511627776 := by omega
 rw [jdd, fb]
 cases L with
 | nil =>
   simp only [eA, eB, Ts.setAll, s1, s2, s3, s4, s5, g0, g1, g2, g5, g6, g7, hf, Q4, tk5, tk, ext, List.isEmpty, dl1, dl2, jA, Option.toList, jq, nat, j6, jO, j5, jr, lc0, lc1, jE, jF, jG, jH, j7, j8, ju, jt, jv, zV, zS, jC, jS, jc, jh, jX, je, jl, jd, jx, jU, jj, ji, jp, jR, jy, jw, Ts.fill, jY, jV, jf, jZ, jo, jm, jg, ja, getAll, stepCall, jn, unI, Opd.get, jB, tag, jz, jb, jP, rv, bin, j0, Nat.reduceAdd, Nat.reduceSub, Nat.reduceMul, Nat.reduceDiv, Nat.reduceMod, Nat.reducePow, Nat.reduceLT, Nat.reduceLeDiff, Nat.reduceEqDiff, Nat.reduceBEq, Nat.reduceBNe, reduceIte, Int.reduceEq, Int.reduceLT, Int.reduceLE, Int.reduceNeg, Int.reduceToNat, Int.reduceMul, Int.reduceAdd, Int.reduceSub, Int.reduceBEq, Int.reduceBNe, reduceCtorEq]
   exact ⟨_, rfl, rfl⟩
 | cons x xs =>
   have w3 : xs.length <= 1099511627774 := by simp at hl; omega
   have w4 : (xs.length + 1 + 1) * 48 <= 1099511627776 := by simp at hl; omega
   simp only [eA, eB, Ts.setAll, s1, s2, s3, s4, s5, g0, g1, g2, g5, g6, g7, hf, Q4, tk5, tk, ext, List.isEmpty, dl1, dl2, w3, w4, jA, Option.toList, jq, nat, j6, jO, j5, jr, lc0, lc1, jE, jF, jG, jH, j7, j8, ju, jt, jv, zV, zS, jC, jS, jc, jh, jX, je, jl, jd, jx, jU, jj, ji, jp, jR, jy, jw, Ts.fill, jY, jV, jf, jZ, jo, jm, jg, ja, getAll, stepCall, jn, unI, Opd.get, jB, tag, jz, jb, jP, rv, bin, j0, Nat.reduceAdd, Nat.reduceSub, Nat.reduceMul, Nat.reduceDiv, Nat.reduceMod, Nat.reducePow, Nat.reduceLT, Nat.reduceLeDiff, Nat.reduceEqDiff, Nat.reduceBEq, Nat.reduceBNe, reduceIte, Int.reduceEq, Int.reduceLT, Int.reduceLE, Int.reduceNeg, Int.reduceToNat, Int.reduceMul, Int.reduceAdd, Int.reduceSub, Int.reduceBEq, Int.reduceBNe, reduceCtorEq]
   exact ⟨_, rfl, rfl⟩
end
end Go.Idl.Lx
