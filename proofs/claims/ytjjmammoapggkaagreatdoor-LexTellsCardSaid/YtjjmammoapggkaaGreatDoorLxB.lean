/- Chapter 2: what the ideal machine makes of its functions, part B; no conditions. -/
import Derived.Test.YtjjmammoapggkaaGreatDoorLxA
set_option linter.defProp false
set_option linter.unusedSectionVars false
set_option linter.unusedVariables false
set_option linter.unusedSimpArgs false
namespace Go.Idl.Lx
open Go Go.Idl Go.Idl.En
variable {F : kb}
theorem jce (l : List IOper) (x : Opd) (xs : List Opd) (d : DInfo) (c b : ICode) (s : St) : evw F (.dfr l x xs d c b) s = Yx (evw F) (cfw F) l x xs d c b s := vF F _ s
section
variable {d st : Int} {f : Nat -> Nat} {tx : List UInt8} {at' ln : Int} {er : IVal} {q : Nat} {σ : List IObj}
theorem jbD (h : F 74 = some jeo) (hq : σ[q]? = some (.cells (LC d st f tx at' ln er))) : cfw F (.f 74) [.ptr q 0] σ = some ⟨false, .bool (d != 0), σ, []⟩ := by
 rw [cfw_of jeo h, jw]
 simp only [jeo, jO, hq, jA, Option.toList, jp, nat, j0, jY, jr, lc0, lc1, jD, jE, jF, jG, j5, j6, ju, jt, jv, zV, zS, jC, jQ, jb, jh, jU, je, jk, jd, jx, jR, jj, ji, jo, jP, jy, jw, Ts.fill, jV, jT, jf, jW, jn, jl, jg, jc, getAll, stepCall, jm, unI, Opd.get, jB, tag, jz, ja, jN, rv, bin, jX, Nat.reduceAdd, Nat.reduceSub, Nat.reduceMul, Nat.reduceDiv, Nat.reduceMod, Nat.reducePow, Nat.reduceLT, Nat.reduceLeDiff, Nat.reduceEqDiff, Nat.reduceBEq, Nat.reduceBNe, reduceIte, Int.reduceEq, Int.reduceLT, Int.reduceLE, Int.reduceNeg, Int.reduceToNat, Int.reduceMul, Int.reduceAdd, Int.reduceSub, Int.reduceBEq, Int.reduceBNe, reduceCtorEq]
theorem jey (h : F 96 = some jdF) (hq : σ[q]? = some (.cells (LC d 0 f tx at' ln er))) : ∃ wr, cfw F (.f 96) [.ptr q 1] σ = some ⟨false, .tup [], σ.set q (.cells (LC d 1 f tx at' ln er)), wr⟩ /\ Fl wr := by
 rw [cfw_of jdF h, jw]
 simp only [jdF, jO, hq, jY, gs hq, take_set, jA, Option.toList, jp, nat, j0, jr, lc0, lc1, jD, jE, jF, jG, j5, j6, ju, jt, jv, zV, zS, jC, jQ, jb, jh, jU, je, jk, jd, jx, jR, jj, ji, jo, jP, jy, jw, Ts.fill, jV, jT, jf, jW, jn, jl, jg, jc, getAll, stepCall, jm, unI, Opd.get, jB, tag, jz, ja, jN, rv, bin, jX, Nat.reduceAdd, Nat.reduceSub, Nat.reduceMul, Nat.reduceDiv, Nat.reduceMod, Nat.reducePow, Nat.reduceLT, Nat.reduceLeDiff, Nat.reduceEqDiff, Nat.reduceBEq, Nat.reduceBNe, reduceIte, Int.reduceEq, Int.reduceLT, Int.reduceLE, Int.reduceNeg, Int.reduceToNat, Int.reduceMul, Int.reduceAdd, Int.reduceSub, Int.reduceBEq, Int.reduceBNe, reduceCtorEq]
 exact ⟨_, rfl, by simp⟩
theorem jex (h : F 85 = some jep) (h96 : F 96 = some jdF) (hq : σ[q]? = some (.cells (LC d 0 f tx at' ln er))) : ∃ wr, cfw F (.f 85) [.ptr q 1] σ = some ⟨false, .tup [], σ.set q (.cells (LC d 1 f tx at' ln er)), wr⟩ /\ Fl wr := by
 rw [cfw_of jep h, jw]
 obtain ⟨wr, u, hw⟩ := jey h96 hq
 simp only [jep, u, take_set, j8 hw, jA, Option.toList, jp, nat, j0, jO, jY, jr, lc0, lc1, jD, jE, jF, jG, j5, j6, ju, jt, jv, zV, zS, jC, jQ, jb, jh, jU, je, jk, jd, jx, jR, jj, ji, jo, jP, jy, jw, Ts.fill, jV, jT, jf, jW, jn, jl, jg, jc, getAll, stepCall, jm, unI, Opd.get, jB, tag, jz, ja, jN, rv, bin, jX, Nat.reduceAdd, Nat.reduceSub, Nat.reduceMul, Nat.reduceDiv, Nat.reduceMod, Nat.reducePow, Nat.reduceLT, Nat.reduceLeDiff, Nat.reduceEqDiff, Nat.reduceBEq, Nat.reduceBNe, reduceIte, Int.reduceEq, Int.reduceLT, Int.reduceLE, Int.reduceNeg, Int.reduceToNat, Int.reduceMul, Int.reduceAdd, Int.reduceSub, Int.reduceBEq, Int.reduceBNe, reduceCtorEq]
 exact ⟨_, rfl, jZ hw⟩
theorem jgf (h : F 97 = some jeq) (hq : σ[q]? = some (.cells (LC d 1 f tx at' ln er))) : ∃ wr, cfw F (.f 97) [.ptr q 1] σ = some ⟨false, .tup [], σ.set q (.cells (LC d 0 f tx at' ln er)), wr⟩ /\ Fl wr := by
 rw [cfw_of jeq h, jw]
 have w : IntKind.i32.wrap 0 = 0 := rfl
 have b0 : ((0 : Int) != 0) = false := rfl
 simp only [jeq, jO, hq, jY, gs hq, take_set, w, b0, jA, Option.toList, jp, nat, j0, jr, lc0, lc1, jD, jE, jF, jG, j5, j6, ju, jt, jv, zV, zS, jC, jQ, jb, jh, jU, je, jk, jd, jx, jR, jj, ji, jo, jP, jy, jw, Ts.fill, jV, jT, jf, jW, jn, jl, jg, jc, getAll, stepCall, jm, unI, Opd.get, jB, tag, jz, ja, jN, rv, bin, jX, Nat.reduceAdd, Nat.reduceSub, Nat.reduceMul, Nat.reduceDiv, Nat.reduceMod, Nat.reducePow, Nat.reduceLT, Nat.reduceLeDiff, Nat.reduceEqDiff, Nat.reduceBEq, Nat.reduceBNe, reduceIte, Int.reduceEq, Int.reduceLT, Int.reduceLE, Int.reduceNeg, Int.reduceToNat, Int.reduceMul, Int.reduceAdd, Int.reduceSub, Int.reduceBEq, Int.reduceBNe, reduceCtorEq]
 exact ⟨_, rfl, by simp⟩
theorem b99 (h : F 99 = some jer) : cfw F (.f 99) [.bool true] σ = some ⟨false, .int .u32 1, σ, []⟩ := by
 rw [cfw_of jer h, jw]
 simp only [jer, zV, zS, jC, jQ, jb, jh, jU, je, jk, jd, jx, jR, jj, ji, jo, jP, jy, jw, Ts.fill, jV, jT, jf, jW, jn, jl, jg, jc, getAll, stepCall, jm, unI, Opd.get, jB, tag, jz, ja, jN, rv, bin, jX, Nat.reduceAdd, Nat.reduceSub, Nat.reduceMul, Nat.reduceDiv, Nat.reduceMod, Nat.reducePow, Nat.reduceLT, Nat.reduceLeDiff, Nat.reduceEqDiff, Nat.reduceBEq, Nat.reduceBNe, reduceIte, Int.reduceEq, Int.reduceLT, Int.reduceLE, Int.reduceNeg, Int.reduceToNat, Int.reduceMul, Int.reduceAdd, Int.reduceSub, Int.reduceBEq, Int.reduceBNe, reduceCtorEq]
def or8 (a b : Nat) : Nat := (BitVec.ofInt 8 a ||| BitVec.ofInt 8 b).toNat
theorem jbP (a b : Nat) : IntKind.u8.wrap (((BitVec.ofInt IntKind.u8.bits (a : Int) ||| BitVec.ofInt IntKind.u8.bits (b : Int)).toNat : Nat) : Int) = ((or8 a b : Nat) : Int) := by
 rw [vD]
 have : (BitVec.ofInt IntKind.u8.bits (a : Int) ||| BitVec.ofInt IntKind.u8.bits (b : Int)).toNat < 256 := (BitVec.ofInt 8 (a : Int) ||| BitVec.ofInt 8 (b : Int)).isLt
 show _ = (((BitVec.ofInt IntKind.u8.bits (a : Int) ||| BitVec.ofInt IntKind.u8.bits (b : Int)).toNat : Nat) : Int)
 omega
def mkT (k : Nat) : List UInt8 -> (Nat -> Nat) -> Nat -> Nat
 | [], f => f
 | c :: s, f => mkT k s fun j => if j = c.toNat then or8 (f c.toNat) k else f j
theorem kL {α : Type} {l : List α} {i : Nat} {c : α} (h : l[i]? = some c) : l.drop i = c :: l.drop (i + 1) := by
 obtain ⟨h1, h2⟩ := List.getElem?_eq_some_iff.1 h
 rw [List.drop_eq_getElem_cons h1, h2]
theorem qf {α : Type} {l : List α} {i : Nat} (h : i < l.length) : ∃ c, l[i]? = some c := ⟨l[i], rG h⟩
set_option maxRecDepth 20000 in
theorem jbE {k : Nat} {l : List UInt8} (hl : l.length < 1000) : ∀ (m i : Nat) (f : Nat -> Nat) (f0 : Nat -> Option (Nat × IVal)) (σ : List IObj) (wr : List (Nat × Bool)) (R : Option (IExit × St)), evw F (.loop zd) ⟨E 11 11 5 [] f0, σ, wr⟩ = R -> i + m = l.length -> σ[q]? = some (.cells (LC d st f tx at' ln er)) -> f0 1 = some (1, B k) -> f0 2 = some (2, .pv true [.ptr q 0] 0) -> f0 8 = some (8, .sl 0 false (l.map fun c => .int .u8 c.toNat)) -> f0 9 = some (9, I l.length) -> f0 10 = some (10, I i) -> Fl wr ->
   ∃ f1 wr1, R = some (.exit 0, ⟨E 11 11 5 [] f1, σ.set q (.cells (LC d st (mkT k (l.drop i) f) tx at' ln er)), wr1⟩) /\ Fl wr1
 | 0, i, f, f0, σ, wr, R, hE, hm, hq, e1, e2, e8, e9, e10, hw => by
   have d1 : decide ((i : Int) < (l.length : Nat)) = false := rE (by omega)
   change evw F (.loop zd) ⟨E 11 11 5 [] (base f0), σ, wr⟩ = R at hE
   rw [jI] at hE
   simp only [zd, e1, e2, e8, e9, e10, d1, jA, Option.toList, jp, nat, j0, jO, jY, jr, lc0, lc1, jD, jE, jF, jG, j5, j6, ju, jt, jv, zV, zS, jC, jQ, jb, jh, jU, je, jk, jd, jx, jR, jj, ji, jo, jP, jy, jw, Ts.fill, jV, jT, jf, jW, jn, jl, jg, jc, getAll, stepCall, jm, unI, Opd.get, jB, tag, jz, ja, jN, rv, bin, jX, Nat.reduceAdd, Nat.reduceSub, Nat.reduceMul, Nat.reduceDiv, Nat.reduceMod, Nat.reducePow, Nat.reduceLT, Nat.reduceLeDiff, Nat.reduceEqDiff, Nat.reduceBEq, Nat.reduceBNe, reduceIte, Int.reduceEq, Int.reduceLT, Int.reduceLE, Int.reduceNeg, Int.reduceToNat, Int.reduceMul, Int.reduceAdd, Int.reduceSub, Int.reduceBEq, Int.reduceBNe, reduceCtorEq] at hE
   rw [tN (by omega), mkT, vr hq]
   exact ⟨_, _, hE.symm, hw⟩
 | m + 1, i, f, f0, σ, wr, R, hE, hm, hq, e1, e2, e8, e9, e10, hw => by
   obtain ⟨c, hg⟩ := qf (l := l) (i := i) (by omega)
   have d1 : decide ((i : Int) < (l.length : Nat)) = true := rB (by omega)
   have d2 : (0 : Int) <= (i : Int) := by omega
   have hc : c.toNat < 256 := c.toNat_lt
   have d3 : (0 : Int) <= ((c.toNat : Nat) : Int) := by omega
   have d4 : ((c.toNat : Nat) : Int) < 256 := by omega
   have d5 : 3 + c.toNat + 1 <= 263 := by omega
   have w1 := yU (n := i) (by omega)
   have t1 := jbB d st f tx at' ln er hc
   have t2 := jcF d st f tx at' ln er (or8 (f c.toNat) k) hc
   change evw F (.loop zd) ⟨E 11 11 5 [] (base f0), σ, wr⟩ = R at hE
   rw [jI] at hE
   simp only [zd, e1, e2, e8, e9, e10, d1, d2, d3, d4, d5, hg, w1, t1, t2, hq, jbP, rI, jA, Option.toList, jp, nat, j0, jO, jY, jr, lc0, lc1, jD, jE, jF, jG, j5, j6, ju, jt, jv, zV, zS, jC, jQ, jb, jh, jU, je, jk, jd, jx, jR, jj, ji, jo, jP, jy, jw, Ts.fill, jV, jT, jf, jW, jn, jl, jg, jc, getAll, stepCall, jm, unI, Opd.get, jB, tag, jz, ja, jN, rv, bin, jX, Nat.reduceAdd, Nat.reduceSub, Nat.reduceMul, Nat.reduceDiv, Nat.reduceMod, Nat.reducePow, Nat.reduceLT, Nat.reduceLeDiff, Nat.reduceEqDiff, Nat.reduceBEq, Nat.reduceBNe, reduceIte, Int.reduceEq, Int.reduceLT, Int.reduceLE, Int.reduceNeg, Int.reduceToNat, Int.reduceMul, Int.reduceAdd, Int.reduceSub, Int.reduceBEq, Int.reduceBNe, reduceCtorEq] at hE
   obtain ⟨f1, wr1, u, gw⟩ := jbE hl m (i + 1) _ _ _ _ _ hE (by omega) (gs hq) (by first | exact e1 | rfl) (by first | exact e2 | rfl) (by first | exact e8 | rfl) (by first | exact e9 | rfl) (by rfl) (by simpa using hw)
   refine ⟨f1, wr1, ?_, gw⟩
   rw [u, kL hg]
   simp only [mkT, r7]
set_option maxRecDepth 20000 in
theorem Xa (h : F 59 = some jek) {k : Nat} {l : List UInt8} (hl : l.length < 1000) (hq : σ[q]? = some (.cells (LC d st f tx at' ln er))) : ∃ wr, cfw F (.f 59) [.str l, B k, .pv true [.ptr q 0] 0] σ = some ⟨false, .tup [], σ.set q (.cells (LC d st (mkT k l f) tx at' ln er)), wr⟩ /\ Fl wr := by
 rw [cfw_of jek h, jw]
 simp only [jek, jA, Option.toList, jp, nat, j0, jO, jY, jr, lc0, lc1, jD, jE, jF, jG, j5, j6, ju, jt, jv, zV, zS, jC, jQ, jb, jh, jU, je, jk, jd, jx, jR, jj, ji, jo, jP, jy, jw, Ts.fill, jV, jT, jf, jW, jn, jl, jg, jc, getAll, stepCall, jm, unI, Opd.get, jB, tag, jz, ja, jN, rv, bin, jX, Nat.reduceAdd, Nat.reduceSub, Nat.reduceMul, Nat.reduceDiv, Nat.reduceMod, Nat.reducePow, Nat.reduceLT, Nat.reduceLeDiff, Nat.reduceEqDiff, Nat.reduceBEq, Nat.reduceBNe, reduceIte, Int.reduceEq, Int.reduceLT, Int.reduceLE, Int.reduceNeg, Int.reduceToNat, Int.reduceMul, Int.reduceAdd, Int.reduceSub, Int.reduceBEq, Int.reduceBNe, reduceCtorEq]
 generalize hE : evw F (ICode.loop zd) _ = R
 obtain ⟨f1, wr1, rfl, gw⟩ := jbE hl l.length 0 _ _ _ _ _ hE (by omega) hq (by rfl) (by rfl) (by rfl) (by rfl) (by rfl) rfl
 simp only [take_set, j8 gw, jA, Option.toList, jp, nat, j0, jO, jY, jr, lc0, lc1, jD, jE, jF, jG, j5, j6, ju, jt, jv, zV, zS, jC, jQ, jb, jh, jU, je, jk, jd, jx, jR, jj, ji, jo, jP, jy, jw, Ts.fill, jV, jT, jf, jW, jn, jl, jg, jc, getAll, stepCall, jm, unI, Opd.get, jB, tag, jz, ja, jN, rv, bin, jX, Nat.reduceAdd, Nat.reduceSub, Nat.reduceMul, Nat.reduceDiv, Nat.reduceMod, Nat.reducePow, Nat.reduceLT, Nat.reduceLeDiff, Nat.reduceEqDiff, Nat.reduceBEq, Nat.reduceBNe, reduceIte, Int.reduceEq, Int.reduceLT, Int.reduceLE, Int.reduceNeg, Int.reduceToNat, Int.reduceMul, Int.reduceAdd, Int.reduceSub, Int.reduceBEq, Int.reduceBNe, reduceCtorEq]
 exact ⟨_, rfl, jZ gw⟩
end
end Go.Idl.Lx
namespace Go.Idl.Lx
open Go Go.Idl Go.Idl.En
variable {F : kb}
structure FTab (F : kb) : Prop where
 h38 : F 38 = some jfn
 h57 : F 57 = some jej
 h58 : F 58 = some jfp
 h59 : F 59 = some jek
 h74 : F 74 = some jeo
 h75 : F 75 = some jfs
 h85 : F 85 = some jep
 h86 : F 86 = some jgm
 h87 : F 87 = some jgn
 h96 : F 96 = some jdF
 h97 : F 97 = some jeq
 h99 : F 99 = some jer
def jcG : List UInt8 := [97, 98, 99, 100, 101, 102, 103, 104, 105, 106, 107, 108, 109, 110, 111, 112, 113, 114, 115, 116, 117, 118, 119, 120, 121, 122, 65, 66, 67, 68, 69, 70, 71, 72, 73, 74, 75, 76, 77, 78, 79, 80, 81, 82, 83, 84, 85, 86, 87, 88, 89, 90, 95]
def je6 : List UInt8 := [123, 125, 40, 41, 91, 93, 59, 58, 44, 46, 61, 60, 62, 43, 45, 42, 47, 37, 38, 94, 124, 126, 33]
def digs : List UInt8 := [48, 49, 50, 51, 52, 53, 54, 55, 56, 57]
def Vl (f : Nat -> Nat) : Nat -> Nat := mkT 8 je6 (mkT 4 digs (mkT 2 jcG (mkT 1 [32, 9, 10] f)))
def jfb : Nat -> Nat := Vl fun _ => 0
section
variable {d st : Int} {f : Nat -> Nat} {tx : List UInt8} {at' ln : Int} {er : IVal} {q : Nat} {σ : List IObj}
set_option maxRecDepth 20000 in
theorem jgb (H : FTab F) (hq : σ[q]? = some (.cells (LC d st f tx at' ln er))) : ∃ wr, cfw F (.f 58) [.pv true [.ptr q 0] 0] σ = some ⟨false, .tup [], σ.set q (.cells (LC d st (Vl f) tx at' ln er)), wr⟩ /\ Fl wr := by
 rw [cfw_of jfp H.h58, jw]
 obtain ⟨w1, u1, g1⟩ := Xa H.h59 (k := 1) (l := [32, 9, 10]) (by simp) hq
 obtain ⟨w2, u2, g2⟩ := Xa H.h59 (k := 2) (l := jcG) (by simp [jcG]) (gs hq (y := .cells (LC d st (mkT 1 [32, 9, 10] f) tx at' ln er)))
 obtain ⟨w3, u3, g3⟩ := Xa H.h59 (k := 4) (l := digs) (by simp [digs]) (gs hq (y := .cells (LC d st (mkT 2 jcG (mkT 1 [32, 9, 10] f)) tx at' ln er)))
 obtain ⟨w4, u4, g4⟩ := Xa H.h59 (k := 8) (l := je6) (by simp [je6]) (gs hq (y := .cells (LC d st (mkT 4 digs (mkT 2 jcG (mkT 1 [32, 9, 10] f))) tx at' ln er)))
 have u1 : cfw F (.f 59) [.str [32, 9, 10], .int .u8 1, .pv true [.ptr q 0] 0] σ = _ := u1
 simp only [r7] at u2 u3 u4
 have u2 : cfw F (.f 59) [.str jcG, .int .u8 2, .pv true [.ptr q 0] 0] _ = _ := u2
 have u3 : cfw F (.f 59) [.str digs, .int .u8 4, .pv true [.ptr q 0] 0] _ = _ := u3
 have u4 : cfw F (.f 59) [.str je6, .int .u8 8, .pv true [.ptr q 0] 0] _ = _ := u4
 simp only [jcG, digs, je6] at u2 u3 u4
 simp only [jfp, u1, u2, u3, u4, take_set, jA, Option.toList, jp, nat, j0, jO, jY, jr, lc0, lc1, jD, jE, jF, jG, j5, j6, ju, jt, jv, zV, zS, jC, jQ, jb, jh, jU, je, jk, jd, jx, jR, jj, ji, jo, jP, jy, jw, Ts.fill, jV, jT, jf, jW, jn, jl, jg, jc, getAll, stepCall, jm, unI, Opd.get, jB, tag, jz, ja, jN, rv, bin, jX, Nat.reduceAdd, Nat.reduceSub, Nat.reduceMul, Nat.reduceDiv, Nat.reduceMod, Nat.reducePow, Nat.reduceLT, Nat.reduceLeDiff, Nat.reduceEqDiff, Nat.reduceBEq, Nat.reduceBNe, reduceIte, Int.reduceEq, Int.reduceLT, Int.reduceLE, Int.reduceNeg, Int.reduceToNat, Int.reduceMul, Int.reduceAdd, Int.reduceSub, Int.reduceBEq, Int.reduceBNe, reduceCtorEq]
 rw [j8 (j7 g4 (j7 g3 (j7 g2 g1)))]
 exact ⟨_, rfl, jZ (j7 g4 (j7 g3 (j7 g2 g1)))⟩
set_option maxRecDepth 20000 in
theorem je9 (H : FTab F) (hq : σ[q]? = some (.cells (LC 0 0 f tx at' ln er))) : ∃ wr, cfw F (.f 75) [.ptr q 0, .fn (.func 58) [] [.pv true [.ptr q 0] 0]] σ = some ⟨false, .tup [], σ.set q (.cells (LC 1 0 (Vl f) tx at' ln er)), wr⟩ /\ Fl wr := by
 rw [cfw_of jfs H.h75, jw]
 obtain ⟨w1, u1, g1⟩ := jex H.h85 H.h96 hq
 have u2 := jbD H.h74 (gs hq (y := .cells (LC 0 1 f tx at' ln er)))
 obtain ⟨w3, u3, g3⟩ := jgb H (gs hq (y := .cells (LC 0 1 f tx at' ln er)))
 obtain ⟨w5, u5, g5⟩ := jgf H.h97 (gs hq (y := .cells (LC 1 1 (Vl f) tx at' ln er)))
 have u4 := fun σ => b99 H.h99 (σ := σ)
 have b0 : ((0 : Int) != 0) = false := rfl
 have hs := gs hq (y := .cells (LC 0 1 (Vl f) tx at' ln er))
 simp only [r7, b0] at u2 u3 u5
 simp only [jfs, jce, Yx, yj, JF, zz, jcf, dTs, u1, u2, u3, u4, u5, hs, jO, r7, take_set, nr3_fn, jA, Option.toList, jp, nat, j0, jY, jr, lc0, lc1, jD, jE, jF, jG, j5, j6, ju, jt, jv, zV, zS, jC, jQ, jb, jh, jU, je, jk, jd, jx, jR, jj, ji, jo, jP, jy, jw, Ts.fill, jV, jT, jf, jW, jn, jl, jg, jc, getAll, stepCall, jm, unI, Opd.get, jB, tag, jz, ja, jN, rv, bin, jX, Nat.reduceAdd, Nat.reduceSub, Nat.reduceMul, Nat.reduceDiv, Nat.reduceMod, Nat.reducePow, Nat.reduceLT, Nat.reduceLeDiff, Nat.reduceEqDiff, Nat.reduceBEq, Nat.reduceBNe, reduceIte, Int.reduceEq, Int.reduceLT, Int.reduceLE, Int.reduceNeg, Int.reduceToNat, Int.reduceMul, Int.reduceAdd, Int.reduceSub, Int.reduceBEq, Int.reduceBNe, reduceCtorEq]
 have fa : Fl (w5 ++ ((q, false) :: (w3 ++ w1))) := j7 g5 (by simpa using j7 g3 g1)
 rw [j8 fa]
 exact ⟨_, rfl, jZ fa⟩
theorem jgy (H : FTab F) (hd : d = 0 \/ d = 1) (hq : σ[q]? = some (.cells (LC d 0 f tx at' ln er))) : ∃ wr, cfw F (.f 57) [.ptr q 0, .fn (.func 58) [] [.pv true [.ptr q 0] 0]] σ = some ⟨false, .tup [], σ.set q (.cells (LC 1 0 (if d = 0 then Vl f else f) tx at' ln er)), wr⟩ /\ Fl wr := by
 rw [cfw_of jej H.h57, jw]
 have u2 := jbD H.h74 hq
 rcases hd with rfl | rfl
 . obtain ⟨w3, u3, g3⟩ := je9 H hq
   have b0 : ((0 : Int) != 0) = false := rfl
   rw [b0] at u2
   simp only [jej, u2, u3, take_set, j8 g3, jA, Option.toList, jp, nat, j0, jO, jY, jr, lc0, lc1, jD, jE, jF, jG, j5, j6, ju, jt, jv, zV, zS, jC, jQ, jb, jh, jU, je, jk, jd, jx, jR, jj, ji, jo, jP, jy, jw, Ts.fill, jV, jT, jf, jW, jn, jl, jg, jc, getAll, stepCall, jm, unI, Opd.get, jB, tag, jz, ja, jN, rv, bin, jX, Nat.reduceAdd, Nat.reduceSub, Nat.reduceMul, Nat.reduceDiv, Nat.reduceMod, Nat.reducePow, Nat.reduceLT, Nat.reduceLeDiff, Nat.reduceEqDiff, Nat.reduceBEq, Nat.reduceBNe, reduceIte, Int.reduceEq, Int.reduceLT, Int.reduceLE, Int.reduceNeg, Int.reduceToNat, Int.reduceMul, Int.reduceAdd, Int.reduceSub, Int.reduceBEq, Int.reduceBNe, reduceCtorEq]
   exact ⟨_, rfl, jZ g3⟩
 . have b0 : ((1 : Int) != 0) = true := rfl
   have b1 : (1 : Int) ≠ 0 := by decide
   rw [b0] at u2
   simp only [jej, u2, b1, take_set, jA, Option.toList, jp, nat, j0, jO, jY, jr, lc0, lc1, jD, jE, jF, jG, j5, j6, ju, jt, jv, zV, zS, jC, jQ, jb, jh, jU, je, jk, jd, jx, jR, jj, ji, jo, jP, jy, jw, Ts.fill, jV, jT, jf, jW, jn, jl, jg, jc, getAll, stepCall, jm, unI, Opd.get, jB, tag, jz, ja, jN, rv, bin, jX, Nat.reduceAdd, Nat.reduceSub, Nat.reduceMul, Nat.reduceDiv, Nat.reduceMod, Nat.reducePow, Nat.reduceLT, Nat.reduceLeDiff, Nat.reduceEqDiff, Nat.reduceBEq, Nat.reduceBNe, reduceIte, Int.reduceEq, Int.reduceLT, Int.reduceLE, Int.reduceNeg, Int.reduceToNat, Int.reduceMul, Int.reduceAdd, Int.reduceSub, Int.reduceBEq, Int.reduceBNe, reduceCtorEq]
   rw [vr hq]
   exact ⟨_, rfl, rfl⟩
end
end Go.Idl.Lx
namespace Go.Idl.Lx
open Go Go.Idl Go.Idl.En
variable {F : kb}
def jgj (a b : Nat) : Nat := (BitVec.ofInt 8 a &&& BitVec.ofInt 8 b).toNat
theorem jb3 (a b : Nat) : IntKind.u8.wrap (((BitVec.ofInt IntKind.u8.bits (a : Int) &&& BitVec.ofInt IntKind.u8.bits (b : Int)).toNat : Nat) : Int) = ((jgj a b : Nat) : Int) := by
 rw [vD]
 have : (BitVec.ofInt IntKind.u8.bits (a : Int) &&& BitVec.ofInt IntKind.u8.bits (b : Int)).toNat < 256 := (BitVec.ofInt 8 (a : Int) &&& BitVec.ofInt 8 (b : Int)).isLt
 show _ = (((BitVec.ofInt IntKind.u8.bits (a : Int) &&& BitVec.ofInt IntKind.u8.bits (b : Int)).toNat : Nat) : Int)
 omega
def isS (k c : Nat) : Bool := ((jgj (jfb c) k : Nat) : Int) != 0
def nl (s : List UInt8) : Nat := Yd 10 s 0
theorem KU (c : Nat) : ∀ (s : List UInt8) (n : Nat), Yd c s n = n + Yd c s 0
 | [], n => rfl
 | b :: s, n => by
   rw [Yd, Yd, KU c s]
   rw [KU c s (bif Nat.beq b.toNat c then 0 + 1 else 0)]
   cases Nat.beq b.toNat c <;> simp only [cond_true, cond_false] <;> omega
theorem K3 (b : UInt8) (s : List UInt8) : nl (b :: s) = (if b.toNat = 10 then 1 else 0) + nl s := by
 rw [nl, Yd, KU]
 by_cases h : b.toNat = 10
 . rw [h]; rfl
 . have : Nat.beq b.toNat 10 = false := by rw [<- Bool.not_eq_true]; intro e; exact h (Nat.eq_of_beq_eq_true e)
   rw [this, if_neg h]; rfl
theorem Zj : ∀ (s t : List UInt8), nl (s ++ t) = nl s + nl t
 | [], t => by simp [nl, Yd]
 | b :: s, t => by rw [tI, K3, K3, Zj s t]; omega
theorem jaL : ∀ s : List UInt8, nl s <= s.length
 | [] => rP _
 | b :: s => by rw [K3, tB]; have := jaL s; split <;> omega
theorem jcR (s : List UInt8) (a n : Nat) : nl (s.take a) + nl ((s.take (a + n)).drop a) = nl (s.take (a + n)) := by
 rw [<- Zj]; congr 1
 conv => rhs; rw [<- List.take_append_drop a (s.take (a + n))]
 rw [List.take_take, Nat.min_eq_left (by omega)]
def dn (r : Bool) : Int := if r then 1 else 0
def tb (r : Bool) : Nat -> Nat := if r then jfb else fun _ => 0
abbrev LP (r : Bool) (tx : List UInt8) (a : Nat) (er : IVal) : List IVal := LC (dn r) 0 (tb r) tx (a : Int) ((1 + nl (tx.take a) : Nat) : Int) er
section
variable {tx : List UInt8} {a : Nat} {er : IVal} {q : Nat} {σ : List IObj} {r : Bool}
set_option maxRecDepth 20000 in
theorem jfW (H : FTab F) {k c : Nat} (hc : c < 256) (hq : σ[q]? = some (.cells (LP r tx a er))) : ∃ wr, cfw F (.f 38) [.ptr q 0, B c, B k] σ = some ⟨false, .bool (isS k c), σ.set q (.cells (LP true tx a er)), wr⟩ /\ Fl wr := by
 rw [cfw_of jfn H.h38, jw]
 obtain ⟨wr, u, gw⟩ := jgy H (by cases r; exact Or.inl rfl; exact Or.inr rfl) hq
 have e : (if dn r = 0 then Vl (tb r) else tb r) = jfb := by cases r <;> rfl
 rw [e] at u
 have t1 := jbB 1 0 jfb tx (a : Int) ((1 + nl (tx.take a) : Nat) : Int) er hc
 have d3 : (0 : Int) <= ((c : Nat) : Int) := by omega
 have d4 : ((c : Nat) : Int) < 256 := by omega
 have gq := gs hq (y := .cells (LC 1 0 jfb tx (a : Int) ((1 + nl (tx.take a) : Nat) : Int) er))
 simp only [jfn, u, nr3_fn, d3, d4, t1, gq, jb3, take_set, j8 gw, rI, ext, jA, Option.toList, jp, nat, j0, jO, jY, jr, lc0, lc1, jD, jE, jF, jG, j5, j6, ju, jt, jv, zV, zS, jC, jQ, jb, jh, jU, je, jk, jd, jx, jR, jj, ji, jo, jP, jy, jw, Ts.fill, jV, jT, jf, jW, jn, jl, jg, jc, getAll, stepCall, jm, unI, Opd.get, jB, tag, jz, ja, jN, rv, bin, jX, Nat.reduceAdd, Nat.reduceSub, Nat.reduceMul, Nat.reduceDiv, Nat.reduceMod, Nat.reducePow, Nat.reduceLT, Nat.reduceLeDiff, Nat.reduceEqDiff, Nat.reduceBEq, Nat.reduceBNe, reduceIte, Int.reduceEq, Int.reduceLT, Int.reduceLE, Int.reduceNeg, Int.reduceToNat, Int.reduceMul, Int.reduceAdd, Int.reduceSub, Int.reduceBEq, Int.reduceBNe, reduceCtorEq]
 exact ⟨_, rfl, jZ gw⟩
theorem jau (H : FTab F) {k c : Nat} (hc : c < 256) (hq : σ[q]? = some (.cells (LP true tx a er))) : ∃ wr, cfw F (.f 38) [.ptr q 0, B c, B k] σ = some ⟨false, .bool (isS k c), σ, wr⟩ /\ Fl wr := by
 obtain ⟨wr, u, gw⟩ := jfW H (k := k) hc hq
 rw [vr hq] at u
 exact ⟨wr, u, gw⟩
theorem Kv (h : F 42 = some jef) {c p : Int} (hq : σ[q]? = some (.cells (LP r tx a er))) : ∃ wr, cfw F (.f 42) [.ptr q 0, I c, I p] σ = some ⟨false, .tup [], σ.set q (.cells (LP r tx a (.iface 56 (.pv false [I c, I p] 0)))), wr⟩ /\ Fl wr := by
 rw [cfw_of jef h, jw]
 have f2 : qD [.int .i64 0, .int .i64 0] [(0, 1, I c), (1, 1, I p)] = some [I c, I p] := rfl
 simp only [jef, hq, f2, ext, take_set, tC, tM, jA, Option.toList, jp, nat, j0, jO, jY, jr, lc0, lc1, jD, jE, jF, jG, j5, j6, ju, jt, jv, zV, zS, jC, jQ, jb, jh, jU, je, jk, jd, jx, jR, jj, ji, jo, jP, jy, jw, Ts.fill, jV, jT, jf, jW, jn, jl, jg, jc, getAll, stepCall, jm, unI, Opd.get, jB, tag, jz, ja, jN, rv, bin, jX, Nat.reduceAdd, Nat.reduceSub, Nat.reduceMul, Nat.reduceDiv, Nat.reduceMod, Nat.reducePow, Nat.reduceLT, Nat.reduceLeDiff, Nat.reduceEqDiff, Nat.reduceBEq, Nat.reduceBNe, reduceIte, Int.reduceEq, Int.reduceLT, Int.reduceLE, Int.reduceNeg, Int.reduceToNat, Int.reduceMul, Int.reduceAdd, Int.reduceSub, Int.reduceBEq, Int.reduceBNe, reduceCtorEq]
 exact ⟨_, rfl, by split <;> rfl⟩
theorem Yv (h : F 15 = some jcl) {s : List UInt8} : cfw F (.f 15) [.str s, .str [10]] σ = some ⟨false, I (nl s), σ, []⟩ := by
 rw [cfw_of jcl h, jw]
 have t10 : (10 : UInt8).toNat = 10 := rfl
 simp only [jcl, jY, t10, jA, Option.toList, jp, nat, j0, jO, jr, lc0, lc1, jD, jE, jF, jG, j5, j6, ju, jt, jv, zV, zS, jC, jQ, jb, jh, jU, je, jk, jd, jx, jR, jj, ji, jo, jP, jy, jw, Ts.fill, jV, jT, jf, jW, jn, jl, jg, jc, getAll, stepCall, jm, unI, Opd.get, jB, tag, jz, ja, jN, rv, bin, jX, Nat.reduceAdd, Nat.reduceSub, Nat.reduceMul, Nat.reduceDiv, Nat.reduceMod, Nat.reducePow, Nat.reduceLT, Nat.reduceLeDiff, Nat.reduceEqDiff, Nat.reduceBEq, Nat.reduceBNe, reduceIte, Int.reduceEq, Int.reduceLT, Int.reduceLE, Int.reduceNeg, Int.reduceToNat, Int.reduceMul, Int.reduceAdd, Int.reduceSub, Int.reduceBEq, Int.reduceBNe, reduceCtorEq]
 rfl
end
end Go.Idl.Lx
namespace Go.Idl.Lx
open Go Go.Idl Go.Idl.En
variable {F : kb}
section
variable {tx : List UInt8} {a : Nat} {er : IVal} {q : Nat} {σ : List IObj} {r : Bool}
set_option maxRecDepth 20000 in
theorem Q5 (h : F 55 = some jeh) (h15 : F 15 = some jcl) {n : Nat} (ha : a + n <= tx.length) (hl : tx.length <= 20000) (hq : σ[q]? = some (.cells (LP r tx a er))) :
   ∃ wr, cfw F (.f 55) [.ptr q 0, I n] σ = some ⟨false, .str ((tx.take (a + n)).drop a), σ.set q (.cells (LP r tx (a + n) er)), wr⟩ /\ Fl wr := by
 rw [cfw_of jeh h, jw]
 have w1 : IntKind.i64.wrap ((a : Int) + (n : Int)) = ((a + n : Nat) : Int) := by rw [qe (by omega) (by omega)]; omega
 have n1 := jcR tx a n
 have n2 := jaL (tx.take (a + n))
 have n3 : (tx.take (a + n)).length <= 20000 := by rw [tE]; omega
 have w2 : IntKind.i64.wrap (((1 + nl (tx.take a) : Nat) : Int) + ((nl ((tx.take (a + n)).drop a) : Nat) : Int)) = ((1 + nl (tx.take (a + n)) : Nat) : Int) := by rw [qe (by omega) (by omega)]; omega
 have d1 : (0 : Int) <= (a : Int) := by omega
 have d2 : (0 : Int) <= ((a + n : Nat) : Int) := by omega
 have d3 : a <= a + n := by omega
 have u := fun σ => Yv h15 (s := (tx.take (a + n)).drop a) (σ := σ)
 have g1 := gs hq (y := .cells (LC (dn r) 0 (tb r) tx ((a + n : Nat) : Int) ((1 + nl (tx.take a) : Nat) : Int) er))
 have dq : decide (q < σ.length) = true := rB (jq hq)
 simp only [jeh, hq, dq, List.length_set, w1, w2, d1, d2, d3, ha, u, g1, jp, nat, rI, r7, take_set, jA, Option.toList, j0, jO, jY, jr, lc0, lc1, jD, jE, jF, jG, j5, j6, ju, jt, jv, zV, zS, jC, jQ, jb, jh, jU, je, jk, jd, jx, jR, jj, ji, jo, jP, jy, jw, Ts.fill, jV, jT, jf, jW, jn, jl, jg, jc, getAll, stepCall, jm, unI, Opd.get, jB, tag, jz, ja, jN, rv, bin, jX, Nat.reduceAdd, Nat.reduceSub, Nat.reduceMul, Nat.reduceDiv, Nat.reduceMod, Nat.reducePow, Nat.reduceLT, Nat.reduceLeDiff, Nat.reduceEqDiff, Nat.reduceBEq, Nat.reduceBNe, reduceIte, Int.reduceEq, Int.reduceLT, Int.reduceLE, Int.reduceNeg, Int.reduceToNat, Int.reduceMul, Int.reduceAdd, Int.reduceSub, Int.reduceBEq, Int.reduceBNe, reduceCtorEq]
 exact ⟨_, rfl, rfl⟩
theorem jf8 (h : F 53 = some jcs) {s p : List UInt8} (hl : s.length <= 20000) (hp : p.length <= 20000) : cfw F (.f 53) [.str s, .str p] σ = some ⟨false, .bool (p.isPrefixOf s), σ, []⟩ := by
 rw [cfw_of jcs h, jw]
 by_cases hle : p.length <= s.length
 . have d1 : decide ((s.length : Int) ≥ (p.length : Int)) = true := rB (by omega)
   have d2 : (0 : Int) <= (p.length : Int) := by omega
   have e : (s.take p.length == p) = p.isPrefixOf s := by
     rw [Bool.eq_iff_iff, beq_iff_eq, List.isPrefixOf_iff_prefix, List.prefix_iff_eq_take]
     exact eq_comm
   simp only [jcs, d1, d2, hle, e, jp, nat, rI, j0, jA, Option.toList, jO, jY, jr, lc0, lc1, jD, jE, jF, jG, j5, j6, ju, jt, jv, zV, zS, jC, jQ, jb, jh, jU, je, jk, jd, jx, jR, jj, ji, jo, jP, jy, jw, Ts.fill, jV, jT, jf, jW, jn, jl, jg, jc, getAll, stepCall, jm, unI, Opd.get, jB, tag, jz, ja, jN, rv, bin, jX, Nat.reduceAdd, Nat.reduceSub, Nat.reduceMul, Nat.reduceDiv, Nat.reduceMod, Nat.reducePow, Nat.reduceLT, Nat.reduceLeDiff, Nat.reduceEqDiff, Nat.reduceBEq, Nat.reduceBNe, reduceIte, Int.reduceEq, Int.reduceLT, Int.reduceLE, Int.reduceNeg, Int.reduceToNat, Int.reduceMul, Int.reduceAdd, Int.reduceSub, Int.reduceBEq, Int.reduceBNe, reduceCtorEq]
 . have d1 : decide ((s.length : Int) ≥ (p.length : Int)) = false := rE (by omega)
   have e : p.isPrefixOf s = false := by
     rw [<- Bool.not_eq_true, List.isPrefixOf_iff_prefix]
     intro hh; exact hle hh.length_le
   simp only [jcs, d1, e, jk, jA, Option.toList, jp, nat, j0, jO, jY, jr, lc0, lc1, jD, jE, jF, jG, j5, j6, ju, jt, jv, zV, zS, jC, jQ, jb, jh, jU, je, jd, jx, jR, jj, ji, jo, jP, jy, jw, Ts.fill, jV, jT, jf, jW, jn, jl, jg, jc, getAll, stepCall, jm, unI, Opd.get, jB, tag, jz, ja, jN, rv, bin, jX, Nat.reduceAdd, Nat.reduceSub, Nat.reduceMul, Nat.reduceDiv, Nat.reduceMod, Nat.reducePow, Nat.reduceLT, Nat.reduceLeDiff, Nat.reduceEqDiff, Nat.reduceBEq, Nat.reduceBNe, reduceIte, Int.reduceEq, Int.reduceLT, Int.reduceLE, Int.reduceNeg, Int.reduceToNat, Int.reduceMul, Int.reduceAdd, Int.reduceSub, Int.reduceBEq, Int.reduceBNe, reduceCtorEq]
theorem jcY (h : F 34 = some jed) (h53 : F 53 = some jcs) {s p : List UInt8} (hl : s.length <= 20000) (hp : p.length <= 20000) : cfw F (.f 34) [.str s, .str p] σ = some ⟨false, .bool (p.isPrefixOf s), σ, []⟩ := by
 rw [cfw_of jed h, jw]
 have u := fun σ => jf8 h53 (σ := σ) hl hp
 simp only [jed, u, jA, Option.toList, jp, nat, j0, jO, jY, jr, lc0, lc1, jD, jE, jF, jG, j5, j6, ju, jt, jv, zV, zS, jC, jQ, jb, jh, jU, je, jk, jd, jx, jR, jj, ji, jo, jP, jy, jw, Ts.fill, jV, jT, jf, jW, jn, jl, jg, jc, getAll, stepCall, jm, unI, Opd.get, jB, tag, jz, ja, jN, rv, bin, jX, Nat.reduceAdd, Nat.reduceSub, Nat.reduceMul, Nat.reduceDiv, Nat.reduceMod, Nat.reducePow, Nat.reduceLT, Nat.reduceLeDiff, Nat.reduceEqDiff, Nat.reduceBEq, Nat.reduceBNe, reduceIte, Int.reduceEq, Int.reduceLT, Int.reduceLE, Int.reduceNeg, Int.reduceToNat, Int.reduceMul, Int.reduceAdd, Int.reduceSub, Int.reduceBEq, Int.reduceBNe, reduceCtorEq]
theorem jgl (h : F 26 = some Z1) {s : List UInt8} {c : Nat} (hc : c < 256) : cfw F (.f 26) [.str s, B c] σ = some ⟨false, I (Va c s 0), σ, []⟩ := by
 rw [cfw_of Z1 h, jw]
 have e : c % 256 = c := Nat.mod_eq_of_lt hc
 simp only [Z1, jY, e, rI, jA, Option.toList, jp, nat, j0, jO, jr, lc0, lc1, jD, jE, jF, jG, j5, j6, ju, jt, jv, zV, zS, jC, jQ, jb, jh, jU, je, jk, jd, jx, jR, jj, ji, jo, jP, jy, jw, Ts.fill, jV, jT, jf, jW, jn, jl, jg, jc, getAll, stepCall, jm, unI, Opd.get, jB, tag, jz, ja, jN, rv, bin, jX, Nat.reduceAdd, Nat.reduceSub, Nat.reduceMul, Nat.reduceDiv, Nat.reduceMod, Nat.reducePow, Nat.reduceLT, Nat.reduceLeDiff, Nat.reduceEqDiff, Nat.reduceBEq, Nat.reduceBNe, reduceIte, Int.reduceEq, Int.reduceLT, Int.reduceLE, Int.reduceNeg, Int.reduceToNat, Int.reduceMul, Int.reduceAdd, Int.reduceSub, Int.reduceBEq, Int.reduceBNe, reduceCtorEq]
theorem jgk (h : F 12 = some jdx) (h26 : F 26 = some Z1) {s : List UInt8} {c : Nat} (hc : c < 256) : cfw F (.f 12) [.str s, B c] σ = some ⟨false, I (Va c s 0), σ, []⟩ := by
 rw [cfw_of jdx h, jw]
 have u := fun σ => jgl h26 (σ := σ) (s := s) hc
 simp only [jdx, u, jA, Option.toList, jp, nat, j0, jO, jY, jr, lc0, lc1, jD, jE, jF, jG, j5, j6, ju, jt, jv, zV, zS, jC, jQ, jb, jh, jU, je, jk, jd, jx, jR, jj, ji, jo, jP, jy, jw, Ts.fill, jV, jT, jf, jW, jn, jl, jg, jc, getAll, stepCall, jm, unI, Opd.get, jB, tag, jz, ja, jN, rv, bin, jX, Nat.reduceAdd, Nat.reduceSub, Nat.reduceMul, Nat.reduceDiv, Nat.reduceMod, Nat.reducePow, Nat.reduceLT, Nat.reduceLeDiff, Nat.reduceEqDiff, Nat.reduceBEq, Nat.reduceBNe, reduceIte, Int.reduceEq, Int.reduceLT, Int.reduceLE, Int.reduceNeg, Int.reduceToNat, Int.reduceMul, Int.reduceAdd, Int.reduceSub, Int.reduceBEq, Int.reduceBNe, reduceCtorEq]
theorem jfV (h : F 50 = some jbx) (h26 : F 26 = some Z1) {s : List UInt8} : cfw F (.f 50) [.str s, .str [10]] σ = some ⟨false, I (Va 10 s 0), σ, []⟩ := by
 rw [cfw_of jbx h, jw]
 have u := fun σ => jgl h26 (σ := σ) (s := s) (c := 10) (by omega)
 have t10 : (10 : UInt8).toNat = 10 := rfl
 have u : ∀ σ, cfw F (.f 26) [.str s, .int .u8 10] σ = _ := u
 cases hb : ([10] == s) with
 | true =>
   rw [beq_iff_eq] at hb
   subst hb
   have hb : (([10] : List UInt8) == [10]) = true := rfl
   simp only [jbx, u, t10, hb, jk, jA, Option.toList, jp, nat, j0, jO, jY, jr, lc0, lc1, jD, jE, jF, jG, j5, j6, ju, jt, jv, zV, zS, jC, jQ, jb, jh, jU, je, jd, jx, jR, jj, ji, jo, jP, jy, jw, Ts.fill, jV, jT, jf, jW, jn, jl, jg, jc, getAll, stepCall, jm, unI, Opd.get, jB, tag, jz, ja, jN, rv, bin, jX, Nat.reduceAdd, Nat.reduceSub, Nat.reduceMul, Nat.reduceDiv, Nat.reduceMod, Nat.reducePow, Nat.reduceLT, Nat.reduceLeDiff, Nat.reduceEqDiff, Nat.reduceBEq, Nat.reduceBNe, reduceIte, Int.reduceEq, Int.reduceLT, Int.reduceLE, Int.reduceNeg, Int.reduceToNat, Int.reduceMul, Int.reduceAdd, Int.reduceSub, Int.reduceBEq, Int.reduceBNe, reduceCtorEq]
   rfl
 | false => simp only [jbx, u, t10, hb, jk, jA, Option.toList, jp, nat, j0, jO, jY, jr, lc0, lc1, jD, jE, jF, jG, j5, j6, ju, jt, jv, zV, zS, jC, jQ, jb, jh, jU, je, jd, jx, jR, jj, ji, jo, jP, jy, jw, Ts.fill, jV, jT, jf, jW, jn, jl, jg, jc, getAll, stepCall, jm, unI, Opd.get, jB, tag, jz, ja, jN, rv, bin, jX, Nat.reduceAdd, Nat.reduceSub, Nat.reduceMul, Nat.reduceDiv, Nat.reduceMod, Nat.reducePow, Nat.reduceLT, Nat.reduceLeDiff, Nat.reduceEqDiff, Nat.reduceBEq, Nat.reduceBNe, reduceIte, Int.reduceEq, Int.reduceLT, Int.reduceLE, Int.reduceNeg, Int.reduceToNat, Int.reduceMul, Int.reduceAdd, Int.reduceSub, Int.reduceBEq, Int.reduceBNe, reduceCtorEq]
theorem jbu (c : Nat) : ∀ (s : List UInt8) (k : Nat), Va c s k = match s.findIdx? (fun b => Nat.beq b.toNat c) with | some i => ((k + i : Nat) : Int) | none => -1
 | [], k => rfl
 | b :: s, k => by
   rw [Va, List.findIdx?_cons, jbu c s (k + 1)]
   cases Nat.beq b.toNat c with
   | true => rfl
   | false =>
     simp only [cond_false, r8, if_false]
     cases s.findIdx? (fun b => Nat.beq b.toNat c) with
     | none => rfl
     | some i => show ((k + 1 + i : Nat) : Int) = ((k + (i + 1) : Nat) : Int); omega
def lnN (s : List UInt8) : Nat := (s.takeWhile fun b => !(Nat.beq b.toNat 10)).length
theorem zy (b : UInt8) (s : List UInt8) : lnN (b :: s) = if b.toNat = 10 then 0 else 1 + lnN s := by
 rw [lnN, List.takeWhile_cons]
 by_cases h : b.toNat = 10
 . rw [h]; rfl
 . have : Nat.beq b.toNat 10 = false := by rw [<- Bool.not_eq_true]; intro e; exact h (Nat.eq_of_beq_eq_true e)
   rw [this, if_neg h]; simp [lnN]; omega
theorem Y3 : ∀ s : List UInt8, lnN s <= s.length
 | [] => rP _
 | b :: s => by rw [zy, tB]; have := Y3 s; split <;> omega
theorem jd3 : ∀ s : List UInt8, (Va 10 s 0 = -1 /\ lnN s = s.length) \/ (Va 10 s 0 = (lnN s : Int) /\ lnN s < s.length)
 | [] => Or.inl ⟨rfl, rfl⟩
 | b :: s => by
   have ih := jd3 s
   rw [jbu] at ih ⊢
   rw [zy, List.findIdx?_cons]
   by_cases h : b.toNat = 10
   . rw [h]; exact Or.inr ⟨rfl, by simp⟩
   . have : Nat.beq b.toNat 10 = false := by rw [<- Bool.not_eq_true]; intro e; exact h (Nat.eq_of_beq_eq_true e)
     rw [this, if_neg h]
     cases hf : s.findIdx? (fun b => Nat.beq b.toNat 10) with
     | none =>
       rw [hf] at ih
       rcases ih with ⟨_, e⟩ | ⟨e, _⟩
       . exact Or.inl ⟨rfl, by rw [e, tB]; omega⟩
       . exact absurd e (by simp only; omega)
     | some i =>
       rw [hf] at ih
       rcases ih with ⟨e, _⟩ | ⟨e, e2⟩
       . exact absurd e (by simp only; omega)
       . refine Or.inr ⟨?_, by rw [tB]; omega⟩
         simp only [r8, if_false, tU]
         have e : ((0 + i : Nat) : Int) = ((lnN s : Nat) : Int) := e
         show ((0 + (i + 1) : Nat) : Int) = ((1 + lnN s : Nat) : Int)
         omega
theorem jfH (h : F 73 = some jct) (h50 : F 50 = some jbx) (h26 : F 26 = some Z1) {s : List UInt8} (hl : s.length <= 20000) : ∃ y b, cfw F (.f 73) [.str s, .str [10]] σ = some ⟨false, .tup [.str (s.take (lnN s)), .str y, .bool b], σ, []⟩ := by
 rw [cfw_of jct h, jw]
 have u := fun σ => jfV h50 h26 (σ := σ) (s := s)
 rcases jd3 s with ⟨e1, e2⟩ | ⟨e1, e2⟩
 . have d1 : decide ((-1 : Int) ≥ 0) = false := rfl
   rw [e1] at u
   simp only [jct, u, d1, jA, Option.toList, jp, nat, j0, jO, jY, jr, lc0, lc1, jD, jE, jF, jG, j5, j6, ju, jt, jv, zV, zS, jC, jQ, jb, jh, jU, je, jk, jd, jx, jR, jj, ji, jo, jP, jy, jw, Ts.fill, jV, jT, jf, jW, jn, jl, jg, jc, getAll, stepCall, jm, unI, Opd.get, jB, tag, jz, ja, jN, rv, bin, jX, Nat.reduceAdd, Nat.reduceSub, Nat.reduceMul, Nat.reduceDiv, Nat.reduceMod, Nat.reducePow, Nat.reduceLT, Nat.reduceLeDiff, Nat.reduceEqDiff, Nat.reduceBEq, Nat.reduceBNe, reduceIte, Int.reduceEq, Int.reduceLT, Int.reduceLE, Int.reduceNeg, Int.reduceToNat, Int.reduceMul, Int.reduceAdd, Int.reduceSub, Int.reduceBEq, Int.reduceBNe, reduceCtorEq]
   rw [e2, List.take_length]
   exact ⟨_, _, rfl⟩
 . have d1 : decide ((lnN s : Int) ≥ 0) = true := rB (by omega)
   have d2 : (0 : Int) <= (lnN s : Int) := by omega
   have d3 : lnN s <= s.length := by omega
   have w1 : IntKind.i64.wrap ((lnN s : Int) + 1) = ((lnN s + 1 : Nat) : Int) := yU (by omega)
   have d4 : (0 : Int) <= ((lnN s + 1 : Nat) : Int) := by omega
   have d5 : lnN s + 1 <= s.length := by omega
   rw [e1] at u
   simp only [jct, u, d1, d2, d3, d4, d5, w1, rI, jA, Option.toList, jp, nat, j0, jO, jY, jr, lc0, lc1, jD, jE, jF, jG, j5, j6, ju, jt, jv, zV, zS, jC, jQ, jb, jh, jU, je, jk, jd, jx, jR, jj, ji, jo, jP, jy, jw, Ts.fill, jV, jT, jf, jW, jn, jl, jg, jc, getAll, stepCall, jm, unI, Opd.get, jB, tag, jz, ja, jN, rv, bin, jX, Nat.reduceAdd, Nat.reduceSub, Nat.reduceMul, Nat.reduceDiv, Nat.reduceMod, Nat.reducePow, Nat.reduceLT, Nat.reduceLeDiff, Nat.reduceEqDiff, Nat.reduceBEq, Nat.reduceBNe, reduceIte, Int.reduceEq, Int.reduceLT, Int.reduceLE, Int.reduceNeg, Int.reduceToNat, Int.reduceMul, Int.reduceAdd, Int.reduceSub, Int.reduceBEq, Int.reduceBNe, reduceCtorEq]
   exact ⟨_, _, rfl⟩
theorem jfG (h : F 56 = some jei) (h73 : F 73 = some jct) (h50 : F 50 = some jbx) (h26 : F 26 = some Z1) {s : List UInt8} (hl : s.length <= 20000) : ∃ y b, cfw F (.f 56) [.str s, .str [10]] σ = some ⟨false, .tup [.str (s.take (lnN s)), .str y, .bool b], σ, []⟩ := by
 rw [cfw_of jei h, jw]
 obtain ⟨y, b, u⟩ := jfH (σ := σ) h73 h50 h26 hl
 simp only [jei, u, jA, Option.toList, jp, nat, j0, jO, jY, jr, lc0, lc1, jD, jE, jF, jG, j5, j6, ju, jt, jv, zV, zS, jC, jQ, jb, jh, jU, je, jk, jd, jx, jR, jj, ji, jo, jP, jy, jw, Ts.fill, jV, jT, jf, jW, jn, jl, jg, jc, getAll, stepCall, jm, unI, Opd.get, jB, tag, jz, ja, jN, rv, bin, jX, Nat.reduceAdd, Nat.reduceSub, Nat.reduceMul, Nat.reduceDiv, Nat.reduceMod, Nat.reducePow, Nat.reduceLT, Nat.reduceLeDiff, Nat.reduceEqDiff, Nat.reduceBEq, Nat.reduceBNe, reduceIte, Int.reduceEq, Int.reduceLT, Int.reduceLE, Int.reduceNeg, Int.reduceToNat, Int.reduceMul, Int.reduceAdd, Int.reduceSub, Int.reduceBEq, Int.reduceBNe, reduceCtorEq]
 exact ⟨_, _, rfl⟩
end
end Go.Idl.Lx
namespace Go.Idl.Lx
open Go Go.Idl Go.Idl.En
variable {F : kb}
theorem jcz : ∀ c : Nat, c < 256 -> isS 1 c = (c == 32 || c == 9 || c == 10) := by decide +kernel
theorem jfX : ∀ c : Nat, c < 256 -> isS 2 c = (decide (97 <= c /\ c <= 122) || decide (65 <= c /\ c <= 90) || c == 95) := by decide +kernel
theorem jcA : ∀ c : Nat, c < 256 -> isS 4 c = decide (48 <= c /\ c <= 57) := by decide +kernel
theorem jcB : ∀ c : Nat, c < 256 -> isS 6 c = (isS 2 c || isS 4 c) := by decide +kernel
theorem jav : ∀ c : Nat, c < 256 -> isS 8 c = ([123, 125, 40, 41, 91, 93, 59, 58, 44, 46, 61, 60, 62, 43, 45, 42, 47, 37, 38, 94, 124, 126, 33].contains c) := by decide +kernel
def skN : Bool -> List UInt8 -> Nat
 | _, [] => 0
 | true, c :: s => if c.toNat = 10 then 1 + skN false s else 1 + skN true s
 | false, c :: s => if isS 1 c.toNat then 1 + skN false s else if [47, 47].isPrefixOf (c :: s) then 1 + skN true s else 0
theorem Ji : ∀ (b : Bool) (s : List UInt8), skN b s <= s.length
 | b, [] => by cases b <;> exact rP _
 | true, c :: s => by rw [skN, tB]; have := Ji true s; have := Ji false s; split <;> omega
 | false, c :: s => by rw [skN, tB]; have := Ji true s; have := Ji false s; split; omega; split <;> omega
theorem Xo : ∀ s : List UInt8, skN true s = lnN s + skN false (s.drop (lnN s))
 | [] => rfl
 | c :: s => by
   rw [skN, zy]
   by_cases h : c.toNat = 10
   . rw [if_pos h, if_pos h, List.drop_zero, skN, h]
     have : isS 1 10 = true := jcz 10 (by omega)
     rw [this]; simp
   . rw [if_neg h, if_neg h, Xo s]
     have : 1 + lnN s = lnN s + 1 := by omega
     rw [this, tR]; omega
theorem ZL {s : List UInt8} (h : [47, 47].isPrefixOf s = true) : skN false s = lnN s + skN false (s.drop (lnN s)) := by
 rw [<- Xo]
 cases s with
 | nil => simp at h
 | cons c s =>
   have hc : c = 47 := by
     rw [List.isPrefixOf] at h; simp at h; exact h.1.symm
   subst hc
   have h1 : isS 1 (47 : UInt8).toNat = false := jcz 47 (by omega)
   have h2 : ¬ (47 : UInt8).toNat = 10 := by decide
   rw [skN, skN, h1, h, if_neg h2]; rfl
theorem Y4 {s : List UInt8} (h : [47, 47].isPrefixOf s = true) : 0 < lnN s := by
 cases s with
 | nil => simp at h
 | cons c s =>
   have hc : c = 47 := by
     rw [List.isPrefixOf] at h; simp at h; exact h.1.symm
   subst hc
   have h2 : ¬ (47 : UInt8).toNat = 10 := by decide
   rw [zy, if_neg h2]; omega
structure FSkp (F : kb) : Prop extends FTab F where
 h15 : F 15 = some jcl
 h26 : F 26 = some Z1
 h34 : F 34 = some jed
 h37 : F 37 = some jfm
 h42 : F 42 = some jef
 h50 : F 50 = some jbx
 h53 : F 53 = some jcs
 h55 : F 55 = some jeh
 h56 : F 56 = some jei
 h73 : F 73 = some jct
section
variable {tx : List UInt8} {er : IVal} {q : Nat}
set_option maxRecDepth 20000 in
theorem jeE (H : FSkp F) (hl : tx.length <= 20000) : ∀ (m a : Nat) (r : Bool) (f0 : Nat -> Option (Nat × IVal)) (σ : List IObj) (wr : List (Nat × Bool)) (R : Option (IExit × St)), evw F (.loop vz) ⟨E 35 6 6 [] f0, σ, wr⟩ = R -> tx.length - a <= m -> a <= tx.length -> σ[q]? = some (.cells (LP r tx a er)) -> f0 0 = some (0, .ptr q 0) -> Fl wr ->
   ∃ f1 wr1 r1, R = some (.exit 0, ⟨E 35 6 6 [] f1, σ.set q (.cells (LP r1 tx (a + skN false (tx.drop a)) er)), wr1⟩) /\ Fl wr1 := by
 intro m
 induction m with
 | zero =>
   intro a r f0 σ wr R hE hm ha hq e0 hw
   have d1 : decide ((a : Int) < (tx.length : Nat)) = false := rE (by omega)
   change evw F (.loop vz) ⟨E 35 6 6 [] (base f0), σ, wr⟩ = R at hE
   rw [jI] at hE
   simp only [vz, hq, e0, d1, jA, Option.toList, jp, nat, j0, jO, jY, jr, lc0, lc1, jD, jE, jF, jG, j5, j6, ju, jt, jv, zV, zS, jC, jQ, jb, jh, jU, je, jk, jd, jx, jR, jj, ji, jo, jP, jy, jw, Ts.fill, jV, jT, jf, jW, jn, jl, jg, jc, getAll, stepCall, jm, unI, Opd.get, jB, tag, jz, ja, jN, rv, bin, jX, Nat.reduceAdd, Nat.reduceSub, Nat.reduceMul, Nat.reduceDiv, Nat.reduceMod, Nat.reducePow, Nat.reduceLT, Nat.reduceLeDiff, Nat.reduceEqDiff, Nat.reduceBEq, Nat.reduceBNe, reduceIte, Int.reduceEq, Int.reduceLT, Int.reduceLE, Int.reduceNeg, Int.reduceToNat, Int.reduceMul, Int.reduceAdd, Int.reduceSub, Int.reduceBEq, Int.reduceBNe, reduceCtorEq] at hE
   rw [tN (by omega), skN, Nat.add_zero]
   exact ⟨_, _, r, by rw [vr hq]; exact hE.symm, hw⟩
 | succ m ih =>
   intro a r f0 σ wr R hE hm ha hq e0 hw
   change evw F (.loop vz) ⟨E 35 6 6 [] (base f0), σ, wr⟩ = R at hE
   by_cases hlt : a < tx.length
   . obtain ⟨c, hg⟩ := qf hlt
     have d1 : decide ((a : Int) < (tx.length : Nat)) = true := rB (by omega)
     have d2 : (0 : Int) <= (a : Int) := by omega
     have hd := kL hg
     have hg0 : (tx.drop a)[0]? = some c := by rw [hd]; rfl
     have hc : c.toNat < 256 := c.toNat_lt
     obtain ⟨w1, u1, g1⟩ := jfW H.toFTab (k := 1) hc hq
     have gq := gs hq (y := .cells (LP true tx a er))
     have u1 : cfw F (.f 38) [.ptr q 0, .int .u8 c.toNat, .int .u8 1] σ = _ := u1
     cases hb : isS 1 c.toNat with
     | true =>
       obtain ⟨w2, u2, g2⟩ := Q5 H.h55 H.h15 (n := 1) (by omega) hl gq
       rw [r7] at u2
       have u2 : cfw F (.f 55) [.ptr q 0, .int .i64 1] (σ.set q (.cells (LP true tx a er))) = _ := u2
       rw [hb] at u1
       rw [jI] at hE
       simp only [vz, hq, e0, d1, d2, ha, hg0, u1, u2, rI, jA, Option.toList, jp, nat, j0, jO, jY, jr, lc0, lc1, jD, jE, jF, jG, j5, j6, ju, jt, jv, zV, zS, jC, jQ, jb, jh, jU, je, jk, jd, jx, jR, jj, ji, jo, jP, jy, jw, Ts.fill, jV, jT, jf, jW, jn, jl, jg, jc, getAll, stepCall, jm, unI, Opd.get, jB, tag, jz, ja, jN, rv, bin, jX, Nat.reduceAdd, Nat.reduceSub, Nat.reduceMul, Nat.reduceDiv, Nat.reduceMod, Nat.reducePow, Nat.reduceLT, Nat.reduceLeDiff, Nat.reduceEqDiff, Nat.reduceBEq, Nat.reduceBNe, reduceIte, Int.reduceEq, Int.reduceLT, Int.reduceLE, Int.reduceNeg, Int.reduceToNat, Int.reduceMul, Int.reduceAdd, Int.reduceSub, Int.reduceBEq, Int.reduceBNe, reduceCtorEq] at hE
       obtain ⟨f1, wr1, r1, hR, gw⟩ := ih (a + 1) true _ _ _ _ hE (by omega) (by omega) (gs hq) (by first | exact e0 | rfl) (j7 g2 (j7 g1 hw))
       refine ⟨f1, wr1, r1, ?_, gw⟩
       rw [hR, r7, hd, skN, hb, if_pos rfl, Nat.add_assoc]
     | false =>
       have hle : (tx.drop a).length <= 20000 := by rw [List.length_drop]; omega
       have u3 := fun σ => jcY H.h34 H.h53 (σ := σ) (s := tx.drop a) (p := [47, 47]) hle (by simp)
       rw [hb] at u1
       cases hp : [47, 47].isPrefixOf (tx.drop a) with
       | true =>
         have h3 := Y3 (tx.drop a)
         have h4 := Y4 hp
         rw [List.length_drop] at h3
         have u4 := fun σ => jfG H.h56 H.h73 H.h50 H.h26 (σ := σ) hle
         obtain ⟨y, b, u4⟩ := u4 (σ.set q (.cells (LP true tx a er)))
         obtain ⟨w2, u2, g2⟩ := Q5 H.h55 H.h15 (n := lnN (tx.drop a)) (by omega) hl gq
         have e5 : ((tx.drop a).take (lnN (tx.drop a))).length = lnN (tx.drop a) := by rw [tE, List.length_drop]; omega
         rw [r7] at u2
         rw [jI] at hE
         simp only [vz, hq, e0, d1, d2, ha, hg0, u1, u2, u3, u4, hp, e5, rI, jA, Option.toList, jp, nat, j0, jO, jY, jr, lc0, lc1, jD, jE, jF, jG, j5, j6, ju, jt, jv, zV, zS, jC, jQ, jb, jh, jU, je, jk, jd, jx, jR, jj, ji, jo, jP, jy, jw, Ts.fill, jV, jT, jf, jW, jn, jl, jg, jc, getAll, stepCall, jm, unI, Opd.get, jB, tag, jz, ja, jN, rv, bin, jX, Nat.reduceAdd, Nat.reduceSub, Nat.reduceMul, Nat.reduceDiv, Nat.reduceMod, Nat.reducePow, Nat.reduceLT, Nat.reduceLeDiff, Nat.reduceEqDiff, Nat.reduceBEq, Nat.reduceBNe, reduceIte, Int.reduceEq, Int.reduceLT, Int.reduceLE, Int.reduceNeg, Int.reduceToNat, Int.reduceMul, Int.reduceAdd, Int.reduceSub, Int.reduceBEq, Int.reduceBNe, reduceCtorEq] at hE
         obtain ⟨f1, wr1, r1, hR, gw⟩ := ih (a + lnN (tx.drop a)) true _ _ _ _ hE (by omega) (by omega) (gs hq) (by first | exact e0 | rfl) (j7 g2 (j7 g1 hw))
         refine ⟨f1, wr1, r1, ?_, gw⟩
         rw [hR, r7, ZL hp, List.drop_drop, Nat.add_assoc]
       | false =>
         rw [jI] at hE
         simp only [vz, hq, e0, d1, d2, ha, hg0, u1, u3, hp, rI, jA, Option.toList, jp, nat, j0, jO, jY, jr, lc0, lc1, jD, jE, jF, jG, j5, j6, ju, jt, jv, zV, zS, jC, jQ, jb, jh, jU, je, jk, jd, jx, jR, jj, ji, jo, jP, jy, jw, Ts.fill, jV, jT, jf, jW, jn, jl, jg, jc, getAll, stepCall, jm, unI, Opd.get, jB, tag, jz, ja, jN, rv, bin, jX, Nat.reduceAdd, Nat.reduceSub, Nat.reduceMul, Nat.reduceDiv, Nat.reduceMod, Nat.reducePow, Nat.reduceLT, Nat.reduceLeDiff, Nat.reduceEqDiff, Nat.reduceBEq, Nat.reduceBNe, reduceIte, Int.reduceEq, Int.reduceLT, Int.reduceLE, Int.reduceNeg, Int.reduceToNat, Int.reduceMul, Int.reduceAdd, Int.reduceSub, Int.reduceBEq, Int.reduceBNe, reduceCtorEq] at hE
         have e9 : skN false (tx.drop a) = 0 := by rw [hd, skN, hb, <- hd, hp]; rfl
         rw [e9]
         exact ⟨_, _, true, hE.symm, j7 g1 hw⟩
   . have d1 : decide ((a : Int) < (tx.length : Nat)) = false := rE (by omega)
     rw [jI] at hE
     simp only [vz, hq, e0, d1, jA, Option.toList, jp, nat, j0, jO, jY, jr, lc0, lc1, jD, jE, jF, jG, j5, j6, ju, jt, jv, zV, zS, jC, jQ, jb, jh, jU, je, jk, jd, jx, jR, jj, ji, jo, jP, jy, jw, Ts.fill, jV, jT, jf, jW, jn, jl, jg, jc, getAll, stepCall, jm, unI, Opd.get, jB, tag, jz, ja, jN, rv, bin, jX, Nat.reduceAdd, Nat.reduceSub, Nat.reduceMul, Nat.reduceDiv, Nat.reduceMod, Nat.reducePow, Nat.reduceLT, Nat.reduceLeDiff, Nat.reduceEqDiff, Nat.reduceBEq, Nat.reduceBNe, reduceIte, Int.reduceEq, Int.reduceLT, Int.reduceLE, Int.reduceNeg, Int.reduceToNat, Int.reduceMul, Int.reduceAdd, Int.reduceSub, Int.reduceBEq, Int.reduceBNe, reduceCtorEq] at hE
     rw [tN (by omega), skN, Nat.add_zero]
     exact ⟨_, _, r, by rw [vr hq]; exact hE.symm, hw⟩
theorem jbX (H : FSkp F) (hl : tx.length <= 20000) {a : Nat} {r : Bool} {σ : List IObj} (ha : a <= tx.length) (hq : σ[q]? = some (.cells (LP r tx a er))) :
   ∃ wr r1, cfw F (.f 37) [.ptr q 0] σ = some ⟨false, .tup [], σ.set q (.cells (LP r1 tx (a + skN false (tx.drop a)) er)), wr⟩ /\ Fl wr := by
 rw [cfw_of jfm H.h37, jw]
 simp only [jfm, jA, Option.toList, jp, nat, j0, jO, jY, jr, lc0, lc1, jD, jE, jF, jG, j5, j6, ju, jt, jv, zV, zS, jC, jQ, jb, jh, jU, je, jk, jd, jx, jR, jj, ji, jo, jP, jy, jw, Ts.fill, jV, jT, jf, jW, jn, jl, jg, jc, getAll, stepCall, jm, unI, Opd.get, jB, tag, jz, ja, jN, rv, bin, jX, Nat.reduceAdd, Nat.reduceSub, Nat.reduceMul, Nat.reduceDiv, Nat.reduceMod, Nat.reducePow, Nat.reduceLT, Nat.reduceLeDiff, Nat.reduceEqDiff, Nat.reduceBEq, Nat.reduceBNe, reduceIte, Int.reduceEq, Int.reduceLT, Int.reduceLE, Int.reduceNeg, Int.reduceToNat, Int.reduceMul, Int.reduceAdd, Int.reduceSub, Int.reduceBEq, Int.reduceBNe, reduceCtorEq]
 generalize hE : evw F (ICode.loop vz) _ = R
 obtain ⟨f1, wr1, r1, rfl, gw⟩ := jeE H hl tx.length a r _ _ _ _ hE (by omega) ha hq (by rfl) rfl
 simp only [take_set, j8 gw, jA, Option.toList, jp, nat, j0, jO, jY, jr, lc0, lc1, jD, jE, jF, jG, j5, j6, ju, jt, jv, zV, zS, jC, jQ, jb, jh, jU, je, jk, jd, jx, jR, jj, ji, jo, jP, jy, jw, Ts.fill, jV, jT, jf, jW, jn, jl, jg, jc, getAll, stepCall, jm, unI, Opd.get, jB, tag, jz, ja, jN, rv, bin, jX, Nat.reduceAdd, Nat.reduceSub, Nat.reduceMul, Nat.reduceDiv, Nat.reduceMod, Nat.reducePow, Nat.reduceLT, Nat.reduceLeDiff, Nat.reduceEqDiff, Nat.reduceBEq, Nat.reduceBNe, reduceIte, Int.reduceEq, Int.reduceLT, Int.reduceLE, Int.reduceNeg, Int.reduceToNat, Int.reduceMul, Int.reduceAdd, Int.reduceSub, Int.reduceBEq, Int.reduceBNe, reduceCtorEq]
 exact ⟨_, _, rfl, jZ gw⟩
end
end Go.Idl.Lx
namespace Go.Idl.Lx
open Go Go.Idl Go.Idl.En
variable {F : kb}
def spn (k : Nat) (s : List UInt8) : Nat := (s.takeWhile fun c => isS k c.toNat).length
theorem Jx (k : Nat) (c : UInt8) (s : List UInt8) : spn k (c :: s) = if isS k c.toNat then 1 + spn k s else 0 := by
 rw [spn, List.takeWhile_cons]
 cases isS k c.toNat with
 | true => simp [spn]; omega
 | false => rfl
theorem Xq (k : Nat) : ∀ s : List UInt8, spn k s <= s.length
 | [] => rP _
 | c :: s => by rw [Jx, tB]; have := Xq k s; split <;> omega
section
variable {tx : List UInt8} {er : IVal} {q : Nat} {σ : List IObj}
set_option maxRecDepth 20000 in
theorem jeH (H : FTab F) {k a : Nat} {s : List UInt8} (hl : s.length <= 20000) (hq : σ[q]? = some (.cells (LP true tx a er))) : ∀ (m i : Nat) (f0 : Nat -> Option (Nat × IVal)) (wr : List (Nat × Bool)) (R : Option (IExit × St)), evw F (.loop yu) ⟨E 19 9 5 [] f0, σ, wr⟩ = R -> i + m = s.length -> spn k s = i + spn k (s.drop i) -> f0 0 = some (0, .ptr q 0) -> f0 1 = some (1, B k) -> f0 5 = some (5, .str s) -> f0 17 = some (17, I s.length) -> f0 18 = some (18, I i) -> Fl wr ->
   ∃ f1 wr1, Fl wr1 /\ ((R = some (.ret, ⟨E 19 9 5 [] (base f1), σ, wr1⟩) /\ f1 4 = some (4, I (spn k s))) \/ (R = some (.exit 0, ⟨E 19 9 5 [] (base f1), σ, wr1⟩) /\ f1 5 = some (5, .str s) /\ spn k s = s.length)) := by
 intro m
 induction m with
 | zero =>
   intro i f0 wr R hE hm hi e0 e1 e5 e17 e18 hw
   have d1 : decide ((i : Int) < (s.length : Nat)) = false := rE (by omega)
   change evw F (.loop yu) ⟨E 19 9 5 [] (base f0), σ, wr⟩ = R at hE
   rw [jI] at hE
   simp only [yu, e0, e1, e5, e17, e18, d1, jA, Option.toList, jp, nat, j0, jO, jY, jr, lc0, lc1, jD, jE, jF, jG, j5, j6, ju, jt, jv, zV, zS, jC, jQ, jb, jh, jU, je, jk, jd, jx, jR, jj, ji, jo, jP, jy, jw, Ts.fill, jV, jT, jf, jW, jn, jl, jg, jc, getAll, stepCall, jm, unI, Opd.get, jB, tag, jz, ja, jN, rv, bin, jX, Nat.reduceAdd, Nat.reduceSub, Nat.reduceMul, Nat.reduceDiv, Nat.reduceMod, Nat.reducePow, Nat.reduceLT, Nat.reduceLeDiff, Nat.reduceEqDiff, Nat.reduceBEq, Nat.reduceBNe, reduceIte, Int.reduceEq, Int.reduceLT, Int.reduceLE, Int.reduceNeg, Int.reduceToNat, Int.reduceMul, Int.reduceAdd, Int.reduceSub, Int.reduceBEq, Int.reduceBNe, reduceCtorEq] at hE
   refine ⟨_, _, hw, Or.inr ⟨hE.symm, (by first | exact e5 | rfl), ?_⟩⟩
   rw [hi, tN (by omega)]
   show i + 0 = _
   omega
 | succ m ih =>
   intro i f0 wr R hE hm hi e0 e1 e5 e17 e18 hw
   obtain ⟨c, hg⟩ := qf (l := s) (i := i) (by omega)
   have d1 : decide ((i : Int) < (s.length : Nat)) = true := rB (by omega)
   have d2 : (0 : Int) <= (i : Int) := by omega
   have hc : c.toNat < 256 := c.toNat_lt
   have w1 := yU (n := i) (by omega)
   obtain ⟨wa, u1, g1⟩ := jau H (k := k) hc hq
   change evw F (.loop yu) ⟨E 19 9 5 [] (base f0), σ, wr⟩ = R at hE
   rw [kL hg, Jx] at hi
   rw [jI] at hE
   cases hb : isS k c.toNat with
   | true =>
     rw [hb] at u1 hi
     simp only [yu, e0, e1, e5, e17, e18, d1, d2, hg, u1, w1, rI, jA, Option.toList, jp, nat, j0, jO, jY, jr, lc0, lc1, jD, jE, jF, jG, j5, j6, ju, jt, jv, zV, zS, jC, jQ, jb, jh, jU, je, jk, jd, jx, jR, jj, ji, jo, jP, jy, jw, Ts.fill, jV, jT, jf, jW, jn, jl, jg, jc, getAll, stepCall, jm, unI, Opd.get, jB, tag, jz, ja, jN, rv, bin, jX, Nat.reduceAdd, Nat.reduceSub, Nat.reduceMul, Nat.reduceDiv, Nat.reduceMod, Nat.reducePow, Nat.reduceLT, Nat.reduceLeDiff, Nat.reduceEqDiff, Nat.reduceBEq, Nat.reduceBNe, reduceIte, Int.reduceEq, Int.reduceLT, Int.reduceLE, Int.reduceNeg, Int.reduceToNat, Int.reduceMul, Int.reduceAdd, Int.reduceSub, Int.reduceBEq, Int.reduceBNe, reduceCtorEq] at hE
     exact ih (i + 1) _ _ _ hE (by omega) (by rw [hi, if_pos rfl]; omega) (by first | exact e0 | rfl) (by first | exact e1 | rfl) (by first | exact e5 | rfl) (by first | exact e17 | rfl) (by rfl) (j7 g1 hw)
   | false =>
     rw [hb] at u1 hi
     simp only [yu, e0, e1, e5, e17, e18, d1, d2, hg, u1, w1, rI, jA, Option.toList, jp, nat, j0, jO, jY, jr, lc0, lc1, jD, jE, jF, jG, j5, j6, ju, jt, jv, zV, zS, jC, jQ, jb, jh, jU, je, jk, jd, jx, jR, jj, ji, jo, jP, jy, jw, Ts.fill, jV, jT, jf, jW, jn, jl, jg, jc, getAll, stepCall, jm, unI, Opd.get, jB, tag, jz, ja, jN, rv, bin, jX, Nat.reduceAdd, Nat.reduceSub, Nat.reduceMul, Nat.reduceDiv, Nat.reduceMod, Nat.reducePow, Nat.reduceLT, Nat.reduceLeDiff, Nat.reduceEqDiff, Nat.reduceBEq, Nat.reduceBNe, reduceIte, Int.reduceEq, Int.reduceLT, Int.reduceLE, Int.reduceNeg, Int.reduceToNat, Int.reduceMul, Int.reduceAdd, Int.reduceSub, Int.reduceBEq, Int.reduceBNe, reduceCtorEq] at hE
     have hi : spn k s = i := hi
     exact ⟨_, _, j7 g1 hw, Or.inl ⟨hE.symm, by rw [hi]; rfl⟩⟩
theorem jdu (H : FTab F) (h60 : F 60 = some jdC) {k a : Nat} (hl : tx.length <= 20000) (ha : a <= tx.length) (hq : σ[q]? = some (.cells (LP true tx a er))) :
   ∃ wr, cfw F (.f 60) [.ptr q 0, B k] σ = some ⟨false, I (spn k (tx.drop a)), σ, wr⟩ /\ Fl wr := by
 rw [cfw_of jdC h60, jw]
 have d2 : (0 : Int) <= (a : Int) := by omega
 simp only [jdC, hq, d2, ha, rI, jA, Option.toList, jp, nat, j0, jO, jY, jr, lc0, lc1, jD, jE, jF, jG, j5, j6, ju, jt, jv, zV, zS, jC, jQ, jb, jh, jU, je, jk, jd, jx, jR, jj, ji, jo, jP, jy, jw, Ts.fill, jV, jT, jf, jW, jn, jl, jg, jc, getAll, stepCall, jm, unI, Opd.get, jB, tag, jz, ja, jN, rv, bin, jX, Nat.reduceAdd, Nat.reduceSub, Nat.reduceMul, Nat.reduceDiv, Nat.reduceMod, Nat.reducePow, Nat.reduceLT, Nat.reduceLeDiff, Nat.reduceEqDiff, Nat.reduceBEq, Nat.reduceBNe, reduceIte, Int.reduceEq, Int.reduceLT, Int.reduceLE, Int.reduceNeg, Int.reduceToNat, Int.reduceMul, Int.reduceAdd, Int.reduceSub, Int.reduceBEq, Int.reduceBNe, reduceCtorEq]
 generalize hE : evw F (ICode.loop yu) _ = R
 obtain ⟨f1, wr1, gw, ⟨rfl, e4⟩ | ⟨rfl, e5, e6⟩⟩ := jeH H (k := k) (s := tx.drop a) (by rw [List.length_drop]; omega) hq (tx.drop a).length 0 _ _ _ hE (by omega) (by rw [List.drop_zero]; omega) (by rfl) (by rfl) (by rfl) (by rfl) (by rfl) rfl
 . simp only [e4, j8 gw, jA, Option.toList, jp, nat, j0, jO, jY, jr, lc0, lc1, jD, jE, jF, jG, j5, j6, ju, jt, jv, zV, zS, jC, jQ, jb, jh, jU, je, jk, jd, jx, jR, jj, ji, jo, jP, jy, jw, Ts.fill, jV, jT, jf, jW, jn, jl, jg, jc, getAll, stepCall, jm, unI, Opd.get, jB, tag, jz, ja, jN, rv, bin, jX, Nat.reduceAdd, Nat.reduceSub, Nat.reduceMul, Nat.reduceDiv, Nat.reduceMod, Nat.reducePow, Nat.reduceLT, Nat.reduceLeDiff, Nat.reduceEqDiff, Nat.reduceBEq, Nat.reduceBNe, reduceIte, Int.reduceEq, Int.reduceLT, Int.reduceLE, Int.reduceNeg, Int.reduceToNat, Int.reduceMul, Int.reduceAdd, Int.reduceSub, Int.reduceBEq, Int.reduceBNe, reduceCtorEq]
   exact ⟨_, rfl, jZ gw⟩
 . simp only [e5, j8 gw, jA, Option.toList, jp, nat, j0, jO, jY, jr, lc0, lc1, jD, jE, jF, jG, j5, j6, ju, jt, jv, zV, zS, jC, jQ, jb, jh, jU, je, jk, jd, jx, jR, jj, ji, jo, jP, jy, jw, Ts.fill, jV, jT, jf, jW, jn, jl, jg, jc, getAll, stepCall, jm, unI, Opd.get, jB, tag, jz, ja, jN, rv, bin, jX, Nat.reduceAdd, Nat.reduceSub, Nat.reduceMul, Nat.reduceDiv, Nat.reduceMod, Nat.reducePow, Nat.reduceLT, Nat.reduceLeDiff, Nat.reduceEqDiff, Nat.reduceBEq, Nat.reduceBNe, reduceIte, Int.reduceEq, Int.reduceLT, Int.reduceLE, Int.reduceNeg, Int.reduceToNat, Int.reduceMul, Int.reduceAdd, Int.reduceSub, Int.reduceBEq, Int.reduceBNe, reduceCtorEq]
   rw [e6]
   exact ⟨_, rfl, jZ gw⟩
abbrev TC (k : Int) (a ln : Nat) (t : List UInt8) (n : Int) : List IVal := [I k, I a, I ln, .str t, I n]
set_option maxRecDepth 20000 in
theorem jeP (H : FSkp F) (h39 : F 39 = some jdB) (h60 : F 60 = some jdC) {a p ln : Nat} (hl : tx.length <= 20000) (ha : a <= tx.length) (hq : σ[q]? = some (.cells (LP true tx a er))) (hp : σ[p]? = some (.cells (TC 0 a ln [] 0))) (hne : p ≠ q) :
   ∃ wr, Fl wr /\ cfw F (.f 39) [.ptr q 0, .ptr p 0] σ = some ⟨false, .tup [], if spn 6 (tx.drop a) > 16 then σ.set q (.cells (LP true tx a (.iface 56 (.pv false [I 4, I a] 0)))) else (σ.set q (.cells (LP true tx (a + spn 6 (tx.drop a)) er))).set p (.cells (TC 1 a ln ((tx.take (a + spn 6 (tx.drop a))).drop a) 0)), wr⟩ := by
 rw [cfw_of jdB h39, jw]
 obtain ⟨w1, u1, g1⟩ := jdu H.toFTab h60 (k := 6) hl ha hq
 have u1 : cfw F (.f 60) [.ptr q 0, .int .u8 6] σ = _ := u1
 have hsp := Xq 6 (tx.drop a)
 rw [List.length_drop] at hsp
 by_cases h16 : spn 6 (tx.drop a) > 16
 . have d1 : decide (((spn 6 (tx.drop a) : Nat) : Int) > 16) = true := rB (by omega)
   obtain ⟨w2, u2, g2⟩ := Kv H.h42 (c := 4) (p := a) hq
   simp only [jdB, u1, u2, d1, hq, j8 g2, take_set, jA, Option.toList, jp, nat, j0, jO, jY, jr, lc0, lc1, jD, jE, jF, jG, j5, j6, ju, jt, jv, zV, zS, jC, jQ, jb, jh, jU, je, jk, jd, jx, jR, jj, ji, jo, jP, jy, jw, Ts.fill, jV, jT, jf, jW, jn, jl, jg, jc, getAll, stepCall, jm, unI, Opd.get, jB, tag, jz, ja, jN, rv, bin, jX, Nat.reduceAdd, Nat.reduceSub, Nat.reduceMul, Nat.reduceDiv, Nat.reduceMod, Nat.reducePow, Nat.reduceLT, Nat.reduceLeDiff, Nat.reduceEqDiff, Nat.reduceBEq, Nat.reduceBNe, reduceIte, Int.reduceEq, Int.reduceLT, Int.reduceLE, Int.reduceNeg, Int.reduceToNat, Int.reduceMul, Int.reduceAdd, Int.reduceSub, Int.reduceBEq, Int.reduceBNe, reduceCtorEq]
   rw [if_pos h16, j8 (j7 g2 g1)]
   exact ⟨_, jZ (j7 g2 g1), rfl⟩
 . have d1 : decide (((spn 6 (tx.drop a) : Nat) : Int) > 16) = false := rE (by omega)
   obtain ⟨w2, u2, g2⟩ := Q5 H.h55 H.h15 (n := spn 6 (tx.drop a)) (by omega) hl hq
   have gp := get_set (x := .cells (LP true tx (a + spn 6 (tx.drop a)) er)) hp (j := q) (fun e => hne e.symm)
   have gp2 := gs gp (y := .cells (TC 1 a ln [] 0))
   have lt2 : ∀ x : IObj, ((σ.set q (.cells (LP true tx (a + spn 6 (tx.drop a)) er))).set p x).take σ.length = (σ.set q (.cells (LP true tx (a + spn 6 (tx.drop a)) er))).set p x := fun x => by rw [rU (by simp)]
   simp only [jdB, u1, u2, d1, gp, gp2, lt2, r7, jA, Option.toList, jp, nat, j0, jO, jY, jr, lc0, lc1, jD, jE, jF, jG, j5, j6, ju, jt, jv, zV, zS, jC, jQ, jb, jh, jU, je, jk, jd, jx, jR, jj, ji, jo, jP, jy, jw, Ts.fill, jV, jT, jf, jW, jn, jl, jg, jc, getAll, stepCall, jm, unI, Opd.get, jB, tag, jz, ja, jN, rv, bin, jX, Nat.reduceAdd, Nat.reduceSub, Nat.reduceMul, Nat.reduceDiv, Nat.reduceMod, Nat.reducePow, Nat.reduceLT, Nat.reduceLeDiff, Nat.reduceEqDiff, Nat.reduceBEq, Nat.reduceBNe, reduceIte, Int.reduceEq, Int.reduceLT, Int.reduceLE, Int.reduceNeg, Int.reduceToNat, Int.reduceMul, Int.reduceAdd, Int.reduceSub, Int.reduceBEq, Int.reduceBNe, reduceCtorEq]
   rw [if_neg h16]
   rw [j8 (j7 g2 g1)]
   refine ⟨_, ?_, rfl⟩
   have := j7 g2 g1
   repeat (first | exact jZ this | apply V5 | apply JL)
end
end Go.Idl.Lx
namespace Go.Idl.Lx
open Go Go.Idl Go.Idl.En
variable {F : kb}
theorem jdU {s : List UInt8} {i : Nat} {b : UInt8} (h : s[i]? = some b) (hb : 128 <= b.toNat) : 128 <= (Utf8.decode ⟨s.toArray⟩ i).1 := by
 have e : (ByteArray.get! ⟨s.toArray⟩ (i + 0)).toNat = b.toNat := by
   have : (ByteArray.get! ⟨s.toArray⟩ (i + 0)) = s.toArray[i]! := rfl
   rw [this]; simp [h]
 unfold Utf8.decode
 simp only [e, Utf8.runeError]
 rw [if_neg (by omega)]
 repeat' split
 all_goals (first | (simp only; omega) | (rename_i hh; simp only [Bool.and_eq_true, decide_eq_true_eq] at hh; simp only; omega))
theorem jaf {n : Int} (hn : 128 <= n) : ∃ pre b, (Utf8.encode n).data.toList = pre ++ [b] /\ 128 <= b.toNat /\ pre.length <= 3 := by
 have hc : ∃ c, (if Utf8.valid n then n.toNat else Utf8.runeError) = c /\ 128 <= c := by
   refine ⟨_, rfl, ?_⟩
   split
   . omega
   . decide
 obtain ⟨c, hc, h⟩ := hc
 unfold Utf8.encode
 simp only [hc]
 have hu : ∀ k, k < 64 -> (UInt8.ofNat (0x80 + k)).toNat = 0x80 + k := fun k hk => by simp; omega
 rw [if_neg (by omega)]
 split
 . exact ⟨[_], _, rfl, by rw [hu _ (by omega)]; omega, by simp⟩
 . split
   . exact ⟨[_, _], _, rfl, by rw [hu _ (by omega)]; omega, by simp⟩
   . exact ⟨[_, _, _], _, rfl, by rw [hu _ (by omega)]; omega, by simp⟩
theorem Qy {c : Nat} (hc : 128 <= c) : ∀ (s : List UInt8) (k : Nat), (∀ b ∈ s, b.toNat < 128) -> Va c s k = -1
 | [], _, _ => rfl
 | b :: s, k, h => by
   have : Nat.beq b.toNat c = false := by rw [<- Bool.not_eq_true]; intro e; have := Nat.eq_of_beq_eq_true e; have := h b (by simp); omega
   rw [Va, this]
   exact Qy hc s (k + 1) fun x hx => h x (by simp [hx])
section
variable {σ : List IObj} {s : List UInt8}
theorem jgg (h : F 88 = some Z2) (r : Int) (σ : List IObj) : ∃ b, cfw F (.f 88) [.int .i32 r] σ = some ⟨false, .bool b, σ, []⟩ := by
 rw [cfw_of Z2 h, jw]
 by_cases h1 : 0 <= r
 . have d1 : decide ((0 : Int) <= r) = true := rB h1
   by_cases h2 : r < 55296
   . have d2 : decide (r < 55296) = true := rB h2
     simp only [Z2, d1, d2, jk, jA, Option.toList, jp, nat, j0, jO, jY, jr, lc0, lc1, jD, jE, jF, jG, j5, j6, ju, jt, jv, zV, zS, jC, jQ, jb, jh, jU, je, jd, jx, jR, jj, ji, jo, jP, jy, jw, Ts.fill, jV, jT, jf, jW, jn, jl, jg, jc, getAll, stepCall, jm, unI, Opd.get, jB, tag, jz, ja, jN, rv, bin, jX, Nat.reduceAdd, Nat.reduceSub, Nat.reduceMul, Nat.reduceDiv, Nat.reduceMod, Nat.reducePow, Nat.reduceLT, Nat.reduceLeDiff, Nat.reduceEqDiff, Nat.reduceBEq, Nat.reduceBNe, reduceIte, Int.reduceEq, Int.reduceLT, Int.reduceLE, Int.reduceNeg, Int.reduceToNat, Int.reduceMul, Int.reduceAdd, Int.reduceSub, Int.reduceBEq, Int.reduceBNe, reduceCtorEq]; exact ⟨_, rfl⟩
   . have d2 : decide (r < 55296) = false := rE h2
     by_cases h3 : 57343 < r
     . have d3 : decide (57343 < r) = true := rB h3
       by_cases h4 : r <= 1114111
       . have d4 : decide (r <= 1114111) = true := rB h4
         simp only [Z2, d1, d2, d3, d4, jk, jA, Option.toList, jp, nat, j0, jO, jY, jr, lc0, lc1, jD, jE, jF, jG, j5, j6, ju, jt, jv, zV, zS, jC, jQ, jb, jh, jU, je, jd, jx, jR, jj, ji, jo, jP, jy, jw, Ts.fill, jV, jT, jf, jW, jn, jl, jg, jc, getAll, stepCall, jm, unI, Opd.get, jB, tag, jz, ja, jN, rv, bin, jX, Nat.reduceAdd, Nat.reduceSub, Nat.reduceMul, Nat.reduceDiv, Nat.reduceMod, Nat.reducePow, Nat.reduceLT, Nat.reduceLeDiff, Nat.reduceEqDiff, Nat.reduceBEq, Nat.reduceBNe, reduceIte, Int.reduceEq, Int.reduceLT, Int.reduceLE, Int.reduceNeg, Int.reduceToNat, Int.reduceMul, Int.reduceAdd, Int.reduceSub, Int.reduceBEq, Int.reduceBNe, reduceCtorEq]; exact ⟨_, rfl⟩
       . have d4 : decide (r <= 1114111) = false := rE h4
         simp only [Z2, d1, d2, d3, d4, jk, jA, Option.toList, jp, nat, j0, jO, jY, jr, lc0, lc1, jD, jE, jF, jG, j5, j6, ju, jt, jv, zV, zS, jC, jQ, jb, jh, jU, je, jd, jx, jR, jj, ji, jo, jP, jy, jw, Ts.fill, jV, jT, jf, jW, jn, jl, jg, jc, getAll, stepCall, jm, unI, Opd.get, jB, tag, jz, ja, jN, rv, bin, jX, Nat.reduceAdd, Nat.reduceSub, Nat.reduceMul, Nat.reduceDiv, Nat.reduceMod, Nat.reducePow, Nat.reduceLT, Nat.reduceLeDiff, Nat.reduceEqDiff, Nat.reduceBEq, Nat.reduceBNe, reduceIte, Int.reduceEq, Int.reduceLT, Int.reduceLE, Int.reduceNeg, Int.reduceToNat, Int.reduceMul, Int.reduceAdd, Int.reduceSub, Int.reduceBEq, Int.reduceBNe, reduceCtorEq]; exact ⟨_, rfl⟩
     . have d3 : decide (57343 < r) = false := rE h3
       simp only [Z2, d1, d2, d3, jk, jA, Option.toList, jp, nat, j0, jO, jY, jr, lc0, lc1, jD, jE, jF, jG, j5, j6, ju, jt, jv, zV, zS, jC, jQ, jb, jh, jU, je, jd, jx, jR, jj, ji, jo, jP, jy, jw, Ts.fill, jV, jT, jf, jW, jn, jl, jg, jc, getAll, stepCall, jm, unI, Opd.get, jB, tag, jz, ja, jN, rv, bin, jX, Nat.reduceAdd, Nat.reduceSub, Nat.reduceMul, Nat.reduceDiv, Nat.reduceMod, Nat.reducePow, Nat.reduceLT, Nat.reduceLeDiff, Nat.reduceEqDiff, Nat.reduceBEq, Nat.reduceBNe, reduceIte, Int.reduceEq, Int.reduceLT, Int.reduceLE, Int.reduceNeg, Int.reduceToNat, Int.reduceMul, Int.reduceAdd, Int.reduceSub, Int.reduceBEq, Int.reduceBNe, reduceCtorEq]; exact ⟨_, rfl⟩
 . have d1 : decide ((0 : Int) <= r) = false := rE h1
   have d3 : decide (57343 < r) = false := rE (by omega)
   simp only [Z2, d1, d3, jk, jA, Option.toList, jp, nat, j0, jO, jY, jr, lc0, lc1, jD, jE, jF, jG, j5, j6, ju, jt, jv, zV, zS, jC, jQ, jb, jh, jU, je, jd, jx, jR, jj, ji, jo, jP, jy, jw, Ts.fill, jV, jT, jf, jW, jn, jl, jg, jc, getAll, stepCall, jm, unI, Opd.get, jB, tag, jz, ja, jN, rv, bin, jX, Nat.reduceAdd, Nat.reduceSub, Nat.reduceMul, Nat.reduceDiv, Nat.reduceMod, Nat.reducePow, Nat.reduceLT, Nat.reduceLeDiff, Nat.reduceEqDiff, Nat.reduceBEq, Nat.reduceBNe, reduceIte, Int.reduceEq, Int.reduceLT, Int.reduceLE, Int.reduceNeg, Int.reduceToNat, Int.reduceMul, Int.reduceAdd, Int.reduceSub, Int.reduceBEq, Int.reduceBNe, reduceCtorEq]; exact ⟨_, rfl⟩
set_option maxRecDepth 20000 in
theorem jeJ (hs : ∀ b ∈ s, b.toNat < 128) (hl : s.length < 1000) : ∀ (m i : Nat) (f0 : Nat -> Option (Nat × IVal)) (wr : List (Nat × Bool)) (R : Option (IExit × St)), evw F (.loop ze) ⟨E 184 3 8 [] f0, σ ++ [.it s i], wr⟩ = R -> i + m = s.length -> f0 175 = some (175, .ptr σ.length 0) -> Fl wr ->
   ∃ f1 wr1, Fl wr1 /\ R = some (.exit 9, ⟨E 184 3 8 [] (base f1), σ ++ [.it s s.length], wr1⟩) := by
 intro m
 induction m with
 | zero =>
   intro i f0 wr R hE hm e hw
   have hi : i = s.length := by omega
   subst hi
   have hg : s[s.length]? = none := by simp
   change evw F (.loop ze) ⟨E 184 3 8 [] (base f0), σ ++ [.it s s.length], wr⟩ = R at hE
   rw [jI] at hE
   simp only [ze, e, hg, jA, Option.toList, jp, nat, j0, jO, jY, jr, lc0, lc1, jD, jE, jF, jG, j5, j6, ju, jt, jv, zV, zS, jC, jQ, jb, jh, jU, je, jk, jd, jx, jR, jj, ji, jo, jP, jy, jw, Ts.fill, jV, jT, jf, jW, jn, jl, jg, jc, getAll, stepCall, jm, unI, Opd.get, jB, tag, jz, ja, jN, rv, bin, jX, Nat.reduceAdd, Nat.reduceSub, Nat.reduceMul, Nat.reduceDiv, Nat.reduceMod, Nat.reducePow, Nat.reduceLT, Nat.reduceLeDiff, Nat.reduceEqDiff, Nat.reduceBEq, Nat.reduceBNe, reduceIte, Int.reduceEq, Int.reduceLT, Int.reduceLE, Int.reduceNeg, Int.reduceToNat, Int.reduceMul, Int.reduceAdd, Int.reduceSub, Int.reduceBEq, Int.reduceBNe, reduceCtorEq] at hE
   exact ⟨_, _, hw, hE.symm⟩
 | succ m ih =>
   intro i f0 wr R hE hm e hw
   obtain ⟨c, hg⟩ := qf (l := s) (i := i) (by omega)
   have hc := hs c (List.mem_of_getElem? hg)
   have b1 : ((c.toNat : Int) == 65533) = false := by rw [beq_eq_false_iff_ne]; omega
   change evw F (.loop ze) ⟨E 184 3 8 [] (base f0), σ ++ [.it s i], wr⟩ = R at hE
   rw [jI] at hE
   simp only [ze, e, hg, hc, b1, jA, Option.toList, jp, nat, j0, jO, jY, jr, lc0, lc1, jD, jE, jF, jG, j5, j6, ju, jt, jv, zV, zS, jC, jQ, jb, jh, jU, je, jk, jd, jx, jR, jj, ji, jo, jP, jy, jw, Ts.fill, jV, jT, jf, jW, jn, jl, jg, jc, getAll, stepCall, jm, unI, Opd.get, jB, tag, jz, ja, jN, rv, bin, jX, Nat.reduceAdd, Nat.reduceSub, Nat.reduceMul, Nat.reduceDiv, Nat.reduceMod, Nat.reducePow, Nat.reduceLT, Nat.reduceLeDiff, Nat.reduceEqDiff, Nat.reduceBEq, Nat.reduceBNe, reduceIte, Int.reduceEq, Int.reduceLT, Int.reduceLE, Int.reduceNeg, Int.reduceToNat, Int.reduceMul, Int.reduceAdd, Int.reduceSub, Int.reduceBEq, Int.reduceBNe, reduceCtorEq] at hE
   exact ih (i + 1) _ _ _ hE (by omega) (by first | exact e | rfl) (by simpa using hw)
set_option maxRecDepth 20000 in
theorem je4 (h : F 76 = some jby) (h12 : F 12 = some jdx) (h26 : F 26 = some Z1) (h88 : F 88 = some Z2) (hs : ∀ b ∈ s, b.toNat < 128) (h4 : 4 <= s.length) (hl : s.length < 1000) (r : Nat) :
   ∃ wr, cfw F (.f 76) [.str s, .int .i32 r] σ = some ⟨false, I (if r < 128 then Va r s 0 else -1), σ, wr⟩ /\ Fl wr := by
 rw [cfw_of jby h, jw]
 have d1 : decide ((0 : Int) <= (r : Int)) = true := rB (by omega)
 by_cases h1 : r < 128
 . have d2 : decide ((r : Int) < 128) = true := rB (by omega)
   have w1 : IntKind.u8.wrap (r : Int) = (r : Int) := by rw [vD]; omega
   have u := jgk h12 h26 (σ := σ) (s := s) (c := r) (by omega)
   rw [if_pos h1]
   simp only [jby, d1, d2, w1, u, jk, jA, Option.toList, jp, nat, j0, jO, jY, jr, lc0, lc1, jD, jE, jF, jG, j5, j6, ju, jt, jv, zV, zS, jC, jQ, jb, jh, jU, je, jd, jx, jR, jj, ji, jo, jP, jy, jw, Ts.fill, jV, jT, jf, jW, jn, jl, jg, jc, getAll, stepCall, jm, unI, Opd.get, jB, tag, jz, ja, jN, rv, bin, jX, Nat.reduceAdd, Nat.reduceSub, Nat.reduceMul, Nat.reduceDiv, Nat.reduceMod, Nat.reducePow, Nat.reduceLT, Nat.reduceLeDiff, Nat.reduceEqDiff, Nat.reduceBEq, Nat.reduceBNe, reduceIte, Int.reduceEq, Int.reduceLT, Int.reduceLE, Int.reduceNeg, Int.reduceToNat, Int.reduceMul, Int.reduceAdd, Int.reduceSub, Int.reduceBEq, Int.reduceBNe, reduceCtorEq]
   exact ⟨_, rfl, rfl⟩
 . have d2 : decide ((r : Int) < 128) = false := rE (by omega)
   rw [if_neg h1]
   by_cases h2 : r = 65533
   . subst h2
     have b1 : (((65533 : Nat) : Int) == 65533) = true := rfl
     simp only [jby, d1, d2, b1, jk, jA, Option.toList, jp, nat, j0, jO, jY, jr, lc0, lc1, jD, jE, jF, jG, j5, j6, ju, jt, jv, zV, zS, jC, jQ, jb, jh, jU, je, jd, jx, jR, jj, ji, jo, jP, jy, jw, Ts.fill, jV, jT, jf, jW, jn, jl, jg, jc, getAll, stepCall, jm, unI, Opd.get, jB, tag, jz, ja, jN, rv, bin, jX, Nat.reduceAdd, Nat.reduceSub, Nat.reduceMul, Nat.reduceDiv, Nat.reduceMod, Nat.reducePow, Nat.reduceLT, Nat.reduceLeDiff, Nat.reduceEqDiff, Nat.reduceBEq, Nat.reduceBNe, reduceIte, Int.reduceEq, Int.reduceLT, Int.reduceLE, Int.reduceNeg, Int.reduceToNat, Int.reduceMul, Int.reduceAdd, Int.reduceSub, Int.reduceBEq, Int.reduceBNe, reduceCtorEq]
     generalize hE : evw F (ICode.loop ze) _ = R
     obtain ⟨f1, wr1, gw, rfl⟩ := jeJ hs hl s.length 0 _ _ _ hE (by omega) (by rfl) rfl
     simp only [jA, Option.toList, jp, nat, j0, jO, jY, jr, lc0, lc1, jD, jE, jF, jG, j5, j6, ju, jt, jv, zV, zS, jC, jQ, jb, jh, jU, je, jk, jd, jx, jR, jj, ji, jo, jP, jy, jw, Ts.fill, jV, jT, jf, jW, jn, jl, jg, jc, getAll, stepCall, jm, unI, Opd.get, jB, tag, jz, ja, jN, rv, bin, jX, Nat.reduceAdd, Nat.reduceSub, Nat.reduceMul, Nat.reduceDiv, Nat.reduceMod, Nat.reducePow, Nat.reduceLT, Nat.reduceLeDiff, Nat.reduceEqDiff, Nat.reduceBEq, Nat.reduceBNe, reduceIte, Int.reduceEq, Int.reduceLT, Int.reduceLE, Int.reduceNeg, Int.reduceToNat, Int.reduceMul, Int.reduceAdd, Int.reduceSub, Int.reduceBEq, Int.reduceBNe, reduceCtorEq]
     rw [j8 gw]
     exact ⟨_, rfl, jZ gw⟩
   . have b1 : ((r : Int) == 65533) = false := by rw [beq_eq_false_iff_ne]; omega
     obtain ⟨b, u⟩ := jgg h88 (r : Int) σ
     cases b with
     | false =>
       simp only [jby, d1, d2, b1, u, jk, jA, Option.toList, jp, nat, j0, jO, jY, jr, lc0, lc1, jD, jE, jF, jG, j5, j6, ju, jt, jv, zV, zS, jC, jQ, jb, jh, jU, je, jd, jx, jR, jj, ji, jo, jP, jy, jw, Ts.fill, jV, jT, jf, jW, jn, jl, jg, jc, getAll, stepCall, jm, unI, Opd.get, jB, tag, jz, ja, jN, rv, bin, jX, Nat.reduceAdd, Nat.reduceSub, Nat.reduceMul, Nat.reduceDiv, Nat.reduceMod, Nat.reducePow, Nat.reduceLT, Nat.reduceLeDiff, Nat.reduceEqDiff, Nat.reduceBEq, Nat.reduceBNe, reduceIte, Int.reduceEq, Int.reduceLT, Int.reduceLE, Int.reduceNeg, Int.reduceToNat, Int.reduceMul, Int.reduceAdd, Int.reduceSub, Int.reduceBEq, Int.reduceBNe, reduceCtorEq]
       exact ⟨_, rfl, rfl⟩
     | true =>
       obtain ⟨pre, b, he, hb, hp⟩ := jaf (n := (r : Int)) (by omega)
       obtain ⟨x, hg⟩ := qf (l := s) (i := pre.length) (by omega)
       have hx := hs x (List.mem_of_getElem? hg)
       have nr : ¬ ((0 : Int) <= (r : Int) /\ (r : Int) < 128) := by omega
       have hl2 : (pre ++ [b]).length = pre.length + 1 := by simp
       have w1 : IntKind.i64.wrap (((pre.length + 1 : Nat) : Int) - 1) = (pre.length : Int) := by rw [qe (by omega) (by omega)]; omega
       have w2 := yU (n := pre.length) (by omega)
       have hb2 : (pre ++ [b])[pre.length]? = some b := by simp
       have d3 : decide ((pre.length : Int) < (s.length : Int)) = true := rB (by omega)
       have d4 : (0 : Int) <= (pre.length : Int) := by omega
       have d5 : (0 : Int) <= ((pre.length + 1 : Nat) : Int) := by omega
       have d6 : pre.length + 1 <= s.length := by omega
       have ne1 : ((x.toNat : Int) != (b.toNat : Int)) = true := by rw [bne_iff_ne]; omega
       have u2 := jgk h12 h26 (σ := σ) (s := s.drop (pre.length + 1)) (c := b.toNat) b.toNat_lt
       rw [Qy hb _ _ (fun y hy => hs y (tF hy))] at u2
       have d7 : decide ((-1 : Int) < 0) = true := rfl
       simp only [jby, d1, d2, b1, u, jk, jA, Option.toList, jp, nat, j0, jO, jY, jr, lc0, lc1, jD, jE, jF, jG, j5, j6, ju, jt, jv, zV, zS, jC, jQ, jb, jh, jU, je, jd, jx, jR, jj, ji, jo, jP, jy, jw, Ts.fill, jV, jT, jf, jW, jn, jl, jg, jc, getAll, stepCall, jm, unI, Opd.get, jB, tag, jz, ja, jN, rv, bin, jX, Nat.reduceAdd, Nat.reduceSub, Nat.reduceMul, Nat.reduceDiv, Nat.reduceMod, Nat.reducePow, Nat.reduceLT, Nat.reduceLeDiff, Nat.reduceEqDiff, Nat.reduceBEq, Nat.reduceBNe, reduceIte, Int.reduceEq, Int.reduceLT, Int.reduceLE, Int.reduceNeg, Int.reduceToNat, Int.reduceMul, Int.reduceAdd, Int.reduceSub, Int.reduceBEq, Int.reduceBNe, reduceCtorEq]
       rw [if_neg nr, he]
       generalize hrs : pre ++ [b] = rs at hl2 hb2 ⊢
       simp only [hl2, w1, jA, Option.toList, jp, nat, j0, jO, jY, jr, lc0, lc1, jD, jE, jF, jG, j5, j6, ju, jt, jv, zV, zS, jC, jQ, jb, jh, jU, je, jk, jd, jx, jR, jj, ji, jo, jP, jy, jw, Ts.fill, jV, jT, jf, jW, jn, jl, jg, jc, getAll, stepCall, jm, unI, Opd.get, jB, tag, jz, ja, jN, rv, bin, jX, Nat.reduceAdd, Nat.reduceSub, Nat.reduceMul, Nat.reduceDiv, Nat.reduceMod, Nat.reducePow, Nat.reduceLT, Nat.reduceLeDiff, Nat.reduceEqDiff, Nat.reduceBEq, Nat.reduceBNe, reduceIte, Int.reduceEq, Int.reduceLT, Int.reduceLE, Int.reduceNeg, Int.reduceToNat, Int.reduceMul, Int.reduceAdd, Int.reduceSub, Int.reduceBEq, Int.reduceBNe, reduceCtorEq]
       rw [jI]
       simp only [YX, hl2, w1, w2, hb2, hg, d3, d4, d5, d6, ne1, u2, d7, rI, jk, jA, Option.toList, jp, nat, j0, jO, jY, jr, lc0, lc1, jD, jE, jF, jG, j5, j6, ju, jt, jv, zV, zS, jC, jQ, jb, jh, jU, je, jd, jx, jR, jj, ji, jo, jP, jy, jw, Ts.fill, jV, jT, jf, jW, jn, jl, jg, jc, getAll, stepCall, jm, unI, Opd.get, jB, tag, jz, ja, jN, rv, bin, jX, Nat.reduceAdd, Nat.reduceSub, Nat.reduceMul, Nat.reduceDiv, Nat.reduceMod, Nat.reducePow, Nat.reduceLT, Nat.reduceLeDiff, Nat.reduceEqDiff, Nat.reduceBEq, Nat.reduceBNe, reduceIte, Int.reduceEq, Int.reduceLT, Int.reduceLE, Int.reduceNeg, Int.reduceToNat, Int.reduceMul, Int.reduceAdd, Int.reduceSub, Int.reduceBEq, Int.reduceBNe, reduceCtorEq]
       exact ⟨_, rfl, rfl⟩
end
end Go.Idl.Lx
namespace Go.Idl.Lx
open Go Go.Idl Go.Idl.En
variable {F : kb}
def hexs : List UInt8 := [48, 49, 50, 51, 52, 53, 54, 55, 56, 57, 97, 98, 99, 100, 101, 102, 65, 66, 67, 68, 69, 70]
def cr (s : List UInt8) (r : Nat) : Bool := decide ((if r < 128 then Va r s 0 else -1) ≥ 0)
def oth (ba : Int) (r : Nat) : Bool := (ba == 10 && !cr digs r) || !cr hexs r
theorem jbQ {ba : Int} {r : Nat} (h : 128 <= r) : oth ba r = true := by
 have : cr hexs r = false := by rw [cr, if_neg (by omega)]; rfl
 rw [oth, this]; simp
theorem jeX : ∀ r : Nat, r < 256 -> oth 10 r = !decide (48 <= r /\ r <= 57) := by decide +kernel
structure FNum (F : kb) : Prop extends FSkp F where
 h12 : F 12 = some jdx
 h61 : F 61 = some jdD
 h62 : F 62 = some jfq
 h63 : F 63 = some jfr
 h76 : F 76 = some jby
 h77 : F 77 = some jft
 h88 : F 88 = some Z2
section
variable {σ : List IObj} {s : List UInt8}
set_option maxRecDepth 20000 in
theorem jdQ (H : FNum F) (hs : ∀ b ∈ s, b.toNat < 128) (h4 : 4 <= s.length) (hl : s.length < 1000) (r : Nat) : ∃ wr, cfw F (.f 62) [.str s, .int .i32 r] σ = some ⟨false, .bool (cr s r), σ, wr⟩ /\ Fl wr := by
 rw [cfw_of jfq H.h62, jw]
 obtain ⟨wr, u, gw⟩ := je4 H.h76 H.h12 H.h26 H.h88 hs h4 hl r (σ := σ)
 simp only [jfq, u, j8 gw, <- cr.eq_1, jA, Option.toList, jp, nat, j0, jO, jY, jr, lc0, lc1, jD, jE, jF, jG, j5, j6, ju, jt, jv, zV, zS, jC, jQ, jb, jh, jU, je, jk, jd, jx, jR, jj, ji, jo, jP, jy, jw, Ts.fill, jV, jT, jf, jW, jn, jl, jg, jc, getAll, stepCall, jm, unI, Opd.get, jB, tag, jz, ja, jN, rv, bin, jX, Nat.reduceAdd, Nat.reduceSub, Nat.reduceMul, Nat.reduceDiv, Nat.reduceMod, Nat.reducePow, Nat.reduceLT, Nat.reduceLeDiff, Nat.reduceEqDiff, Nat.reduceBEq, Nat.reduceBNe, reduceIte, Int.reduceEq, Int.reduceLT, Int.reduceLE, Int.reduceNeg, Int.reduceToNat, Int.reduceMul, Int.reduceAdd, Int.reduceSub, Int.reduceBEq, Int.reduceBNe, reduceCtorEq]
 exact ⟨_, rfl, jZ gw⟩
set_option maxRecDepth 20000 in
theorem jeW (H : FNum F) {bx : Nat} {ba : Int} (hb : σ[bx]? = some (.cells [I ba])) (r : Nat) : ∃ wr, cfw F (.f 61) [.int .i32 r, .ptr bx 0] σ = some ⟨false, .bool (oth ba r), σ, wr⟩ /\ Fl wr := by
 rw [cfw_of jdD H.h61, jw]
 obtain ⟨w1, u1, g1⟩ := jdQ H (s := digs) (by decide) (by decide) (by decide) r (σ := σ)
 obtain ⟨w2, u2, g2⟩ := jdQ H (s := hexs) (by decide) (by decide) (by decide) r (σ := σ)
 rw [oth]
 simp only [digs, hexs] at u1 u2
 rw [<- digs.eq_1] at u1
 rw [<- hexs.eq_1] at u2
 simp only [digs] at u1
 simp only [hexs] at u2
 cases e0 : (ba == 10) with
 | true =>
   cases e1 : cr [48, 49, 50, 51, 52, 53, 54, 55, 56, 57] r with
   | true =>
     have e1' : cr digs r = true := e1
     rw [e1] at u1
     simp only [jdD, hb, e0, u1, u2, jk, jA, Option.toList, jp, nat, j0, jO, jY, jr, lc0, lc1, jD, jE, jF, jG, j5, j6, ju, jt, jv, zV, zS, jC, jQ, jb, jh, jU, je, jd, jx, jR, jj, ji, jo, jP, jy, jw, Ts.fill, jV, jT, jf, jW, jn, jl, jg, jc, getAll, stepCall, jm, unI, Opd.get, jB, tag, jz, ja, jN, rv, bin, jX, Nat.reduceAdd, Nat.reduceSub, Nat.reduceMul, Nat.reduceDiv, Nat.reduceMod, Nat.reducePow, Nat.reduceLT, Nat.reduceLeDiff, Nat.reduceEqDiff, Nat.reduceBEq, Nat.reduceBNe, reduceIte, Int.reduceEq, Int.reduceLT, Int.reduceLE, Int.reduceNeg, Int.reduceToNat, Int.reduceMul, Int.reduceAdd, Int.reduceSub, Int.reduceBEq, Int.reduceBNe, reduceCtorEq]
     rw [j8 (j7 g2 g1), e1']
     exact ⟨_, rfl, jZ (j7 g2 g1)⟩
   | false =>
     have e1' : cr digs r = false := e1
     rw [e1] at u1
     simp only [jdD, hb, e0, u1, u2, jk, jA, Option.toList, jp, nat, j0, jO, jY, jr, lc0, lc1, jD, jE, jF, jG, j5, j6, ju, jt, jv, zV, zS, jC, jQ, jb, jh, jU, je, jd, jx, jR, jj, ji, jo, jP, jy, jw, Ts.fill, jV, jT, jf, jW, jn, jl, jg, jc, getAll, stepCall, jm, unI, Opd.get, jB, tag, jz, ja, jN, rv, bin, jX, Nat.reduceAdd, Nat.reduceSub, Nat.reduceMul, Nat.reduceDiv, Nat.reduceMod, Nat.reducePow, Nat.reduceLT, Nat.reduceLeDiff, Nat.reduceEqDiff, Nat.reduceBEq, Nat.reduceBNe, reduceIte, Int.reduceEq, Int.reduceLT, Int.reduceLE, Int.reduceNeg, Int.reduceToNat, Int.reduceMul, Int.reduceAdd, Int.reduceSub, Int.reduceBEq, Int.reduceBNe, reduceCtorEq]
     rw [j8 g1, e1']
     exact ⟨_, rfl, jZ g1⟩
 | false =>
   simp only [jdD, hb, e0, u1, u2, jk, jA, Option.toList, jp, nat, j0, jO, jY, jr, lc0, lc1, jD, jE, jF, jG, j5, j6, ju, jt, jv, zV, zS, jC, jQ, jb, jh, jU, je, jd, jx, jR, jj, ji, jo, jP, jy, jw, Ts.fill, jV, jT, jf, jW, jn, jl, jg, jc, getAll, stepCall, jm, unI, Opd.get, jB, tag, jz, ja, jN, rv, bin, jX, Nat.reduceAdd, Nat.reduceSub, Nat.reduceMul, Nat.reduceDiv, Nat.reduceMod, Nat.reducePow, Nat.reduceLT, Nat.reduceLeDiff, Nat.reduceEqDiff, Nat.reduceBEq, Nat.reduceBNe, reduceIte, Int.reduceEq, Int.reduceLT, Int.reduceLE, Int.reduceNeg, Int.reduceToNat, Int.reduceMul, Int.reduceAdd, Int.reduceSub, Int.reduceBEq, Int.reduceBNe, reduceCtorEq]
   rw [j8 g2]
   exact ⟨_, rfl, jZ g2⟩
def dgs (ba : Int) (s : List UInt8) : Nat := (s.takeWhile fun c => !oth ba c.toNat).length
theorem zp (ba : Int) (c : UInt8) (s : List UInt8) : dgs ba (c :: s) = if oth ba c.toNat then 0 else 1 + dgs ba s := by
 rw [dgs, List.takeWhile_cons]
 cases oth ba c.toNat with
 | true => rfl
 | false => simp [dgs]; omega
theorem Ks (ba : Int) : ∀ s : List UInt8, dgs ba s <= s.length
 | [] => rP _
 | c :: s => by rw [zp, tB]; have := Ks ba s; split <;> omega
set_option maxRecDepth 20000 in
theorem jeK (H : FNum F) {bx : Nat} {ba : Int} (hb : σ[bx]? = some (.cells [I ba])) (hl : s.length <= 20000) : ∀ (m i : Nat) (f0 : Nat -> Option (Nat × IVal)) (wr : List (Nat × Bool)) (R : Option (IExit × St)), evw F (.loop vY) ⟨E 12 5 5 [] f0, σ ++ [.it s i], wr⟩ = R -> i + m = s.length -> dgs ba s = i + dgs ba (s.drop i) -> f0 1 = some (1, .fn (.func 61) [] [.ptr bx 0]) -> f0 2 = some (2, .bool true) -> f0 10 = some (10, .ptr σ.length 0) -> Fl wr ->
   ∃ f1 wr1 k, Fl wr1 /\ ((R = some (.ret, ⟨E 12 5 5 [] (base f1), σ ++ [.it s k], wr1⟩) /\ f1 6 = some (6, I (dgs ba s)) /\ dgs ba s < s.length) \/ (R = some (.exit 0, ⟨E 12 5 5 [] (base f1), σ ++ [.it s k], wr1⟩) /\ dgs ba s = s.length)) := by
 intro m
 induction m with
 | zero =>
   intro i f0 wr R hE hm hd e1 e2 e10 hw
   have hi : i = s.length := by omega
   subst hi
   have hg : s[s.length]? = none := by simp
   change evw F (.loop vY) ⟨E 12 5 5 [] (base f0), σ ++ [.it s s.length], wr⟩ = R at hE
   rw [jI] at hE
   simp only [vY, e1, e2, e10, hg, jA, Option.toList, jp, nat, j0, jO, jY, jr, lc0, lc1, jD, jE, jF, jG, j5, j6, ju, jt, jv, zV, zS, jC, jQ, jb, jh, jU, je, jk, jd, jx, jR, jj, ji, jo, jP, jy, jw, Ts.fill, jV, jT, jf, jW, jn, jl, jg, jc, getAll, stepCall, jm, unI, Opd.get, jB, tag, jz, ja, jN, rv, bin, jX, Nat.reduceAdd, Nat.reduceSub, Nat.reduceMul, Nat.reduceDiv, Nat.reduceMod, Nat.reducePow, Nat.reduceLT, Nat.reduceLeDiff, Nat.reduceEqDiff, Nat.reduceBEq, Nat.reduceBNe, reduceIte, Int.reduceEq, Int.reduceLT, Int.reduceLE, Int.reduceNeg, Int.reduceToNat, Int.reduceMul, Int.reduceAdd, Int.reduceSub, Int.reduceBEq, Int.reduceBNe, reduceCtorEq] at hE
   refine ⟨_, _, _, hw, Or.inr ⟨hE.symm, ?_⟩⟩
   rw [hd, tN (rP _)]
   show s.length + 0 = _
   omega
 | succ m ih =>
   intro i f0 wr R hE hm hd e1 e2 e10 hw
   obtain ⟨c, hg⟩ := qf (l := s) (i := i) (by omega)
   have ee : (true == true) = true := rfl
   have ee2 : (false == true) = false := rfl
   have hnp : nt (.fn (.func 61) [] [.ptr bx 0]) = true := rfl
   rw [kL hg, zp] at hd
   change evw F (.loop vY) ⟨E 12 5 5 [] (base f0), σ ++ [.it s i], wr⟩ = R at hE
   rw [jI] at hE
   by_cases hc : c.toNat < 128
   . obtain ⟨w1, u1, g1⟩ := jeW H (y9 hb [IObj.it s (i + 1)]) c.toNat
     cases ho : oth ba c.toNat with
     | true =>
       rw [ho] at u1 hd
       simp only [vY, e1, e2, e10, hg, hc, u1, ee, rI, jA, Option.toList, jp, nat, j0, jO, jY, jr, lc0, lc1, jD, jE, jF, jG, j5, j6, ju, jt, jv, zV, zS, jC, jQ, jb, jh, jU, je, jk, jd, jx, jR, jj, ji, jo, jP, jy, jw, Ts.fill, jV, jT, jf, jW, jn, jl, jg, jc, getAll, stepCall, jm, unI, Opd.get, jB, tag, jz, ja, jN, rv, bin, jX, Nat.reduceAdd, Nat.reduceSub, Nat.reduceMul, Nat.reduceDiv, Nat.reduceMod, Nat.reducePow, Nat.reduceLT, Nat.reduceLeDiff, Nat.reduceEqDiff, Nat.reduceBEq, Nat.reduceBNe, reduceIte, Int.reduceEq, Int.reduceLT, Int.reduceLE, Int.reduceNeg, Int.reduceToNat, Int.reduceMul, Int.reduceAdd, Int.reduceSub, Int.reduceBEq, Int.reduceBNe, reduceCtorEq] at hE
       have hd : dgs ba s = i := hd
       exact ⟨_, _, _, by simpa using j7 g1 hw, Or.inl ⟨hE.symm, by rw [hd]; rfl, by omega⟩⟩
     | false =>
       rw [ho] at u1 hd
       simp only [vY, e1, e2, e10, hg, hc, u1, ee2, rI, jA, Option.toList, jp, nat, j0, jO, jY, jr, lc0, lc1, jD, jE, jF, jG, j5, j6, ju, jt, jv, zV, zS, jC, jQ, jb, jh, jU, je, jk, jd, jx, jR, jj, ji, jo, jP, jy, jw, Ts.fill, jV, jT, jf, jW, jn, jl, jg, jc, getAll, stepCall, jm, unI, Opd.get, jB, tag, jz, ja, jN, rv, bin, jX, Nat.reduceAdd, Nat.reduceSub, Nat.reduceMul, Nat.reduceDiv, Nat.reduceMod, Nat.reducePow, Nat.reduceLT, Nat.reduceLeDiff, Nat.reduceEqDiff, Nat.reduceBEq, Nat.reduceBNe, reduceIte, Int.reduceEq, Int.reduceLT, Int.reduceLE, Int.reduceNeg, Int.reduceToNat, Int.reduceMul, Int.reduceAdd, Int.reduceSub, Int.reduceBEq, Int.reduceBNe, reduceCtorEq] at hE
       exact ih (i + 1) _ _ _ hE (by omega) (by rw [hd, if_neg (by simp)]; omega) (by first | exact e1 | rfl) (by first | exact e2 | rfl) (by first | exact e10 | rfl) (by simpa using j7 g1 hw)
   . have hge := jdU hg (by omega)
     generalize hz : Utf8.decode ⟨s.toArray⟩ i = z at hge
     obtain ⟨z1, z2⟩ := z
     obtain ⟨w1, u1, g1⟩ := jeW H (y9 hb [IObj.it s (i + z2)]) z1
     rw [jbQ hge] at u1
     rw [jbQ (r := c.toNat) (by omega)] at hd
     simp only [vY, e1, e2, e10, hg, hc, hz, u1, ee, rI, jA, Option.toList, jp, nat, j0, jO, jY, jr, lc0, lc1, jD, jE, jF, jG, j5, j6, ju, jt, jv, zV, zS, jC, jQ, jb, jh, jU, je, jk, jd, jx, jR, jj, ji, jo, jP, jy, jw, Ts.fill, jV, jT, jf, jW, jn, jl, jg, jc, getAll, stepCall, jm, unI, Opd.get, jB, tag, jz, ja, jN, rv, bin, jX, Nat.reduceAdd, Nat.reduceSub, Nat.reduceMul, Nat.reduceDiv, Nat.reduceMod, Nat.reducePow, Nat.reduceLT, Nat.reduceLeDiff, Nat.reduceEqDiff, Nat.reduceBEq, Nat.reduceBNe, reduceIte, Int.reduceEq, Int.reduceLT, Int.reduceLE, Int.reduceNeg, Int.reduceToNat, Int.reduceMul, Int.reduceAdd, Int.reduceSub, Int.reduceBEq, Int.reduceBNe, reduceCtorEq] at hE
     have hd : dgs ba s = i := hd
     exact ⟨_, _, _, by simpa using j7 g1 hw, Or.inl ⟨hE.symm, by rw [hd]; rfl, by omega⟩⟩
set_option maxRecDepth 20000 in
theorem jfY (H : FNum F) {bx : Nat} {ba : Int} (hb : σ[bx]? = some (.cells [I ba])) (hl : s.length <= 20000) : ∃ wr, cfw F (.f 63) [.str s, .fn (.func 61) [] [.ptr bx 0]] σ = some ⟨false, I (if dgs ba s < s.length then dgs ba s else -1), σ, wr⟩ /\ Fl wr := by
 have u : ∃ wr, cfw F (.f 77) [.str s, .fn (.func 61) [] [.ptr bx 0], .bool true] σ = some ⟨false, I (if dgs ba s < s.length then dgs ba s else -1), σ, wr⟩ /\ Fl wr := by
   rw [cfw_of jft H.h77, jw]
   have hnp : nt (.fn (.func 61) [] [.ptr bx 0]) = true := rfl
   simp only [jft, nr3_fn, jA, Option.toList, jp, nat, j0, jO, jY, jr, lc0, lc1, jD, jE, jF, jG, j5, j6, ju, jt, jv, zV, zS, jC, jQ, jb, jh, jU, je, jk, jd, jx, jR, jj, ji, jo, jP, jy, jw, Ts.fill, jV, jT, jf, jW, jn, jl, jg, jc, getAll, stepCall, jm, unI, Opd.get, jB, tag, jz, ja, jN, rv, bin, jX, Nat.reduceAdd, Nat.reduceSub, Nat.reduceMul, Nat.reduceDiv, Nat.reduceMod, Nat.reducePow, Nat.reduceLT, Nat.reduceLeDiff, Nat.reduceEqDiff, Nat.reduceBEq, Nat.reduceBNe, reduceIte, Int.reduceEq, Int.reduceLT, Int.reduceLE, Int.reduceNeg, Int.reduceToNat, Int.reduceMul, Int.reduceAdd, Int.reduceSub, Int.reduceBEq, Int.reduceBNe, reduceCtorEq]
   generalize hE : evw F (ICode.loop vY) _ = R
   obtain ⟨f1, wr1, k, gw, ⟨rfl, e6, hlt⟩ | ⟨rfl, heq⟩⟩ := jeK H hb hl s.length 0 _ _ _ hE (by omega) (by rw [List.drop_zero]; omega) (by rfl) (by rfl) (by rfl) rfl
   . simp only [e6, jA, Option.toList, jp, nat, j0, jO, jY, jr, lc0, lc1, jD, jE, jF, jG, j5, j6, ju, jt, jv, zV, zS, jC, jQ, jb, jh, jU, je, jk, jd, jx, jR, jj, ji, jo, jP, jy, jw, Ts.fill, jV, jT, jf, jW, jn, jl, jg, jc, getAll, stepCall, jm, unI, Opd.get, jB, tag, jz, ja, jN, rv, bin, jX, Nat.reduceAdd, Nat.reduceSub, Nat.reduceMul, Nat.reduceDiv, Nat.reduceMod, Nat.reducePow, Nat.reduceLT, Nat.reduceLeDiff, Nat.reduceEqDiff, Nat.reduceBEq, Nat.reduceBNe, reduceIte, Int.reduceEq, Int.reduceLT, Int.reduceLE, Int.reduceNeg, Int.reduceToNat, Int.reduceMul, Int.reduceAdd, Int.reduceSub, Int.reduceBEq, Int.reduceBNe, reduceCtorEq]
     rw [if_pos hlt, j8 gw]
     exact ⟨_, rfl, jZ gw⟩
   . simp only [jA, Option.toList, jp, nat, j0, jO, jY, jr, lc0, lc1, jD, jE, jF, jG, j5, j6, ju, jt, jv, zV, zS, jC, jQ, jb, jh, jU, je, jk, jd, jx, jR, jj, ji, jo, jP, jy, jw, Ts.fill, jV, jT, jf, jW, jn, jl, jg, jc, getAll, stepCall, jm, unI, Opd.get, jB, tag, jz, ja, jN, rv, bin, jX, Nat.reduceAdd, Nat.reduceSub, Nat.reduceMul, Nat.reduceDiv, Nat.reduceMod, Nat.reducePow, Nat.reduceLT, Nat.reduceLeDiff, Nat.reduceEqDiff, Nat.reduceBEq, Nat.reduceBNe, reduceIte, Int.reduceEq, Int.reduceLT, Int.reduceLE, Int.reduceNeg, Int.reduceToNat, Int.reduceMul, Int.reduceAdd, Int.reduceSub, Int.reduceBEq, Int.reduceBNe, reduceCtorEq]
     rw [if_neg (show ¬ dgs ba s < s.length by omega), j8 gw]
     exact ⟨_, rfl, jZ gw⟩
 obtain ⟨wr, u, gw⟩ := u
 rw [cfw_of jfr H.h63, jw]
 simp only [jfr, u, jA, Option.toList, jp, nat, j0, jO, jY, jr, lc0, lc1, jD, jE, jF, jG, j5, j6, ju, jt, jv, zV, zS, jC, jQ, jb, jh, jU, je, jk, jd, jx, jR, jj, ji, jo, jP, jy, jw, Ts.fill, jV, jT, jf, jW, jn, jl, jg, jc, getAll, stepCall, jm, unI, Opd.get, jB, tag, jz, ja, jN, rv, bin, jX, Nat.reduceAdd, Nat.reduceSub, Nat.reduceMul, Nat.reduceDiv, Nat.reduceMod, Nat.reducePow, Nat.reduceLT, Nat.reduceLeDiff, Nat.reduceEqDiff, Nat.reduceBEq, Nat.reduceBNe, reduceIte, Int.reduceEq, Int.reduceLT, Int.reduceLE, Int.reduceNeg, Int.reduceToNat, Int.reduceMul, Int.reduceAdd, Int.reduceSub, Int.reduceBEq, Int.reduceBNe, reduceCtorEq]
 rw [j8 gw]
 exact ⟨_, rfl, jZ gw⟩
end
end Go.Idl.Lx
namespace Go.Idl.Lx
open Go Go.Idl Go.Idl.En
variable {F : kb}
def vdg (c : Nat) : Nat := if c <= 57 then c - 48 else if c <= 70 then c - 55 else c - 87
def T64 : Nat := 18446744073709551616
def pz (ba : Nat) : Nat -> List UInt8 -> Option Nat
 | n, [] => some n
 | n, c :: s => if T64 <= n * ba + vdg c.toNat then none else pz ba (n * ba + vdg c.toNat) s
theorem wr3 {T x : Nat} (hT : T = T64) (h : x < T) : IntKind.u64.wrap (x : Int) = (x : Int) := by
 subst hT
 have h : x < 18446744073709551616 := h
 rw [vu]; omega
theorem wr4 {T x v : Nat} (hT : T = T64) (h : x < T) (h2 : T <= x + v) (hv : v < 16) : ∃ y : Nat, IntKind.u64.wrap ((x : Int) + (v : Int)) = (y : Int) /\ y < x := by
 subst hT
 have h : x < 18446744073709551616 := h
 have h2 : 18446744073709551616 <= x + v := h2
 have e : IntKind.u64.wrap ((x : Int) + (v : Int)) = (x : Int) + (v : Int) - 18446744073709551616 := by rw [vu]; omega
 refine ⟨((x : Int) + (v : Int) - 18446744073709551616).toNat, ?_, ?_⟩
 . rw [e, Int.toNat_of_nonneg (by omega)]
 . omega
theorem wr5 {T x v : Nat} (hT : T = T64) (h2 : x + v < T) : IntKind.u64.wrap ((x : Int) + (v : Int)) = ((x + v : Nat) : Int) := by
 subst hT
 have h2 : x + v < 18446744073709551616 := h2
 rw [vu]; omega
structure FPar (F : kb) : Prop extends FNum F where
 h40 : F 40 = some jee
 h64 : F 64 = some jel
 h78 : F 78 = some jdE
 h79 : F 79 = some jfu
 h89 : F 89 = some jcx
 h92 : ∀ (s : List UInt8) (σ : List IObj), s.length <= 20000 -> ∃ v, cfw F (.f 92) [.str [80, 97, 114, 115, 101, 85, 105, 110, 116], .str s] σ = some ⟨false, .pv false v 0, σ, []⟩
theorem jf1 (h : F 89 = some jcx) (c : Nat) (σ : List IObj) : cfw F (.f 89) [B c] σ = some ⟨false, B (or8 c 32), σ, []⟩ := by
 rw [cfw_of jcx h, jw]
 have u := jbP c 32
 have u : IntKind.u8.wrap (((BitVec.ofInt IntKind.u8.bits (c : Int) ||| BitVec.ofInt IntKind.u8.bits 32).toNat : Nat) : Int) = ((or8 c 32 : Nat) : Int) := u
 simp only [jcx, u, jA, Option.toList, jp, nat, j0, jO, jY, jr, lc0, lc1, jD, jE, jF, jG, j5, j6, ju, jt, jv, zV, zS, jC, jQ, jb, jh, jU, je, jk, jd, jx, jR, jj, ji, jo, jP, jy, jw, Ts.fill, jV, jT, jf, jW, jn, jl, jg, jc, getAll, stepCall, jm, unI, Opd.get, jB, tag, jz, ja, jN, rv, bin, jX, Nat.reduceAdd, Nat.reduceSub, Nat.reduceMul, Nat.reduceDiv, Nat.reduceMod, Nat.reducePow, Nat.reduceLT, Nat.reduceLeDiff, Nat.reduceEqDiff, Nat.reduceBEq, Nat.reduceBNe, reduceIte, Int.reduceEq, Int.reduceLT, Int.reduceLE, Int.reduceNeg, Int.reduceToNat, Int.reduceMul, Int.reduceAdd, Int.reduceSub, Int.reduceBEq, Int.reduceBNe, reduceCtorEq]
theorem Y5 : ∀ c : Nat, c < 256 -> oth 16 c = false -> 57 < c -> 97 <= or8 c 32 /\ or8 c 32 <= 122 /\ or8 c 32 - 97 + 10 = vdg c /\ vdg c < 16 := by decide +kernel
theorem Vf : ∀ c : Nat, c < 256 -> oth 16 c = false -> c <= 57 -> 48 <= c /\ vdg c = c - 48 /\ vdg c < 10 := by decide +kernel
theorem Zo : ∀ c : Nat, c < 256 -> oth 10 c = false -> c <= 57 /\ oth 16 c = false := by decide +kernel
section
variable {σ : List IObj}
set_option maxRecDepth 20000 in
theorem jbF (h89 : F 89 = some jcx) {ba : Nat} {T : Nat} {K M : Int} {s : List UInt8} (hT : T = T64) (hba : ba = 10 \/ ba = 16) (hK1 : ∀ n d : Nat, K <= (n : Int) -> T <= n * ba + d) (hK2 : ∀ n : Nat, (n : Int) < K -> n * ba < T) (hM : M + 1 = (T : Int)) (hs : ∀ c ∈ s, oth ba c.toNat = false) (hl : s.length <= 20000) : ∀ (m i n : Nat) (f0 : Nat -> Option (Nat × IVal)) (wr : List (Nat × Bool)) (R : Option (IExit × St)), evw F (.loop qE) ⟨E 122 8 8 [] f0, σ, wr⟩ = R -> i + m = s.length -> n < T -> f0 1 = some (1, I ba) -> f0 8 = some (8, .bool false) -> f0 10 = some (10, .int .u64 K) -> f0 11 = some (11, .int .u64 M) -> f0 12 = some (12, .bool false) -> f0 13 = some (13, .int .u64 n) -> f0 99 = some (99, .sl 0 false (s.map fun c => .int .u8 c.toNat)) -> f0 100 = some (100, I s.length) -> f0 101 = some (101, I i) -> Fl wr ->
   ∃ f1 wr1, Fl wr1 /\ match pz ba n (s.drop i) with
     | some v => R = some (.exit 3, ⟨E 122 8 8 [] (base f1), σ, wr1⟩) /\ f1 13 = some (13, .int .u64 v) /\ f1 12 = some (12, .bool false) /\ v < T
     | none => R = some (.ret, ⟨E 122 8 8 [] (base f1), σ, wr1⟩) /\ f1 6 = some (6, .int .u64 M) /\ f1 7 = some (7, .iface 156 (I 1)) := by
 intro m
 induction m with
 | zero =>
   intro i n f0 wr R hE hm hn e1 e8 e10 e11 e12 e13 e99 e100 e101 hw
   have d1 : decide ((i : Int) < (s.length : Nat)) = false := rE (by omega)
   change evw F (.loop qE) ⟨E 122 8 8 [] (base f0), σ, wr⟩ = R at hE
   rw [jI] at hE
   simp only [qE, e99, e100, e101, d1, jA, Option.toList, jp, nat, j0, jO, jY, jr, lc0, lc1, jD, jE, jF, jG, j5, j6, ju, jt, jv, zV, zS, jC, jQ, jb, jh, jU, je, jk, jd, jx, jR, jj, ji, jo, jP, jy, jw, Ts.fill, jV, jT, jf, jW, jn, jl, jg, jc, getAll, stepCall, jm, unI, Opd.get, jB, tag, jz, ja, jN, rv, bin, jX, Nat.reduceAdd, Nat.reduceSub, Nat.reduceMul, Nat.reduceDiv, Nat.reduceMod, Nat.reducePow, Nat.reduceLT, Nat.reduceLeDiff, Nat.reduceEqDiff, Nat.reduceBEq, Nat.reduceBNe, reduceIte, Int.reduceEq, Int.reduceLT, Int.reduceLE, Int.reduceNeg, Int.reduceToNat, Int.reduceMul, Int.reduceAdd, Int.reduceSub, Int.reduceBEq, Int.reduceBNe, reduceCtorEq] at hE
   rw [tN (by omega)]
   exact ⟨_, _, hw, hE.symm, (by first | exact e13 | rfl), (by first | exact e12 | rfl), hn⟩
 | succ m ih =>
   intro i n f0 wr R hE hm hn e1 e8 e10 e11 e12 e13 e99 e100 e101 hw
   obtain ⟨c, hg⟩ := qf (l := s) (i := i) (by omega)
   have hc := hs c (List.mem_of_getElem? hg)
   have hc256 : c.toNat < 256 := c.toNat_lt
   have d1 : decide ((i : Int) < (s.length : Nat)) = true := rB (by omega)
   have d2 : (0 : Int) <= (i : Int) := by omega
   have w1 := yU (n := i) (by omega)
   have hwb : IntKind.u8.wrap (ba : Int) = (ba : Int) := by rw [vD]; omega
   have hwb2 : IntKind.u64.wrap (ba : Int) = (ba : Int) := by rw [vu]; omega
   have hT' : T = T64 := hT
   have h16 : oth 16 c.toNat = false := by
     rcases hba with rfl | rfl
     . exact (Zo _ hc256 hc).2
     . exact hc
   have b95 : ((c.toNat : Int) == 95) = false := by
     rw [beq_eq_false_iff_ne]
     intro e
     have : c.toNat = 95 := by omega
     rw [this] at h16; revert h16; decide
   -- the digit
   have hv : vdg c.toNat < ba := by
     rcases hba with rfl | rfl
     . exact (Vf _ hc256 h16 (Zo _ hc256 hc).1).2.2
     . by_cases h57 : c.toNat <= 57
       . have := (Vf _ hc256 h16 h57).2.2; omega
       . exact (Y5 _ hc256 h16 (by omega)).2.2.2
   have hv16 : vdg c.toNat < 16 := by omega
   have d5 : decide (((vdg c.toNat : Nat) : Int) ≥ (ba : Int)) = false := rE (by omega)
   have wd : IntKind.u64.wrap ((vdg c.toNat : Nat) : Int) = ((vdg c.toNat : Nat) : Int) := by rw [vu]; omega
   rw [kL hg, pz, <- hT]
   change evw F (.loop qE) ⟨E 122 8 8 [] (base f0), σ, wr⟩ = R at hE
   rw [jI] at hE
   by_cases h57 : c.toNat <= 57
   . obtain ⟨g1, g2, _⟩ := Vf _ hc256 h16 h57
     have d3 : decide ((48 : Int) <= (c.toNat : Int)) = true := rB (by omega)
     have d4 : decide ((c.toNat : Int) <= 57) = true := rB (by omega)
     have w2 : IntKind.u8.wrap ((c.toNat : Int) - 48) = ((vdg c.toNat : Nat) : Int) := by rw [vD]; omega
     by_cases hk : K <= (n : Int)
     . have d6 : decide ((n : Int) ≥ K) = true := rB hk
       have := hK1 n (vdg c.toNat) hk
       simp only [qE, e1, e8, e10, e11, e12, e13, e99, e100, e101, d1, d2, d5, d6, hg, w1, w2, hwb, hwb2, wd, b95, d3, d4, jk, rI, jA, Option.toList, jp, nat, j0, jO, jY, jr, lc0, lc1, jD, jE, jF, jG, j5, j6, ju, jt, jv, zV, zS, jC, jQ, jb, jh, jU, je, jd, jx, jR, jj, ji, jo, jP, jy, jw, Ts.fill, jV, jT, jf, jW, jn, jl, jg, jc, getAll, stepCall, jm, unI, Opd.get, jB, tag, jz, ja, jN, rv, bin, jX, Nat.reduceAdd, Nat.reduceSub, Nat.reduceMul, Nat.reduceDiv, Nat.reduceMod, Nat.reducePow, Nat.reduceLT, Nat.reduceLeDiff, Nat.reduceEqDiff, Nat.reduceBEq, Nat.reduceBNe, reduceIte, Int.reduceEq, Int.reduceLT, Int.reduceLE, Int.reduceNeg, Int.reduceToNat, Int.reduceMul, Int.reduceAdd, Int.reduceSub, Int.reduceBEq, Int.reduceBNe, reduceCtorEq] at hE
       rw [if_pos this]
       exact ⟨_, _, hw, hE.symm, (by rfl), (by rfl)⟩
     . have d6 : decide ((n : Int) ≥ K) = false := rE hk
       have hnk := hK2 n (by omega)
       have w3 : IntKind.u64.wrap ((n : Int) * (ba : Int)) = ((n * ba : Nat) : Int) := by rw [<- Int.natCast_mul]; exact wr3 hT hnk
       by_cases hov : T <= n * ba + vdg c.toNat
       . obtain ⟨n1, w4, hn1⟩ := wr4 hT hnk hov hv16
         have d7 : decide ((n1 : Int) < ((n * ba : Nat) : Int)) = true := rB (by omega)
         simp only [qE, e1, e8, e10, e11, e12, e13, e99, e100, e101, d1, d2, d5, d6, d7, hg, w1, w2, w3, w4, hwb, hwb2, wd, b95, d3, d4, jk, rI, jA, Option.toList, jp, nat, j0, jO, jY, jr, lc0, lc1, jD, jE, jF, jG, j5, j6, ju, jt, jv, zV, zS, jC, jQ, jb, jh, jU, je, jd, jx, jR, jj, ji, jo, jP, jy, jw, Ts.fill, jV, jT, jf, jW, jn, jl, jg, jc, getAll, stepCall, jm, unI, Opd.get, jB, tag, jz, ja, jN, rv, bin, jX, Nat.reduceAdd, Nat.reduceSub, Nat.reduceMul, Nat.reduceDiv, Nat.reduceMod, Nat.reducePow, Nat.reduceLT, Nat.reduceLeDiff, Nat.reduceEqDiff, Nat.reduceBEq, Nat.reduceBNe, reduceIte, Int.reduceEq, Int.reduceLT, Int.reduceLE, Int.reduceNeg, Int.reduceToNat, Int.reduceMul, Int.reduceAdd, Int.reduceSub, Int.reduceBEq, Int.reduceBNe, reduceCtorEq] at hE
         rw [if_pos hov]
         exact ⟨_, _, hw, hE.symm, (by rfl), (by rfl)⟩
       . have w4 : IntKind.u64.wrap (((n * ba : Nat) : Int) + ((vdg c.toNat : Nat) : Int)) = ((n * ba + vdg c.toNat : Nat) : Int) := wr5 hT (by omega)
         have d7 : decide (((n * ba + vdg c.toNat : Nat) : Int) < ((n * ba : Nat) : Int)) = false := rE (by omega)
         have d8 : decide (((n * ba + vdg c.toNat : Nat) : Int) > M) = false := rE (by omega)
         simp only [qE, e1, e8, e10, e11, e12, e13, e99, e100, e101, d1, d2, d5, d6, d7, d8, hg, w1, w2, w3, w4, hwb, hwb2, wd, b95, d3, d4, jk, rI, jA, Option.toList, jp, nat, j0, jO, jY, jr, lc0, lc1, jD, jE, jF, jG, j5, j6, ju, jt, jv, zV, zS, jC, jQ, jb, jh, jU, je, jd, jx, jR, jj, ji, jo, jP, jy, jw, Ts.fill, jV, jT, jf, jW, jn, jl, jg, jc, getAll, stepCall, jm, unI, Opd.get, jB, tag, jz, ja, jN, rv, bin, jX, Nat.reduceAdd, Nat.reduceSub, Nat.reduceMul, Nat.reduceDiv, Nat.reduceMod, Nat.reducePow, Nat.reduceLT, Nat.reduceLeDiff, Nat.reduceEqDiff, Nat.reduceBEq, Nat.reduceBNe, reduceIte, Int.reduceEq, Int.reduceLT, Int.reduceLE, Int.reduceNeg, Int.reduceToNat, Int.reduceMul, Int.reduceAdd, Int.reduceSub, Int.reduceBEq, Int.reduceBNe, reduceCtorEq] at hE
         rw [if_neg hov]
         exact ih (i + 1) _ _ _ _ hE (by omega) (by omega) (by first | exact e1 | rfl) (by first | exact e8 | rfl) (by first | exact e10 | rfl) (by first | exact e11 | rfl) (by first | exact e12 | rfl) (by rfl) (by first | exact e99 | rfl) (by first | exact e100 | rfl) (by rfl) hw
   . obtain ⟨g1, g2, g3, _⟩ := Y5 _ hc256 h16 (by omega)
     have ul := fun σ => jf1 h89 c.toNat (σ := σ)
     have d3 : decide ((48 : Int) <= (c.toNat : Int)) = true := rB (by omega)
     have d4 : decide ((c.toNat : Int) <= 57) = false := rE (by omega)
     have d4b : decide ((97 : Int) <= ((or8 c.toNat 32 : Nat) : Int)) = true := rB (by omega)
     have d4c : decide (((or8 c.toNat 32 : Nat) : Int) <= 122) = true := rB (by omega)
     have wl : IntKind.u8.wrap (((or8 c.toNat 32 : Nat) : Int) - 97) = ((or8 c.toNat 32 - 97 : Nat) : Int) := by rw [vD]; omega
     have w2 : IntKind.u8.wrap (((or8 c.toNat 32 - 97 : Nat) : Int) + 10) = ((vdg c.toNat : Nat) : Int) := by rw [vD]; omega
     by_cases hk : K <= (n : Int)
     . have d6 : decide ((n : Int) ≥ K) = true := rB hk
       have := hK1 n (vdg c.toNat) hk
       simp only [qE, e1, e8, e10, e11, e12, e13, e99, e100, e101, d1, d2, d5, d6, hg, w1, w2, hwb, hwb2, wd, b95, d3, d4, d4b, d4c, ul, wl, jk, rI, jA, Option.toList, jp, nat, j0, jO, jY, jr, lc0, lc1, jD, jE, jF, jG, j5, j6, ju, jt, jv, zV, zS, jC, jQ, jb, jh, jU, je, jd, jx, jR, jj, ji, jo, jP, jy, jw, Ts.fill, jV, jT, jf, jW, jn, jl, jg, jc, getAll, stepCall, jm, unI, Opd.get, jB, tag, jz, ja, jN, rv, bin, jX, Nat.reduceAdd, Nat.reduceSub, Nat.reduceMul, Nat.reduceDiv, Nat.reduceMod, Nat.reducePow, Nat.reduceLT, Nat.reduceLeDiff, Nat.reduceEqDiff, Nat.reduceBEq, Nat.reduceBNe, reduceIte, Int.reduceEq, Int.reduceLT, Int.reduceLE, Int.reduceNeg, Int.reduceToNat, Int.reduceMul, Int.reduceAdd, Int.reduceSub, Int.reduceBEq, Int.reduceBNe, reduceCtorEq] at hE
       rw [if_pos this]
       exact ⟨_, _, hw, hE.symm, (by rfl), (by rfl)⟩
     . have d6 : decide ((n : Int) ≥ K) = false := rE hk
       have hnk := hK2 n (by omega)
       have w3 : IntKind.u64.wrap ((n : Int) * (ba : Int)) = ((n * ba : Nat) : Int) := by rw [<- Int.natCast_mul]; exact wr3 hT hnk
       by_cases hov : T <= n * ba + vdg c.toNat
       . obtain ⟨n1, w4, hn1⟩ := wr4 hT hnk hov hv16
         have d7 : decide ((n1 : Int) < ((n * ba : Nat) : Int)) = true := rB (by omega)
         simp only [qE, e1, e8, e10, e11, e12, e13, e99, e100, e101, d1, d2, d5, d6, d7, hg, w1, w2, w3, w4, hwb, hwb2, wd, b95, d3, d4, d4b, d4c, ul, wl, jk, rI, jA, Option.toList, jp, nat, j0, jO, jY, jr, lc0, lc1, jD, jE, jF, jG, j5, j6, ju, jt, jv, zV, zS, jC, jQ, jb, jh, jU, je, jd, jx, jR, jj, ji, jo, jP, jy, jw, Ts.fill, jV, jT, jf, jW, jn, jl, jg, jc, getAll, stepCall, jm, unI, Opd.get, jB, tag, jz, ja, jN, rv, bin, jX, Nat.reduceAdd, Nat.reduceSub, Nat.reduceMul, Nat.reduceDiv, Nat.reduceMod, Nat.reducePow, Nat.reduceLT, Nat.reduceLeDiff, Nat.reduceEqDiff, Nat.reduceBEq, Nat.reduceBNe, reduceIte, Int.reduceEq, Int.reduceLT, Int.reduceLE, Int.reduceNeg, Int.reduceToNat, Int.reduceMul, Int.reduceAdd, Int.reduceSub, Int.reduceBEq, Int.reduceBNe, reduceCtorEq] at hE
         rw [if_pos hov]
         exact ⟨_, _, hw, hE.symm, (by rfl), (by rfl)⟩
       . have w4 : IntKind.u64.wrap (((n * ba : Nat) : Int) + ((vdg c.toNat : Nat) : Int)) = ((n * ba + vdg c.toNat : Nat) : Int) := wr5 hT (by omega)
         have d7 : decide (((n * ba + vdg c.toNat : Nat) : Int) < ((n * ba : Nat) : Int)) = false := rE (by omega)
         have d8 : decide (((n * ba + vdg c.toNat : Nat) : Int) > M) = false := rE (by omega)
         simp only [qE, e1, e8, e10, e11, e12, e13, e99, e100, e101, d1, d2, d5, d6, d7, d8, hg, w1, w2, w3, w4, hwb, hwb2, wd, b95, d3, d4, d4b, d4c, ul, wl, jk, rI, jA, Option.toList, jp, nat, j0, jO, jY, jr, lc0, lc1, jD, jE, jF, jG, j5, j6, ju, jt, jv, zV, zS, jC, jQ, jb, jh, jU, je, jd, jx, jR, jj, ji, jo, jP, jy, jw, Ts.fill, jV, jT, jf, jW, jn, jl, jg, jc, getAll, stepCall, jm, unI, Opd.get, jB, tag, jz, ja, jN, rv, bin, jX, Nat.reduceAdd, Nat.reduceSub, Nat.reduceMul, Nat.reduceDiv, Nat.reduceMod, Nat.reducePow, Nat.reduceLT, Nat.reduceLeDiff, Nat.reduceEqDiff, Nat.reduceBEq, Nat.reduceBNe, reduceIte, Int.reduceEq, Int.reduceLT, Int.reduceLE, Int.reduceNeg, Int.reduceToNat, Int.reduceMul, Int.reduceAdd, Int.reduceSub, Int.reduceBEq, Int.reduceBNe, reduceCtorEq] at hE
         rw [if_neg hov]
         exact ih (i + 1) _ _ _ _ hE (by omega) (by omega) (by first | exact e1 | rfl) (by first | exact e8 | rfl) (by first | exact e10 | rfl) (by first | exact e11 | rfl) (by first | exact e12 | rfl) (by rfl) (by first | exact e99 | rfl) (by first | exact e100 | rfl) (by rfl) hw
end
end Go.Idl.Lx
namespace Go.Idl.Lx
open Go Go.Idl Go.Idl.En
variable {F : kb}
section
variable {σ : List IObj}
theorem je7 : QW .shl .u64 1 64 = some (.int .u64 0) := by
 show some (IVal.int .u64 (IntKind.u64.wrap (1 * 2 ^ (min (64 : Int).toNat 64)))) = _
 rw [vu]; rfl
theorem w64 : IntKind.u64.wrap 64 = 64 := by rw [vu]; rfl
theorem jgo : IntKind.u64.wrap (-1) = (T64 : Int) - 1 := by rw [vu]; show _ = ((18446744073709551616 : Nat) : Int) - 1; omega
theorem k10 (n d : Nat) (h : (1844674407370955162 : Int) <= (n : Int)) : T64 <= n * 10 + d := by show 18446744073709551616 <= _; omega
theorem jgP (n : Nat) (h : (n : Int) < (1844674407370955162 : Int)) : n * 10 < T64 := by show _ < 18446744073709551616; omega
theorem k16 (n d : Nat) (h : (1152921504606846976 : Int) <= (n : Int)) : T64 <= n * 16 + d := by show 18446744073709551616 <= _; omega
theorem jgQ (n : Nat) (h : (n : Int) < (1152921504606846976 : Int)) : n * 16 < T64 := by show _ < 18446744073709551616; omega
def pzV : Option Nat -> List IVal
 | some v => [.int .u64 v, .prim .nilIface]
 | none => [.int .u64 ((T64 : Int) - 1), .iface 156 (I 1)]
set_option maxRecDepth 20000 in
theorem jf7 (h : F 78 = some jdE) (h89 : F 89 = some jcx) {ba : Nat} {s : List UInt8} (hba : ba = 10 \/ ba = 16) (hs : ∀ c ∈ s, oth ba c.toNat = false) (h0 : s ≠ []) (hl : s.length <= 20000) :
   ∃ wr, cfw F (.f 78) [.str s, I ba, I 64] σ = some ⟨false, .tup (pzV (pz ba 0 s)), σ, wr⟩ /\ Fl wr := by
 rw [cfw_of jdE h, jw]
 have se : (s == []) = false := by cases s with | nil => exact absurd rfl h0 | cons c s => rfl
 rcases hba with rfl | rfl
 . have b2 : (((10 : Nat) : Int) == 0) = false := rfl
   have d1 : decide ((2 : Int) <= ((10 : Nat) : Int)) = true := rfl
   have d2 : decide (((10 : Nat) : Int) <= 36) = true := rfl
   have d3 : decide ((64 : Int) < 0) = false := rfl
   have d4 : decide ((64 : Int) > 64) = false := rfl
   have b3 : (((10 : Nat) : Int) == 10) = true := rfl
   simp only [jdE, se, b2, b3, d1, d2, d3, d4, w64, je7, jgo, jk, jA, Option.toList, jp, nat, j0, jO, jY, jr, lc0, lc1, jD, jE, jF, jG, j5, j6, ju, jt, jv, zV, zS, jC, jQ, jb, jh, jU, je, jd, jx, jR, jj, ji, jo, jP, jy, jw, Ts.fill, jV, jT, jf, jW, jn, jl, jg, jc, getAll, stepCall, jm, unI, Opd.get, jB, tag, jz, ja, jN, rv, bin, jX, Nat.reduceAdd, Nat.reduceSub, Nat.reduceMul, Nat.reduceDiv, Nat.reduceMod, Nat.reducePow, Nat.reduceLT, Nat.reduceLeDiff, Nat.reduceEqDiff, Nat.reduceBEq, Nat.reduceBNe, reduceIte, Int.reduceEq, Int.reduceLT, Int.reduceLE, Int.reduceNeg, Int.reduceToNat, Int.reduceMul, Int.reduceAdd, Int.reduceSub, Int.reduceBEq, Int.reduceBNe, reduceCtorEq]
   generalize hE : evw F (ICode.loop qE) _ = R
   obtain ⟨f1, wr1, gw, hR⟩ := jbF (T := T64) (M := (T64 : Int) - 1) h89 (ba := 10) rfl (Or.inl rfl) k10 jgP (by omega) hs hl s.length 0 0 _ _ _ hE (by omega) (by decide) (by rfl) (by rfl) (by rfl) (by rfl) (by rfl) (by rfl) (by rfl) (by rfl) (by rfl) rfl
   rw [List.drop_zero] at hR
   cases hp : pz 10 0 s with
   | none =>
     rw [hp] at hR
     obtain ⟨rfl, e6, e7⟩ := hR
     have n2 : nr2 (.iface 156 (I 1)) = true := rfl
     simp only [e6, e7, pzV, n2, j8 gw, jA, Option.toList, jp, nat, j0, jO, jY, jr, lc0, lc1, jD, jE, jF, jG, j5, j6, ju, jt, jv, zV, zS, jC, jQ, jb, jh, jU, je, jk, jd, jx, jR, jj, ji, jo, jP, jy, jw, Ts.fill, jV, jT, jf, jW, jn, jl, jg, jc, getAll, stepCall, jm, unI, Opd.get, jB, tag, jz, ja, jN, rv, bin, jX, Nat.reduceAdd, Nat.reduceSub, Nat.reduceMul, Nat.reduceDiv, Nat.reduceMod, Nat.reducePow, Nat.reduceLT, Nat.reduceLeDiff, Nat.reduceEqDiff, Nat.reduceBEq, Nat.reduceBNe, reduceIte, Int.reduceEq, Int.reduceLT, Int.reduceLE, Int.reduceNeg, Int.reduceToNat, Int.reduceMul, Int.reduceAdd, Int.reduceSub, Int.reduceBEq, Int.reduceBNe, reduceCtorEq]
     exact ⟨_, rfl, jZ gw⟩
   | some v =>
     rw [hp] at hR
     obtain ⟨rfl, e13, e12, hv⟩ := hR
     simp only [e12, e13, pzV, jk, j8 gw, jA, Option.toList, jp, nat, j0, jO, jY, jr, lc0, lc1, jD, jE, jF, jG, j5, j6, ju, jt, jv, zV, zS, jC, jQ, jb, jh, jU, je, jd, jx, jR, jj, ji, jo, jP, jy, jw, Ts.fill, jV, jT, jf, jW, jn, jl, jg, jc, getAll, stepCall, jm, unI, Opd.get, jB, tag, jz, ja, jN, rv, bin, jX, Nat.reduceAdd, Nat.reduceSub, Nat.reduceMul, Nat.reduceDiv, Nat.reduceMod, Nat.reducePow, Nat.reduceLT, Nat.reduceLeDiff, Nat.reduceEqDiff, Nat.reduceBEq, Nat.reduceBNe, reduceIte, Int.reduceEq, Int.reduceLT, Int.reduceLE, Int.reduceNeg, Int.reduceToNat, Int.reduceMul, Int.reduceAdd, Int.reduceSub, Int.reduceBEq, Int.reduceBNe, reduceCtorEq]
     exact ⟨_, rfl, jZ gw⟩
 . have b2 : (((16 : Nat) : Int) == 0) = false := rfl
   have d1 : decide ((2 : Int) <= ((16 : Nat) : Int)) = true := rfl
   have d2 : decide (((16 : Nat) : Int) <= 36) = true := rfl
   have d3 : decide ((64 : Int) < 0) = false := rfl
   have d4 : decide ((64 : Int) > 64) = false := rfl
   have b3 : (((16 : Nat) : Int) == 10) = false := rfl
   have b4 : (((16 : Nat) : Int) == 16) = true := rfl
   simp only [jdE, se, b2, b3, b4, d1, d2, d3, d4, w64, je7, jgo, jk, jA, Option.toList, jp, nat, j0, jO, jY, jr, lc0, lc1, jD, jE, jF, jG, j5, j6, ju, jt, jv, zV, zS, jC, jQ, jb, jh, jU, je, jd, jx, jR, jj, ji, jo, jP, jy, jw, Ts.fill, jV, jT, jf, jW, jn, jl, jg, jc, getAll, stepCall, jm, unI, Opd.get, jB, tag, jz, ja, jN, rv, bin, jX, Nat.reduceAdd, Nat.reduceSub, Nat.reduceMul, Nat.reduceDiv, Nat.reduceMod, Nat.reducePow, Nat.reduceLT, Nat.reduceLeDiff, Nat.reduceEqDiff, Nat.reduceBEq, Nat.reduceBNe, reduceIte, Int.reduceEq, Int.reduceLT, Int.reduceLE, Int.reduceNeg, Int.reduceToNat, Int.reduceMul, Int.reduceAdd, Int.reduceSub, Int.reduceBEq, Int.reduceBNe, reduceCtorEq]
   generalize hE : evw F (ICode.loop qE) _ = R
   obtain ⟨f1, wr1, gw, hR⟩ := jbF (T := T64) (M := (T64 : Int) - 1) h89 (ba := 16) rfl (Or.inr rfl) k16 jgQ (by omega) hs hl s.length 0 0 _ _ _ hE (by omega) (by decide) (by rfl) (by rfl) (by rfl) (by rfl) (by rfl) (by rfl) (by rfl) (by rfl) (by rfl) rfl
   rw [List.drop_zero] at hR
   cases hp : pz 16 0 s with
   | none =>
     rw [hp] at hR
     obtain ⟨rfl, e6, e7⟩ := hR
     have n2 : nr2 (.iface 156 (I 1)) = true := rfl
     simp only [e6, e7, pzV, n2, j8 gw, jA, Option.toList, jp, nat, j0, jO, jY, jr, lc0, lc1, jD, jE, jF, jG, j5, j6, ju, jt, jv, zV, zS, jC, jQ, jb, jh, jU, je, jk, jd, jx, jR, jj, ji, jo, jP, jy, jw, Ts.fill, jV, jT, jf, jW, jn, jl, jg, jc, getAll, stepCall, jm, unI, Opd.get, jB, tag, jz, ja, jN, rv, bin, jX, Nat.reduceAdd, Nat.reduceSub, Nat.reduceMul, Nat.reduceDiv, Nat.reduceMod, Nat.reducePow, Nat.reduceLT, Nat.reduceLeDiff, Nat.reduceEqDiff, Nat.reduceBEq, Nat.reduceBNe, reduceIte, Int.reduceEq, Int.reduceLT, Int.reduceLE, Int.reduceNeg, Int.reduceToNat, Int.reduceMul, Int.reduceAdd, Int.reduceSub, Int.reduceBEq, Int.reduceBNe, reduceCtorEq]
     exact ⟨_, rfl, jZ gw⟩
   | some v =>
     rw [hp] at hR
     obtain ⟨rfl, e13, e12, hv⟩ := hR
     simp only [e12, e13, pzV, jk, j8 gw, jA, Option.toList, jp, nat, j0, jO, jY, jr, lc0, lc1, jD, jE, jF, jG, j5, j6, ju, jt, jv, zV, zS, jC, jQ, jb, jh, jU, je, jd, jx, jR, jj, ji, jo, jP, jy, jw, Ts.fill, jV, jT, jf, jW, jn, jl, jg, jc, getAll, stepCall, jm, unI, Opd.get, jB, tag, jz, ja, jN, rv, bin, jX, Nat.reduceAdd, Nat.reduceSub, Nat.reduceMul, Nat.reduceDiv, Nat.reduceMod, Nat.reducePow, Nat.reduceLT, Nat.reduceLeDiff, Nat.reduceEqDiff, Nat.reduceBEq, Nat.reduceBNe, reduceIte, Int.reduceEq, Int.reduceLT, Int.reduceLE, Int.reduceNeg, Int.reduceToNat, Int.reduceMul, Int.reduceAdd, Int.reduceSub, Int.reduceBEq, Int.reduceBNe, reduceCtorEq]
     exact ⟨_, rfl, jZ gw⟩
def pzW : Option Nat -> IVal -> List IVal
 | some v, _ => [.int .u64 v, .prim .nilIface]
 | none, e => [.int .u64 ((T64 : Int) - 1), e]
theorem eI (a b : Int) : qn (.int .i64 a) (.int .i64 b) = some (a == b) := by simp [qn]
theorem kI (n : Int) : Jg 0 (.int .i64 n) = true := rfl
set_option maxRecDepth 20000 in
theorem jfK (H : FPar F) {ba : Int} {s : List UInt8} (hl : s.length <= 20000) (σ : List IObj) : ∃ v, cfw F (.f 79) [.str [80, 97, 114, 115, 101, 85, 105, 110, 116], .str s, I ba, I 64, .iface 156 (I 1)] σ = some ⟨false, .iface 158 (.pv false v 0), σ, []⟩ := by
 rw [cfw_of jfu H.h79, jw]
 obtain ⟨v, u⟩ := H.h92 s σ hl
 have tf : (true != false) = true := rfl
 simp only [jfu, u, eI, kI, tf, List.find?, jA, Option.toList, jp, nat, j0, jO, jY, jr, lc0, lc1, jD, jE, jF, jG, j5, j6, ju, jt, jv, zV, zS, jC, jQ, jb, jh, jU, je, jk, jd, jx, jR, jj, ji, jo, jP, jy, jw, Ts.fill, jV, jT, jf, jW, jn, jl, jg, jc, getAll, stepCall, jm, unI, Opd.get, jB, tag, jz, ja, jN, rv, bin, jX, Nat.reduceAdd, Nat.reduceSub, Nat.reduceMul, Nat.reduceDiv, Nat.reduceMod, Nat.reducePow, Nat.reduceLT, Nat.reduceLeDiff, Nat.reduceEqDiff, Nat.reduceBEq, Nat.reduceBNe, reduceIte, Int.reduceEq, Int.reduceLT, Int.reduceLE, Int.reduceNeg, Int.reduceToNat, Int.reduceMul, Int.reduceAdd, Int.reduceSub, Int.reduceBEq, Int.reduceBNe, reduceCtorEq]
 exact ⟨_, rfl⟩
set_option maxRecDepth 20000 in
theorem jf6 (H : FPar F) {ba : Nat} {s : List UInt8} (hba : ba = 10 \/ ba = 16) (hs : ∀ c ∈ s, oth ba c.toNat = false) (h0 : s ≠ []) (hl : s.length <= 20000) :
   ∃ wr v, cfw F (.f 64) [.str s, I ba, I 64] σ = some ⟨false, .tup (pzW (pz ba 0 s) (.iface 158 (.pv false v 0))), σ, wr⟩ /\ Fl wr := by
 rw [cfw_of jel H.h64, jw]
 obtain ⟨wr, u, gw⟩ := jf7 H.h78 H.h89 (σ := σ) hba hs h0 hl
 cases hp : pz ba 0 s with
 | none =>
   obtain ⟨v, u2⟩ := jfK H (ba := ba) hl σ
   rw [hp] at u
   simp only [pzV] at u
   simp only [jel, u, u2, pzW, jA, Option.toList, jp, nat, j0, jO, jY, jr, lc0, lc1, jD, jE, jF, jG, j5, j6, ju, jt, jv, zV, zS, jC, jQ, jb, jh, jU, je, jk, jd, jx, jR, jj, ji, jo, jP, jy, jw, Ts.fill, jV, jT, jf, jW, jn, jl, jg, jc, getAll, stepCall, jm, unI, Opd.get, jB, tag, jz, ja, jN, rv, bin, jX, Nat.reduceAdd, Nat.reduceSub, Nat.reduceMul, Nat.reduceDiv, Nat.reduceMod, Nat.reducePow, Nat.reduceLT, Nat.reduceLeDiff, Nat.reduceEqDiff, Nat.reduceBEq, Nat.reduceBNe, reduceIte, Int.reduceEq, Int.reduceLT, Int.reduceLE, Int.reduceNeg, Int.reduceToNat, Int.reduceMul, Int.reduceAdd, Int.reduceSub, Int.reduceBEq, Int.reduceBNe, reduceCtorEq]
   rw [j8 gw]
   exact ⟨_, v, rfl, jZ gw⟩
 | some n =>
   rw [hp] at u
   simp only [pzV] at u
   simp only [jel, u, pzW, jA, Option.toList, jp, nat, j0, jO, jY, jr, lc0, lc1, jD, jE, jF, jG, j5, j6, ju, jt, jv, zV, zS, jC, jQ, jb, jh, jU, je, jk, jd, jx, jR, jj, ji, jo, jP, jy, jw, Ts.fill, jV, jT, jf, jW, jn, jl, jg, jc, getAll, stepCall, jm, unI, Opd.get, jB, tag, jz, ja, jN, rv, bin, jX, Nat.reduceAdd, Nat.reduceSub, Nat.reduceMul, Nat.reduceDiv, Nat.reduceMod, Nat.reducePow, Nat.reduceLT, Nat.reduceLeDiff, Nat.reduceEqDiff, Nat.reduceBEq, Nat.reduceBNe, reduceIte, Int.reduceEq, Int.reduceLT, Int.reduceLE, Int.reduceNeg, Int.reduceToNat, Int.reduceMul, Int.reduceAdd, Int.reduceSub, Int.reduceBEq, Int.reduceBNe, reduceCtorEq]
   rw [j8 gw]
   exact ⟨_, [], rfl, jZ gw⟩
end
end Go.Idl.Lx
namespace Go.Idl.Lx
open Go Go.Idl Go.Idl.En
variable {F : kb}
def Vx (tx : List UInt8) (a ba hd : Nat) : (Nat × Nat) ⊕ (Nat × Nat) :=
 let d := dgs ba (tx.drop (a + hd))
 let ed := a + hd + d
 if d = 0 then .inl (7, ed) else
 match pz ba 0 ((tx.drop (a + hd)).take d) with
 | none => .inl (10, a)
 | some v => if 4294967296 <= v then .inl (10, a) else match tx[ed]? with
   | some c => if isS 6 c.toNat then .inl (7, ed) else .inr (ed, v)
   | none => .inr (ed, v)
abbrev flt (f : Nat × Nat) : IVal := .iface 56 (.pv false [I f.1, I f.2] 0)
section
variable {tx : List UInt8} {er : IVal} {p q : Nat}
theorem jdS {v : Nat} (h : v < 4294967296) : IntKind.i64.wrap (v : Int) = (v : Int) := qe (by omega) (by omega)
theorem jca (ba : Int) (s : List UInt8) : ∀ c ∈ s.take (dgs ba s), oth ba c.toNat = false := by
 induction s with
 | nil => intro c hc; simp at hc
 | cons b s ih =>
   rw [zp]
   cases h : oth ba b.toNat with
   | true => intro c hc; simp at hc
   | false =>
     rw [if_neg (by simp), Nat.add_comm, r5]
     intro c hc
     rcases List.mem_cons.1 hc with rfl | hc
     . exact h
     . exact ih c hc
set_option maxRecDepth 20000 in
theorem QH (H : FPar F) {a hd dn ln : Nat} {V : Int} {τ : List IObj} {f0 : Nat -> Option (Nat × IVal)} {R : Option (IExit × St)} {wr : List (Nat × Bool)} {dg : List UInt8} (hE : evw F YU ⟨E 80 19 7 [] (base f0), τ, wr⟩ = R) (hl : tx.length <= 20000) (ha : a + hd + dn <= tx.length) (hdg : dg.length = dn)
   (hq : τ[q]? = some (.cells (LP true tx a er))) (hp : τ[p]? = some (.cells (TC 0 a ln [] 0))) (hne : p ≠ q)
   (e0 : f0 0 = some (0, .ptr q 0)) (e1 : f0 1 = some (1, .ptr p 0)) (e6 : f0 6 = some (6, I hd)) (e9 : f0 9 = some (9, .str dg)) (e12 : f0 12 = some (12, .int .u64 V)) (hw : Fl wr) :
   ∃ f1 wr1, Fl wr1 /\ R = some (.normal, ⟨E 80 19 7 [] (base f1), (τ.set q (.cells (LP true tx (a + hd + dn) er))).set p (.cells (TC 2 a ln ((tx.take (a + hd + dn)).drop a) (IntKind.i64.wrap V))), wr1⟩) := by
 obtain ⟨w2, u2, g2⟩ := Q5 H.h55 H.h15 (n := hd + dn) (by omega) hl hq
 have w1 : IntKind.i64.wrap ((hd : Int) + ((dg.length : Nat) : Int)) = ((hd + dn : Nat) : Int) := by rw [qe (by omega) (by omega)]; omega
 rw [<- Nat.add_assoc] at u2
 have gp := get_set (x := .cells (LP true tx (a + hd + dn) er)) hp (j := q) (fun e => hne e.symm)
 have gp1 := fun y => gs gp (y := y)
 simp only [YU, e0, e1, e6, e9, e12, w1, u2, gp, gp1, r7, jA, Option.toList, jp, nat, j0, jO, jY, jr, lc0, lc1, jD, jE, jF, jG, j5, j6, ju, jt, jv, zV, zS, jC, jQ, jb, jh, jU, je, jk, jd, jx, jR, jj, ji, jo, jP, jy, jw, Ts.fill, jV, jT, jf, jW, jn, jl, jg, jc, getAll, stepCall, jm, unI, Opd.get, jB, tag, jz, ja, jN, rv, bin, jX, Nat.reduceAdd, Nat.reduceSub, Nat.reduceMul, Nat.reduceDiv, Nat.reduceMod, Nat.reducePow, Nat.reduceLT, Nat.reduceLeDiff, Nat.reduceEqDiff, Nat.reduceBEq, Nat.reduceBNe, reduceIte, Int.reduceEq, Int.reduceLT, Int.reduceLE, Int.reduceNeg, Int.reduceToNat, Int.reduceMul, Int.reduceAdd, Int.reduceSub, Int.reduceBEq, Int.reduceBNe, reduceCtorEq] at hE
 exact ⟨_, _, by simpa using j7 g2 hw, hE.symm⟩
set_option maxRecDepth 20000 in
theorem jbL (H : FPar F) {a bx ba hd ln : Nat} {τ : List IObj} {f0 : Nat -> Option (Nat × IVal)} {R : Option (IExit × St)} {wr : List (Nat × Bool)} (hE : evw F zu ⟨E 80 19 7 [] f0, τ, wr⟩ = R) (hl : tx.length <= 20000) (ha : a + hd <= tx.length) (hba : ba = 10 \/ ba = 16) (hhd : hd <= 2)
   (hq : τ[q]? = some (.cells (LP true tx a er))) (hp : τ[p]? = some (.cells (TC 0 a ln [] 0))) (hb : τ[bx]? = some (.cells [I ba])) (hne : p ≠ q) (hne2 : bx ≠ q)
   (e0 : f0 0 = some (0, .ptr q 0)) (e1 : f0 1 = some (1, .ptr p 0)) (e4 : f0 4 = some (4, I a)) (e5 : f0 5 = some (5, .ptr bx 0)) (e6 : f0 6 = some (6, I hd)) (e9 : f0 9 = some (9, .str ((tx.drop (a + hd)).take (dgs ba (tx.drop (a + hd)))))) (hw : Fl wr) :
   ∃ x f1 wr1, (x = .normal \/ x = .ret) /\ Fl wr1 /\ match Vx tx a ba hd with
     | .inl f => ∃ a' y, R = some (x, ⟨E 80 19 7 [] (base f1), (τ.set q (.cells (LP true tx a' (flt f)))).set p y, wr1⟩)
     | .inr (ed, v) => R = some (x, ⟨E 80 19 7 [] (base f1), (τ.set q (.cells (LP true tx ed er))).set p (.cells (TC 2 a ln ((tx.take ed).drop a) v)), wr1⟩) := by
 have d1 : (0 : Int) <= (a : Int) := by omega
 have w1 : IntKind.i64.wrap ((a : Int) + (hd : Int)) = ((a + hd : Nat) : Int) := by rw [qe (by omega) (by omega)]; omega
 change evw F zu ⟨E 80 19 7 [] (base f0), τ, wr⟩ = R at hE
 have hdl := Ks ba (tx.drop (a + hd))
 have hall := jca ba (tx.drop (a + hd))
 rw [List.length_drop] at hdl
 unfold Vx
 simp only
 have hgl : ((tx.drop (a + hd)).take (dgs ba (tx.drop (a + hd)))).length = dgs ba (tx.drop (a + hd)) := by rw [tE, List.length_drop]; omega
 generalize hdg : (tx.drop (a + hd)).take (dgs ba (tx.drop (a + hd))) = dg at *
 generalize hdn : dgs ba (tx.drop (a + hd)) = dn at *
 have w2 : IntKind.i64.wrap (((a + hd : Nat) : Int) + ((dg.length : Nat) : Int)) = ((a + hd + dn : Nat) : Int) := by rw [qe (by omega) (by omega)]; omega
 by_cases h0 : dn = 0
 . have hd0 : dg = [] := List.length_eq_zero_iff.1 (by omega)
   have be : (([] : List UInt8) == []) = true := rfl
   subst hd0
   have w2' : IntKind.i64.wrap (((a + hd : Nat) : Int) + 0) = ((a + hd + dn : Nat) : Int) := w2
   obtain ⟨w3, u3, g3⟩ := Kv H.h42 (c := 7) (p := ((a + hd + dn : Nat) : Int)) hq
   rw [if_pos h0]
   simp only [zu, hq, e0, e1, e4, e5, e6, e9, w1, w2', u3, be, jA, Option.toList, jp, nat, j0, jO, jY, jr, lc0, lc1, jD, jE, jF, jG, j5, j6, ju, jt, jv, zV, zS, jC, jQ, jb, jh, jU, je, jk, jd, jx, jR, jj, ji, jo, jP, jy, jw, Ts.fill, jV, jT, jf, jW, jn, jl, jg, jc, getAll, stepCall, jm, unI, Opd.get, jB, tag, jz, ja, jN, rv, bin, jX, Nat.reduceAdd, Nat.reduceSub, Nat.reduceMul, Nat.reduceDiv, Nat.reduceMod, Nat.reducePow, Nat.reduceLT, Nat.reduceLeDiff, Nat.reduceEqDiff, Nat.reduceBEq, Nat.reduceBNe, reduceIte, Int.reduceEq, Int.reduceLT, Int.reduceLE, Int.reduceNeg, Int.reduceToNat, Int.reduceMul, Int.reduceAdd, Int.reduceSub, Int.reduceBEq, Int.reduceBNe, reduceCtorEq] at hE
   have es := vr (get_set (x := .cells (LP true tx a (.iface 56 (.pv false [I 7, I ((a + hd + dn : Nat) : Int)] 0)))) hp (j := q) (fun e => hne e.symm))
   rw [<- es] at hE
   exact ⟨.ret, _, _, Or.inr rfl, j7 g3 hw, a, _, hE.symm⟩
 . rw [if_neg h0]
   have be : (dg == []) = false := by cases dg with | nil => simp at hgl; omega | cons c s => rfl
   obtain ⟨w3, vv, u3, g3⟩ := jf6 H (σ := τ) hba hall (by intro e; rw [e] at hgl; simp at hgl; omega) (by omega)
   have gp1 := fun x => get_set (x := x) hp (j := q) (fun e => hne e.symm)
   cases hpz : pz ba 0 dg with
   | none =>
     rw [hpz] at u3
     simp only [pzW] at u3
     obtain ⟨w4, u4, g4⟩ := Kv H.h42 (c := 10) (p := (a : Int)) hq
     simp only [zu, hq, hb, e0, e1, e4, e5, e6, e9, w1, w2, u3, u4, be, jk, jA, Option.toList, jp, nat, j0, jO, jY, jr, lc0, lc1, jD, jE, jF, jG, j5, j6, ju, jt, jv, zV, zS, jC, jQ, jb, jh, jU, je, jd, jx, jR, jj, ji, jo, jP, jy, jw, Ts.fill, jV, jT, jf, jW, jn, jl, jg, jc, getAll, stepCall, jm, unI, Opd.get, jB, tag, jz, ja, jN, rv, bin, jX, Nat.reduceAdd, Nat.reduceSub, Nat.reduceMul, Nat.reduceDiv, Nat.reduceMod, Nat.reducePow, Nat.reduceLT, Nat.reduceLeDiff, Nat.reduceEqDiff, Nat.reduceBEq, Nat.reduceBNe, reduceIte, Int.reduceEq, Int.reduceLT, Int.reduceLE, Int.reduceNeg, Int.reduceToNat, Int.reduceMul, Int.reduceAdd, Int.reduceSub, Int.reduceBEq, Int.reduceBNe, reduceCtorEq] at hE
     obtain ⟨f1, wr1, gw, hR⟩ := QH (a := a) (hd := hd) (dn := dn) H hE hl (by omega) hgl (gs hq) (gp1 _) hne (by first | exact e0 | rfl) (by first | exact e1 | rfl) (by first | exact e6 | rfl) (by first | exact e9 | rfl) (by rfl) (j7 g4 (j7 g3 hw))
     rw [r7] at hR
     exact ⟨.normal, f1, wr1, Or.inl rfl, gw, _, _, hR⟩
   | some v =>
     rw [hpz] at u3
     simp only [pzW] at u3
     by_cases hv : 4294967296 <= v
     . have dv : decide (((v : Nat) : Int) ≥ 4294967296) = true := rB (by omega)
       obtain ⟨w4, u4, g4⟩ := Kv H.h42 (c := 10) (p := (a : Int)) hq
       simp only [zu, hq, hb, e0, e1, e4, e5, e6, e9, w1, w2, u3, u4, be, dv, jk, jA, Option.toList, jp, nat, j0, jO, jY, jr, lc0, lc1, jD, jE, jF, jG, j5, j6, ju, jt, jv, zV, zS, jC, jQ, jb, jh, jU, je, jd, jx, jR, jj, ji, jo, jP, jy, jw, Ts.fill, jV, jT, jf, jW, jn, jl, jg, jc, getAll, stepCall, jm, unI, Opd.get, jB, tag, jz, ja, jN, rv, bin, jX, Nat.reduceAdd, Nat.reduceSub, Nat.reduceMul, Nat.reduceDiv, Nat.reduceMod, Nat.reducePow, Nat.reduceLT, Nat.reduceLeDiff, Nat.reduceEqDiff, Nat.reduceBEq, Nat.reduceBNe, reduceIte, Int.reduceEq, Int.reduceLT, Int.reduceLE, Int.reduceNeg, Int.reduceToNat, Int.reduceMul, Int.reduceAdd, Int.reduceSub, Int.reduceBEq, Int.reduceBNe, reduceCtorEq] at hE
       obtain ⟨f1, wr1, gw, hR⟩ := QH (a := a) (hd := hd) (dn := dn) H hE hl (by omega) hgl (gs hq) (gp1 _) hne (by first | exact e0 | rfl) (by first | exact e1 | rfl) (by first | exact e6 | rfl) (by first | exact e9 | rfl) (by rfl) (j7 g4 (j7 g3 hw))
       simp only [if_pos hv]
       rw [r7] at hR
       exact ⟨.normal, f1, wr1, Or.inl rfl, gw, _, _, hR⟩
     . have dv : decide (((v : Nat) : Int) ≥ 4294967296) = false := rE (by omega)
       have cv := jdS (v := v) (by omega)
       simp only [if_neg hv]
       by_cases hlt : a + hd + dn < tx.length
       . obtain ⟨c, hg⟩ := qf hlt
         have dl : decide (((a + hd + dn : Nat) : Int) < ((tx.length : Nat) : Int)) = true := rB (by omega)
         have d3 : (0 : Int) <= ((a + hd + dn : Nat) : Int) := by omega
         have hc : c.toNat < 256 := c.toNat_lt
         obtain ⟨w5, u5, g5⟩ := jau H.toFTab (k := 6) hc hq
         have u5 : cfw F (.f 38) [.ptr q 0, .int .u8 c.toNat, .int .u8 6] τ = _ := u5
         simp only [hg]
         cases hs6 : isS 6 c.toNat with
         | true =>
           obtain ⟨w4, u4, g4⟩ := Kv H.h42 (c := 7) (p := ((a + hd + dn : Nat) : Int)) hq
           rw [hs6] at u5
           simp only [zu, hq, hb, e0, e1, e4, e5, e6, e9, w1, w2, u3, u4, u5, be, dv, dl, d3, hg, rI, jk, jA, Option.toList, jp, nat, j0, jO, jY, jr, lc0, lc1, jD, jE, jF, jG, j5, j6, ju, jt, jv, zV, zS, jC, jQ, jb, jh, jU, je, jd, jx, jR, jj, ji, jo, jP, jy, jw, Ts.fill, jV, jT, jf, jW, jn, jl, jg, jc, getAll, stepCall, jm, unI, Opd.get, jB, tag, jz, ja, jN, rv, bin, jX, Nat.reduceAdd, Nat.reduceSub, Nat.reduceMul, Nat.reduceDiv, Nat.reduceMod, Nat.reducePow, Nat.reduceLT, Nat.reduceLeDiff, Nat.reduceEqDiff, Nat.reduceBEq, Nat.reduceBNe, reduceIte, Int.reduceEq, Int.reduceLT, Int.reduceLE, Int.reduceNeg, Int.reduceToNat, Int.reduceMul, Int.reduceAdd, Int.reduceSub, Int.reduceBEq, Int.reduceBNe, reduceCtorEq] at hE
           obtain ⟨f1, wr1, gw, hR⟩ := QH (a := a) (hd := hd) (dn := dn) H hE hl (by omega) hgl (gs hq) (gp1 _) hne (by first | exact e0 | rfl) (by first | exact e1 | rfl) (by first | exact e6 | rfl) (by first | exact e9 | rfl) (by rfl) (j7 g4 (j7 g5 (j7 g3 hw)))
           rw [r7] at hR
           simp only [if_true]
           exact ⟨.normal, f1, wr1, Or.inl rfl, gw, _, _, hR⟩
         | false =>
           rw [hs6] at u5
           simp only [zu, hq, hb, e0, e1, e4, e5, e6, e9, w1, w2, u3, u5, be, dv, dl, d3, hg, rI, jk, jA, Option.toList, jp, nat, j0, jO, jY, jr, lc0, lc1, jD, jE, jF, jG, j5, j6, ju, jt, jv, zV, zS, jC, jQ, jb, jh, jU, je, jd, jx, jR, jj, ji, jo, jP, jy, jw, Ts.fill, jV, jT, jf, jW, jn, jl, jg, jc, getAll, stepCall, jm, unI, Opd.get, jB, tag, jz, ja, jN, rv, bin, jX, Nat.reduceAdd, Nat.reduceSub, Nat.reduceMul, Nat.reduceDiv, Nat.reduceMod, Nat.reducePow, Nat.reduceLT, Nat.reduceLeDiff, Nat.reduceEqDiff, Nat.reduceBEq, Nat.reduceBNe, reduceIte, Int.reduceEq, Int.reduceLT, Int.reduceLE, Int.reduceNeg, Int.reduceToNat, Int.reduceMul, Int.reduceAdd, Int.reduceSub, Int.reduceBEq, Int.reduceBNe, reduceCtorEq] at hE
           obtain ⟨f1, wr1, gw, hR⟩ := QH (a := a) (hd := hd) (dn := dn) H hE hl (by omega) hgl hq hp hne (by first | exact e0 | rfl) (by first | exact e1 | rfl) (by first | exact e6 | rfl) (by first | exact e9 | rfl) (by rfl) (j7 g5 (j7 g3 hw))
           rw [cv] at hR
           simp only [r8, if_false]
           exact ⟨.normal, f1, wr1, Or.inl rfl, gw, hR⟩
       . have dl : decide (((a + hd + dn : Nat) : Int) < ((tx.length : Nat) : Int)) = false := rE (by omega)
         rw [rV (by omega)]
         simp only [zu, hq, hb, e0, e1, e4, e5, e6, e9, w1, w2, u3, be, dv, dl, jk, jA, Option.toList, jp, nat, j0, jO, jY, jr, lc0, lc1, jD, jE, jF, jG, j5, j6, ju, jt, jv, zV, zS, jC, jQ, jb, jh, jU, je, jd, jx, jR, jj, ji, jo, jP, jy, jw, Ts.fill, jV, jT, jf, jW, jn, jl, jg, jc, getAll, stepCall, jm, unI, Opd.get, jB, tag, jz, ja, jN, rv, bin, jX, Nat.reduceAdd, Nat.reduceSub, Nat.reduceMul, Nat.reduceDiv, Nat.reduceMod, Nat.reducePow, Nat.reduceLT, Nat.reduceLeDiff, Nat.reduceEqDiff, Nat.reduceBEq, Nat.reduceBNe, reduceIte, Int.reduceEq, Int.reduceLT, Int.reduceLE, Int.reduceNeg, Int.reduceToNat, Int.reduceMul, Int.reduceAdd, Int.reduceSub, Int.reduceBEq, Int.reduceBNe, reduceCtorEq] at hE
         obtain ⟨f1, wr1, gw, hR⟩ := QH (a := a) (hd := hd) (dn := dn) H hE hl (by omega) hgl hq hp hne (by first | exact e0 | rfl) (by first | exact e1 | rfl) (by first | exact e6 | rfl) (by first | exact e9 | rfl) (by rfl) (j7 g3 hw)
         rw [cv] at hR
         exact ⟨.normal, f1, wr1, Or.inl rfl, gw, hR⟩
end
end Go.Idl.Lx
namespace Go.Idl.Lx
open Go Go.Idl Go.Idl.En
variable {F : kb}
section
variable {tx : List UInt8} {er : IVal} {p q : Nat}
set_option maxRecDepth 20000 in
theorem jbM (H : FPar F) {a bx ba hd ln : Nat} {τ : List IObj} {f0 : Nat -> Option (Nat × IVal)} {R : Option (IExit × St)} {wr : List (Nat × Bool)} (hE : evw F KA ⟨E 80 19 7 [] (base f0), τ, wr⟩ = R) (hl : tx.length <= 20000) (ha : a + hd <= tx.length) (hba : ba = 10 \/ ba = 16) (hhd : hd <= 2)
   (hq : τ[q]? = some (.cells (LP true tx a er))) (hp : τ[p]? = some (.cells (TC 0 a ln [] 0))) (hb : τ[bx]? = some (.cells [I ba])) (hne : p ≠ q) (hne2 : bx ≠ q)
   (e0 : f0 0 = some (0, .ptr q 0)) (e1 : f0 1 = some (1, .ptr p 0)) (e4 : f0 4 = some (4, I a)) (e5 : f0 5 = some (5, .ptr bx 0)) (e6 : f0 6 = some (6, I hd)) (hw : Fl wr) :
   ∃ x f1 wr1, (x = .normal \/ x = .ret) /\ Fl wr1 /\ match Vx tx a ba hd with
     | .inl f => ∃ a' y, R = some (x, ⟨E 80 19 7 [] (base f1), (τ.set q (.cells (LP true tx a' (flt f)))).set p y, wr1⟩)
     | .inr (ed, v) => R = some (x, ⟨E 80 19 7 [] (base f1), (τ.set q (.cells (LP true tx ed er))).set p (.cells (TC 2 a ln ((tx.take ed).drop a) v)), wr1⟩) := by
 have d1 : (0 : Int) <= (a : Int) := by omega
 have d2 : (0 : Int) <= ((a + hd : Nat) : Int) := by omega
 have w1 : IntKind.i64.wrap ((a : Int) + (hd : Int)) = ((a + hd : Nat) : Int) := by rw [qe (by omega) (by omega)]; omega
 obtain ⟨wi, ui, gi⟩ := jfY H.toFNum hb (s := tx.drop (a + hd)) (by rw [List.length_drop]; omega)
 have hdl := Ks ba (tx.drop (a + hd))
 by_cases h : dgs ba (tx.drop (a + hd)) < (tx.drop (a + hd)).length
 . rw [if_pos h] at ui
   have d3 : decide (((dgs ba (tx.drop (a + hd)) : Nat) : Int) ≥ 0) = true := rB (by omega)
   have d4 : (0 : Int) <= ((dgs ba (tx.drop (a + hd)) : Nat) : Int) := by omega
   simp only [KA, hq, e0, e1, e4, e5, e6, d1, d2, d3, d4, hdl, w1, ha, ui, nr3_fn, rI, jA, Option.toList, jp, nat, j0, jO, jY, jr, lc0, lc1, jD, jE, jF, jG, j5, j6, ju, jt, jv, zV, zS, jC, jQ, jb, jh, jU, je, jk, jd, jx, jR, jj, ji, jo, jP, jy, jw, Ts.fill, jV, jT, jf, jW, jn, jl, jg, jc, getAll, stepCall, jm, unI, Opd.get, jB, tag, jz, ja, jN, rv, bin, jX, Nat.reduceAdd, Nat.reduceSub, Nat.reduceMul, Nat.reduceDiv, Nat.reduceMod, Nat.reducePow, Nat.reduceLT, Nat.reduceLeDiff, Nat.reduceEqDiff, Nat.reduceBEq, Nat.reduceBNe, reduceIte, Int.reduceEq, Int.reduceLT, Int.reduceLE, Int.reduceNeg, Int.reduceToNat, Int.reduceMul, Int.reduceAdd, Int.reduceSub, Int.reduceBEq, Int.reduceBNe, reduceCtorEq] at hE
   exact jbL H hE hl ha hba hhd hq hp hb hne hne2 (by first | exact e0 | rfl) (by first | exact e1 | rfl) (by first | exact e4 | rfl) (by first | exact e5 | rfl) (by first | exact e6 | rfl) (by rfl) (j7 gi hw)
 . rw [if_neg h] at ui
   have d3 : decide ((-1 : Int) ≥ 0) = false := rfl
   have e9 : (tx.drop (a + hd)).take (dgs ba (tx.drop (a + hd))) = tx.drop (a + hd) := rU (by omega)
   simp only [KA, hq, e0, e1, e4, e5, e6, d1, d2, d3, w1, ha, ui, nr3_fn, rI, jA, Option.toList, jp, nat, j0, jO, jY, jr, lc0, lc1, jD, jE, jF, jG, j5, j6, ju, jt, jv, zV, zS, jC, jQ, jb, jh, jU, je, jk, jd, jx, jR, jj, ji, jo, jP, jy, jw, Ts.fill, jV, jT, jf, jW, jn, jl, jg, jc, getAll, stepCall, jm, unI, Opd.get, jB, tag, jz, ja, jN, rv, bin, jX, Nat.reduceAdd, Nat.reduceSub, Nat.reduceMul, Nat.reduceDiv, Nat.reduceMod, Nat.reducePow, Nat.reduceLT, Nat.reduceLeDiff, Nat.reduceEqDiff, Nat.reduceBEq, Nat.reduceBNe, reduceIte, Int.reduceEq, Int.reduceLT, Int.reduceLE, Int.reduceNeg, Int.reduceToNat, Int.reduceMul, Int.reduceAdd, Int.reduceSub, Int.reduceBEq, Int.reduceBNe, reduceCtorEq] at hE
   exact jbL H hE hl ha hba hhd hq hp hb hne hne2 (by first | exact e0 | rfl) (by first | exact e1 | rfl) (by first | exact e4 | rfl) (by first | exact e5 | rfl) (by first | exact e6 | rfl) (by rw [e9]; rfl) (j7 gi hw)
def zk (tx : List UInt8) (a : Nat) : (Nat × Nat) ⊕ (Nat × Nat) := if [48, 120].isPrefixOf (tx.drop a) then Vx tx a 16 2 else Vx tx a 10 0
theorem Zv {s : List UInt8} (h : [48, 120].isPrefixOf s = true) : 2 <= s.length := by
 rw [List.isPrefixOf_iff_prefix] at h; exact h.length_le
set_option maxRecDepth 20000 in
theorem jaN (H : FPar F) {a ln : Nat} {σ : List IObj} (hl : tx.length <= 20000) (ha : a <= tx.length)
   (hq : σ[q]? = some (.cells (LP true tx a er))) (hp : σ[p]? = some (.cells (TC 0 a ln [] 0))) (hne : p ≠ q) :
   ∃ wr, Fl wr /\ match zk tx a with
     | .inl f => ∃ a' y, cfw F (.f 40) [.ptr q 0, .ptr p 0] σ = some ⟨false, .tup [], (σ.set q (.cells (LP true tx a' (flt f)))).set p y, wr⟩
     | .inr (ed, v) => cfw F (.f 40) [.ptr q 0, .ptr p 0] σ = some ⟨false, .tup [], (σ.set q (.cells (LP true tx ed er))).set p (.cells (TC 2 a ln ((tx.take ed).drop a) v)), wr⟩ := by
 rw [cfw_of jee H.h40, jw]
 have d1 : (0 : Int) <= (a : Int) := by omega
 have hle : (tx.drop a).length <= 20000 := by rw [List.length_drop]; omega
 have u3 := fun σ => jcY H.h34 H.h53 (σ := σ) (s := tx.drop a) (p := [48, 120]) hle (by simp)
 have hq2 := y9 hq
 have hp2 := y9 hp
 have lq := jq hq
 have lp := jq hp
 have fin : ∀ (x y z : IObj), ((σ ++ [z]).set q x).set p y = (σ.set q x).set p y ++ [z] := fun x y z => by
   rw [yc lq, yc (by simpa using lp)]
 have tk : ∀ (x y : IObj) (l : List IObj), ((σ.set q x).set p y ++ l).take σ.length = (σ.set q x).set p y := fun x y l => by
   simp
 have gb : ∀ (z : IObj), (σ ++ [z])[σ.length]? = some z := fun z => by rw [get_app0]; rfl
 cases hx : [48, 120].isPrefixOf (tx.drop a) with
 | true =>
   have := Zv hx
   rw [List.length_drop] at this
   simp only [jee, zk, hx, hq, hq2, d1, ha, u3, rI, jA, Option.toList, jp, nat, j0, jO, jY, jr, lc0, lc1, jD, jE, jF, jG, j5, j6, ju, jt, jv, zV, zS, jC, jQ, jb, jh, jU, je, jk, jd, jx, jR, jj, ji, jo, jP, jy, jw, Ts.fill, jV, jT, jf, jW, jn, jl, jg, jc, getAll, stepCall, jm, unI, Opd.get, jB, tag, jz, ja, jN, rv, bin, jX, Nat.reduceAdd, Nat.reduceSub, Nat.reduceMul, Nat.reduceDiv, Nat.reduceMod, Nat.reducePow, Nat.reduceLT, Nat.reduceLeDiff, Nat.reduceEqDiff, Nat.reduceBEq, Nat.reduceBNe, reduceIte, Int.reduceEq, Int.reduceLT, Int.reduceLE, Int.reduceNeg, Int.reduceToNat, Int.reduceMul, Int.reduceAdd, Int.reduceSub, Int.reduceBEq, Int.reduceBNe, reduceCtorEq]
   generalize hE : evw F KA _ = R
   obtain ⟨x, f1, wr1, hxx, gw, hm⟩ := jbM (hd := 2) (ba := 16) H hE hl (by omega) (Or.inr rfl) (by omega) (hq2 _) (hp2 _) (gb _) hne (by omega) (by rfl) (by rfl) (by rfl) (by rfl) (by rfl) (by simp)
   cases hn : Vx tx a 16 2 with
   | inl f =>
     rw [hn] at hm
     obtain ⟨a', y, rfl⟩ := hm
     rcases hxx with rfl | rfl
     all_goals
       simp only [fin, tk, j8 gw, jA, Option.toList, jp, nat, j0, jO, jY, jr, lc0, lc1, jD, jE, jF, jG, j5, j6, ju, jt, jv, zV, zS, jC, jQ, jb, jh, jU, je, jk, jd, jx, jR, jj, ji, jo, jP, jy, jw, Ts.fill, jV, jT, jf, jW, jn, jl, jg, jc, getAll, stepCall, jm, unI, Opd.get, jB, tag, jz, ja, jN, rv, bin, jX, Nat.reduceAdd, Nat.reduceSub, Nat.reduceMul, Nat.reduceDiv, Nat.reduceMod, Nat.reducePow, Nat.reduceLT, Nat.reduceLeDiff, Nat.reduceEqDiff, Nat.reduceBEq, Nat.reduceBNe, reduceIte, Int.reduceEq, Int.reduceLT, Int.reduceLE, Int.reduceNeg, Int.reduceToNat, Int.reduceMul, Int.reduceAdd, Int.reduceSub, Int.reduceBEq, Int.reduceBNe, reduceCtorEq]
       exact ⟨_, jZ gw, a', y, rfl⟩
   | inr v =>
     obtain ⟨ed, v⟩ := v
     rw [hn] at hm
     simp only at hm
     subst hm
     rcases hxx with rfl | rfl
     all_goals
       simp only [fin, tk, j8 gw, jA, Option.toList, jp, nat, j0, jO, jY, jr, lc0, lc1, jD, jE, jF, jG, j5, j6, ju, jt, jv, zV, zS, jC, jQ, jb, jh, jU, je, jk, jd, jx, jR, jj, ji, jo, jP, jy, jw, Ts.fill, jV, jT, jf, jW, jn, jl, jg, jc, getAll, stepCall, jm, unI, Opd.get, jB, tag, jz, ja, jN, rv, bin, jX, Nat.reduceAdd, Nat.reduceSub, Nat.reduceMul, Nat.reduceDiv, Nat.reduceMod, Nat.reducePow, Nat.reduceLT, Nat.reduceLeDiff, Nat.reduceEqDiff, Nat.reduceBEq, Nat.reduceBNe, reduceIte, Int.reduceEq, Int.reduceLT, Int.reduceLE, Int.reduceNeg, Int.reduceToNat, Int.reduceMul, Int.reduceAdd, Int.reduceSub, Int.reduceBEq, Int.reduceBNe, reduceCtorEq]
       exact ⟨_, jZ gw, rfl⟩
 | false =>
   simp only [jee, zk, hx, hq, hq2, d1, ha, u3, rI, jA, Option.toList, jp, nat, j0, jO, jY, jr, lc0, lc1, jD, jE, jF, jG, j5, j6, ju, jt, jv, zV, zS, jC, jQ, jb, jh, jU, je, jk, jd, jx, jR, jj, ji, jo, jP, jy, jw, Ts.fill, jV, jT, jf, jW, jn, jl, jg, jc, getAll, stepCall, jm, unI, Opd.get, jB, tag, jz, ja, jN, rv, bin, jX, Nat.reduceAdd, Nat.reduceSub, Nat.reduceMul, Nat.reduceDiv, Nat.reduceMod, Nat.reducePow, Nat.reduceLT, Nat.reduceLeDiff, Nat.reduceEqDiff, Nat.reduceBEq, Nat.reduceBNe, reduceIte, Int.reduceEq, Int.reduceLT, Int.reduceLE, Int.reduceNeg, Int.reduceToNat, Int.reduceMul, Int.reduceAdd, Int.reduceSub, Int.reduceBEq, Int.reduceBNe, reduceCtorEq]
   generalize hE : evw F KA _ = R
   obtain ⟨x, f1, wr1, hxx, gw, hm⟩ := jbM (hd := 0) (ba := 10) H hE hl (by omega) (Or.inl rfl) (by omega) (hq2 _) (hp2 _) (gb _) hne (by omega) (by rfl) (by rfl) (by rfl) (by rfl) (by rfl) (by simp)
   cases hn : Vx tx a 10 0 with
   | inl f =>
     rw [hn] at hm
     obtain ⟨a', y, rfl⟩ := hm
     rcases hxx with rfl | rfl
     all_goals
       simp only [fin, tk, j8 gw, jA, Option.toList, jp, nat, j0, jO, jY, jr, lc0, lc1, jD, jE, jF, jG, j5, j6, ju, jt, jv, zV, zS, jC, jQ, jb, jh, jU, je, jk, jd, jx, jR, jj, ji, jo, jP, jy, jw, Ts.fill, jV, jT, jf, jW, jn, jl, jg, jc, getAll, stepCall, jm, unI, Opd.get, jB, tag, jz, ja, jN, rv, bin, jX, Nat.reduceAdd, Nat.reduceSub, Nat.reduceMul, Nat.reduceDiv, Nat.reduceMod, Nat.reducePow, Nat.reduceLT, Nat.reduceLeDiff, Nat.reduceEqDiff, Nat.reduceBEq, Nat.reduceBNe, reduceIte, Int.reduceEq, Int.reduceLT, Int.reduceLE, Int.reduceNeg, Int.reduceToNat, Int.reduceMul, Int.reduceAdd, Int.reduceSub, Int.reduceBEq, Int.reduceBNe, reduceCtorEq]
       exact ⟨_, jZ gw, a', y, rfl⟩
   | inr v =>
     obtain ⟨ed, v⟩ := v
     rw [hn] at hm
     simp only at hm
     subst hm
     rcases hxx with rfl | rfl
     all_goals
       simp only [fin, tk, j8 gw, jA, Option.toList, jp, nat, j0, jO, jY, jr, lc0, lc1, jD, jE, jF, jG, j5, j6, ju, jt, jv, zV, zS, jC, jQ, jb, jh, jU, je, jk, jd, jx, jR, jj, ji, jo, jP, jy, jw, Ts.fill, jV, jT, jf, jW, jn, jl, jg, jc, getAll, stepCall, jm, unI, Opd.get, jB, tag, jz, ja, jN, rv, bin, jX, Nat.reduceAdd, Nat.reduceSub, Nat.reduceMul, Nat.reduceDiv, Nat.reduceMod, Nat.reducePow, Nat.reduceLT, Nat.reduceLeDiff, Nat.reduceEqDiff, Nat.reduceBEq, Nat.reduceBNe, reduceIte, Int.reduceEq, Int.reduceLT, Int.reduceLE, Int.reduceNeg, Int.reduceToNat, Int.reduceMul, Int.reduceAdd, Int.reduceSub, Int.reduceBEq, Int.reduceBNe, reduceCtorEq]
       exact ⟨_, jZ gw, rfl⟩
end
end Go.Idl.Lx
