/- Chapter 2: what the ideal machine makes of its functions, part D; no conditions. -/
import Derived.Test.YtjjmammoapggkaaGreatDoorLxC
set_option linter.defProp false
set_option linter.unusedSectionVars false
set_option linter.unusedVariables false
set_option linter.unusedSimpArgs false
namespace Go.Idl.Lx
open Go Go.Idl Go.Idl.En
variable {F : kg}
section
variable {σ : List IObj} {s : List UInt8}
set_option maxRecDepth 20000 in
set_option maxHeartbeats 2000000 in
theorem jbX (H : FCov F) (hl : s.length <= 2000) {ar : List IVal} {j : Nat} (hj : j < 2) (ha : ar[j]? = some (.str s)) (har : ar.length = 2) {f0 : Nat -> Option (Nat × IVal)} {S : List IObj} {wr : List (Nat × Bool)} {R : Option (IExit × St)} (hE : evw F (.loop zl) ⟨E 26 78 7 [] f0, S, wr⟩ = R) (e24 : f0 24 = some (24, .agg ar)) (e25 : f0 25 = some (25, I j)) :
   ∃ f1 S1 wr1, evw F (.loop zl) ⟨E 26 78 7 [] f1, S1, wr1⟩ = R /\ f1 24 = some (24, .agg ar) /\ f1 25 = some (25, I (j + 1 : Nat)) := by
 have d1 : decide ((j : Int) < 2) = true := rB (by omega)
 have d2 : (0 : Int) <= (j : Int) := by omega
 have d3 : (j : Int) < 2 := by omega
 have d0 : decide ((0 : Int) > 0) = false := rfl
 have w1 := Je (n := j) (by omega)
 obtain ⟨w8, u8, g8⟩ := jdw H.toFLex (tx := s) (σ := S)
 rw [jbG, if_neg (by omega)] at u8
 change evw F (.loop zl) ⟨E 26 78 7 [] (base f0), S, wr⟩ = R at hE
 rw [jT] at hE
 cases h2 : (z8 s).2 with
 | some f =>
   rw [h2] at u8
   simp only [zl, e24, e25, d0, d1, d2, d3, ha, har, w1, u8, rI, jl, jA, Option.toList, jq, nat, j6, jO, j5, jr, lc0, lc1, jE, jF, jG, jH, j7, j8, ju, jt, jv, zV, zS, jC, jS, jc, jh, jX, je, jd, jx, jU, jj, ji, jp, jR, jy, jw, Ts.fill, jY, jV, jf, jZ, jo, jm, jg, ja, getAll, stepCall, jn, unI, Opd.get, jB, tag, jz, jb, jP, rv, bin, j0, Nat.reduceAdd, Nat.reduceSub, Nat.reduceMul, Nat.reduceDiv, Nat.reduceMod, Nat.reducePow, Nat.reduceLT, Nat.reduceLeDiff, Nat.reduceEqDiff, Nat.reduceBEq, Nat.reduceBNe, reduceIte, Int.reduceEq, Int.reduceLT, Int.reduceLE, Int.reduceNeg, Int.reduceToNat, Int.reduceMul, Int.reduceAdd, Int.reduceSub, Int.reduceBEq, Int.reduceBNe, reduceCtorEq] at hE
   exact ⟨_, _, _, hE, (by first | exact e24 | rfl), (by rfl)⟩
 | none =>
   rw [h2] at u8
   simp only at u8
   have hsk := yV false s
   have hch := Ym s (s.length + 1) 0 (Nat.zero_le _) (by omega) (by rw [List.drop_zero, tS]; exact h2)
   rw [List.drop_zero, tS] at hch
   have hll := KP s (s.length + 1) (skN false s)
   change Ch s 0 ((z8 s).1 ++ [yQ s]) /\ ∀ t ∈ (z8 s).1, Tk t at hch
   change (z8 s).1.length <= s.length + 1 at hll
   generalize (z8 s).1 = ts at *
   obtain ⟨hc, htk⟩ := hch
   have hends := jcg (e := yQ s) htk rfl rfl rfl
   have hcl := jbt _ 0 0 hc (Nat.zero_le _)
   have hTl : (ts ++ [yQ s]).length = ts.length + 1 := by simp
   have hlex := YZ (e := yQ s) rfl ts 0 ((cat 0 (ts ++ [yQ s])).length + 1) htk (by omega)
   have hWl : (cat 0 (ts ++ [yQ s])).length <= 20000 := by omega
   have hsm := jfU (ts := ts) (e := yQ s) (e' := yQ (cat 0 (ts ++ [yQ s]))) rfl rfl rfl
   have hml : (ag 0 0 1 ts ++ [yQ (cat 0 (ts ++ [yQ s]))]).length = (ts ++ [yQ s]).length := by
     rw [rF, Yf]; simp
   have hlexV : jbG (cat 0 (ts ++ [yQ s])) = [.sl 0 false ((ag 0 0 1 ts ++ [yQ (cat 0 (ts ++ [yQ s]))]).map J2), .prim .nilIface] := by
     have e : z8 (cat 0 (ts ++ [yQ s])) = (ag 0 0 1 ts, none) := hlex
     rw [jbG, if_neg (by omega), e]
   generalize ag 0 0 1 ts ++ [yQ (cat 0 (ts ++ [yQ s]))] = M at *
   generalize ts ++ [yQ s] = T at *
   simp only [zl, e24, e25, d0, d1, d2, d3, ha, har, w1, u8, rI, jl, jA, Option.toList, jq, nat, j6, jO, j5, jr, lc0, lc1, jE, jF, jG, jH, j7, j8, ju, jt, jv, zV, zS, jC, jS, jc, jh, jX, je, jd, jx, jU, jj, ji, jp, jR, jy, jw, Ts.fill, jY, jV, jf, jZ, jo, jm, jg, ja, getAll, stepCall, jn, unI, Opd.get, jB, tag, jz, jb, jP, rv, bin, j0, Nat.reduceAdd, Nat.reduceSub, Nat.reduceMul, Nat.reduceDiv, Nat.reduceMod, Nat.reducePow, Nat.reduceLT, Nat.reduceLeDiff, Nat.reduceEqDiff, Nat.reduceBEq, Nat.reduceBNe, reduceIte, Int.reduceEq, Int.reduceLT, Int.reduceLE, Int.reduceNeg, Int.reduceToNat, Int.reduceMul, Int.reduceAdd, Int.reduceSub, Int.reduceBEq, Int.reduceBNe, reduceCtorEq] at hE
   generalize hE2 : evw F (ICode.loop z6) _ = R2 at hE
   obtain ⟨f2, S2, wr2, rfl, hB, i6, i7, i9, i10, i24, i25⟩ := jey (σ := S) (n := S.length) H (by omega) hends (by omega) T.length 0 0 _ _ _ _ hE2 (tS _) hc (Nat.zero_le _) (by simp [cat]) ⟨by simp, fun i hi => by rw [List.getElem?_append_left hi], by rw [get_app]; rfl, _, _, by rw [get_app0]; rfl, Or.inl rfl, Or.inl ⟨rfl, rfl⟩⟩ (by rfl) (by rfl) (by rfl) (by rfl) (by rfl) (by first | exact e24 | rfl) (by first | exact e25 | rfl)
   obtain ⟨S3, w3, u21, _, _, _⟩ := Xq H.toFBld (by omega) hB
   obtain ⟨w8', u8', g8'⟩ := jdw H.toFLex (tx := cat 0 T) (σ := S3)
   rw [hlexV] at u8'
   have bs : (((s.length : Nat) : Int) != ((s.length : Nat) : Int)) = false := by simp
   have bt : (((T.length : Nat) : Int) != ((T.length : Nat) : Int)) = false := by simp
   simp only [i6, i7, i9, i10, i24, i25, u21, u8', bs, bt, hml, jl, jA, Option.toList, jq, nat, j6, jO, j5, jr, lc0, lc1, jE, jF, jG, jH, j7, j8, ju, jt, jv, zV, zS, jC, jS, jc, jh, jX, je, jd, jx, jU, jj, ji, jp, jR, jy, jw, Ts.fill, jY, jV, jf, jZ, jo, jm, jg, ja, getAll, stepCall, jn, unI, Opd.get, jB, tag, jz, jb, jP, rv, bin, j0, Nat.reduceAdd, Nat.reduceSub, Nat.reduceMul, Nat.reduceDiv, Nat.reduceMod, Nat.reducePow, Nat.reduceLT, Nat.reduceLeDiff, Nat.reduceEqDiff, Nat.reduceBEq, Nat.reduceBNe, reduceIte, Int.reduceEq, Int.reduceLT, Int.reduceLE, Int.reduceNeg, Int.reduceToNat, Int.reduceMul, Int.reduceAdd, Int.reduceSub, Int.reduceBEq, Int.reduceBNe, reduceCtorEq] at hE
   generalize hE3 : evw F (ICode.loop z7) _ = R3 at hE
   obtain ⟨f3, S4, wr3, rfl, k24, k25⟩ := jez hsm (by omega) T.length 0 _ _ _ _ hE3 (tS _) (by first | exact i7 | rfl) (by rfl) (by rfl) (by first | exact i24 | rfl) (by first | exact i25 | rfl)
   simp only [k24, k25, w1, jA, Option.toList, jq, nat, j6, jO, j5, jr, lc0, lc1, jE, jF, jG, jH, j7, j8, ju, jt, jv, zV, zS, jC, jS, jc, jh, jX, je, jl, jd, jx, jU, jj, ji, jp, jR, jy, jw, Ts.fill, jY, jV, jf, jZ, jo, jm, jg, ja, getAll, stepCall, jn, unI, Opd.get, jB, tag, jz, jb, jP, rv, bin, j0, Nat.reduceAdd, Nat.reduceSub, Nat.reduceMul, Nat.reduceDiv, Nat.reduceMod, Nat.reducePow, Nat.reduceLT, Nat.reduceLeDiff, Nat.reduceEqDiff, Nat.reduceBEq, Nat.reduceBNe, reduceIte, Int.reduceEq, Int.reduceLT, Int.reduceLE, Int.reduceNeg, Int.reduceToNat, Int.reduceMul, Int.reduceAdd, Int.reduceSub, Int.reduceBEq, Int.reduceBNe, reduceCtorEq] at hE
   exact ⟨_, _, _, hE, (by first | exact k24 | rfl), (by rfl)⟩
set_option maxRecDepth 20000 in
theorem jgy (H : FCov F) {l : List Nat} {o : Nat} {r : Bool} {raw : List UInt8} (hb : ∀ b ∈ l, b < 256) : ∃ wr S, cfw F (.f 6) [.sl o r (l.map B), .str raw] σ = some ⟨false, .bool true, S, wr⟩ := by
 rw [cfw_of ir6 H.h6, jw]
 have hm : (if (300 : Int) < (raw.length : Int) then (300 : Int) else (raw.length : Int)) = ((min raw.length 300 : Nat) : Int) := by split <;> omega
 have c1 : (0 : Int) <= ((min raw.length 300 : Nat) : Int) := by omega
 have c2 : min raw.length 300 <= raw.length := Nat.min_le_left _ _
 have hA1 : (raw.take (min raw.length 300)).length <= 2000 := by rw [tE]; omega
 generalize hA : raw.take (min raw.length 300) = A at *
 have hB1 := jcO l
 obtain ⟨w7, u7, g7⟩ := je4 H.toFWk (σ := σ)
 have u9 := jfK H.toFMade hb (o := 0) (r := r) σ
 have ff : yZ [.str [], .str []] [(0, 1, .str (mdS l)), (1, 1, .str A)] = some [.str (mdS l), .str A] := rfl
 simp only [ir6, hm, c1, c2, hA, u7, u9, ff, tC, tM, rI, jl, jA, Option.toList, jq, nat, j6, jO, j5, jr, lc0, lc1, jE, jF, jG, jH, j7, j8, ju, jt, jv, zV, zS, jC, jS, jc, jh, jX, je, jd, jx, jU, jj, ji, jp, jR, jy, jw, Ts.fill, jY, jV, jf, jZ, jo, jm, jg, ja, getAll, stepCall, jn, unI, Opd.get, jB, tag, jz, jb, jP, rv, bin, j0, Nat.reduceAdd, Nat.reduceSub, Nat.reduceMul, Nat.reduceDiv, Nat.reduceMod, Nat.reducePow, Nat.reduceLT, Nat.reduceLeDiff, Nat.reduceEqDiff, Nat.reduceBEq, Nat.reduceBNe, reduceIte, Int.reduceEq, Int.reduceLT, Int.reduceLE, Int.reduceNeg, Int.reduceToNat, Int.reduceMul, Int.reduceAdd, Int.reduceSub, Int.reduceBEq, Int.reduceBNe, reduceCtorEq]
 generalize hE : evw F (ICode.loop zl) _ = R
 obtain ⟨f1, S1, wr1, h1, e24, e25⟩ := jbX (s := mdS l) H (by omega) (ar := [.str (mdS l), .str A]) (j := 0) (by omega) rfl rfl hE (by rfl) (by rfl)
 obtain ⟨f2, S2, wr2, h2, e24, e25⟩ := jbX (s := A) H hA1 (ar := [.str (mdS l), .str A]) (j := 1) (by omega) rfl rfl h1 e24 e25
 change evw F (.loop zl) ⟨E 26 78 7 [] (base f2), S2, wr2⟩ = R at h2
 rw [jT] at h2
 have d1 : decide (((1 + 1 : Nat) : Int) < 2) = false := rfl
 simp only [zl, e24, e25, d1, jA, Option.toList, jq, nat, j6, jO, j5, jr, lc0, lc1, jE, jF, jG, jH, j7, j8, ju, jt, jv, zV, zS, jC, jS, jc, jh, jX, je, jl, jd, jx, jU, jj, ji, jp, jR, jy, jw, Ts.fill, jY, jV, jf, jZ, jo, jm, jg, ja, getAll, stepCall, jn, unI, Opd.get, jB, tag, jz, jb, jP, rv, bin, j0, Nat.reduceAdd, Nat.reduceSub, Nat.reduceMul, Nat.reduceDiv, Nat.reduceMod, Nat.reducePow, Nat.reduceLT, Nat.reduceLeDiff, Nat.reduceEqDiff, Nat.reduceBEq, Nat.reduceBNe, reduceIte, Int.reduceEq, Int.reduceLT, Int.reduceLE, Int.reduceNeg, Int.reduceToNat, Int.reduceMul, Int.reduceAdd, Int.reduceSub, Int.reduceBEq, Int.reduceBNe, reduceCtorEq] at h2
 subst h2
 simp only [jA, Option.toList, jq, nat, j6, jO, j5, jr, lc0, lc1, jE, jF, jG, jH, j7, j8, ju, jt, jv, zV, zS, jC, jS, jc, jh, jX, je, jl, jd, jx, jU, jj, ji, jp, jR, jy, jw, Ts.fill, jY, jV, jf, jZ, jo, jm, jg, ja, getAll, stepCall, jn, unI, Opd.get, jB, tag, jz, jb, jP, rv, bin, j0, Nat.reduceAdd, Nat.reduceSub, Nat.reduceMul, Nat.reduceDiv, Nat.reduceMod, Nat.reducePow, Nat.reduceLT, Nat.reduceLeDiff, Nat.reduceEqDiff, Nat.reduceBEq, Nat.reduceBNe, reduceIte, Int.reduceEq, Int.reduceLT, Int.reduceLE, Int.reduceNeg, Int.reduceToNat, Int.reduceMul, Int.reduceAdd, Int.reduceSub, Int.reduceBEq, Int.reduceBNe, reduceCtorEq]
 split <;> exact ⟨_, _, rfl⟩
end
end Go.Idl.Lx
