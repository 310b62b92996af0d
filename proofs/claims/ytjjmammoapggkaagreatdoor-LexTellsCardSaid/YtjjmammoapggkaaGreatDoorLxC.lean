/- Chapter 2: what the ideal machine makes of its functions, part C; no conditions. -/
import Derived.Test.YtjjmammoapggkaaGreatDoorLxB
set_option linter.defProp false
set_option linter.unusedSectionVars false
set_option linter.unusedVariables false
set_option linter.unusedSimpArgs false
namespace Go.Idl.Lx
open Go Go.Idl Go.Idl.En
variable {F : kb}
def dbls : List (List UInt8) := [[60, 60], [62, 62], [60, 61], [62, 61], [61, 61], [33, 61]]
def mkN (s : List UInt8) : Nat := if dbls.any (fun m => m.isPrefixOf s) then 2 else 1
structure FMrk (F : kb) : Prop extends FPar F where
 h39 : F 39 = some jdB
 h41 : F 41 = some jfo
 h60 : F 60 = some jdC
 h65 : ∀ σ : List IObj, cfw F (.f 65) [.str [60, 60, 32, 62, 62, 32, 60, 61, 32, 62, 61, 32, 61, 61, 32, 33, 61]] σ = some ⟨false, .sl 0 false (dbls.map .str), σ, []⟩
section
variable {tx : List UInt8} {er : IVal} {p q : Nat} {σ : List IObj}
set_option maxRecDepth 20000 in
theorem jeF (H : FMrk F) {s : List UInt8} {ms : List (List UInt8)} (hms : ∀ m ∈ ms, m.length = 2) (hml : ms.length <= 1000) (hl : s.length <= 20000) : ∀ (m i : Nat) (f0 : Nat -> Option (Nat × IVal)) (wr : List (Nat × Bool)) (R : Option (IExit × St)), evw F (.loop yr) ⟨E 20 9 5 [] f0, σ, wr⟩ = R -> i + m = ms.length -> f0 0 = some (0, .ptr q 0) -> f0 1 = some (1, .ptr p 0) -> f0 4 = some (4, I 1) -> f0 5 = some (5, .str s) -> f0 17 = some (17, .sl 0 false (ms.map .str)) -> f0 18 = some (18, I ms.length) -> f0 19 = some (19, I i) -> Fl wr ->
   ∃ f1 wr1, Fl wr1 /\ R = some (.exit 0, ⟨E 20 9 5 [] (base f1), σ, wr1⟩) /\ f1 0 = some (0, .ptr q 0) /\ f1 1 = some (1, .ptr p 0) /\ f1 4 = some (4, I ((if (ms.drop i).any (fun m => m.isPrefixOf s) then 2 else 1 : Nat) : Int)) := by
 intro m
 induction m with
 | zero =>
   intro i f0 wr R hE hm e0 e1 e4 e5 e17 e18 e19 hw
   have d1 : decide ((i : Int) < (ms.length : Nat)) = false := rE (by omega)
   change evw F (.loop yr) ⟨E 20 9 5 [] (base f0), σ, wr⟩ = R at hE
   rw [jI] at hE
   simp only [yr, e0, e1, e4, e5, e17, e18, e19, d1, jA, Option.toList, jp, nat, j0, jO, jY, jr, lc0, lc1, jD, jE, jF, jG, j5, j6, ju, jt, jv, zV, zS, jC, jQ, jb, jh, jU, je, jk, jd, jx, jR, jj, ji, jo, jP, jy, jw, Ts.fill, jV, jT, jf, jW, jn, jl, jg, jc, getAll, stepCall, jm, unI, Opd.get, jB, tag, jz, ja, jN, rv, bin, jX, Nat.reduceAdd, Nat.reduceSub, Nat.reduceMul, Nat.reduceDiv, Nat.reduceMod, Nat.reducePow, Nat.reduceLT, Nat.reduceLeDiff, Nat.reduceEqDiff, Nat.reduceBEq, Nat.reduceBNe, reduceIte, Int.reduceEq, Int.reduceLT, Int.reduceLE, Int.reduceNeg, Int.reduceToNat, Int.reduceMul, Int.reduceAdd, Int.reduceSub, Int.reduceBEq, Int.reduceBNe, reduceCtorEq] at hE
   refine ⟨_, _, hw, hE.symm, (by first | exact e0 | rfl), (by first | exact e1 | rfl), ?_⟩
   rw [tN (by omega)]
   exact (by first | exact e4 | rfl)
 | succ m ih =>
   intro i f0 wr R hE hm e0 e1 e4 e5 e17 e18 e19 hw
   obtain ⟨c, hg⟩ := qf (l := ms) (i := i) (by omega)
   have hc := hms c (List.mem_of_getElem? hg)
   have d1 : decide ((i : Int) < (ms.length : Nat)) = true := rB (by omega)
   have d2 : (0 : Int) <= (i : Int) := by omega
   have w1 := yU (n := i) (by omega)
   have u1 := jcY H.h34 H.h53 (σ := σ) (s := s) (p := c) hl (by omega)
   change evw F (.loop yr) ⟨E 20 9 5 [] (base f0), σ, wr⟩ = R at hE
   rw [jI] at hE
   rw [kL hg, List.any_cons]
   cases hb : c.isPrefixOf s with
   | true =>
     rw [hb] at u1
     simp only [yr, e0, e1, e4, e5, e17, e18, e19, d1, d2, hg, hc, u1, rI, jA, Option.toList, jp, nat, j0, jO, jY, jr, lc0, lc1, jD, jE, jF, jG, j5, j6, ju, jt, jv, zV, zS, jC, jQ, jb, jh, jU, je, jk, jd, jx, jR, jj, ji, jo, jP, jy, jw, Ts.fill, jV, jT, jf, jW, jn, jl, jg, jc, getAll, stepCall, jm, unI, Opd.get, jB, tag, jz, ja, jN, rv, bin, jX, Nat.reduceAdd, Nat.reduceSub, Nat.reduceMul, Nat.reduceDiv, Nat.reduceMod, Nat.reducePow, Nat.reduceLT, Nat.reduceLeDiff, Nat.reduceEqDiff, Nat.reduceBEq, Nat.reduceBNe, reduceIte, Int.reduceEq, Int.reduceLT, Int.reduceLE, Int.reduceNeg, Int.reduceToNat, Int.reduceMul, Int.reduceAdd, Int.reduceSub, Int.reduceBEq, Int.reduceBNe, reduceCtorEq] at hE
     exact ⟨_, _, hw, hE.symm, (by first | exact e0 | rfl), (by first | exact e1 | rfl), (by rfl)⟩
   | false =>
     rw [hb] at u1
     simp only [yr, e0, e1, e4, e5, e17, e18, e19, d1, d2, hg, w1, u1, rI, jA, Option.toList, jp, nat, j0, jO, jY, jr, lc0, lc1, jD, jE, jF, jG, j5, j6, ju, jt, jv, zV, zS, jC, jQ, jb, jh, jU, je, jk, jd, jx, jR, jj, ji, jo, jP, jy, jw, Ts.fill, jV, jT, jf, jW, jn, jl, jg, jc, getAll, stepCall, jm, unI, Opd.get, jB, tag, jz, ja, jN, rv, bin, jX, Nat.reduceAdd, Nat.reduceSub, Nat.reduceMul, Nat.reduceDiv, Nat.reduceMod, Nat.reducePow, Nat.reduceLT, Nat.reduceLeDiff, Nat.reduceEqDiff, Nat.reduceBEq, Nat.reduceBNe, reduceIte, Int.reduceEq, Int.reduceLT, Int.reduceLE, Int.reduceNeg, Int.reduceToNat, Int.reduceMul, Int.reduceAdd, Int.reduceSub, Int.reduceBEq, Int.reduceBNe, reduceCtorEq] at hE
     rw [Bool.false_or]
     exact ih (i + 1) _ _ _ hE (by omega) (by first | exact e0 | rfl) (by first | exact e1 | rfl) (by first | exact e4 | rfl) (by first | exact e5 | rfl) (by first | exact e17 | rfl) (by first | exact e18 | rfl) (by rfl) hw
set_option maxRecDepth 20000 in
theorem jeL (H : FMrk F) {a ln : Nat} (hl : tx.length <= 20000) (ha : a + mkN (tx.drop a) <= tx.length) (hq : σ[q]? = some (.cells (LP true tx a er))) (hp : σ[p]? = some (.cells (TC 0 a ln [] 0))) (hne : p ≠ q) :
   ∃ wr, Fl wr /\ cfw F (.f 41) [.ptr q 0, .ptr p 0] σ = some ⟨false, .tup [], (σ.set q (.cells (LP true tx (a + mkN (tx.drop a)) er))).set p (.cells (TC 3 a ln ((tx.take (a + mkN (tx.drop a))).drop a) 0)), wr⟩ := by
 rw [cfw_of jfo H.h41, jw]
 have d1 : (0 : Int) <= (a : Int) := by omega
 have ha2 : a <= tx.length := by omega
 have hle : (tx.drop a).length <= 20000 := by rw [List.length_drop]; omega
 have u := H.h65 σ
 have l6 : (dbls.map IVal.str).length = 6 := rfl
 obtain ⟨w2, u2, g2⟩ := Q5 H.h55 H.h15 (n := mkN (tx.drop a)) ha hl hq
 have gp := get_set (x := .cells (LP true tx (a + mkN (tx.drop a)) er)) hp (j := q) (fun e => hne e.symm)
 have gp1 := fun y => gs gp (y := y)
 have tk : ∀ (x y : IObj), ((σ.set q x).set p y).take σ.length = (σ.set q x).set p y := fun x y => by rw [rU (by simp)]
 simp only [jfo, hq, d1, ha2, u, l6, rI, jA, Option.toList, jp, nat, j0, jO, jY, jr, lc0, lc1, jD, jE, jF, jG, j5, j6, ju, jt, jv, zV, zS, jC, jQ, jb, jh, jU, je, jk, jd, jx, jR, jj, ji, jo, jP, jy, jw, Ts.fill, jV, jT, jf, jW, jn, jl, jg, jc, getAll, stepCall, jm, unI, Opd.get, jB, tag, jz, ja, jN, rv, bin, jX, Nat.reduceAdd, Nat.reduceSub, Nat.reduceMul, Nat.reduceDiv, Nat.reduceMod, Nat.reducePow, Nat.reduceLT, Nat.reduceLeDiff, Nat.reduceEqDiff, Nat.reduceBEq, Nat.reduceBNe, reduceIte, Int.reduceEq, Int.reduceLT, Int.reduceLE, Int.reduceNeg, Int.reduceToNat, Int.reduceMul, Int.reduceAdd, Int.reduceSub, Int.reduceBEq, Int.reduceBNe, reduceCtorEq]
 generalize hE : evw F (ICode.loop yr) _ = R
 obtain ⟨f1, wr1, gw, rfl, e0, e1, e4⟩ := jeF H (s := tx.drop a) (ms := dbls) (by decide) (by decide) hle 6 0 _ _ _ hE rfl (by rfl) (by rfl) (by rfl) (by rfl) (by rfl) (by rfl) (by rfl) rfl
 rw [List.drop_zero, <- mkN] at e4
 simp only [e0, e1, e4, u2, gp, gp1, tk, r7, jA, Option.toList, jp, nat, j0, jO, jY, jr, lc0, lc1, jD, jE, jF, jG, j5, j6, ju, jt, jv, zV, zS, jC, jQ, jb, jh, jU, je, jk, jd, jx, jR, jj, ji, jo, jP, jy, jw, Ts.fill, jV, jT, jf, jW, jn, jl, jg, jc, getAll, stepCall, jm, unI, Opd.get, jB, tag, jz, ja, jN, rv, bin, jX, Nat.reduceAdd, Nat.reduceSub, Nat.reduceMul, Nat.reduceDiv, Nat.reduceMod, Nat.reducePow, Nat.reduceLT, Nat.reduceLeDiff, Nat.reduceEqDiff, Nat.reduceBEq, Nat.reduceBNe, reduceIte, Int.reduceEq, Int.reduceLT, Int.reduceLE, Int.reduceNeg, Int.reduceToNat, Int.reduceMul, Int.reduceAdd, Int.reduceSub, Int.reduceBEq, Int.reduceBNe, reduceCtorEq]
 rw [j8 (j7 g2 gw)]
 refine ⟨_, ?_, rfl⟩
 have := j7 g2 gw
 repeat (first | exact jZ this | apply V5 | apply JL)
end
end Go.Idl.Lx
namespace Go.Idl.Lx
open Go Go.Idl Go.Idl.En
variable {F : kb}
def Jn (tx : List UInt8) (a : Nat) : (Nat × Nat) ⊕ (Nat × Nat × Nat) :=
 match tx[a]? with
 | none => .inl (7, a)
 | some c =>
   if isS 2 c.toNat then (if spn 6 (tx.drop a) > 16 then .inl (4, a) else .inr (1, a + spn 6 (tx.drop a), 0))
   else if isS 4 c.toNat then (match zk tx a with
     | .inl f => .inl f
     | .inr (ed, v) => .inr (2, ed, v))
   else if isS 8 c.toNat then .inr (3, a + mkN (tx.drop a), 0)
   else .inl (7, a)
theorem jcU {tx : List UInt8} {a ba hd ed v : Nat} (h : Vx tx a ba hd = .inr (ed, v)) : a < ed /\ ed <= tx.length := by
 unfold Vx at h
 simp only at h
 have hd2 := Ks ba (tx.drop (a + hd))
 rw [List.length_drop] at hd2
 by_cases h0 : dgs ba (tx.drop (a + hd)) = 0
 . rw [if_pos h0] at h; cases h
 . rw [if_neg h0] at h
   have e : ed = a + hd + dgs ba (tx.drop (a + hd)) := by
     split at h
     . cases h
     . split at h
       . cases h
       . split at h
         . split at h
           . cases h
           . cases h; rfl
         . cases h; rfl
   omega
theorem jcV {tx : List UInt8} {a ed v : Nat} (h : zk tx a = .inr (ed, v)) : a < ed /\ ed <= tx.length := by
 unfold zk at h
 split at h <;> exact jcU h
theorem jbH {s : List UInt8} (h : s ≠ []) : 1 <= mkN s /\ mkN s <= s.length := by
 unfold mkN
 split
 . rename_i hh
   rw [List.any_eq_true] at hh
   obtain ⟨m, hm, hp⟩ := hh
   rw [List.isPrefixOf_iff_prefix] at hp
   have := hp.length_le
   have h2 : ∀ m ∈ dbls, m.length = 2 := by decide
   have := h2 m hm
   omega
 . have : s.length ≠ 0 := fun e => h (List.length_eq_zero_iff.1 e)
   omega
theorem jeu {c : Nat} (hc : c < 256) (h : isS 2 c = true) : isS 6 c = true := by rw [jcB c hc, h]; rfl
theorem jbO {tx : List UInt8} {a k ed v : Nat} (h : Jn tx a = .inr (k, ed, v)) : a < ed /\ ed <= tx.length := by
 unfold Jn at h
 cases hg : tx[a]? with
 | none => rw [hg] at h; cases h
 | some c =>
   rw [hg] at h
   simp only at h
   have hd := kL hg
   have hl := (List.getElem?_eq_some_iff.1 hg).1
   have hc : c.toNat < 256 := c.toNat_lt
   split at h
   . rename_i h2
     split at h
     . cases h
     . cases h
       have h3 := Xq 6 (tx.drop a)
       rw [List.length_drop] at h3
       have h4 : 0 < spn 6 (tx.drop a) := by rw [hd, Jx, jeu hc h2, if_pos rfl]; omega
       omega
   . split at h
     . split at h
       . cases h
       . rename_i e2; cases h; exact jcV e2
     . split at h
       . cases h
         have := jbH (s := tx.drop a) (by rw [hd]; simp)
         rw [List.length_drop] at this
         omega
       . cases h
section
variable {tx : List UInt8} {p q y : Nat}
def Sw (tx : List UInt8) (a ln p q : Nat) (S S1 : List IObj) : Prop := S1.length = S.length /\ (∀ i, i ≠ q -> i ≠ p -> S1[i]? = S[i]?) /\ match Jn tx a with
 | .inl f => ∃ a', S1[q]? = some (.cells (LP true tx a' (flt f)))
 | .inr (k, ed, v) => S1[q]? = some (.cells (LP true tx ed zX)) /\ S1[p]? = some (.cells (TC k a ln ((tx.take ed).drop a) v))
set_option maxRecDepth 20000 in
theorem jgT (H : FMrk F) {a ln : Nat} {r : Bool} {S : List IObj} {c : UInt8} {f0 : Nat -> Option (Nat × IVal)} {R : Option (IExit × St)} {wr : List (Nat × Bool)} (hE : evw F zt ⟨E 60 11 7 [] (base f0), S, wr⟩ = R) (hl : tx.length <= 20000) (hg : tx[a]? = some c)
   (hq : S[q]? = some (.cells (LP r tx a zX))) (hp : S[p]? = some (.cells (TC 0 a ln [] 0))) (hne : p ≠ q)
   (e0 : f0 0 = some (0, .yl y)) (e1 : f0 1 = some (1, .pv true [.ptr q 0] 0)) (e3 : f0 3 = some (3, .ptr p 0)) (e4 : f0 4 = some (4, B c.toNat)) (hw : Fl wr) :
   ∃ f1 wr1 S1, Fl wr1 /\ R = some (.normal, ⟨E 60 11 7 [] (base f1), S1, wr1⟩) /\ f1 0 = some (0, .yl y) /\ f1 1 = some (1, .pv true [.ptr q 0] 0) /\ f1 3 = some (3, .ptr p 0) /\ Sw tx a ln p q S S1 := by
 have hc : c.toNat < 256 := c.toNat_lt
 have ha : a < tx.length := (List.getElem?_eq_some_iff.1 hg).1
 have hqs := gs hq (y := .cells (LP true tx a zX))
 have hps := get_set (x := .cells (LP true tx a zX)) hp (j := q) (fun e => hne e.symm)
 have lp := jq hp
 have lq := jq hq
 obtain ⟨w1, u1, g1⟩ := jfW H.toFTab (k := 2) hc hq
 have u1 : cfw F (.f 38) [.ptr q 0, .int .u8 c.toNat, .int .u8 2] S = _ := u1
 obtain ⟨w2, u2, g2⟩ := jau H.toFTab (k := 4) hc hqs
 have u2 : cfw F (.f 38) [.ptr q 0, .int .u8 c.toNat, .int .u8 4] (S.set q (.cells (LP true tx a zX))) = _ := u2
 obtain ⟨w3, u3, g3⟩ := jau H.toFTab (k := 8) hc hqs
 have u3 : cfw F (.f 38) [.ptr q 0, .int .u8 c.toNat, .int .u8 8] (S.set q (.cells (LP true tx a zX))) = _ := u3
 have kp : ∀ (x z : IObj), ∀ i, i ≠ q -> i ≠ p -> ((S.set q x).set p z)[i]? = S[i]? := fun x z i h1 h2 => by
   rw [rA (fun e => h2 e.symm), rA (fun e => h1 e.symm)]
 have gq : ∀ (x z : IObj), ((S.set q x).set p z)[q]? = some x := fun x z => by rw [rA hne, rH lq]
 have gp : ∀ (x z : IObj), ((S.set q x).set p z)[p]? = some z := fun x z => by rw [rH (by simpa using lp)]
 have kp1 : ∀ (x : IObj), ∀ i, i ≠ q -> i ≠ p -> (S.set q x)[i]? = S[i]? := fun x i h1 h2 => by rw [rA (fun e => h1 e.symm)]
 cases b2 : isS 2 c.toNat with
 | true =>
   rw [b2] at u1
   obtain ⟨w4, g4, u4⟩ := jeP H.toFSkp H.h39 H.h60 hl (by omega) hqs hps hne
   by_cases h16 : spn 6 (tx.drop a) > 16
   . rw [if_pos h16, r7] at u4
     simp only [zt, e0, e1, e3, e4, u1, u4, jA, Option.toList, jp, nat, j0, jO, jY, jr, lc0, lc1, jD, jE, jF, jG, j5, j6, ju, jt, jv, zV, zS, jC, jQ, jb, jh, jU, je, jk, jd, jx, jR, jj, ji, jo, jP, jy, jw, Ts.fill, jV, jT, jf, jW, jn, jl, jg, jc, getAll, stepCall, jm, unI, Opd.get, jB, tag, jz, ja, jN, rv, bin, jX, Nat.reduceAdd, Nat.reduceSub, Nat.reduceMul, Nat.reduceDiv, Nat.reduceMod, Nat.reducePow, Nat.reduceLT, Nat.reduceLeDiff, Nat.reduceEqDiff, Nat.reduceBEq, Nat.reduceBNe, reduceIte, Int.reduceEq, Int.reduceLT, Int.reduceLE, Int.reduceNeg, Int.reduceToNat, Int.reduceMul, Int.reduceAdd, Int.reduceSub, Int.reduceBEq, Int.reduceBNe, reduceCtorEq] at hE
     refine ⟨_, _, _, j7 g4 (j7 g1 hw), hE.symm, (by first | exact e0 | rfl), (by first | exact e1 | rfl), (by first | exact e3 | rfl), by simp, kp1 _, ?_⟩
     simp only [Jn, hg, b2, if_true, if_pos h16]
     exact ⟨a, rH lq⟩
   . rw [if_neg h16, r7] at u4
     simp only [zt, e0, e1, e3, e4, u1, u4, jA, Option.toList, jp, nat, j0, jO, jY, jr, lc0, lc1, jD, jE, jF, jG, j5, j6, ju, jt, jv, zV, zS, jC, jQ, jb, jh, jU, je, jk, jd, jx, jR, jj, ji, jo, jP, jy, jw, Ts.fill, jV, jT, jf, jW, jn, jl, jg, jc, getAll, stepCall, jm, unI, Opd.get, jB, tag, jz, ja, jN, rv, bin, jX, Nat.reduceAdd, Nat.reduceSub, Nat.reduceMul, Nat.reduceDiv, Nat.reduceMod, Nat.reducePow, Nat.reduceLT, Nat.reduceLeDiff, Nat.reduceEqDiff, Nat.reduceBEq, Nat.reduceBNe, reduceIte, Int.reduceEq, Int.reduceLT, Int.reduceLE, Int.reduceNeg, Int.reduceToNat, Int.reduceMul, Int.reduceAdd, Int.reduceSub, Int.reduceBEq, Int.reduceBNe, reduceCtorEq] at hE
     refine ⟨_, _, _, j7 g4 (j7 g1 hw), hE.symm, (by first | exact e0 | rfl), (by first | exact e1 | rfl), (by first | exact e3 | rfl), by simp, kp _ _, ?_⟩
     simp only [Jn, hg, b2, if_true, if_neg h16]
     exact ⟨gq _ _, gp _ _⟩
 | false =>
   rw [b2] at u1
   cases b4 : isS 4 c.toNat with
   | true =>
     rw [b4] at u2
     obtain ⟨w4, g4, u4⟩ := jaN H.toFPar hl (by omega) hqs hps hne
     cases hn : zk tx a with
     | inl f =>
       rw [hn] at u4
       obtain ⟨a', z, u4⟩ := u4
       rw [r7] at u4
       simp only [zt, e0, e1, e3, e4, u1, u2, u4, jA, Option.toList, jp, nat, j0, jO, jY, jr, lc0, lc1, jD, jE, jF, jG, j5, j6, ju, jt, jv, zV, zS, jC, jQ, jb, jh, jU, je, jk, jd, jx, jR, jj, ji, jo, jP, jy, jw, Ts.fill, jV, jT, jf, jW, jn, jl, jg, jc, getAll, stepCall, jm, unI, Opd.get, jB, tag, jz, ja, jN, rv, bin, jX, Nat.reduceAdd, Nat.reduceSub, Nat.reduceMul, Nat.reduceDiv, Nat.reduceMod, Nat.reducePow, Nat.reduceLT, Nat.reduceLeDiff, Nat.reduceEqDiff, Nat.reduceBEq, Nat.reduceBNe, reduceIte, Int.reduceEq, Int.reduceLT, Int.reduceLE, Int.reduceNeg, Int.reduceToNat, Int.reduceMul, Int.reduceAdd, Int.reduceSub, Int.reduceBEq, Int.reduceBNe, reduceCtorEq] at hE
       refine ⟨_, _, _, j7 g4 (j7 g2 (j7 g1 hw)), hE.symm, (by first | exact e0 | rfl), (by first | exact e1 | rfl), (by first | exact e3 | rfl), by simp, kp _ _, ?_⟩
       simp only [Jn, hg, b2, b4, hn, r8, if_false, if_true]
       exact ⟨a', gq _ _⟩
     | inr v =>
       obtain ⟨ed, v⟩ := v
       rw [hn] at u4
       simp only at u4
       rw [r7] at u4
       simp only [zt, e0, e1, e3, e4, u1, u2, u4, jA, Option.toList, jp, nat, j0, jO, jY, jr, lc0, lc1, jD, jE, jF, jG, j5, j6, ju, jt, jv, zV, zS, jC, jQ, jb, jh, jU, je, jk, jd, jx, jR, jj, ji, jo, jP, jy, jw, Ts.fill, jV, jT, jf, jW, jn, jl, jg, jc, getAll, stepCall, jm, unI, Opd.get, jB, tag, jz, ja, jN, rv, bin, jX, Nat.reduceAdd, Nat.reduceSub, Nat.reduceMul, Nat.reduceDiv, Nat.reduceMod, Nat.reducePow, Nat.reduceLT, Nat.reduceLeDiff, Nat.reduceEqDiff, Nat.reduceBEq, Nat.reduceBNe, reduceIte, Int.reduceEq, Int.reduceLT, Int.reduceLE, Int.reduceNeg, Int.reduceToNat, Int.reduceMul, Int.reduceAdd, Int.reduceSub, Int.reduceBEq, Int.reduceBNe, reduceCtorEq] at hE
       refine ⟨_, _, _, j7 g4 (j7 g2 (j7 g1 hw)), hE.symm, (by first | exact e0 | rfl), (by first | exact e1 | rfl), (by first | exact e3 | rfl), by simp, kp _ _, ?_⟩
       simp only [Jn, hg, b2, b4, hn, r8, if_false, if_true]
       exact ⟨gq _ _, gp _ _⟩
   | false =>
     rw [b4] at u2
     cases b8 : isS 8 c.toNat with
     | true =>
       rw [b8] at u3
       have hm := jbH (s := tx.drop a) (by rw [kL hg]; simp)
       rw [List.length_drop] at hm
       obtain ⟨w4, g4, u4⟩ := jeL H hl (by omega) hqs hps hne
       rw [r7] at u4
       simp only [zt, e0, e1, e3, e4, u1, u2, u3, u4, jA, Option.toList, jp, nat, j0, jO, jY, jr, lc0, lc1, jD, jE, jF, jG, j5, j6, ju, jt, jv, zV, zS, jC, jQ, jb, jh, jU, je, jk, jd, jx, jR, jj, ji, jo, jP, jy, jw, Ts.fill, jV, jT, jf, jW, jn, jl, jg, jc, getAll, stepCall, jm, unI, Opd.get, jB, tag, jz, ja, jN, rv, bin, jX, Nat.reduceAdd, Nat.reduceSub, Nat.reduceMul, Nat.reduceDiv, Nat.reduceMod, Nat.reducePow, Nat.reduceLT, Nat.reduceLeDiff, Nat.reduceEqDiff, Nat.reduceBEq, Nat.reduceBNe, reduceIte, Int.reduceEq, Int.reduceLT, Int.reduceLE, Int.reduceNeg, Int.reduceToNat, Int.reduceMul, Int.reduceAdd, Int.reduceSub, Int.reduceBEq, Int.reduceBNe, reduceCtorEq] at hE
       refine ⟨_, _, _, j7 g4 (j7 g3 (j7 g2 (j7 g1 hw))), hE.symm, (by first | exact e0 | rfl), (by first | exact e1 | rfl), (by first | exact e3 | rfl), by simp, kp _ _, ?_⟩
       simp only [Jn, hg, b2, b4, b8, r8, if_false, if_true]
       exact ⟨gq _ _, gp _ _⟩
     | false =>
       rw [b8] at u3
       obtain ⟨w4, u4, g4⟩ := Kv H.h42 (c := 7) (p := (a : Int)) hqs
       rw [r7] at u4
       simp only [zt, e0, e1, e3, e4, u1, u2, u3, u4, hqs, jA, Option.toList, jp, nat, j0, jO, jY, jr, lc0, lc1, jD, jE, jF, jG, j5, j6, ju, jt, jv, zV, zS, jC, jQ, jb, jh, jU, je, jk, jd, jx, jR, jj, ji, jo, jP, jy, jw, Ts.fill, jV, jT, jf, jW, jn, jl, jg, jc, getAll, stepCall, jm, unI, Opd.get, jB, tag, jz, ja, jN, rv, bin, jX, Nat.reduceAdd, Nat.reduceSub, Nat.reduceMul, Nat.reduceDiv, Nat.reduceMod, Nat.reducePow, Nat.reduceLT, Nat.reduceLeDiff, Nat.reduceEqDiff, Nat.reduceBEq, Nat.reduceBNe, reduceIte, Int.reduceEq, Int.reduceLT, Int.reduceLE, Int.reduceNeg, Int.reduceToNat, Int.reduceMul, Int.reduceAdd, Int.reduceSub, Int.reduceBEq, Int.reduceBNe, reduceCtorEq] at hE
       refine ⟨_, _, _, j7 g4 (j7 g3 (j7 g2 (j7 g1 hw))), hE.symm, (by first | exact e0 | rfl), (by first | exact e1 | rfl), (by first | exact e3 | rfl), by simp, kp1 _, ?_⟩
       simp only [Jn, hg, b2, b4, b8, r8, if_false]
       exact ⟨a, rH lq⟩
end
end Go.Idl.Lx
namespace Go.Idl.Lx
open Go Go.Idl Go.Idl.En
variable {F : kb}
def Jt (l : List IVal) : IVal := match l with
 | [] => .sl 5 true []
 | l => .sl 5 false l
theorem tk5 (a b c d e : IVal) : [a, b, c, d, e].take 5 = [a, b, c, d, e] := rfl
def cA : ICode := .ops [⟨(some 6), .alloc [(.int .i64 0), (.int .i64 0), (.int .i64 0), (.str []), (.int .i64 0)], none⟩, ⟨none, .store 5 (.m 6) (.t 18), none⟩]
def cB : ICode := .block 1 (.ops [⟨(some 19), .load true none (.t 5), none⟩, ⟨(some 20), .load false (some 5) (.t 6), none⟩, ⟨(some 21), .buildSl 5 [(.m 20)], none⟩, ⟨(some 22), .append false false 5 48 (.m 19) (.m 21), none⟩, ⟨none, .store 1 (.t 5) (.m 22), none⟩])
theorem eA (s : St) : evw F cA s = evw F (.ops [⟨(some 6), .alloc [(.int .i64 0), (.int .i64 0), (.int .i64 0), (.str []), (.int .i64 0)], none⟩, ⟨none, .store 5 (.m 6) (.t 18), none⟩]) s := rfl
theorem eB (s : St) : evw F cB s = evw F (.block 1 (.ops [⟨(some 19), .load true none (.t 5), none⟩, ⟨(some 20), .load false (some 5) (.t 6), none⟩, ⟨(some 21), .buildSl 5 [(.m 20)], none⟩, ⟨(some 22), .append false false 5 48 (.m 19) (.m 21), none⟩, ⟨none, .store 1 (.t 5) (.m 22), none⟩])) s := rfl
def jc9 (f : Nat -> Option (Nat × IVal)) : ILoop := ⟨0, E 19 5 5 [] f, [18], cA, cB, none, XL.none⟩
section
variable {k : Int} {a ln : Nat} {t : List UInt8} {n : Int}
set_option maxRecDepth 20000 in
theorem round (al id : Nat) (f : Nat -> Option (Nat × IVal)) (L : List IVal) (hl : L.length <= 60000) (hf : f 5 = some (5, .ptr al 0)) (S : List IObj) (hy : S[id]? = some (.loop (jc9 f))) (ha : S[al]? = some (.cells [Jt L])) (hne : al ≠ id) :
   ∃ wr, cfw F (.y id) [.agg (TC k a ln t n)] S = some ⟨false, .bool true, S.set al (.cells [Jt (L ++ [.agg (TC k a ln t n)])]), wr⟩ /\ Fl wr := by
 rw [jfE, vK, hy]
 have lid := jq hy
 have lal := jq ha
 have s1 : ∀ (x : IObj) (l : List IObj), (S ++ l).set id x = S.set id x ++ l := fun x l => yc lid
 have s2 : ∀ (x y : IObj) (l : List IObj), (S.set id x ++ l).set al y = (S.set id x).set al y ++ l := fun x y l => yc (by simpa using lal)
 have s3 : ∀ (x y z : IObj) (l : List IObj), ((S.set id x).set al y ++ l).set id z = ((S.set id x).set al y).set id z ++ l := fun x y z l => yc (by simpa using lid)
 have s4 : ∀ (x y : IObj), ((S.set id x).set al y).set id (.loop (jc9 f)) = S.set al y := fun x y => by
   rw [List.set_comm _ _ hne, r7, vr hy]
 have hy' : S[id]? = some (.loop ⟨0, E 19 5 5 [] (base f), [18], cA, cB, none, XL.none⟩) := hy
 have g0 := fun l => y9 hy' l
 have s4 : ∀ (x y : IObj), ((S.set id x).set al y).set id (.loop ⟨0, E 19 5 5 [] (base f), [18], cA, cB, none, XL.none⟩) = S.set al y := s4
 have g1 : ∀ (x : IObj) (l : List IObj), (S.set id x ++ l)[al]? = some (.cells [Jt L]) := fun x l => by rw [List.getElem?_append_left (by simpa using lal), rA (fun e => hne e.symm)]; exact ha
 have g2 : ∀ (x y : IObj) (l : List IObj), ((S.set id x).set al y ++ l)[id]? = some x := fun x y l => by rw [List.getElem?_append_left (by simpa using lid), rA hne, rH lid]
 have g7 : ∀ (x y : IObj) (l : List IObj), ((S.set id x).set al y ++ l)[al]? = some y := fun x y l => by rw [List.getElem?_append_left (by simpa using lal), rH (by simpa using lal)]
 have s5 : ∀ (x y z : IObj) (l : List IObj), ((S.set id x).set al y ++ l).set al z = (S.set id x).set al z ++ l := fun x y z l => by rw [yc (by simpa using lal), r7]
 have ln1 : ∀ (x : IObj), (S.set id x).length = S.length := fun x => List.length_set
 have tk : ∀ (y : IObj) (l : List IObj), (S.set al y ++ l).take S.length = S.set al y := fun y l => Q6
 have g5 : ∀ (x : IObj) (l : List IObj), (S.set id x ++ l)[S.length]? = l[0]? := fun x l => by
   have := get_app0 (σ := S.set id x) (l := l); rwa [ln1] at this
 have g6 : ∀ (x y : IObj) (l : List IObj), ((S.set id x).set al y ++ l)[S.length]? = l[0]? := fun x y l => by
   have := get_app0 (σ := (S.set id x).set al y) (l := l); simpa using this
 have fb : f = base f := rfl
 have dl1 : decide (id < S.length) = true := rB lid
 have dl2 : decide (al < S.length) = true := rB lal
 have w1 : (L.length + 1) * 48 <= 1099511627776 := by omega
 have w2 : L.length + 1 <= 1099511627776 := by omega
 rw [jc9, fb]
 cases L with
 | nil =>
   simp only [eA, eB, Ts.setAll, s1, s2, s3, s4, s5, g0, g1, g2, g5, g6, g7, hf, Jt, tk5, tk, ext, List.isEmpty, dl1, dl2, jA, Option.toList, jp, nat, j0, jO, jY, jr, lc0, lc1, jD, jE, jF, jG, j5, j6, ju, jt, jv, zV, zS, jC, jQ, jb, jh, jU, je, jk, jd, jx, jR, jj, ji, jo, jP, jy, jw, Ts.fill, jV, jT, jf, jW, jn, jl, jg, jc, getAll, stepCall, jm, unI, Opd.get, jB, tag, jz, ja, jN, rv, bin, jX, Nat.reduceAdd, Nat.reduceSub, Nat.reduceMul, Nat.reduceDiv, Nat.reduceMod, Nat.reducePow, Nat.reduceLT, Nat.reduceLeDiff, Nat.reduceEqDiff, Nat.reduceBEq, Nat.reduceBNe, reduceIte, Int.reduceEq, Int.reduceLT, Int.reduceLE, Int.reduceNeg, Int.reduceToNat, Int.reduceMul, Int.reduceAdd, Int.reduceSub, Int.reduceBEq, Int.reduceBNe, reduceCtorEq]
   exact ⟨_, rfl, rfl⟩
 | cons x xs =>
   have w3 : xs.length <= 1099511627774 := by simp at hl; omega
   have w4 : (xs.length + 1 + 1) * 48 <= 1099511627776 := by simp at hl; omega
   simp only [eA, eB, Ts.setAll, s1, s2, s3, s4, s5, g0, g1, g2, g5, g6, g7, hf, Jt, tk5, tk, ext, List.isEmpty, dl1, dl2, w3, w4, jA, Option.toList, jp, nat, j0, jO, jY, jr, lc0, lc1, jD, jE, jF, jG, j5, j6, ju, jt, jv, zV, zS, jC, jQ, jb, jh, jU, je, jk, jd, jx, jR, jj, ji, jo, jP, jy, jw, Ts.fill, jV, jT, jf, jW, jn, jl, jg, jc, getAll, stepCall, jm, unI, Opd.get, jB, tag, jz, ja, jN, rv, bin, jX, Nat.reduceAdd, Nat.reduceSub, Nat.reduceMul, Nat.reduceDiv, Nat.reduceMod, Nat.reducePow, Nat.reduceLT, Nat.reduceLeDiff, Nat.reduceEqDiff, Nat.reduceBEq, Nat.reduceBNe, reduceIte, Int.reduceEq, Int.reduceLT, Int.reduceLE, Int.reduceNeg, Int.reduceToNat, Int.reduceMul, Int.reduceAdd, Int.reduceSub, Int.reduceBEq, Int.reduceBNe, reduceCtorEq]
   exact ⟨_, rfl, rfl⟩
end
end Go.Idl.Lx
namespace Go.Idl.Lx
open Go Go.Idl Go.Idl.En
variable {F : kb}
structure Tok where
 k : Nat
 a : Nat
 ln : Nat
 t : List UInt8
 n : Nat
def Je (t : Tok) : IVal := .agg (TC t.k t.a t.ln t.t t.n)
def yY (tx : List UInt8) : Nat -> Nat -> List Tok × Option (Nat × Nat)
 | 0, _ => ([], none)
 | m + 1, a => if a < tx.length then match Jn tx a with
   | .inl f => ([], some f)
   | .inr (k, ed, v) => (⟨k, a, 1 + nl (tx.take a), (tx.take ed).drop a, v⟩ :: (yY tx m (ed + skN false (tx.drop ed))).1, (yY tx m (ed + skN false (tx.drop ed))).2)
   else ([], none)
def Kp (q al : Nat) (S S1 : List IObj) : Prop := S.length <= S1.length /\ ∀ i, i < S.length -> i ≠ q -> i ≠ al -> S1[i]? = S[i]?
theorem Kp.trans {q al : Nat} {S S1 S2 : List IObj} (h : Kp q al S S1) (h2 : Kp q al S1 S2) : Kp q al S S2 :=
 ⟨Nat.le_trans h.1 h2.1, fun i hi h1 h3 => (h2.2 i (by have := h.1; omega) h1 h3).trans (h.2 i hi h1 h3)⟩
section
variable {tx : List UInt8} {q al id : Nat}
def Vd (tx : List UInt8) (q al id m a : Nat) (L : List IVal) (R : Option (IExit × St)) (f1 : Nat -> Option (Nat × IVal)) (S1 : List IObj) (wr1 : List (Nat × Bool)) : Prop := match (yY tx m a).2 with
 | none => R = some (.exit 0, ⟨E 60 11 7 [] (base f1), S1, wr1⟩) /\ f1 0 = some (0, .yl id) /\ f1 1 = some (1, .pv true [.ptr q 0] 0) /\ (∃ r1, S1[q]? = some (.cells (LP r1 tx tx.length zX))) /\ S1[al]? = some (.cells [Jt (L ++ (yY tx m a).1.map Je)])
 | some f => R = some (.ret, ⟨E 60 11 7 [] (base f1), S1, wr1⟩) /\ ∃ a', S1[q]? = some (.cells (LP true tx a' (flt f)))
theorem jag {m a : Nat} {ts : List Tok} {L : List IVal} {R : Option (IExit × St)} {f1 : Nat -> Option (Nat × IVal)} {S1 : List IObj} {wr1 : List (Nat × Bool)} (h : yY tx m a = (ts, none)) (hR : R = some (.exit 0, ⟨E 60 11 7 [] (base f1), S1, wr1⟩)) (h0 : f1 0 = some (0, .yl id)) (h1 : f1 1 = some (1, .pv true [.ptr q 0] 0)) (h2 : ∃ r1, S1[q]? = some (.cells (LP r1 tx tx.length zX))) (h3 : S1[al]? = some (.cells [Jt (L ++ ts.map Je)])) : Vd tx q al id m a L R f1 S1 wr1 := by
 rw [Vd, h]; exact ⟨hR, h0, h1, h2, h3⟩
theorem jah {m a : Nat} {ts : List Tok} {ff : Nat × Nat} {L : List IVal} {R : Option (IExit × St)} {f1 : Nat -> Option (Nat × IVal)} {S1 : List IObj} {wr1 : List (Nat × Bool)} (h : yY tx m a = (ts, some ff)) (hR : R = some (.ret, ⟨E 60 11 7 [] (base f1), S1, wr1⟩)) (h2 : ∃ a', S1[q]? = some (.cells (LP true tx a' (flt ff)))) : Vd tx q al id m a L R f1 S1 wr1 := by
 rw [Vd, h]; exact ⟨hR, h2⟩
set_option maxRecDepth 20000 in
theorem jeD (H : FMrk F) (hl : tx.length <= 20000) (f : Nat -> Option (Nat × IVal)) (hf : f 5 = some (5, .ptr al 0)) (n1 : q ≠ al) (n2 : q ≠ id) (n3 : al ≠ id) : ∀ (m a : Nat) (r : Bool) (f0 : Nat -> Option (Nat × IVal)) (S : List IObj) (wr : List (Nat × Bool)) (R : Option (IExit × St)) (L : List IVal), evw F (.loop z5) ⟨E 60 11 7 [] f0, S, wr⟩ = R -> tx.length - a < m -> a <= tx.length -> S[q]? = some (.cells (LP r tx a zX)) -> S[al]? = some (.cells [Jt L]) -> S[id]? = some (.loop (jc9 f)) -> L.length + (tx.length - a) <= 50000 -> f0 0 = some (0, .yl id) -> f0 1 = some (1, .pv true [.ptr q 0] 0) -> Fl wr ->
   ∃ f1 wr1 S1, Fl wr1 /\ Kp q al S S1 /\ Vd tx q al id m a L R f1 S1 wr1 := by
 intro m
 induction m with
 | zero => intro a r f0 S wr R L hE hm; omega
 | succ m ih =>
   intro a r f0 S wr R L hE hm ha hq hal hid hL e0 e1 hw
   change evw F (.loop z5) ⟨E 60 11 7 [] (base f0), S, wr⟩ = R at hE
   have lq := jq hq
   by_cases hlt : a < tx.length
   . obtain ⟨c, hg⟩ := qf hlt
     have d1 : decide ((a : Int) < (tx.length : Nat)) = true := rB (by omega)
     have d2 : (0 : Int) <= (a : Int) := by omega
     have dq : decide (q < S.length) = true := rB lq
     have f5 : qD [.int .i64 0, .int .i64 0, .int .i64 0, .str [], .int .i64 0] [(1, 1, I a), (2, 1, I ((1 + nl (tx.take a) : Nat) : Int))] = some (TC 0 a (1 + nl (tx.take a)) [] 0) := rfl
     have hq2 := fun l => y9 hq l
     rw [jI] at hE
     simp only [z5, hq, hq2, e0, e1, d1, d2, dq, hg, f5, tC, tM, rI, jA, Option.toList, jp, nat, j0, jO, jY, jr, lc0, lc1, jD, jE, jF, jG, j5, j6, ju, jt, jv, zV, zS, jC, jQ, jb, jh, jU, je, jk, jd, jx, jR, jj, ji, jo, jP, jy, jw, Ts.fill, jV, jT, jf, jW, jn, jl, jg, jc, getAll, stepCall, jm, unI, Opd.get, jB, tag, jz, ja, jN, rv, bin, jX, Nat.reduceAdd, Nat.reduceSub, Nat.reduceMul, Nat.reduceDiv, Nat.reduceMod, Nat.reducePow, Nat.reduceLT, Nat.reduceLeDiff, Nat.reduceEqDiff, Nat.reduceBEq, Nat.reduceBNe, reduceIte, Int.reduceEq, Int.reduceLT, Int.reduceLE, Int.reduceNeg, Int.reduceToNat, Int.reduceMul, Int.reduceAdd, Int.reduceSub, Int.reduceBEq, Int.reduceBNe, reduceCtorEq] at hE
     generalize hs : evw F zt _ = Rs at hE
     obtain ⟨f1, wr1, S1, gw, rfl, a0, a1, a3, hlen, hk, hsw⟩ := jgT (y := id) H hs hl hg (hq2 [IObj.cells (TC 0 a (1 + nl (tx.take a)) [] 0)]) (by rw [get_app0]; rfl) (by omega) (by first | exact e0 | rfl) (by first | exact e1 | rfl) (by rfl) (by rfl) (by simpa using hw)
     have hk2 : ∀ i, i < S.length -> i ≠ q -> S1[i]? = S[i]? := fun i hi h1 => by
       rw [hk i h1 (by omega), List.getElem?_append_left hi]
     have hlen2 : S1.length = S.length + 1 := by simpa using hlen
     cases ho : Jn tx a with
     | inl ff =>
       simp only [Sw, ho] at hsw
       obtain ⟨a', gq⟩ := hsw
       simp only [a0, a1, a3, gq, jk, jA, Option.toList, jp, nat, j0, jO, jY, jr, lc0, lc1, jD, jE, jF, jG, j5, j6, ju, jt, jv, zV, zS, jC, jQ, jb, jh, jU, je, jd, jx, jR, jj, ji, jo, jP, jy, jw, Ts.fill, jV, jT, jf, jW, jn, jl, jg, jc, getAll, stepCall, jm, unI, Opd.get, jB, tag, jz, ja, jN, rv, bin, jX, Nat.reduceAdd, Nat.reduceSub, Nat.reduceMul, Nat.reduceDiv, Nat.reduceMod, Nat.reducePow, Nat.reduceLT, Nat.reduceLeDiff, Nat.reduceEqDiff, Nat.reduceBEq, Nat.reduceBNe, reduceIte, Int.reduceEq, Int.reduceLT, Int.reduceLE, Int.reduceNeg, Int.reduceToNat, Int.reduceMul, Int.reduceAdd, Int.reduceSub, Int.reduceBEq, Int.reduceBNe, reduceCtorEq] at hE
       exact ⟨_, _, S1, gw, ⟨by omega, fun i hi h1 _ => hk2 i hi h1⟩, jah (by rw [yY, if_pos hlt, ho]) hE.symm ⟨a', gq⟩⟩
     | inr v =>
       obtain ⟨k, ed, v⟩ := v
       simp only [Sw, ho] at hsw
       obtain ⟨gq, gp⟩ := hsw
       obtain ⟨o1, o2⟩ := jbO ho
       have gal : S1[al]? = some (.cells [Jt L]) := by rw [hk2 al (jq hal) (fun e => n1 e.symm)]; exact hal
       have gid : S1[id]? = some (.loop (jc9 f)) := by rw [hk2 id (jq hid) (fun e => n2 e.symm)]; exact hid
       obtain ⟨w5, u5, g5⟩ := round (F := F) (k := k) (a := a) (ln := 1 + nl (tx.take a)) (t := (tx.take ed).drop a) (n := v) al id f L (by omega) hf S1 gid gal n3
       have gq2 := get_set (x := .cells [Jt (L ++ [.agg (TC k a (1 + nl (tx.take a)) ((tx.take ed).drop a) v)])]) gq (j := al) (fun e => n1 e.symm)
       obtain ⟨w6, r6, u6, g6⟩ := jbX H.toFSkp hl o2 gq2
       have nb : (!true) = false := rfl
       have nn : isNil 1 (un2 zX) = some true := rfl
       simp only [a0, a1, a3, gq, gp, u5, u6, tk5, nb, nn, jk, jA, Option.toList, jp, nat, j0, jO, jY, jr, lc0, lc1, jD, jE, jF, jG, j5, j6, ju, jt, jv, zV, zS, jC, jQ, jb, jh, jU, je, jd, jx, jR, jj, ji, jo, jP, jy, jw, Ts.fill, jV, jT, jf, jW, jn, jl, jg, jc, getAll, stepCall, jm, unI, Opd.get, jB, tag, jz, ja, jN, rv, bin, jX, Nat.reduceAdd, Nat.reduceSub, Nat.reduceMul, Nat.reduceDiv, Nat.reduceMod, Nat.reducePow, Nat.reduceLT, Nat.reduceLeDiff, Nat.reduceEqDiff, Nat.reduceBEq, Nat.reduceBNe, reduceIte, Int.reduceEq, Int.reduceLT, Int.reduceLE, Int.reduceNeg, Int.reduceToNat, Int.reduceMul, Int.reduceAdd, Int.reduceSub, Int.reduceBEq, Int.reduceBNe, reduceCtorEq] at hE
       have hsk := Ji false (tx.drop ed)
       rw [List.length_drop] at hsk
       have lal := jq gal
       have lq1 := jq gq
       have i1 := gs gq2 (y := .cells (LP r6 tx (ed + skN false (tx.drop ed)) zX))
       have i2 := get_set (x := .cells (LP r6 tx (ed + skN false (tx.drop ed)) zX)) (gs gal (y := .cells [Jt (L ++ [.agg (TC k a (1 + nl (tx.take a)) ((tx.take ed).drop a) v)])])) (j := q) n1
       have i3 := get_set (x := .cells (LP r6 tx (ed + skN false (tx.drop ed)) zX)) (get_set (x := .cells [Jt (L ++ [.agg (TC k a (1 + nl (tx.take a)) ((tx.take ed).drop a) v)])]) gid (j := al) n3) (j := q) n2
       obtain ⟨f2, wr2, S2, gw2, hkp, hend⟩ := ih (ed + skN false (tx.drop ed)) r6 _ _ _ _ _ hE (by omega) (by omega) i1 i2 i3 (by simp; omega) (by first | exact a0 | rfl) (by first | exact a1 | rfl) (by simpa using j7 g6 (j7 g5 gw))
       have hkp0 : Kp q al S ((S1.set al (.cells [Jt (L ++ [.agg (TC k a (1 + nl (tx.take a)) ((tx.take ed).drop a) v)])])).set q (.cells (LP r6 tx (ed + skN false (tx.drop ed)) zX))) :=
         ⟨by simp; omega, fun i hi h1 h2 => by rw [rA (fun e => h1 e.symm), rA (fun e => h2 e.symm)]; exact hk2 i hi h1⟩
       refine ⟨f2, wr2, S2, gw2, hkp0.trans hkp, ?_⟩
       have hx : yY tx (m + 1) a = (⟨k, a, 1 + nl (tx.take a), (tx.take ed).drop a, v⟩ :: (yY tx m (ed + skN false (tx.drop ed))).1, (yY tx m (ed + skN false (tx.drop ed))).2) := by rw [yY, if_pos hlt, ho]
       unfold Vd at hend ⊢
       rw [hx]
       simp only
       cases h2 : (yY tx m (ed + skN false (tx.drop ed))).2 with
       | none =>
         rw [h2] at hend
         obtain ⟨b1, b2, b3, b4, b5⟩ := hend
         refine ⟨b1, b2, b3, b4, ?_⟩
         rw [b5, rR, List.append_assoc]; rfl
       | some ff =>
         rw [h2] at hend
         exact hend
   . have d1 : decide ((a : Int) < (tx.length : Nat)) = false := rE (by omega)
     have ha' : a = tx.length := by omega
     rw [jI] at hE
     simp only [z5, hq, e0, e1, d1, jA, Option.toList, jp, nat, j0, jO, jY, jr, lc0, lc1, jD, jE, jF, jG, j5, j6, ju, jt, jv, zV, zS, jC, jQ, jb, jh, jU, je, jk, jd, jx, jR, jj, ji, jo, jP, jy, jw, Ts.fill, jV, jT, jf, jW, jn, jl, jg, jc, getAll, stepCall, jm, unI, Opd.get, jB, tag, jz, ja, jN, rv, bin, jX, Nat.reduceAdd, Nat.reduceSub, Nat.reduceMul, Nat.reduceDiv, Nat.reduceMod, Nat.reducePow, Nat.reduceLT, Nat.reduceLeDiff, Nat.reduceEqDiff, Nat.reduceBEq, Nat.reduceBNe, reduceIte, Int.reduceEq, Int.reduceLT, Int.reduceLE, Int.reduceNeg, Int.reduceToNat, Int.reduceMul, Int.reduceAdd, Int.reduceSub, Int.reduceBEq, Int.reduceBNe, reduceCtorEq] at hE
     exact ⟨_, _, S, hw, ⟨rP _, fun _ _ _ _ => rfl⟩, jag (ts := []) (by rw [yY, if_neg hlt]) hE.symm (by first | exact e0 | rfl) (by first | exact e1 | rfl) ⟨r, by rw [<- ha']; exact hq⟩ (by rw [List.map_nil, rM]; exact hal)⟩
end
end Go.Idl.Lx
namespace Go.Idl.Lx
open Go Go.Idl Go.Idl.En
variable {F : kb}
structure FLex (F : kb) : Prop extends FMrk F where
 h8 : F 8 = some ir8
 h24 : F 24 = some jea
 h36 : F 36 = some jfl
def z6 (tx : List UInt8) : List Tok × Option (Nat × Nat) := yY tx (tx.length + 1) (skN false tx)
def ZZ (tx : List UInt8) : Tok := ⟨0, tx.length, 1 + nl tx, [], 0⟩
theorem Js (tx : List UInt8) : ∀ m a, (yY tx m a).1.length <= m
 | 0, a => rP _
 | m + 1, a => by
   rw [yY]
   split
   . split
     . simp
     . have := Js tx m; simp; exact this _
   . simp
section
variable {tx : List UInt8} {q al id : Nat}
theorem jbG (r : Bool) (tx : List UInt8) (er : IVal) : LP r tx tx.length er = LC (dn r) 0 (tb r) tx (tx.length : Int) ((1 + nl tx : Nat) : Int) er := by
 show LC _ _ _ _ _ ((1 + nl (tx.take tx.length) : Nat) : Int) _ = _
 rw [List.take_length]
def jfC (tx : List UInt8) (q al : Nat) (L : List IVal) (S1 : List IObj) : Prop := match (z6 tx).2 with
 | none => (∃ r1, S1[q]? = some (.cells (LP r1 tx tx.length zX))) /\ S1[al]? = some (.cells [Jt (L ++ ((z6 tx).1 ++ [ZZ tx]).map Je)])
 | some f => ∃ a', S1[q]? = some (.cells (LP true tx a' (flt f)))
set_option maxRecDepth 20000 in
theorem jgd (H : FLex F) (hl : tx.length <= 20000) (f : Nat -> Option (Nat × IVal)) (hf : f 5 = some (5, .ptr al 0)) (n1 : q ≠ al) (n2 : q ≠ id) (n3 : al ≠ id) {r : Bool} {S : List IObj} {C : Option Out} {L : List IVal} (hC : cfw F (.f 36) [.yl id, .pv true [.ptr q 0] 0] S = C) (hq : S[q]? = some (.cells (LP r tx 0 zX))) (hal : S[al]? = some (.cells [Jt L])) (hid : S[id]? = some (.loop (jc9 f))) (hL : L.length <= 10000) :
   ∃ S1 wr, C = some ⟨false, .tup [], S1, wr⟩ /\ Fl wr /\ S1.length = S.length /\ (∀ i, i < S.length -> i ≠ q -> i ≠ al -> S1[i]? = S[i]?) /\ jfC tx q al L S1 := by
 subst hC
 rw [cfw_of jfl H.h36, jw]
 obtain ⟨w1, r1, u1, g1⟩ := jbX H.toFSkp hl (Nat.zero_le _) hq
 rw [tS, List.drop_zero] at u1
 have hsk := Ji false tx
 simp only [jfl, hq, u1, jA, Option.toList, jp, nat, j0, jO, jY, jr, lc0, lc1, jD, jE, jF, jG, j5, j6, ju, jt, jv, zV, zS, jC, jQ, jb, jh, jU, je, jk, jd, jx, jR, jj, ji, jo, jP, jy, jw, Ts.fill, jV, jT, jf, jW, jn, jl, jg, jc, getAll, stepCall, jm, unI, Opd.get, jB, tag, jz, ja, jN, rv, bin, jX, Nat.reduceAdd, Nat.reduceSub, Nat.reduceMul, Nat.reduceDiv, Nat.reduceMod, Nat.reducePow, Nat.reduceLT, Nat.reduceLeDiff, Nat.reduceEqDiff, Nat.reduceBEq, Nat.reduceBNe, reduceIte, Int.reduceEq, Int.reduceLT, Int.reduceLE, Int.reduceNeg, Int.reduceToNat, Int.reduceMul, Int.reduceAdd, Int.reduceSub, Int.reduceBEq, Int.reduceBNe, reduceCtorEq]
 generalize hE : evw F (ICode.loop z5) _ = R
 obtain ⟨f1, wr1, S1, gw, hkp, hend⟩ := jeD H.toFMrk hl f hf n1 n2 n3 (tx.length + 1) (skN false tx) r1 _ _ _ _ L hE (by omega) hsk (gs hq) (get_set hal n1) (get_set hid n2) (by omega) (by rfl) (by rfl) (by simpa using g1)
 have lq := jq hq
 have lal := jq hal
 have lid := jq hid
 have hlen : S.length <= S1.length := by simpa using hkp.1
 have hk : ∀ i, i < S.length -> i ≠ q -> i ≠ al -> S1[i]? = S[i]? := fun i hi h1 h2 => by
   rw [hkp.2 i (by simpa using hi) h1 h2, rA (fun e => h1 e.symm)]
 have tkg : ∀ (T : List IObj) (i : Nat), i < S.length -> (T.take S.length)[i]? = T[i]? := fun T i hi => by rw [tD, if_pos hi]
 unfold Vd at hend
 simp only [jfC, z6]
 cases h2 : (yY tx (tx.length + 1) (skN false tx)).2 with
 | some ff =>
   rw [h2] at hend
   obtain ⟨rfl, a', gq⟩ := hend
   simp only [j8 gw, jA, Option.toList, jp, nat, j0, jO, jY, jr, lc0, lc1, jD, jE, jF, jG, j5, j6, ju, jt, jv, zV, zS, jC, jQ, jb, jh, jU, je, jk, jd, jx, jR, jj, ji, jo, jP, jy, jw, Ts.fill, jV, jT, jf, jW, jn, jl, jg, jc, getAll, stepCall, jm, unI, Opd.get, jB, tag, jz, ja, jN, rv, bin, jX, Nat.reduceAdd, Nat.reduceSub, Nat.reduceMul, Nat.reduceDiv, Nat.reduceMod, Nat.reducePow, Nat.reduceLT, Nat.reduceLeDiff, Nat.reduceEqDiff, Nat.reduceBEq, Nat.reduceBNe, reduceIte, Int.reduceEq, Int.reduceLT, Int.reduceLE, Int.reduceNeg, Int.reduceToNat, Int.reduceMul, Int.reduceAdd, Int.reduceSub, Int.reduceBEq, Int.reduceBNe, reduceCtorEq]
   refine ⟨_, _, rfl, jZ gw, by rw [tE]; omega, fun i hi h1 h2 => by rw [tkg _ i hi]; exact hk i hi h1 h2, a', by rw [tkg _ q lq]; exact gq⟩
 | none =>
   rw [h2] at hend
   obtain ⟨rfl, e0, e1, ⟨r2, gq⟩, gal⟩ := hend
   have gid : S1[id]? = some (.loop (jc9 f)) := by rw [hk id lid (fun e => n2 e.symm) (fun e => n3 e.symm)]; exact hid
   have hlm := Js tx (tx.length + 1) (skN false tx)
   have tl : tx.take tx.length = tx := List.take_length
   have gq : S1[q]? = some (.cells (LC (dn r2) 0 (tb r2) tx (tx.length : Int) ((1 + nl tx : Nat) : Int) zX)) := by rw [<- jbG]; exact gq
   obtain ⟨w5, u5, g5⟩ := round (F := F) (k := 0) (a := tx.length) (ln := 1 + nl tx) (t := []) (n := 0) al id f (L ++ (yY tx (tx.length + 1) (skN false tx)).1.map Je) (by simp; omega) hf S1 gid gal n3
   have f5 : qD [.int .i64 0, .int .i64 0, .int .i64 0, .str [], .int .i64 0] [(0, 1, I 0), (1, 1, I tx.length), (2, 1, I ((1 + nl tx : Nat) : Int))] = some (TC 0 tx.length (1 + nl tx) [] 0) := rfl
   have tcu : (TC 0 tx.length (1 + nl tx) [] 0).map un1 = TC 0 tx.length (1 + nl tx) [] 0 := rfl
   simp only [jbw, e0, e1, gq, f5, u5, tC, tM, jA, Option.toList, jp, nat, j0, jO, jY, jr, lc0, lc1, jD, jE, jF, jG, j5, j6, ju, jt, jv, zV, zS, jC, jQ, jb, jh, jU, je, jk, jd, jx, jR, jj, ji, jo, jP, jy, jw, Ts.fill, jV, jT, jf, jW, jn, jl, jg, jc, getAll, stepCall, jm, unI, Opd.get, jB, tag, jz, ja, jN, rv, bin, jX, Nat.reduceAdd, Nat.reduceSub, Nat.reduceMul, Nat.reduceDiv, Nat.reduceMod, Nat.reducePow, Nat.reduceLT, Nat.reduceLeDiff, Nat.reduceEqDiff, Nat.reduceBEq, Nat.reduceBNe, reduceIte, Int.reduceEq, Int.reduceLT, Int.reduceLE, Int.reduceNeg, Int.reduceToNat, Int.reduceMul, Int.reduceAdd, Int.reduceSub, Int.reduceBEq, Int.reduceBNe, reduceCtorEq]
   rw [j8 (j7 g5 gw)]
   refine ⟨_, _, rfl, jZ (j7 g5 gw), ?_, ?_, ⟨r2, ?_⟩, ?_⟩
   . simp; omega
   . intro i hi h1 h2
     rw [tkg _ i hi, rA (fun e => h2 e.symm)]; exact hk i hi h1 h2
   . rw [tkg _ q lq, get_set gq (fun e => n1 e.symm), jbG]
   . rw [tkg _ al lal, List.map_append, rH (jq gal)]; rfl
end
end Go.Idl.Lx
namespace Go.Idl.Lx
open Go Go.Idl Go.Idl.En
variable {F : kb}
def unF (f : Nat -> Option (Nat × IVal)) : Nat -> Option (Nat × IVal) := fun k => match f k with | some (i, v) => some (i, un3 v) | none => none
theorem jgU (nv m d : Nat) (ds : List Nat) (f : Nat -> Option (Nat × IVal)) : ({ E nv m d ds f with t := (E nv m d ds f).t.un, ds := [] } : Ts) = E nv m d [] (unF f) := by
 show Ts.mk nv m (Tm.un (Tm.ofF d f)) [] = _
 rw [Tm.un_ofF]; rfl
theorem XK (x : Opd) (ps : List Nat) (a b : ICode) (nv m d : Nat) (f : Nat -> Option (Nat × IVal)) (σ : List IObj) (wr : List (Nat × Bool)) : evw F (.rangeF x ps a b) ⟨E nv m d [] f, σ, wr⟩ = match x.get (E nv m d [] f) with
   | some (.fn (.func g) us ws, _) =>
     match cfw F (.f g) (us ++ [.yl (σ.length + 1)] ++ ws) (σ ++ [.defr, .loop ⟨0, E nv m d [] (unF f), ps, a, b, none, .none⟩]) with
     | some ⟨false, _, σ', wr'⟩ => match σ'[σ.length + 1]? with
       | some (.loop l) => if l.st = 1 then none else
         match l.pend with
         | none => some (.normal, ⟨E nv m d [σ.length] f, σ'.set (σ.length + 1) .dead, (σ.length + 1, false) :: (wr' ++ wr)⟩)
         | some x => if KB x then some (x, ⟨E nv m d [σ.length] f, σ'.set (σ.length + 1) .dead, (σ.length + 1, false) :: (wr' ++ wr)⟩) else none
       | _ => none
     | _ => none
   | _ => none := by
 rw [vF]
 simp only [evG, jgU]
 rfl
def jdG (tx : List UInt8) : List IVal := if 20000 < tx.length then [.sl 5 true [], flt (4, 20000)] else match (z6 tx).2 with
 | some f => [.sl 5 true [], flt f]
 | none => [.sl 0 false (((z6 tx).1 ++ [ZZ tx]).map Je), .prim .nilIface]
section
variable {tx : List UInt8} {σ : List IObj}
theorem jcE (d st : Int) (f : Nat -> Nat) (a ln : Int) (er : IVal) (h : er.isCell = true) : (LC d st f tx a ln er).all IVal.isCell = true := by
 unfold LC Xt
 simp only [List.all_cons, List.all_append, List.all_map, List.all_nil, h, isCell_int, isCell_str, Bool.true_and, Bool.and_true, rD]
 intro i _; rfl
set_option maxRecDepth 100000 in
theorem jfL (tx : List UInt8) (zs : List IVal) (hz : zs = LC 0 0 (fun _ => 0) [] 0 0 (.prim .nilIface)) : qD zs [(259, 1, .str tx), (261, 1, I 1)] = some (LP false tx 0 zX) := by
 subst hz
 simp only [qD, cells_str, cells_int, jr, tB, List.length_nil, List.all_cons, List.all_nil, isCell_str, isCell_int, ja, jt, Bool.and_true]
 have : (LC 0 0 (fun _ => 0) [] 0 0 (.prim .nilIface)).set 259 (.str tx) = LC 0 0 (fun _ => 0) tx 0 0 (.prim .nilIface) := V9 0 0 (fun _ => 0) [] 0 0 (.prim .nilIface) 0 (.str tx)
 rw [if_pos (by decide), this, jt]
 simp only [jr, qD]
 rw [if_pos (by decide)]
 rfl
theorem jgc (h : F 24 = some jea) {q : Nat} : cfw F (.f 24) [.ptr q 0] σ = some ⟨false, .fn (.func 36) [] [.pv true [.ptr q 0] 0], σ, []⟩ := by
 rw [cfw_of jea h, jw]
 simp only [jea, ext, jA, Option.toList, jp, nat, j0, jO, jY, jr, lc0, lc1, jD, jE, jF, jG, j5, j6, ju, jt, jv, zV, zS, jC, jQ, jb, jh, jU, je, jk, jd, jx, jR, jj, ji, jo, jP, jy, jw, Ts.fill, jV, jT, jf, jW, jn, jl, jg, jc, getAll, stepCall, jm, unI, Opd.get, jB, tag, jz, ja, jN, rv, bin, jX, Nat.reduceAdd, Nat.reduceSub, Nat.reduceMul, Nat.reduceDiv, Nat.reduceMod, Nat.reducePow, Nat.reduceLT, Nat.reduceLeDiff, Nat.reduceEqDiff, Nat.reduceBEq, Nat.reduceBNe, reduceIte, Int.reduceEq, Int.reduceLT, Int.reduceLE, Int.reduceNeg, Int.reduceToNat, Int.reduceMul, Int.reduceAdd, Int.reduceSub, Int.reduceBEq, Int.reduceBNe, reduceCtorEq]
theorem jfO {x y z w : IObj} : (σ ++ [x, y, z, w])[σ.length]? = some x := by rw [get_app0]; rfl
theorem jfP {x y z w : IObj} : (σ ++ [x, y, z, w])[σ.length + 1]? = some y := by rw [get_app]; rfl
theorem jfQ {x y z w : IObj} : (σ ++ [x, y, z, w])[σ.length + 2]? = some z := by rw [get_app]; rfl
theorem jd2 {x y z w : IObj} : (σ ++ [x, y, z, w])[σ.length + 2 + 1]? = some w := by rw [Nat.add_assoc, get_app]; rfl
set_option maxRecDepth 100000 in
theorem jdH (H : FLex F) : ∃ wr, cfw F (.f 8) [.str tx] σ = some ⟨false, .tup (jdG tx), σ, wr⟩ /\ Fl wr := by
 rw [cfw_of ir8 H.h8, jw, jdG]
 by_cases hl : 20000 < tx.length
 . have d1 : decide (((tx.length : Nat) : Int) > 20000) = true := rB (by omega)
   have f2 : qD [.int .i64 0, .int .i64 0] [(0, 1, I 4), (1, 1, I 20000)] = some [I 4, I 20000] := rfl
   rw [if_pos hl]
   simp only [ir8, d1, f2, ext, tC, tM, jA, Option.toList, jp, nat, j0, jO, jY, jr, lc0, lc1, jD, jE, jF, jG, j5, j6, ju, jt, jv, zV, zS, jC, jQ, jb, jh, jU, je, jk, jd, jx, jR, jj, ji, jo, jP, jy, jw, Ts.fill, jV, jT, jf, jW, jn, jl, jg, jc, getAll, stepCall, jm, unI, Opd.get, jB, tag, jz, ja, jN, rv, bin, jX, Nat.reduceAdd, Nat.reduceSub, Nat.reduceMul, Nat.reduceDiv, Nat.reduceMod, Nat.reducePow, Nat.reduceLT, Nat.reduceLeDiff, Nat.reduceEqDiff, Nat.reduceBEq, Nat.reduceBNe, reduceIte, Int.reduceEq, Int.reduceLT, Int.reduceLE, Int.reduceNeg, Int.reduceToNat, Int.reduceMul, Int.reduceAdd, Int.reduceSub, Int.reduceBEq, Int.reduceBNe, reduceCtorEq]
   exact ⟨_, rfl, rfl⟩
 . have d1 : decide (((tx.length : Nat) : Int) > 20000) = false := rE (by omega)
   rw [if_neg hl]
   simp only [ir8, d1, tC, tM, jA, Option.toList, jp, nat, j0, jO, jY, jr, lc0, lc1, jD, jE, jF, jG, j5, j6, ju, jt, jv, zV, zS, jC, jQ, jb, jh, jU, je, jk, jd, jx, jR, jj, ji, jo, jP, jy, jw, Ts.fill, jV, jT, jf, jW, jn, jl, jg, jc, getAll, stepCall, jm, unI, Opd.get, jB, tag, jz, ja, jN, rv, bin, jX, Nat.reduceAdd, Nat.reduceSub, Nat.reduceMul, Nat.reduceDiv, Nat.reduceMod, Nat.reducePow, Nat.reduceLT, Nat.reduceLeDiff, Nat.reduceEqDiff, Nat.reduceBEq, Nat.reduceBNe, reduceIte, Int.reduceEq, Int.reduceLT, Int.reduceLE, Int.reduceNeg, Int.reduceToNat, Int.reduceMul, Int.reduceAdd, Int.reduceSub, Int.reduceBEq, Int.reduceBNe, reduceCtorEq]
   rw [jfL tx]
   rotate_left
   . rfl
   have ca := jcE (tx := tx) (dn false) 0 (tb false) ((0 : Nat) : Int) ((1 + nl (tx.take 0) : Nat) : Int) zX (by rfl)
   have lc1' : (List.map un1 (LP false tx 0 zX)) = LP false tx 0 zX := by
     unfold LP LC Xt; simp only [rR, List.map_append, List.map_map, List.map_nil]; rfl
   have u1 := fun τ => jgc H.h24 (σ := τ) (q := σ.length)
   simp only [ca, lc1', u1, un2_agg, cells_agg, XK, jA, Option.toList, jp, nat, j0, jO, jY, jr, lc0, lc1, jD, jE, jF, jG, j5, j6, ju, jt, jv, zV, zS, jC, jQ, jb, jh, jU, je, jk, jd, jx, jR, jj, ji, jo, jP, jy, jw, Ts.fill, jV, jT, jf, jW, jn, jl, jg, jc, getAll, stepCall, jm, unI, Opd.get, jB, tag, jz, ja, jN, rv, bin, jX, Nat.reduceAdd, Nat.reduceSub, Nat.reduceMul, Nat.reduceDiv, Nat.reduceMod, Nat.reducePow, Nat.reduceLT, Nat.reduceLeDiff, Nat.reduceEqDiff, Nat.reduceBEq, Nat.reduceBNe, reduceIte, Int.reduceEq, Int.reduceLT, Int.reduceLE, Int.reduceNeg, Int.reduceToNat, Int.reduceMul, Int.reduceAdd, Int.reduceSub, Int.reduceBEq, Int.reduceBNe, reduceCtorEq]
   generalize hC : cfw F (.f 36) _ _ = C
   obtain ⟨S1, wr, rfl, gw, hlen, hk, ht⟩ := jgd (tx := tx) (al := σ.length + 1) (r := false) (L := []) H (by omega) _ (by rfl) (by omega) (by omega) (by omega) hC jfO jfP jd2 (by simp)
   have hl4 : S1.length = σ.length + 4 := by rw [hlen]; simp
   simp only [rF, tB, List.length_nil] at hk
   obtain ⟨l, gl, l0, lp⟩ : ∃ l, S1[σ.length + 2 + 1]? = some (.loop l) /\ l.st = 0 /\ l.pend = none := by
     exact ⟨_, (hk _ (by omega) (by omega) (by omega)).trans jd2, rfl, rfl⟩
   have gd : S1[σ.length + 2]? = some .defr := by rw [hk _ (by omega) (by omega) (by omega)]; exact jfQ
   have gd2 := get_set (x := .dead) gd (j := σ.length + 2 + 1) (by omega)
   have tk : ((S1.set (σ.length + 2 + 1) .dead).set (σ.length + 2) .dead).take σ.length = σ := by
     apply List.ext_getElem?
     intro i
     by_cases hi : i < σ.length
     . rw [tD, if_pos hi, rA (by omega), rA (by omega), hk i (by omega) (by omega) (by omega), List.getElem?_append_left hi]
     . rw [rV (by simp; omega), rV (by omega)]
   unfold jfC at ht
   cases h2 : (z6 tx).2 with
   | some ff =>
     rw [h2] at ht
     obtain ⟨a', gq⟩ := ht
     have gq2 := get_set (x := .dead) gq (j := σ.length + 2 + 1) (by omega)
     simp only [gl, l0, lp, gq2, gd2, tk, jA, Option.toList, jp, nat, j0, jO, jY, jr, lc0, lc1, jD, jE, jF, jG, j5, j6, ju, jt, jv, zV, zS, jC, jQ, jb, jh, jU, je, jk, jd, jx, jR, jj, ji, jo, jP, jy, jw, Ts.fill, jV, jT, jf, jW, jn, jl, jg, jc, getAll, stepCall, jm, unI, Opd.get, jB, tag, jz, ja, jN, rv, bin, jX, Nat.reduceAdd, Nat.reduceSub, Nat.reduceMul, Nat.reduceDiv, Nat.reduceMod, Nat.reducePow, Nat.reduceLT, Nat.reduceLeDiff, Nat.reduceEqDiff, Nat.reduceBEq, Nat.reduceBNe, reduceIte, Int.reduceEq, Int.reduceLT, Int.reduceLE, Int.reduceNeg, Int.reduceToNat, Int.reduceMul, Int.reduceAdd, Int.reduceSub, Int.reduceBEq, Int.reduceBNe, reduceCtorEq]
     rw [j8 gw]
     refine ⟨_, rfl, ?_⟩
     repeat (first | exact jZ gw | apply V5 | apply JL)
   | none =>
     rw [h2] at ht
     obtain ⟨⟨r1, gq⟩, ga⟩ := ht
     have gq2 := get_set (x := .dead) gq (j := σ.length + 2 + 1) (by omega)
     have ga2 := get_set (x := .dead) ga (j := σ.length + 2 + 1) (by omega)
     have nn : isNil 1 (un2 zX) = some true := rfl
     have lv : Jt ([] ++ ((z6 tx).1 ++ [ZZ tx]).map Je) = .sl 5 false (((z6 tx).1 ++ [ZZ tx]).map Je) := by
       rw [tJ]
       cases (z6 tx).1 <;> rfl
     rw [lv] at ga2
     have nr : (((z6 tx).1 ++ [ZZ tx]).map Je).isEmpty = false := by cases (z6 tx).1 <;> rfl
     simp only [gl, l0, lp, gq2, ga2, gd2, tk, nn, jA, Option.toList, jp, nat, j0, jO, jY, jr, lc0, lc1, jD, jE, jF, jG, j5, j6, ju, jt, jv, zV, zS, jC, jQ, jb, jh, jU, je, jk, jd, jx, jR, jj, ji, jo, jP, jy, jw, Ts.fill, jV, jT, jf, jW, jn, jl, jg, jc, getAll, stepCall, jm, unI, Opd.get, jB, tag, jz, ja, jN, rv, bin, jX, Nat.reduceAdd, Nat.reduceSub, Nat.reduceMul, Nat.reduceDiv, Nat.reduceMod, Nat.reducePow, Nat.reduceLT, Nat.reduceLeDiff, Nat.reduceEqDiff, Nat.reduceBEq, Nat.reduceBNe, reduceIte, Int.reduceEq, Int.reduceLT, Int.reduceLE, Int.reduceNeg, Int.reduceToNat, Int.reduceMul, Int.reduceAdd, Int.reduceSub, Int.reduceBEq, Int.reduceBNe, reduceCtorEq]
     rw [j8 gw]
     refine ⟨_, rfl, ?_⟩
     repeat (first | exact jZ gw | apply V5 | apply JL)
end
end Go.Idl.Lx
namespace Go.Idl.Lx
open Go Go.Idl Go.Idl.En
variable {F : kb}
structure Bd (n : Nat) (σ S : List IObj) (s : List UInt8) : Prop where
 len : n + 2 <= S.length
 old : ∀ i, i < n -> S[i]? = σ[i]?
 tg : S[n + 1]? = some (.ty 48 2 n)
 bx : ∃ ad bf, S[n]? = some (.cells [ad, bf]) /\ (ad = .prim (.pointer none) \/ ad = .ptr n 0) /\ ((s = [] /\ bf = .sl 1 true []) \/ (s ≠ [] /\ ∃ id, n + 2 <= id /\ bf = .rs 1 id 0 s.length /\ S[id]? = some (.cells (s.map fun c => .int .u8 c.toNat)) /\ S[id + 1]? = some (.ty 5 0 id)))
structure FBld (F : kb) : Prop where
 h20 : F 20 = some jd7
 h21 : F 21 = some jd8
 h35 : F 35 = some jdA
def Ge (n : Nat) (wr : List (Nat × Bool)) : Prop := ∀ p ∈ wr, n <= p.1
theorem jch {n : Nat} {wr : List (Nat × Bool)} (h : Ge n wr) : wr.all (fun p => !p.2 || decide (n <= p.1)) = true := by
 rw [rD]; intro p hp; simp [h p hp]
theorem JN {n : Nat} {wr : List (Nat × Bool)} (h : Ge n wr) (f : Nat × Bool -> Bool) : Ge n (wr.filter f) := fun p hp => h p (List.mem_filter.mp hp).1
theorem vy {n : Nat} {wr : List (Nat × Bool)} (h : Ge n wr) : wr.filter (fun p => decide (p.1 < n)) = [] := by
 rw [List.filter_eq_nil_iff]; intro p hp; have := h p hp; simp; omega
theorem qc {n q : Nat} {b : Bool} {a : List (Nat × Bool)} (h : n <= q) (h2 : Ge n a) : Ge n ((q, b) :: a) := fun p hp => by
 rcases List.mem_cons.1 hp with rfl | hp
 . exact h
 . exact h2 p hp
theorem YO {n : Nat} {c : Prop} [Decidable c] {a b : List (Nat × Bool)} (h : Ge n a) (h2 : Ge n b) : Ge n (if c then a else b) := by split <;> assumption
theorem toB (s : List UInt8) : vC (s.map fun c => IVal.int .u8 c.toNat) = some s := by
 induction s with
 | nil => rfl
 | cons c s ih => simp only [rR, vC, ih]; congr 1; simp
section
variable {n : Nat} {σ S : List IObj} {s : List UInt8}
set_option maxRecDepth 20000 in
theorem jfF (h : F 35 = some jdA) {ad bf : IVal} (hb : S[n]? = some (.cells [ad, bf])) (hg : S[n + 1]? = some (.ty 48 2 n)) (ha : ad = .prim (.pointer none) \/ ad = .ptr n 0) :
   ∃ wr, cfw F (.f 35) [.ptr n 0] S = some ⟨false, .tup [], S.set n (.cells [.ptr n 0, bf]), wr⟩ /\ Ge n wr := by
 rw [cfw_of jdA h, jw]
 have lb := jq hb
 rcases ha with rfl | rfl
 . have tk : (S.set n (.cells [.ptr n 0, bf])).take S.length = S.set n (.cells [.ptr n 0, bf]) := take_set
   have x1 : nr1 (.ptr n 0) = false := rfl
   have hn : ¬ S.length <= n := by omega
   have tf : (true != false) = true := rfl
   have n20 : (2 : Nat) ≠ 0 := by decide
   simp only [jdA, hb, hg, tk, x1, tf, ne_eq, n20, hn, jA, Option.toList, jp, nat, j0, jO, jY, jr, lc0, lc1, jD, jE, jF, jG, j5, j6, ju, jt, jv, zV, zS, jC, jQ, jb, jh, jU, je, jk, jd, jx, jR, jj, ji, jo, jP, jy, jw, Ts.fill, jV, jT, jf, jW, jn, jl, jg, jc, getAll, stepCall, jm, unI, Opd.get, jB, tag, jz, ja, jN, rv, bin, jX, Nat.reduceAdd, Nat.reduceSub, Nat.reduceMul, Nat.reduceDiv, Nat.reduceMod, Nat.reducePow, Nat.reduceLT, Nat.reduceLeDiff, Nat.reduceEqDiff, Nat.reduceBEq, Nat.reduceBNe, reduceIte, Int.reduceEq, Int.reduceLT, Int.reduceLE, Int.reduceNeg, Int.reduceToNat, Int.reduceMul, Int.reduceAdd, Int.reduceSub, Int.reduceBEq, Int.reduceBNe, reduceCtorEq]
   refine ⟨_, rfl, ?_⟩
   intro p hp
   split at hp
   . simp at hp; subst hp; exact rP _
   . simp at hp
 . simp only [jdA, hb, jA, Option.toList, jp, nat, j0, jO, jY, jr, lc0, lc1, jD, jE, jF, jG, j5, j6, ju, jt, jv, zV, zS, jC, jQ, jb, jh, jU, je, jk, jd, jx, jR, jj, ji, jo, jP, jy, jw, Ts.fill, jV, jT, jf, jW, jn, jl, jg, jc, getAll, stepCall, jm, unI, Opd.get, jB, tag, jz, ja, jN, rv, bin, jX, Nat.reduceAdd, Nat.reduceSub, Nat.reduceMul, Nat.reduceDiv, Nat.reduceMod, Nat.reducePow, Nat.reduceLT, Nat.reduceLeDiff, Nat.reduceEqDiff, Nat.reduceBEq, Nat.reduceBNe, reduceIte, Int.reduceEq, Int.reduceLT, Int.reduceLE, Int.reduceNeg, Int.reduceToNat, Int.reduceMul, Int.reduceAdd, Int.reduceSub, Int.reduceBEq, Int.reduceBNe, reduceCtorEq]
   rw [vr hb]
   exact ⟨_, rfl, by intro p hp; simp at hp⟩
set_option maxRecDepth 20000 in
theorem jdv (H : FBld F) {t : List UInt8} (ht : t ≠ []) (hl : s.length <= 1000000) (htl : t.length <= 1000000) (hB : Bd n σ S s) :
   ∃ S1 wr, cfw F (.f 20) [.ptr n 0, .str t] S = some ⟨false, .tup [I t.length, .prim .nilIface], S1, wr⟩ /\ Ge n wr /\ Bd n σ S1 (s ++ t) := by
 rw [cfw_of jd7 H.h20, jw]
 obtain ⟨ad, bf, hb, had, hbf⟩ := hB.bx
 obtain ⟨w1, u1, g1⟩ := jfF H.h35 hb hB.tg had
 have lb := jq hb
 have hlen := hB.len
 have gb := gs hb (y := .cells [.ptr n 0, bf])
 have t0 : t.length ≠ 0 := fun e => ht (List.length_eq_zero_iff.1 e)
 have tl : t.length <= 1099511627776 := by omega
 have hne : s ++ t ≠ [] := by simp [ht]
 rcases hbf with ⟨rfl, rfl⟩ | ⟨hs, id, hid, rfl, hc, htg⟩
 . have s2 : ∀ (x y : IObj) (l : List IObj), (S.set n x ++ l).set n y = S.set n y ++ l := fun x y l => by rw [yc (by simpa using lb), r7]
   have g2 : ∀ (x : IObj) (l : List IObj), (S.set n x ++ l)[n]? = some x := fun x l => by rw [List.getElem?_append_left (by simpa using lb), rH lb]
   have x1 : nr1 (.rs 1 S.length 0 t.length) = false := rfl
   have hn : ¬ S.length <= n := by omega
   have dn : decide (S.length <= n) = false := rE hn
   simp only [jd7, u1, gb, t0, tl, s2, g2, x1, dn, List.length_set, jA, Option.toList, jp, nat, j0, jO, jY, jr, lc0, lc1, jD, jE, jF, jG, j5, j6, ju, jt, jv, zV, zS, jC, jQ, jb, jh, jU, je, jk, jd, jx, jR, jj, ji, jo, jP, jy, jw, Ts.fill, jV, jT, jf, jW, jn, jl, jg, jc, getAll, stepCall, jm, unI, Opd.get, jB, tag, jz, ja, jN, rv, bin, jX, Nat.reduceAdd, Nat.reduceSub, Nat.reduceMul, Nat.reduceDiv, Nat.reduceMod, Nat.reducePow, Nat.reduceLT, Nat.reduceLeDiff, Nat.reduceEqDiff, Nat.reduceBEq, Nat.reduceBNe, reduceIte, Int.reduceEq, Int.reduceLT, Int.reduceLE, Int.reduceNeg, Int.reduceToNat, Int.reduceMul, Int.reduceAdd, Int.reduceSub, Int.reduceBEq, Int.reduceBNe, reduceCtorEq]
   refine ⟨_, _, rfl, ?_, ?_, ?_, ?_, ?_⟩
   . repeat (first | exact JN g1 _ | apply YO | apply qc (by omega))
   . simp; omega
   . intro i hi
     rw [List.getElem?_append_left (by simp; omega), rA (by omega)]; exact hB.old i hi
   . rw [List.getElem?_append_left (by simp; omega), rA (by omega)]; exact hB.tg
   . refine ⟨_, _, g2 _ _, Or.inr rfl, Or.inr ⟨hne, S.length, hlen, rfl, ?_, ?_⟩⟩
     . rw [rS (by simp)]; simp
     . rw [rS (by simp)]; simp
 . have hid2 : id ≠ n := by omega
   have hid3 : id + 1 ≠ n := by omega
   have lid := jq hc
   have lid1 := jq htg
   have c1 := get_set (x := .cells [.ptr n 0, .rs 1 id 0 s.length]) hc (j := n) (by omega)
   have c2 := get_set (x := .cells [.ptr n 0, .rs 1 id 0 s.length]) htg (j := n) (by omega)
   have s2 : ∀ (x y z : IObj) (l : List IObj), ((S.set n x).set id z ++ l).set n y = (S.set n y).set id z ++ l := fun x y z l => by rw [yc (by simpa using lb), List.set_comm _ _ hid2, r7]
   have g2 : ∀ (x z : IObj) (l : List IObj), ((S.set n x).set id z ++ l)[n]? = some x := fun x z l => by rw [List.getElem?_append_left (by simpa using lb), rA hid2, rH lb]
   have x1 : nr1 (.rs 1 S.length 0 (s.length + t.length)) = false := rfl
   have dn : decide (S.length <= n) = false := rE (by omega)
   have l1 : s.length + t.length <= 1099511627776 := by omega
   have tk : (s.map fun c => IVal.int .u8 c.toNat).take s.length = s.map fun c => IVal.int .u8 c.toNat := rU (by simp)
   simp only [jd7, u1, gb, c1, c2, t0, tl, l1, tk, s2, g2, x1, dn, List.length_set, jA, Option.toList, jp, nat, j0, jO, jY, jr, lc0, lc1, jD, jE, jF, jG, j5, j6, ju, jt, jv, zV, zS, jC, jQ, jb, jh, jU, je, jk, jd, jx, jR, jj, ji, jo, jP, jy, jw, Ts.fill, jV, jT, jf, jW, jn, jl, jg, jc, getAll, stepCall, jm, unI, Opd.get, jB, tag, jz, ja, jN, rv, bin, jX, Nat.reduceAdd, Nat.reduceSub, Nat.reduceMul, Nat.reduceDiv, Nat.reduceMod, Nat.reducePow, Nat.reduceLT, Nat.reduceLeDiff, Nat.reduceEqDiff, Nat.reduceBEq, Nat.reduceBNe, reduceIte, Int.reduceEq, Int.reduceLT, Int.reduceLE, Int.reduceNeg, Int.reduceToNat, Int.reduceMul, Int.reduceAdd, Int.reduceSub, Int.reduceBEq, Int.reduceBNe, reduceCtorEq]
   refine ⟨_, _, rfl, ?_, ?_, ?_, ?_, ?_⟩
   . repeat (first | exact JN g1 _ | apply YO | apply qc (by omega))
   . simp; omega
   . intro i hi
     rw [List.getElem?_append_left (by simp; omega), rA (by omega), rA (by omega)]; exact hB.old i hi
   . rw [List.getElem?_append_left (by simp; omega), rA (by omega), rA (by omega)]; exact hB.tg
   . refine ⟨_, _, g2 _ _ _, Or.inr rfl, Or.inr ⟨hne, S.length, hlen, by rw [rF], ?_, ?_⟩⟩
     . rw [rS (by simp)]; simp
     . rw [rS (by simp)]; simp
end
end Go.Idl.Lx
namespace Go.Idl.Lx
open Go Go.Idl Go.Idl.En
variable {F : kb}
section
variable {n : Nat} {σ S : List IObj} {s : List UInt8}
set_option maxRecDepth 20000 in
theorem jbj (H : FBld F) (hl : s.length <= 1000000) (hB : Bd n σ S s) :
   ∃ S1 wr, cfw F (.f 21) [.ptr n 0] S = some ⟨false, .str s, S1, wr⟩ /\ Ge n wr /\ S1.length = S.length /\ ∀ i, i < n -> S1[i]? = σ[i]? := by
 rw [cfw_of jd8 H.h21, jw]
 obtain ⟨ad, bf, hb, had, hbf⟩ := hB.bx
 have lb := jq hb
 have dq : decide (n < S.length) = true := rB lb
 rcases hbf with ⟨rfl, rfl⟩ | ⟨hs, id, hid, rfl, hc, htg⟩
 . simp only [jd8, hb, dq, jA, Option.toList, jp, nat, j0, jO, jY, jr, lc0, lc1, jD, jE, jF, jG, j5, j6, ju, jt, jv, zV, zS, jC, jQ, jb, jh, jU, je, jk, jd, jx, jR, jj, ji, jo, jP, jy, jw, Ts.fill, jV, jT, jf, jW, jn, jl, jg, jc, getAll, stepCall, jm, unI, Opd.get, jB, tag, jz, ja, jN, rv, bin, jX, Nat.reduceAdd, Nat.reduceSub, Nat.reduceMul, Nat.reduceDiv, Nat.reduceMod, Nat.reducePow, Nat.reduceLT, Nat.reduceLeDiff, Nat.reduceEqDiff, Nat.reduceBEq, Nat.reduceBNe, reduceIte, Int.reduceEq, Int.reduceLT, Int.reduceLE, Int.reduceNeg, Int.reduceToNat, Int.reduceMul, Int.reduceAdd, Int.reduceSub, Int.reduceBEq, Int.reduceBNe, reduceCtorEq]
   exact ⟨_, _, rfl, by intro p hp; simp at hp, rfl, hB.old⟩
 . have s0 : s.length ≠ 0 := fun e => hs (List.length_eq_zero_iff.1 e)
   have s1 : 0 < s.length := by omega
   have s2 : (0 : Int) < (s.length : Int) := by omega
   have s3 : (s.length : Int) <= 1099511627776 := by omega
   have tk : (s.map fun c => IVal.int .u8 c.toNat).take s.length = s.map fun c => IVal.int .u8 c.toNat := rU (by simp)
   simp only [jd8, hb, hc, htg, s0, s1, s2, s3, tk, toB, dq, rI, take_set, jA, Option.toList, jp, nat, j0, jO, jY, jr, lc0, lc1, jD, jE, jF, jG, j5, j6, ju, jt, jv, zV, zS, jC, jQ, jb, jh, jU, je, jk, jd, jx, jR, jj, ji, jo, jP, jy, jw, Ts.fill, jV, jT, jf, jW, jn, jl, jg, jc, getAll, stepCall, jm, unI, Opd.get, jB, tag, jz, ja, jN, rv, bin, jX, Nat.reduceAdd, Nat.reduceSub, Nat.reduceMul, Nat.reduceDiv, Nat.reduceMod, Nat.reducePow, Nat.reduceLT, Nat.reduceLeDiff, Nat.reduceEqDiff, Nat.reduceBEq, Nat.reduceBNe, reduceIte, Int.reduceEq, Int.reduceLT, Int.reduceLE, Int.reduceNeg, Int.reduceToNat, Int.reduceMul, Int.reduceAdd, Int.reduceSub, Int.reduceBEq, Int.reduceBNe, reduceCtorEq]
   refine ⟨_, _, rfl, ?_, by simp, ?_⟩
   . have g1 : Ge n [] := by intro p hp; simp at hp
     repeat (first | exact JN g1 _ | exact g1 | apply YO | apply qc (by omega))
   . intro i hi
     rw [rA (by omega)]; exact hB.old i hi
def pcs : List (List UInt8) := [[120], [119, 104, 105, 108, 101], [95, 97, 57], [119, 49, 54], [48], [49, 50], [48, 120], [48, 120, 49, 102], [52, 50, 57, 52, 57, 54, 55, 50, 57, 53], [52, 50, 57, 52, 57, 54, 55, 50, 57, 54], [97, 98, 99, 100, 101, 102, 103, 104, 105, 106, 107, 108, 109, 110, 111, 112], [60], [60, 60], [62], [61], [61, 61], [33], [33, 61], [47], [47, 47], [123], [125], [40], [41], [91], [93], [59], [58], [44], [46], [43], [45], [42], [37], [38], [94], [124], [126], [32], [32], [9], [10], [36], [0], [255], [48, 88, 49], [57, 122], [47, 47, 32, 101, 110, 100, 10]]
set_option maxRecDepth 100000 in
theorem jaQ (h : F 25 = some jeb) : cfw F (.f 25) [] σ = some ⟨false, .sl 1 false (pcs.map .str), σ, []⟩ := by
 rw [cfw_of jeb h, jw]
 simp only [jeb, ext, jA, Option.toList, jp, nat, j0, jO, jY, jr, lc0, lc1, jD, jE, jF, jG, j5, j6, ju, jt, jv, zV, zS, jC, jQ, jb, jh, jU, je, jk, jd, jx, jR, jj, ji, jo, jP, jy, jw, Ts.fill, jV, jT, jf, jW, jn, jl, jg, jc, getAll, stepCall, jm, unI, Opd.get, jB, tag, jz, ja, jN, rv, bin, jX, Nat.reduceAdd, Nat.reduceSub, Nat.reduceMul, Nat.reduceDiv, Nat.reduceMod, Nat.reducePow, Nat.reduceLT, Nat.reduceLeDiff, Nat.reduceEqDiff, Nat.reduceBEq, Nat.reduceBNe, reduceIte, Int.reduceEq, Int.reduceLT, Int.reduceLE, Int.reduceNeg, Int.reduceToNat, Int.reduceMul, Int.reduceAdd, Int.reduceSub, Int.reduceBEq, Int.reduceBNe, reduceCtorEq]
 rfl
def pc (b : Nat) : List UInt8 := (pcs[b % 48]?).getD []
theorem jbT (b : Nat) : pcs[b % 48]? = some (pc b) := by
 have h : b % 48 < pcs.length := Nat.mod_lt _ (by decide)
 rw [pc, rG h]; rfl
theorem je0 : ∀ p ∈ pcs, p ≠ [] /\ p.length <= 16 := by decide
theorem jeZ (b : Nat) : pc b ≠ [] /\ (pc b).length <= 16 := je0 _ (List.mem_of_getElem? (jbT b))
def mdS (l : List Nat) : List UInt8 := (l.take 120).flatMap pc
theorem jcM (l : List Nat) : (mdS l).length <= 1920 := by
 have : ∀ (l : List Nat), (l.flatMap pc).length <= l.length * 16 := by
   intro l
   induction l with
   | nil => simp
   | cons b l ih => rw [rO, rF, tB]; have := (jeZ b).2; omega
 have h := this (l.take 120)
 have h2 : (l.take 120).length <= 120 := by rw [tE]; omega
 rw [mdS]; omega
structure FMade (F : kb) : Prop extends FBld F where
 h9 : F 9 = some ir9
 h25 : F 25 = some jeb
set_option maxRecDepth 20000 in
theorem jf0 (H : FMade F) {l : List Nat} {o : Nat} {r : Bool} (hb : ∀ b ∈ l, b < 256) : ∀ (m i : Nat) (f0 : Nat -> Option (Nat × IVal)) (S : List IObj) (wr : List (Nat × Bool)) (R : Option (IExit × St)), evw F (.loop yX) ⟨E 6 12 5 [] f0, S, wr⟩ = R -> i <= 120 -> 120 - i <= m -> i <= l.length -> Bd n σ S ((l.take i).flatMap pc) -> f0 0 = some (0, .sl o r (l.map B)) -> f0 3 = some (3, .ptr n 0) -> f0 4 = some (4, .sl 1 false (pcs.map .str)) -> f0 5 = some (5, I i) -> Ge n wr ->
   ∃ f1 S1 wr1, R = some (.exit 0, ⟨E 6 12 5 [] (base f1), S1, wr1⟩) /\ Ge n wr1 /\ Bd n σ S1 (mdS l) /\ f1 3 = some (3, .ptr n 0) := by
 intro m
 induction m with
 | zero =>
   intro i f0 S wr R hE hi hm hil hB e0 e3 e4 e5 hw
   have hi : i = 120 := by omega
   subst hi
   have d2 : decide ((120 : Int) < 120) = false := rfl
   change evw F (.loop yX) ⟨E 6 12 5 [] (base f0), S, wr⟩ = R at hE
   rw [jI] at hE
   cases d1 : decide ((120 : Int) < ((l.length : Nat) : Int)) with
   | true =>
     simp only [yX, e0, e3, e4, e5, d1, d2, jk, jA, Option.toList, jp, nat, j0, jO, jY, jr, lc0, lc1, jD, jE, jF, jG, j5, j6, ju, jt, jv, zV, zS, jC, jQ, jb, jh, jU, je, jd, jx, jR, jj, ji, jo, jP, jy, jw, Ts.fill, jV, jT, jf, jW, jn, jl, jg, jc, getAll, stepCall, jm, unI, Opd.get, jB, tag, jz, ja, jN, rv, bin, jX, Nat.reduceAdd, Nat.reduceSub, Nat.reduceMul, Nat.reduceDiv, Nat.reduceMod, Nat.reducePow, Nat.reduceLT, Nat.reduceLeDiff, Nat.reduceEqDiff, Nat.reduceBEq, Nat.reduceBNe, reduceIte, Int.reduceEq, Int.reduceLT, Int.reduceLE, Int.reduceNeg, Int.reduceToNat, Int.reduceMul, Int.reduceAdd, Int.reduceSub, Int.reduceBEq, Int.reduceBNe, reduceCtorEq] at hE
     exact ⟨_, _, _, hE.symm, hw, hB, (by first | exact e3 | rfl)⟩
   | false =>
     simp only [yX, e0, e3, e4, e5, d1, d2, jk, jA, Option.toList, jp, nat, j0, jO, jY, jr, lc0, lc1, jD, jE, jF, jG, j5, j6, ju, jt, jv, zV, zS, jC, jQ, jb, jh, jU, je, jd, jx, jR, jj, ji, jo, jP, jy, jw, Ts.fill, jV, jT, jf, jW, jn, jl, jg, jc, getAll, stepCall, jm, unI, Opd.get, jB, tag, jz, ja, jN, rv, bin, jX, Nat.reduceAdd, Nat.reduceSub, Nat.reduceMul, Nat.reduceDiv, Nat.reduceMod, Nat.reducePow, Nat.reduceLT, Nat.reduceLeDiff, Nat.reduceEqDiff, Nat.reduceBEq, Nat.reduceBNe, reduceIte, Int.reduceEq, Int.reduceLT, Int.reduceLE, Int.reduceNeg, Int.reduceToNat, Int.reduceMul, Int.reduceAdd, Int.reduceSub, Int.reduceBEq, Int.reduceBNe, reduceCtorEq] at hE
     exact ⟨_, _, _, hE.symm, hw, hB, (by first | exact e3 | rfl)⟩
 | succ m ih =>
   intro i f0 S wr R hE hi hm hil hB e0 e3 e4 e5 hw
   change evw F (.loop yX) ⟨E 6 12 5 [] (base f0), S, wr⟩ = R at hE
   rw [jI] at hE
   by_cases hlt : i < l.length
   . have d1 : decide ((i : Int) < ((l.length : Nat) : Int)) = true := rB (by omega)
     by_cases h120 : i < 120
     . have d2 : decide ((i : Int) < 120) = true := rB (by omega)
       have d3 : (0 : Int) <= (i : Int) := by omega
       obtain ⟨b, hg⟩ := qf hlt
       have hb2 := hb b (List.mem_of_getElem? hg)
       have w1 := yU (n := i) (by omega)
       have w2 : IntKind.i64.wrap (b : Int) = (b : Int) := qe (by omega) (by omega)
       have pl : pcs.length = 48 := rfl
       have w3 : (b : Int).tmod 48 = ((b % 48 : Nat) : Int) := rfl
       have d4 : (0 : Int) <= ((b % 48 : Nat) : Int) := by omega
       have hpg := jbT b
       obtain ⟨hp0, hp1⟩ := jeZ b
       have hsl : ((l.take i).flatMap pc).length <= 2000 := by
         have := jcM (l.take i)
         rw [mdS, List.take_take, Nat.min_eq_right (by omega)] at this; omega
       obtain ⟨S1, w5, u5, g5, hB1⟩ := jdv H.toFBld (t := pc b) hp0 (by omega) (by omega) hB
       have pl2 : ((48 : Nat) : Int) = 48 := rfl
       have n48 : ¬ (48 : Int) = 0 := by decide
       simp only [yX, e0, e3, e4, e5, d1, d2, d3, d4, hg, w1, w2, w3, pl, pl2, n48, hpg, u5, rI, jk, jA, Option.toList, jp, nat, j0, jO, jY, jr, lc0, lc1, jD, jE, jF, jG, j5, j6, ju, jt, jv, zV, zS, jC, jQ, jb, jh, jU, je, jd, jx, jR, jj, ji, jo, jP, jy, jw, Ts.fill, jV, jT, jf, jW, jn, jl, jg, jc, getAll, stepCall, jm, unI, Opd.get, jB, tag, jz, ja, jN, rv, bin, jX, Nat.reduceAdd, Nat.reduceSub, Nat.reduceMul, Nat.reduceDiv, Nat.reduceMod, Nat.reducePow, Nat.reduceLT, Nat.reduceLeDiff, Nat.reduceEqDiff, Nat.reduceBEq, Nat.reduceBNe, reduceIte, Int.reduceEq, Int.reduceLT, Int.reduceLE, Int.reduceNeg, Int.reduceToNat, Int.reduceMul, Int.reduceAdd, Int.reduceSub, Int.reduceBEq, Int.reduceBNe, reduceCtorEq] at hE
       have ht : (l.take (i + 1)).flatMap pc = (l.take i).flatMap pc ++ pc b := by
         rw [List.take_add_one, hg]; simp
       exact ih (i + 1) _ _ _ _ hE (by omega) (by omega) (by omega) (by rw [ht]; exact hB1) (by first | exact e0 | rfl) (by first | exact e3 | rfl) (by first | exact e4 | rfl) (by rfl) (by intro p hp; rcases List.mem_append.1 hp with h | h; exact g5 p h; exact hw p h)
     . have hi : i = 120 := by omega
       subst hi
       have d1 : decide ((120 : Int) < ((l.length : Nat) : Int)) = true := d1
       have d2 : decide ((120 : Int) < 120) = false := rfl
       simp only [yX, e0, e3, e4, e5, d1, d2, jk, jA, Option.toList, jp, nat, j0, jO, jY, jr, lc0, lc1, jD, jE, jF, jG, j5, j6, ju, jt, jv, zV, zS, jC, jQ, jb, jh, jU, je, jd, jx, jR, jj, ji, jo, jP, jy, jw, Ts.fill, jV, jT, jf, jW, jn, jl, jg, jc, getAll, stepCall, jm, unI, Opd.get, jB, tag, jz, ja, jN, rv, bin, jX, Nat.reduceAdd, Nat.reduceSub, Nat.reduceMul, Nat.reduceDiv, Nat.reduceMod, Nat.reducePow, Nat.reduceLT, Nat.reduceLeDiff, Nat.reduceEqDiff, Nat.reduceBEq, Nat.reduceBNe, reduceIte, Int.reduceEq, Int.reduceLT, Int.reduceLE, Int.reduceNeg, Int.reduceToNat, Int.reduceMul, Int.reduceAdd, Int.reduceSub, Int.reduceBEq, Int.reduceBNe, reduceCtorEq] at hE
       exact ⟨_, _, _, hE.symm, hw, hB, (by first | exact e3 | rfl)⟩
   . have d1 : decide ((i : Int) < ((l.length : Nat) : Int)) = false := rE (by omega)
     simp only [yX, e0, e3, e4, e5, d1, jk, jA, Option.toList, jp, nat, j0, jO, jY, jr, lc0, lc1, jD, jE, jF, jG, j5, j6, ju, jt, jv, zV, zS, jC, jQ, jb, jh, jU, je, jd, jx, jR, jj, ji, jo, jP, jy, jw, Ts.fill, jV, jT, jf, jW, jn, jl, jg, jc, getAll, stepCall, jm, unI, Opd.get, jB, tag, jz, ja, jN, rv, bin, jX, Nat.reduceAdd, Nat.reduceSub, Nat.reduceMul, Nat.reduceDiv, Nat.reduceMod, Nat.reducePow, Nat.reduceLT, Nat.reduceLeDiff, Nat.reduceEqDiff, Nat.reduceBEq, Nat.reduceBNe, reduceIte, Int.reduceEq, Int.reduceLT, Int.reduceLE, Int.reduceNeg, Int.reduceToNat, Int.reduceMul, Int.reduceAdd, Int.reduceSub, Int.reduceBEq, Int.reduceBNe, reduceCtorEq] at hE
     have : l.take 120 = l.take i := by rw [rU (by omega), rU (by omega)]
     exact ⟨_, _, _, hE.symm, hw, by rw [mdS, this]; exact hB, (by first | exact e3 | rfl)⟩
set_option maxRecDepth 20000 in
theorem jf2 (H : FMade F) {l : List Nat} {o : Nat} {r : Bool} (hb : ∀ b ∈ l, b < 256) (σ : List IObj) :
   cfw F (.f 9) [.sl o r (l.map B)] σ = some ⟨false, .str (mdS l), σ, []⟩ := by
 rw [cfw_of ir9 H.h9, jw]
 have u := fun σ => jaQ H.h25 (σ := σ)
 simp only [ir9, u, jA, Option.toList, jp, nat, j0, jO, jY, jr, lc0, lc1, jD, jE, jF, jG, j5, j6, ju, jt, jv, zV, zS, jC, jQ, jb, jh, jU, je, jk, jd, jx, jR, jj, ji, jo, jP, jy, jw, Ts.fill, jV, jT, jf, jW, jn, jl, jg, jc, getAll, stepCall, jm, unI, Opd.get, jB, tag, jz, ja, jN, rv, bin, jX, Nat.reduceAdd, Nat.reduceSub, Nat.reduceMul, Nat.reduceDiv, Nat.reduceMod, Nat.reducePow, Nat.reduceLT, Nat.reduceLeDiff, Nat.reduceEqDiff, Nat.reduceBEq, Nat.reduceBNe, reduceIte, Int.reduceEq, Int.reduceLT, Int.reduceLE, Int.reduceNeg, Int.reduceToNat, Int.reduceMul, Int.reduceAdd, Int.reduceSub, Int.reduceBEq, Int.reduceBNe, reduceCtorEq]
 generalize hE : evw F (ICode.loop yX) _ = R
 obtain ⟨f1, S1, wr1, rfl, gw, hB, e3⟩ := jf0 (n := σ.length) (σ := σ) H hb 120 0 _ _ _ _ hE (by omega) (by omega) (by omega) ⟨by simp, fun i hi => by rw [List.getElem?_append_left hi], by rw [get_app]; rfl, _, _, by rw [get_app0]; rfl, Or.inl rfl, Or.inl ⟨rfl, rfl⟩⟩ (by rfl) (by rfl) (by rfl) (by rfl) (by intro p hp; simp at hp)
 obtain ⟨S2, w2, u2, g2, hlen, hold⟩ := jbj H.toFBld (by have := jcM l; omega) hB
 have gg : Ge σ.length (w2 ++ wr1) := fun p hp => by rcases List.mem_append.1 hp with h | h; exact g2 p h; exact gw p h
 have tk : S2.take σ.length = σ := by
   apply List.ext_getElem?
   intro i
   by_cases hi : i < σ.length
   . rw [tD, if_pos hi]; exact hold i hi
   . rw [rV (by rw [tE]; omega), rV (by omega)]
 simp only [e3, u2, jA, Option.toList, jp, nat, j0, jO, jY, jr, lc0, lc1, jD, jE, jF, jG, j5, j6, ju, jt, jv, zV, zS, jC, jQ, jb, jh, jU, je, jk, jd, jx, jR, jj, ji, jo, jP, jy, jw, Ts.fill, jV, jT, jf, jW, jn, jl, jg, jc, getAll, stepCall, jm, unI, Opd.get, jB, tag, jz, ja, jN, rv, bin, jX, Nat.reduceAdd, Nat.reduceSub, Nat.reduceMul, Nat.reduceDiv, Nat.reduceMod, Nat.reducePow, Nat.reduceLT, Nat.reduceLeDiff, Nat.reduceEqDiff, Nat.reduceBEq, Nat.reduceBNe, reduceIte, Int.reduceEq, Int.reduceLT, Int.reduceLE, Int.reduceNeg, Int.reduceToNat, Int.reduceMul, Int.reduceAdd, Int.reduceSub, Int.reduceBEq, Int.reduceBNe, reduceCtorEq]
 rw [jch gg, vy gg, tk]
 rfl
end
end Go.Idl.Lx
namespace Go.Idl.Lx
open Go Go.Idl Go.Idl.En
variable {F : kb}
theorem Yk (h : F 153 = some QA) {c a : Int} {σ : List IObj} : cfw F (.f 153) [.pv false [I c, I a] 0] σ = some ⟨false, .iface 35 (I c), σ, []⟩ := by
 rw [cfw_of QA h, jw]
 have n3 : nr3 (.iface 35 (I c)) = true := rfl
 simp only [QA, jA, n3, zV, zS, jC, jQ, jb, jh, jU, je, jk, jd, jx, jR, jj, ji, jo, jP, jy, jw, Ts.fill, jV, jT, jf, jW, jn, jl, jg, jc, getAll, stepCall, jm, unI, Opd.get, jB, tag, jz, ja, jN, rv, bin, jX, Nat.reduceAdd, Nat.reduceSub, Nat.reduceMul, Nat.reduceDiv, Nat.reduceMod, Nat.reducePow, Nat.reduceLT, Nat.reduceLeDiff, Nat.reduceEqDiff, Nat.reduceBEq, Nat.reduceBNe, reduceIte, Int.reduceEq, Int.reduceLT, Int.reduceLE, Int.reduceNeg, Int.reduceToNat, Int.reduceMul, Int.reduceAdd, Int.reduceSub, Int.reduceBEq, Int.reduceBNe, reduceCtorEq]
set_option maxRecDepth 20000 in
theorem jgx (h : F 47 = some jcn) {c a : Int} {g : Nat} {x : IVal} {σ : List IObj} (hg : σ[g]? = some (.cells [.prim (.pointer none)])) (hx : nt x = true) :
   ∃ wr, cfw F (.f 47) [.iface 56 (.pv false [I c, I a] 0), x, .agg [V7 10 80, .pv true [.ptr g 0] 0, .int .u64 150], rtI 125 10 56] σ = some ⟨false, .bool true, σ.set g (.cells [.pv false [I c, I a] 0]), wr⟩ /\ Fl wr := by
 rw [cfw_of jcn h, jw]
 have lg := jq hg
 simp only [jcn, jA, hg, hx, V7, rtI, zV, zS, jC, jQ, jb, jh, jU, je, jk, jd, jx, jR, jj, ji, jo, jP, jy, jw, Ts.fill, jV, jT, jf, jW, jn, jl, jg, jc, getAll, stepCall, jm, unI, Opd.get, jB, tag, jz, ja, jN, rv, bin, jX, Nat.reduceAdd, Nat.reduceSub, Nat.reduceMul, Nat.reduceDiv, Nat.reduceMod, Nat.reducePow, Nat.reduceLT, Nat.reduceLeDiff, Nat.reduceEqDiff, Nat.reduceBEq, Nat.reduceBNe, reduceIte, Int.reduceEq, Int.reduceLT, Int.reduceLE, Int.reduceNeg, Int.reduceToNat, Int.reduceMul, Int.reduceAdd, Int.reduceSub, Int.reduceBEq, Int.reduceBNe, reduceCtorEq]
 rw [jI]
 simp only [YV, jA, hg, hx, jY, Qh, V7, rtI, Kh, List.find?, List.contains_cons, r5, tR, zV, zS, jC, jQ, jb, jh, jU, je, jk, jd, jx, jR, jj, ji, jo, jP, jy, jw, Ts.fill, jV, jT, jf, jW, jn, jl, jg, jc, getAll, stepCall, jm, unI, Opd.get, jB, tag, jz, ja, jN, rv, bin, jX, Nat.reduceAdd, Nat.reduceSub, Nat.reduceMul, Nat.reduceDiv, Nat.reduceMod, Nat.reducePow, Nat.reduceLT, Nat.reduceLeDiff, Nat.reduceEqDiff, Nat.reduceBEq, Nat.reduceBNe, reduceIte, Int.reduceEq, Int.reduceLT, Int.reduceLE, Int.reduceNeg, Int.reduceToNat, Int.reduceMul, Int.reduceAdd, Int.reduceSub, Int.reduceBEq, Int.reduceBNe, reduceCtorEq]
 have np : nr1 (.pv false [I c, I a] 0) = true := rfl
 rw [np, take_set]
 exact ⟨_, rfl, by cases decide (g < σ.length) <;> rfl⟩
set_option maxRecDepth 20000 in
theorem jgt (h : F 27 = some jdy) (h47 : F 47 = some jcn) {c a : Int} {g : Nat} {σ : List IObj} (hg : σ[g]? = some (.cells [.prim (.pointer none)])) :
   ∃ wr, cfw F (.f 27) [.iface 56 (.pv false [I c, I a] 0), .iface 80 (.ptr g 0)] σ = some ⟨false, .bool true, σ.set g (.cells [.pv false [I c, I a] 0]), wr⟩ /\ Fl wr := by
 rw [cfw_of jdy h, jw]
 obtain ⟨wr, u, gw⟩ := jgx h47 (c := c) (a := a) (x := .iface 80 (.ptr g 0)) (y9 hg [.cells [V7 10 80, .pv true [.ptr g 0] 0, .int .u64 150]]) rfl
 simp only [V7, rtI] at u
 have b1 : ((22 : Int) != 20) = true := rfl
 have x1 : ext [.ptr g 0] = true := rfl
 have x2 : nr1 (.pv true [.ptr g 0] 0) = false := rfl
 simp only [jdy, jA, hg, u, b1, x1, x2, jY, Qh, V7, rtI, Kh, List.find?, List.contains_cons, r5, tR, zV, zS, jC, jQ, jb, jh, jU, je, jk, jd, jx, jR, jj, ji, jo, jP, jy, jw, Ts.fill, jV, jT, jf, jW, jn, jl, jg, jc, getAll, stepCall, jm, unI, Opd.get, jB, tag, jz, ja, jN, rv, bin, jX, Nat.reduceAdd, Nat.reduceSub, Nat.reduceMul, Nat.reduceDiv, Nat.reduceMod, Nat.reducePow, Nat.reduceLT, Nat.reduceLeDiff, Nat.reduceEqDiff, Nat.reduceBEq, Nat.reduceBNe, reduceIte, Int.reduceEq, Int.reduceLT, Int.reduceLE, Int.reduceNeg, Int.reduceToNat, Int.reduceMul, Int.reduceAdd, Int.reduceSub, Int.reduceBEq, Int.reduceBNe, reduceCtorEq]
 have fa : (wr ++ [(σ.length, true)]).all (fun p => !p.2 || decide (σ.length <= p.1)) = true := by rw [List.all_append, j8 gw]; simp
 have tk : ∀ l, List.take σ.length (σ.set g (.cells [.pv false [I c, I a] 0]) ++ l) = σ.set g (.cells [.pv false [I c, I a] 0]) := fun l => by have := take_app (σ := σ.set g (.cells [.pv false [I c, I a] 0])) (l := l); rw [List.length_set] at this; exact this
 rw [fa, yc (jq hg), tk]
 refine ⟨_, rfl, ?_⟩
 rw [List.filter_append, List.filter_cons_of_neg (by simp), List.filter_nil, rM]
 exact jZ gw
set_option maxRecDepth 20000 in
theorem jgO (h : F 49 = some jcp) (h153 : F 153 = some QA) {c a : Int} {σ : List IObj} (hc : c ≠ 0) :
   cfw F (.f 49) [.iface 56 (.pv false [I c, I a] 0), .iface 35 (I c), .bool true] σ = some ⟨false, .bool true, σ, []⟩ := by
 rw [cfw_of jcp h, jw]
 have u := Yk h153 (c := c) (a := a) (σ := σ)
 simp only [jcp, jA, zV, zS, jC, jQ, jb, jh, jU, je, jk, jd, jx, jR, jj, ji, jo, jP, jy, jw, Ts.fill, jV, jT, jf, jW, jn, jl, jg, jc, getAll, stepCall, jm, unI, Opd.get, jB, tag, jz, ja, jN, rv, bin, jX, Nat.reduceAdd, Nat.reduceSub, Nat.reduceMul, Nat.reduceDiv, Nat.reduceMod, Nat.reducePow, Nat.reduceLT, Nat.reduceLeDiff, Nat.reduceEqDiff, Nat.reduceBEq, Nat.reduceBNe, reduceIte, Int.reduceEq, Int.reduceLT, Int.reduceLE, Int.reduceNeg, Int.reduceToNat, Int.reduceMul, Int.reduceAdd, Int.reduceSub, Int.reduceBEq, Int.reduceBNe, reduceCtorEq]
 rw [jI]
 have np : nt (.iface 35 (I c)) = true := rfl
 simp only [YW, jA, u, np, KQ, zX, List.contains_nil, jY, Qh, V7, rtI, Kh, List.find?, List.contains_cons, r5, tR, zV, zS, jC, jQ, jb, jh, jU, je, jk, jd, jx, jR, jj, ji, jo, jP, jy, jw, Ts.fill, jV, jT, jf, jW, jn, jl, jg, jc, getAll, stepCall, jm, unI, Opd.get, jB, tag, jz, ja, jN, rv, bin, jX, Nat.reduceAdd, Nat.reduceSub, Nat.reduceMul, Nat.reduceDiv, Nat.reduceMod, Nat.reducePow, Nat.reduceLT, Nat.reduceLeDiff, Nat.reduceEqDiff, Nat.reduceBEq, Nat.reduceBNe, reduceIte, Int.reduceEq, Int.reduceLT, Int.reduceLE, Int.reduceNeg, Int.reduceToNat, Int.reduceMul, Int.reduceAdd, Int.reduceSub, Int.reduceBEq, Int.reduceBNe, reduceCtorEq]
 rw [jI]
 have eI : ∀ n : Int, qn (.int .i64 n) (.int .i64 n) = some true := fun n => by simp [qn]
 have kI : ∀ n : Int, Jg 0 (.int .i64 n) = true := fun n => rfl
 have tf : (true != false) = true := rfl
 simp only [jA, u, np, eI, kI, tf, jY, List.find?, zV, zS, jC, jQ, jb, jh, jU, je, jk, jd, jx, jR, jj, ji, jo, jP, jy, jw, Ts.fill, jV, jT, jf, jW, jn, jl, jg, jc, getAll, stepCall, jm, unI, Opd.get, jB, tag, jz, ja, jN, rv, bin, jX, Nat.reduceAdd, Nat.reduceSub, Nat.reduceMul, Nat.reduceDiv, Nat.reduceMod, Nat.reducePow, Nat.reduceLT, Nat.reduceLeDiff, Nat.reduceEqDiff, Nat.reduceBEq, Nat.reduceBNe, reduceIte, Int.reduceEq, Int.reduceLT, Int.reduceLE, Int.reduceNeg, Int.reduceToNat, Int.reduceMul, Int.reduceAdd, Int.reduceSub, Int.reduceBEq, Int.reduceBNe, reduceCtorEq]
set_option maxRecDepth 20000 in
theorem jgv (h : F 28 = some jdz) (h49 : F 49 = some jcp) (h153 : F 153 = some QA) {c a : Int} {σ : List IObj} (hc : c ≠ 0) :
   cfw F (.f 28) [.iface 56 (.pv false [I c, I a] 0), .iface 35 (I c)] σ = some ⟨false, .bool true, σ, []⟩ := by
 rw [cfw_of jdz h, jw]
 have u := jgO h49 h153 (c := c) (a := a) (σ := σ) hc
 simp only [jdz, jA, u, jY, Qh, V7, rtI, Kh, List.find?, List.contains_cons, r5, tR, zV, zS, jC, jQ, jb, jh, jU, je, jk, jd, jx, jR, jj, ji, jo, jP, jy, jw, Ts.fill, jV, jT, jf, jW, jn, jl, jg, jc, getAll, stepCall, jm, unI, Opd.get, jB, tag, jz, ja, jN, rv, bin, jX, Nat.reduceAdd, Nat.reduceSub, Nat.reduceMul, Nat.reduceDiv, Nat.reduceMod, Nat.reducePow, Nat.reduceLT, Nat.reduceLeDiff, Nat.reduceEqDiff, Nat.reduceBEq, Nat.reduceBNe, reduceIte, Int.reduceEq, Int.reduceLT, Int.reduceLE, Int.reduceNeg, Int.reduceToNat, Int.reduceMul, Int.reduceAdd, Int.reduceSub, Int.reduceBEq, Int.reduceBNe, reduceCtorEq]
set_option maxRecDepth 20000 in
theorem jbY (h : F 13 = some jbv) (h27 : F 27 = some jdy) (h28 : F 28 = some jdz) (h47 : F 47 = some jcn) (h49 : F 49 = some jcp) (h153 : F 153 = some QA) {f : Nat × Nat} (hc : f.1 ≠ 0) {σ : List IObj} :
   ∃ wr, cfw F (.f 13) [flt f, .agg [I f.1, I f.2]] σ = some ⟨false, .bool true, σ, wr⟩ /\ Fl wr := by
 rw [cfw_of jbv h, jw]
 obtain ⟨c, a⟩ := f
 have hc' : (c : Int) ≠ 0 := by omega
 have b0 : ((c : Int) == 0) = false := by simpa using hc'
 have ga : (σ ++ [IObj.cells [.prim (.pointer none)]])[σ.length]? = some (.cells [.prim (.pointer none)]) := by rw [get_app0]; rfl
 obtain ⟨wr, u, gw⟩ := jgt h27 h47 (c := c) (a := a) ga
 have sa : (σ ++ [IObj.cells [.prim (.pointer none)]]).set σ.length (.cells [.pv false [I c, I a] 0]) = σ ++ [.cells [.pv false [I c, I a] 0]] := by rw [set_app0]; rfl
 rw [sa] at u
 have u2 := fun τ => jgv h28 h49 h153 (c := c) (a := a) (σ := τ) hc'
 have eI : ∀ n : Int, qn (.int .i64 n) (.int .i64 n) = some true := fun n => by simp [qn]
 have kI : ∀ n : Int, Jg 0 (.int .i64 n) = true := fun n => rfl
 have tf : (true != false) = true := rfl
 simp only [jbv, jA, b0, u, u2, eI, kI, tf, eqK, tR, r5, zV, zS, jC, jQ, jb, jh, jU, je, jk, jd, jx, jR, jj, ji, jo, jP, jy, jw, Ts.fill, jV, jT, jf, jW, jn, jl, jg, jc, getAll, stepCall, jm, unI, Opd.get, jB, tag, jz, ja, jN, rv, bin, jX, Nat.reduceAdd, Nat.reduceSub, Nat.reduceMul, Nat.reduceDiv, Nat.reduceMod, Nat.reducePow, Nat.reduceLT, Nat.reduceLeDiff, Nat.reduceEqDiff, Nat.reduceBEq, Nat.reduceBNe, reduceIte, Int.reduceEq, Int.reduceLT, Int.reduceLE, Int.reduceNeg, Int.reduceToNat, Int.reduceMul, Int.reduceAdd, Int.reduceSub, Int.reduceBEq, Int.reduceBNe, reduceCtorEq]
 rw [j8 gw]
 exact ⟨_, rfl, jZ gw⟩
end Go.Idl.Lx
namespace Go.Idl.Lx
open Go Go.Idl Go.Idl.En
variable {F : kb}
section
variable {σ : List IObj}
theorem JG (h : F 10 = some YT) {c : Nat} (hc : c < 256) : cfw F (.f 10) [B c] σ = some ⟨false, .bool (isS 4 c), σ, []⟩ := by
 rw [cfw_of YT h, jw, jcA c hc]
 by_cases h1 : 48 <= c
 . have d1 : decide ((c : Int) ≥ 48) = true := rB (by omega)
   by_cases h2 : c <= 57
   . have d2 : decide ((c : Int) <= 57) = true := rB (by omega)
     have e : decide (48 <= c /\ c <= 57) = true := rB (by omega)
     simp only [YT, d1, d2, e, jk, jA, Option.toList, jp, nat, j0, jO, jY, jr, lc0, lc1, jD, jE, jF, jG, j5, j6, ju, jt, jv, zV, zS, jC, jQ, jb, jh, jU, je, jd, jx, jR, jj, ji, jo, jP, jy, jw, Ts.fill, jV, jT, jf, jW, jn, jl, jg, jc, getAll, stepCall, jm, unI, Opd.get, jB, tag, jz, ja, jN, rv, bin, jX, Nat.reduceAdd, Nat.reduceSub, Nat.reduceMul, Nat.reduceDiv, Nat.reduceMod, Nat.reducePow, Nat.reduceLT, Nat.reduceLeDiff, Nat.reduceEqDiff, Nat.reduceBEq, Nat.reduceBNe, reduceIte, Int.reduceEq, Int.reduceLT, Int.reduceLE, Int.reduceNeg, Int.reduceToNat, Int.reduceMul, Int.reduceAdd, Int.reduceSub, Int.reduceBEq, Int.reduceBNe, reduceCtorEq]
   . have d2 : decide ((c : Int) <= 57) = false := rE (by omega)
     have e : decide (48 <= c /\ c <= 57) = false := rE (by omega)
     simp only [YT, d1, d2, e, jk, jA, Option.toList, jp, nat, j0, jO, jY, jr, lc0, lc1, jD, jE, jF, jG, j5, j6, ju, jt, jv, zV, zS, jC, jQ, jb, jh, jU, je, jd, jx, jR, jj, ji, jo, jP, jy, jw, Ts.fill, jV, jT, jf, jW, jn, jl, jg, jc, getAll, stepCall, jm, unI, Opd.get, jB, tag, jz, ja, jN, rv, bin, jX, Nat.reduceAdd, Nat.reduceSub, Nat.reduceMul, Nat.reduceDiv, Nat.reduceMod, Nat.reducePow, Nat.reduceLT, Nat.reduceLeDiff, Nat.reduceEqDiff, Nat.reduceBEq, Nat.reduceBNe, reduceIte, Int.reduceEq, Int.reduceLT, Int.reduceLE, Int.reduceNeg, Int.reduceToNat, Int.reduceMul, Int.reduceAdd, Int.reduceSub, Int.reduceBEq, Int.reduceBNe, reduceCtorEq]
 . have d1 : decide ((c : Int) ≥ 48) = false := rE (by omega)
   have e : decide (48 <= c /\ c <= 57) = false := rE (by omega)
   simp only [YT, d1, e, jk, jA, Option.toList, jp, nat, j0, jO, jY, jr, lc0, lc1, jD, jE, jF, jG, j5, j6, ju, jt, jv, zV, zS, jC, jQ, jb, jh, jU, je, jd, jx, jR, jj, ji, jo, jP, jy, jw, Ts.fill, jV, jT, jf, jW, jn, jl, jg, jc, getAll, stepCall, jm, unI, Opd.get, jB, tag, jz, ja, jN, rv, bin, jX, Nat.reduceAdd, Nat.reduceSub, Nat.reduceMul, Nat.reduceDiv, Nat.reduceMod, Nat.reducePow, Nat.reduceLT, Nat.reduceLeDiff, Nat.reduceEqDiff, Nat.reduceBEq, Nat.reduceBNe, reduceIte, Int.reduceEq, Int.reduceLT, Int.reduceLE, Int.reduceNeg, Int.reduceToNat, Int.reduceMul, Int.reduceAdd, Int.reduceSub, Int.reduceBEq, Int.reduceBNe, reduceCtorEq]
theorem zx (h : F 11 = some Z0) {c : Nat} (hc : c < 256) : cfw F (.f 11) [B c] σ = some ⟨false, .bool (isS 2 c), σ, []⟩ := by
 rw [cfw_of Z0 h, jw, jfX c hc]
 have e3 : ((c : Int) == 95) = (c == 95) := by
   rw [Bool.eq_iff_iff, beq_iff_eq, beq_iff_eq]; omega
 by_cases h1 : 97 <= c
 . have d1 : decide ((c : Int) ≥ 97) = true := rB (by omega)
   have d4 : decide ((c : Int) <= 90) = false := rE (by omega)
   have d3 : decide ((c : Int) ≥ 65) = true := rB (by omega)
   have f2 : decide (65 <= c /\ c <= 90) = false := rE (by omega)
   by_cases h2 : c <= 122
   . have d2 : decide ((c : Int) <= 122) = true := rB (by omega)
     have f1 : decide (97 <= c /\ c <= 122) = true := rB (by omega)
     simp only [Z0, d1, d2, f1, jk, jA, Option.toList, jp, nat, j0, jO, jY, jr, lc0, lc1, jD, jE, jF, jG, j5, j6, ju, jt, jv, zV, zS, jC, jQ, jb, jh, jU, je, jd, jx, jR, jj, ji, jo, jP, jy, jw, Ts.fill, jV, jT, jf, jW, jn, jl, jg, jc, getAll, stepCall, jm, unI, Opd.get, jB, tag, jz, ja, jN, rv, bin, jX, Nat.reduceAdd, Nat.reduceSub, Nat.reduceMul, Nat.reduceDiv, Nat.reduceMod, Nat.reducePow, Nat.reduceLT, Nat.reduceLeDiff, Nat.reduceEqDiff, Nat.reduceBEq, Nat.reduceBNe, reduceIte, Int.reduceEq, Int.reduceLT, Int.reduceLE, Int.reduceNeg, Int.reduceToNat, Int.reduceMul, Int.reduceAdd, Int.reduceSub, Int.reduceBEq, Int.reduceBNe, reduceCtorEq]
   . have d2 : decide ((c : Int) <= 122) = false := rE (by omega)
     have f1 : decide (97 <= c /\ c <= 122) = false := rE (by omega)
     simp only [Z0, d1, d2, d3, d4, f1, f2, e3, jk, jA, Option.toList, jp, nat, j0, jO, jY, jr, lc0, lc1, jD, jE, jF, jG, j5, j6, ju, jt, jv, zV, zS, jC, jQ, jb, jh, jU, je, jd, jx, jR, jj, ji, jo, jP, jy, jw, Ts.fill, jV, jT, jf, jW, jn, jl, jg, jc, getAll, stepCall, jm, unI, Opd.get, jB, tag, jz, ja, jN, rv, bin, jX, Nat.reduceAdd, Nat.reduceSub, Nat.reduceMul, Nat.reduceDiv, Nat.reduceMod, Nat.reducePow, Nat.reduceLT, Nat.reduceLeDiff, Nat.reduceEqDiff, Nat.reduceBEq, Nat.reduceBNe, reduceIte, Int.reduceEq, Int.reduceLT, Int.reduceLE, Int.reduceNeg, Int.reduceToNat, Int.reduceMul, Int.reduceAdd, Int.reduceSub, Int.reduceBEq, Int.reduceBNe, reduceCtorEq]
 . have d1 : decide ((c : Int) ≥ 97) = false := rE (by omega)
   have f1 : decide (97 <= c /\ c <= 122) = false := rE (by omega)
   by_cases h3 : 65 <= c
   . have d3 : decide ((c : Int) ≥ 65) = true := rB (by omega)
     by_cases h4 : c <= 90
     . have d4 : decide ((c : Int) <= 90) = true := rB (by omega)
       have f2 : decide (65 <= c /\ c <= 90) = true := rB (by omega)
       simp only [Z0, d1, d3, d4, f1, f2, jk, jA, Option.toList, jp, nat, j0, jO, jY, jr, lc0, lc1, jD, jE, jF, jG, j5, j6, ju, jt, jv, zV, zS, jC, jQ, jb, jh, jU, je, jd, jx, jR, jj, ji, jo, jP, jy, jw, Ts.fill, jV, jT, jf, jW, jn, jl, jg, jc, getAll, stepCall, jm, unI, Opd.get, jB, tag, jz, ja, jN, rv, bin, jX, Nat.reduceAdd, Nat.reduceSub, Nat.reduceMul, Nat.reduceDiv, Nat.reduceMod, Nat.reducePow, Nat.reduceLT, Nat.reduceLeDiff, Nat.reduceEqDiff, Nat.reduceBEq, Nat.reduceBNe, reduceIte, Int.reduceEq, Int.reduceLT, Int.reduceLE, Int.reduceNeg, Int.reduceToNat, Int.reduceMul, Int.reduceAdd, Int.reduceSub, Int.reduceBEq, Int.reduceBNe, reduceCtorEq]
     . have d4 : decide ((c : Int) <= 90) = false := rE (by omega)
       have f2 : decide (65 <= c /\ c <= 90) = false := rE (by omega)
       simp only [Z0, d1, d3, d4, f1, f2, e3, jk, jA, Option.toList, jp, nat, j0, jO, jY, jr, lc0, lc1, jD, jE, jF, jG, j5, j6, ju, jt, jv, zV, zS, jC, jQ, jb, jh, jU, je, jd, jx, jR, jj, ji, jo, jP, jy, jw, Ts.fill, jV, jT, jf, jW, jn, jl, jg, jc, getAll, stepCall, jm, unI, Opd.get, jB, tag, jz, ja, jN, rv, bin, jX, Nat.reduceAdd, Nat.reduceSub, Nat.reduceMul, Nat.reduceDiv, Nat.reduceMod, Nat.reducePow, Nat.reduceLT, Nat.reduceLeDiff, Nat.reduceEqDiff, Nat.reduceBEq, Nat.reduceBNe, reduceIte, Int.reduceEq, Int.reduceLT, Int.reduceLE, Int.reduceNeg, Int.reduceToNat, Int.reduceMul, Int.reduceAdd, Int.reduceSub, Int.reduceBEq, Int.reduceBNe, reduceCtorEq]
   . have d3 : decide ((c : Int) ≥ 65) = false := rE (by omega)
     have f2 : decide (65 <= c /\ c <= 90) = false := rE (by omega)
     simp only [Z0, d1, d3, f1, f2, e3, jk, jA, Option.toList, jp, nat, j0, jO, jY, jr, lc0, lc1, jD, jE, jF, jG, j5, j6, ju, jt, jv, zV, zS, jC, jQ, jb, jh, jU, je, jd, jx, jR, jj, ji, jo, jP, jy, jw, Ts.fill, jV, jT, jf, jW, jn, jl, jg, jc, getAll, stepCall, jm, unI, Opd.get, jB, tag, jz, ja, jN, rv, bin, jX, Nat.reduceAdd, Nat.reduceSub, Nat.reduceMul, Nat.reduceDiv, Nat.reduceMod, Nat.reducePow, Nat.reduceLT, Nat.reduceLeDiff, Nat.reduceEqDiff, Nat.reduceBEq, Nat.reduceBNe, reduceIte, Int.reduceEq, Int.reduceLT, Int.reduceLE, Int.reduceNeg, Int.reduceToNat, Int.reduceMul, Int.reduceAdd, Int.reduceSub, Int.reduceBEq, Int.reduceBNe, reduceCtorEq]
end
theorem take_drop (tx : List UInt8) (a n : Nat) : (tx.take (a + n)).drop a = (tx.drop a).take n := by rw [List.drop_take, Nat.add_sub_cancel_left]
end Go.Idl.Lx
namespace Go.Idl.Lx
open Go Go.Idl Go.Idl.En
variable {F : kb}
section
variable {σ : List IObj} {s : List UInt8}
set_option maxRecDepth 20000 in
theorem jez {z : Int} (hl : s.length <= 20000) : ∀ (m i : Nat) (f0 : Nat -> Option (Nat × IVal)) (R : Option (IExit × St)), evw F (.loop vd) ⟨E 7 9 5 [] f0, σ, []⟩ = R -> s.length - i <= m -> i <= s.length -> (i : Int) <= max z 0 -> f0 0 = some (0, .str s) -> f0 1 = some (1, I z) -> f0 5 = some (5, I ((1 + nl (s.take i) : Nat) : Int)) -> f0 6 = some (6, I i) ->
   ∃ f1, R = some (.exit 0, ⟨E 7 9 5 [] (base f1), σ, []⟩) /\ f1 5 = some (5, I ((1 + nl (s.take z.toNat) : Nat) : Int)) := by
 intro m
 induction m with
 | zero =>
   intro i f0 R hE hm hi hz e0 e1 e5 e6
   have ee : s.take z.toNat = s.take i := by rw [rU (by omega), rU (by omega)]
   change evw F (.loop vd) ⟨E 7 9 5 [] (base f0), σ, []⟩ = R at hE
   have d2 : decide ((i : Int) < ((s.length : Nat) : Int)) = false := rE (by omega)
   rw [jI] at hE
   rw [ee]
   cases d1 : decide ((i : Int) < z) with
   | true =>
     simp only [vd, e0, e1, e5, e6, d1, d2, jk, jA, Option.toList, jp, nat, j0, jO, jY, jr, lc0, lc1, jD, jE, jF, jG, j5, j6, ju, jt, jv, zV, zS, jC, jQ, jb, jh, jU, je, jd, jx, jR, jj, ji, jo, jP, jy, jw, Ts.fill, jV, jT, jf, jW, jn, jl, jg, jc, getAll, stepCall, jm, unI, Opd.get, jB, tag, jz, ja, jN, rv, bin, jX, Nat.reduceAdd, Nat.reduceSub, Nat.reduceMul, Nat.reduceDiv, Nat.reduceMod, Nat.reducePow, Nat.reduceLT, Nat.reduceLeDiff, Nat.reduceEqDiff, Nat.reduceBEq, Nat.reduceBNe, reduceIte, Int.reduceEq, Int.reduceLT, Int.reduceLE, Int.reduceNeg, Int.reduceToNat, Int.reduceMul, Int.reduceAdd, Int.reduceSub, Int.reduceBEq, Int.reduceBNe, reduceCtorEq] at hE
     exact ⟨_, hE.symm, (by first | exact e5 | rfl)⟩
   | false =>
     simp only [vd, e0, e1, e5, e6, d1, d2, jk, jA, Option.toList, jp, nat, j0, jO, jY, jr, lc0, lc1, jD, jE, jF, jG, j5, j6, ju, jt, jv, zV, zS, jC, jQ, jb, jh, jU, je, jd, jx, jR, jj, ji, jo, jP, jy, jw, Ts.fill, jV, jT, jf, jW, jn, jl, jg, jc, getAll, stepCall, jm, unI, Opd.get, jB, tag, jz, ja, jN, rv, bin, jX, Nat.reduceAdd, Nat.reduceSub, Nat.reduceMul, Nat.reduceDiv, Nat.reduceMod, Nat.reducePow, Nat.reduceLT, Nat.reduceLeDiff, Nat.reduceEqDiff, Nat.reduceBEq, Nat.reduceBNe, reduceIte, Int.reduceEq, Int.reduceLT, Int.reduceLE, Int.reduceNeg, Int.reduceToNat, Int.reduceMul, Int.reduceAdd, Int.reduceSub, Int.reduceBEq, Int.reduceBNe, reduceCtorEq] at hE
     exact ⟨_, hE.symm, (by first | exact e5 | rfl)⟩
 | succ m ih =>
   intro i f0 R hE hm hi hz e0 e1 e5 e6
   change evw F (.loop vd) ⟨E 7 9 5 [] (base f0), σ, []⟩ = R at hE
   by_cases h1 : (i : Int) < z
   . have d1 : decide ((i : Int) < z) = true := rB h1
     by_cases h2 : i < s.length
     . have d2 : decide ((i : Int) < ((s.length : Nat) : Int)) = true := rB (by omega)
       have d3 : (0 : Int) <= (i : Int) := by omega
       obtain ⟨c, hg⟩ := qf h2
       have w1 := yU (n := i) (by omega)
       have ht : s.take (i + 1) = s.take i ++ [c] := by rw [List.take_add_one, hg]; rfl
       have hnl : nl (s.take (i + 1)) = nl (s.take i) + (if c.toNat = 10 then 1 else 0) := by rw [ht, Zj, K3]; rfl
       have hle := jaL (s.take i)
       rw [tE] at hle
       by_cases h10 : c.toNat = 10
       . have b1 : ((c.toNat : Int) == 10) = true := by rw [beq_iff_eq]; omega
         have w2 : IntKind.i64.wrap (((1 + nl (s.take i) : Nat) : Int) + 1) = ((1 + nl (s.take (i + 1)) : Nat) : Int) := by rw [qe (by omega) (by omega), hnl, if_pos h10]; omega
         rw [jI] at hE
         simp only [vd, e0, e1, e5, e6, d1, d2, d3, hg, b1, w1, w2, rI, jk, jA, Option.toList, jp, nat, j0, jO, jY, jr, lc0, lc1, jD, jE, jF, jG, j5, j6, ju, jt, jv, zV, zS, jC, jQ, jb, jh, jU, je, jd, jx, jR, jj, ji, jo, jP, jy, jw, Ts.fill, jV, jT, jf, jW, jn, jl, jg, jc, getAll, stepCall, jm, unI, Opd.get, jB, tag, jz, ja, jN, rv, bin, jX, Nat.reduceAdd, Nat.reduceSub, Nat.reduceMul, Nat.reduceDiv, Nat.reduceMod, Nat.reducePow, Nat.reduceLT, Nat.reduceLeDiff, Nat.reduceEqDiff, Nat.reduceBEq, Nat.reduceBNe, reduceIte, Int.reduceEq, Int.reduceLT, Int.reduceLE, Int.reduceNeg, Int.reduceToNat, Int.reduceMul, Int.reduceAdd, Int.reduceSub, Int.reduceBEq, Int.reduceBNe, reduceCtorEq] at hE
         exact ih (i + 1) _ _ hE (by omega) (by omega) (by omega) (by first | exact e0 | rfl) (by first | exact e1 | rfl) (by rfl) (by rfl)
       . have b1 : ((c.toNat : Int) == 10) = false := by rw [beq_eq_false_iff_ne]; omega
         have e5' : f0 5 = some (5, I ((1 + nl (s.take (i + 1)) : Nat) : Int)) := by rw [e5, hnl, if_neg h10]; rfl
         rw [jI] at hE
         simp only [vd, e0, e1, e5, e6, d1, d2, d3, hg, b1, w1, rI, jk, jA, Option.toList, jp, nat, j0, jO, jY, jr, lc0, lc1, jD, jE, jF, jG, j5, j6, ju, jt, jv, zV, zS, jC, jQ, jb, jh, jU, je, jd, jx, jR, jj, ji, jo, jP, jy, jw, Ts.fill, jV, jT, jf, jW, jn, jl, jg, jc, getAll, stepCall, jm, unI, Opd.get, jB, tag, jz, ja, jN, rv, bin, jX, Nat.reduceAdd, Nat.reduceSub, Nat.reduceMul, Nat.reduceDiv, Nat.reduceMod, Nat.reducePow, Nat.reduceLT, Nat.reduceLeDiff, Nat.reduceEqDiff, Nat.reduceBEq, Nat.reduceBNe, reduceIte, Int.reduceEq, Int.reduceLT, Int.reduceLE, Int.reduceNeg, Int.reduceToNat, Int.reduceMul, Int.reduceAdd, Int.reduceSub, Int.reduceBEq, Int.reduceBNe, reduceCtorEq] at hE
         exact ih (i + 1) _ _ hE (by omega) (by omega) (by omega) (by first | exact e0 | rfl) (by first | exact e1 | rfl) (by first | exact e5' | rfl) (by rfl)
     . have d2 : decide ((i : Int) < ((s.length : Nat) : Int)) = false := rE (by omega)
       have ee : s.take z.toNat = s.take i := by rw [rU (by omega), rU (by omega)]
       rw [jI] at hE
       simp only [vd, e0, e1, e5, e6, d1, d2, jk, jA, Option.toList, jp, nat, j0, jO, jY, jr, lc0, lc1, jD, jE, jF, jG, j5, j6, ju, jt, jv, zV, zS, jC, jQ, jb, jh, jU, je, jd, jx, jR, jj, ji, jo, jP, jy, jw, Ts.fill, jV, jT, jf, jW, jn, jl, jg, jc, getAll, stepCall, jm, unI, Opd.get, jB, tag, jz, ja, jN, rv, bin, jX, Nat.reduceAdd, Nat.reduceSub, Nat.reduceMul, Nat.reduceDiv, Nat.reduceMod, Nat.reducePow, Nat.reduceLT, Nat.reduceLeDiff, Nat.reduceEqDiff, Nat.reduceBEq, Nat.reduceBNe, reduceIte, Int.reduceEq, Int.reduceLT, Int.reduceLE, Int.reduceNeg, Int.reduceToNat, Int.reduceMul, Int.reduceAdd, Int.reduceSub, Int.reduceBEq, Int.reduceBNe, reduceCtorEq] at hE
       exact ⟨_, hE.symm, by rw [ee]; exact (by first | exact e5 | rfl)⟩
   . have d1 : decide ((i : Int) < z) = false := rE h1
     have ee : z.toNat = i := by omega
     rw [jI] at hE
     simp only [vd, e0, e1, e5, e6, d1, jk, jA, Option.toList, jp, nat, j0, jO, jY, jr, lc0, lc1, jD, jE, jF, jG, j5, j6, ju, jt, jv, zV, zS, jC, jQ, jb, jh, jU, je, jd, jx, jR, jj, ji, jo, jP, jy, jw, Ts.fill, jV, jT, jf, jW, jn, jl, jg, jc, getAll, stepCall, jm, unI, Opd.get, jB, tag, jz, ja, jN, rv, bin, jX, Nat.reduceAdd, Nat.reduceSub, Nat.reduceMul, Nat.reduceDiv, Nat.reduceMod, Nat.reducePow, Nat.reduceLT, Nat.reduceLeDiff, Nat.reduceEqDiff, Nat.reduceBEq, Nat.reduceBNe, reduceIte, Int.reduceEq, Int.reduceLT, Int.reduceLE, Int.reduceNeg, Int.reduceToNat, Int.reduceMul, Int.reduceAdd, Int.reduceSub, Int.reduceBEq, Int.reduceBNe, reduceCtorEq] at hE
     exact ⟨_, hE.symm, by rw [ee]; exact (by first | exact e5 | rfl)⟩
set_option maxRecDepth 20000 in
theorem KD (h : F 18 = some jd6) (hl : s.length <= 20000) (z : Int) : cfw F (.f 18) [.str s, I z] σ = some ⟨false, I ((1 + nl (s.take z.toNat) : Nat) : Int), σ, []⟩ := by
 rw [cfw_of jd6 h, jw]
 simp only [jd6, jA, Option.toList, jp, nat, j0, jO, jY, jr, lc0, lc1, jD, jE, jF, jG, j5, j6, ju, jt, jv, zV, zS, jC, jQ, jb, jh, jU, je, jk, jd, jx, jR, jj, ji, jo, jP, jy, jw, Ts.fill, jV, jT, jf, jW, jn, jl, jg, jc, getAll, stepCall, jm, unI, Opd.get, jB, tag, jz, ja, jN, rv, bin, jX, Nat.reduceAdd, Nat.reduceSub, Nat.reduceMul, Nat.reduceDiv, Nat.reduceMod, Nat.reducePow, Nat.reduceLT, Nat.reduceLeDiff, Nat.reduceEqDiff, Nat.reduceBEq, Nat.reduceBNe, reduceIte, Int.reduceEq, Int.reduceLT, Int.reduceLE, Int.reduceNeg, Int.reduceToNat, Int.reduceMul, Int.reduceAdd, Int.reduceSub, Int.reduceBEq, Int.reduceBNe, reduceCtorEq]
 generalize hE : evw F (ICode.loop vd) _ = R
 obtain ⟨f1, rfl, e5⟩ := jez hl s.length 0 _ _ hE (by omega) (by omega) (by omega) (by rfl) (by rfl) (by rfl) (by rfl)
 simp only [e5, jA, Option.toList, jp, nat, j0, jO, jY, jr, lc0, lc1, jD, jE, jF, jG, j5, j6, ju, jt, jv, zV, zS, jC, jQ, jb, jh, jU, je, jk, jd, jx, jR, jj, ji, jo, jP, jy, jw, Ts.fill, jV, jT, jf, jW, jn, jl, jg, jc, getAll, stepCall, jm, unI, Opd.get, jB, tag, jz, ja, jN, rv, bin, jX, Nat.reduceAdd, Nat.reduceSub, Nat.reduceMul, Nat.reduceDiv, Nat.reduceMod, Nat.reducePow, Nat.reduceLT, Nat.reduceLeDiff, Nat.reduceEqDiff, Nat.reduceBEq, Nat.reduceBNe, reduceIte, Int.reduceEq, Int.reduceLT, Int.reduceLE, Int.reduceNeg, Int.reduceToNat, Int.reduceMul, Int.reduceAdd, Int.reduceSub, Int.reduceBEq, Int.reduceBNe, reduceCtorEq]
set_option maxRecDepth 20000 in
theorem jbC (h : F 17 = some jd5) (h15 : F 15 = some jcl) (hl : s.length <= 20000) (z : Int) : cfw F (.f 17) [.str s, I z] σ = some ⟨false, I ((1 + nl (s.take z.toNat) : Nat) : Int), σ, []⟩ := by
 rw [cfw_of jd5 h, jw]
 have hm : (if (0 : Int) < (if (s.length : Int) < z then (s.length : Int) else z) then (if (s.length : Int) < z then (s.length : Int) else z) else 0) = ((min z.toNat s.length : Nat) : Int) := by split <;> split <;> omega
 have d1 : (0 : Int) <= ((min z.toNat s.length : Nat) : Int) := by omega
 have d2 : min z.toNat s.length <= s.length := by omega
 have e : s.take (min z.toNat s.length) = s.take z.toNat := by
   rcases Nat.le_total z.toNat s.length with h | h
   . rw [Nat.min_eq_left h]
   . rw [Nat.min_eq_right h, List.take_length, rU h]
 have hle := jaL (s.take z.toNat)
 rw [tE] at hle
 have w1 : IntKind.i64.wrap (1 + ((nl (s.take z.toNat) : Nat) : Int)) = ((1 + nl (s.take z.toNat) : Nat) : Int) := by rw [qe (by omega) (by omega)]; omega
 have u := fun τ => Yv h15 (s := s.take z.toNat) (σ := τ)
 simp only [jd5, hm, d1, d2, e, w1, u, rI, jA, Option.toList, jp, nat, j0, jO, jY, jr, lc0, lc1, jD, jE, jF, jG, j5, j6, ju, jt, jv, zV, zS, jC, jQ, jb, jh, jU, je, jk, jd, jx, jR, jj, ji, jo, jP, jy, jw, Ts.fill, jV, jT, jf, jW, jn, jl, jg, jc, getAll, stepCall, jm, unI, Opd.get, jB, tag, jz, ja, jN, rv, bin, jX, Nat.reduceAdd, Nat.reduceSub, Nat.reduceMul, Nat.reduceDiv, Nat.reduceMod, Nat.reducePow, Nat.reduceLT, Nat.reduceLeDiff, Nat.reduceEqDiff, Nat.reduceBEq, Nat.reduceBNe, reduceIte, Int.reduceEq, Int.reduceLT, Int.reduceLE, Int.reduceNeg, Int.reduceToNat, Int.reduceMul, Int.reduceAdd, Int.reduceSub, Int.reduceBEq, Int.reduceBNe, reduceCtorEq]
theorem y5 (c : UInt8) (t : List UInt8) : skN false (c :: t) = if isS 1 c.toNat then 1 + skN false t else if [47, 47].isPrefixOf (c :: t) then 1 + skN true t else 0 := rfl
theorem jdM {c : UInt8} : isS 1 c.toNat = ((c.toNat : Int) == 32 || (c.toNat : Int) == 9 || (c.toNat : Int) == 10) := by
 rw [jcz _ c.toNat_lt, Bool.eq_iff_iff]
 simp only [Bool.or_eq_true, beq_iff_eq]
 omega
set_option maxRecDepth 20000 in
theorem jcI (hl : s.length <= 20000) : ∀ (m a : Nat) (f0 : Nat -> Option (Nat × IVal)) (R : Option (IExit × St)), evw F (.loop vW) ⟨E 6 16 5 [] f0, σ, []⟩ = R -> s.length - a <= m -> a <= s.length -> f0 0 = some (0, .str s) -> f0 1 = some (1, I a) ->
   ∃ f1, R = some (.exit 2, ⟨E 6 16 5 [] (base f1), σ, []⟩) /\ f1 0 = some (0, .str s) /\ f1 1 = some (1, I ((a + lnN (s.drop a) : Nat) : Int)) := by
 intro m
 induction m with
 | zero =>
   intro a f0 R hE hm ha e0 e1
   have d1 : decide ((a : Int) < ((s.length : Nat) : Int)) = false := rE (by omega)
   change evw F (.loop vW) ⟨E 6 16 5 [] (base f0), σ, []⟩ = R at hE
   rw [jI] at hE
   simp only [vW, e0, e1, d1, jk, jA, Option.toList, jp, nat, j0, jO, jY, jr, lc0, lc1, jD, jE, jF, jG, j5, j6, ju, jt, jv, zV, zS, jC, jQ, jb, jh, jU, je, jd, jx, jR, jj, ji, jo, jP, jy, jw, Ts.fill, jV, jT, jf, jW, jn, jl, jg, jc, getAll, stepCall, jm, unI, Opd.get, jB, tag, jz, ja, jN, rv, bin, jX, Nat.reduceAdd, Nat.reduceSub, Nat.reduceMul, Nat.reduceDiv, Nat.reduceMod, Nat.reducePow, Nat.reduceLT, Nat.reduceLeDiff, Nat.reduceEqDiff, Nat.reduceBEq, Nat.reduceBNe, reduceIte, Int.reduceEq, Int.reduceLT, Int.reduceLE, Int.reduceNeg, Int.reduceToNat, Int.reduceMul, Int.reduceAdd, Int.reduceSub, Int.reduceBEq, Int.reduceBNe, reduceCtorEq] at hE
   rw [tN (by omega)]
   exact ⟨_, hE.symm, (by first | exact e0 | rfl), (by first | exact e1 | rfl)⟩
 | succ m ih =>
   intro a f0 R hE hm ha e0 e1
   change evw F (.loop vW) ⟨E 6 16 5 [] (base f0), σ, []⟩ = R at hE
   by_cases hlt : a < s.length
   . obtain ⟨c, hg⟩ := qf hlt
     have d1 : decide ((a : Int) < ((s.length : Nat) : Int)) = true := rB (by omega)
     have d3 : (0 : Int) <= (a : Int) := by omega
     have w1 := yU (n := a) (by omega)
     rw [kL hg, zy]
     by_cases h10 : c.toNat = 10
     . have b1 : ((c.toNat : Int) != 10) = false := by rw [bne_eq_false_iff_eq]; omega
       rw [jI] at hE
       simp only [vW, e0, e1, d1, d3, hg, b1, rI, jk, jA, Option.toList, jp, nat, j0, jO, jY, jr, lc0, lc1, jD, jE, jF, jG, j5, j6, ju, jt, jv, zV, zS, jC, jQ, jb, jh, jU, je, jd, jx, jR, jj, ji, jo, jP, jy, jw, Ts.fill, jV, jT, jf, jW, jn, jl, jg, jc, getAll, stepCall, jm, unI, Opd.get, jB, tag, jz, ja, jN, rv, bin, jX, Nat.reduceAdd, Nat.reduceSub, Nat.reduceMul, Nat.reduceDiv, Nat.reduceMod, Nat.reducePow, Nat.reduceLT, Nat.reduceLeDiff, Nat.reduceEqDiff, Nat.reduceBEq, Nat.reduceBNe, reduceIte, Int.reduceEq, Int.reduceLT, Int.reduceLE, Int.reduceNeg, Int.reduceToNat, Int.reduceMul, Int.reduceAdd, Int.reduceSub, Int.reduceBEq, Int.reduceBNe, reduceCtorEq] at hE
       rw [if_pos h10]
       exact ⟨_, hE.symm, (by first | exact e0 | rfl), (by first | exact e1 | rfl)⟩
     . have b1 : ((c.toNat : Int) != 10) = true := by rw [bne_iff_ne]; omega
       rw [jI] at hE
       simp only [vW, e0, e1, d1, d3, hg, b1, w1, rI, jk, jA, Option.toList, jp, nat, j0, jO, jY, jr, lc0, lc1, jD, jE, jF, jG, j5, j6, ju, jt, jv, zV, zS, jC, jQ, jb, jh, jU, je, jd, jx, jR, jj, ji, jo, jP, jy, jw, Ts.fill, jV, jT, jf, jW, jn, jl, jg, jc, getAll, stepCall, jm, unI, Opd.get, jB, tag, jz, ja, jN, rv, bin, jX, Nat.reduceAdd, Nat.reduceSub, Nat.reduceMul, Nat.reduceDiv, Nat.reduceMod, Nat.reducePow, Nat.reduceLT, Nat.reduceLeDiff, Nat.reduceEqDiff, Nat.reduceBEq, Nat.reduceBNe, reduceIte, Int.reduceEq, Int.reduceLT, Int.reduceLE, Int.reduceNeg, Int.reduceToNat, Int.reduceMul, Int.reduceAdd, Int.reduceSub, Int.reduceBEq, Int.reduceBNe, reduceCtorEq] at hE
       rw [if_neg h10]
       obtain ⟨f1, h1, h2, h3⟩ := ih (a + 1) _ _ hE (by omega) (by omega) (by first | exact e0 | rfl) (by rfl)
       exact ⟨f1, h1, h2, by rw [h3, Nat.add_assoc]⟩
   . have d1 : decide ((a : Int) < ((s.length : Nat) : Int)) = false := rE (by omega)
     rw [jI] at hE
     simp only [vW, e0, e1, d1, jk, jA, Option.toList, jp, nat, j0, jO, jY, jr, lc0, lc1, jD, jE, jF, jG, j5, j6, ju, jt, jv, zV, zS, jC, jQ, jb, jh, jU, je, jd, jx, jR, jj, ji, jo, jP, jy, jw, Ts.fill, jV, jT, jf, jW, jn, jl, jg, jc, getAll, stepCall, jm, unI, Opd.get, jB, tag, jz, ja, jN, rv, bin, jX, Nat.reduceAdd, Nat.reduceSub, Nat.reduceMul, Nat.reduceDiv, Nat.reduceMod, Nat.reducePow, Nat.reduceLT, Nat.reduceLeDiff, Nat.reduceEqDiff, Nat.reduceBEq, Nat.reduceBNe, reduceIte, Int.reduceEq, Int.reduceLT, Int.reduceLE, Int.reduceNeg, Int.reduceToNat, Int.reduceMul, Int.reduceAdd, Int.reduceSub, Int.reduceBEq, Int.reduceBNe, reduceCtorEq] at hE
     rw [tN (by omega)]
     exact ⟨_, hE.symm, (by first | exact e0 | rfl), (by first | exact e1 | rfl)⟩
set_option maxRecDepth 20000 in
theorem jeG (hl : s.length <= 20000) : ∀ (m a : Nat) (f0 : Nat -> Option (Nat × IVal)) (R : Option (IExit × St)), evw F (.loop qp) ⟨E 6 16 5 [] f0, σ, []⟩ = R -> s.length - a <= m -> a <= s.length -> f0 0 = some (0, .str s) -> f0 1 = some (1, I a) ->
   ∃ f1, R = some (.exit 0, ⟨E 6 16 5 [] (base f1), σ, []⟩) /\ f1 1 = some (1, I ((a + skN false (s.drop a) : Nat) : Int)) := by
 intro m
 induction m with
 | zero =>
   intro a f0 R hE hm ha e0 e1
   have d1 : decide ((a : Int) < ((s.length : Nat) : Int)) = false := rE (by omega)
   change evw F (.loop qp) ⟨E 6 16 5 [] (base f0), σ, []⟩ = R at hE
   rw [jI] at hE
   simp only [qp, e0, e1, d1, jk, jA, Option.toList, jp, nat, j0, jO, jY, jr, lc0, lc1, jD, jE, jF, jG, j5, j6, ju, jt, jv, zV, zS, jC, jQ, jb, jh, jU, je, jd, jx, jR, jj, ji, jo, jP, jy, jw, Ts.fill, jV, jT, jf, jW, jn, jl, jg, jc, getAll, stepCall, jm, unI, Opd.get, jB, tag, jz, ja, jN, rv, bin, jX, Nat.reduceAdd, Nat.reduceSub, Nat.reduceMul, Nat.reduceDiv, Nat.reduceMod, Nat.reducePow, Nat.reduceLT, Nat.reduceLeDiff, Nat.reduceEqDiff, Nat.reduceBEq, Nat.reduceBNe, reduceIte, Int.reduceEq, Int.reduceLT, Int.reduceLE, Int.reduceNeg, Int.reduceToNat, Int.reduceMul, Int.reduceAdd, Int.reduceSub, Int.reduceBEq, Int.reduceBNe, reduceCtorEq] at hE
   rw [tN (by omega)]
   exact ⟨_, hE.symm, (by first | exact e1 | rfl)⟩
 | succ m ih =>
   intro a f0 R hE hm ha e0 e1
   change evw F (.loop qp) ⟨E 6 16 5 [] (base f0), σ, []⟩ = R at hE
   by_cases hlt : a < s.length
   . obtain ⟨c, hg⟩ := qf hlt
     have d1 : decide ((a : Int) < ((s.length : Nat) : Int)) = true := rB (by omega)
     have d3 : (0 : Int) <= (a : Int) := by omega
     have d4 : (0 : Int) <= ((a + 1 : Nat) : Int) := by omega
     have w1 := yU (n := a) (by omega)
     have hd := kL hg
     have tf : (true == false) = false := rfl
     have ff : (false == false) = true := rfl
     cases hb : isS 1 c.toNat with
     | true =>
       rw [hd, y5, hb, if_pos rfl]
       rw [jdM] at hb
       cases b32 : ((c.toNat : Int) == 32) with
       | true =>
         rw [jI] at hE
         simp only [qp, e0, e1, d1, d3, hg, b32, w1, rI, jk, jA, Option.toList, jp, nat, j0, jO, jY, jr, lc0, lc1, jD, jE, jF, jG, j5, j6, ju, jt, jv, zV, zS, jC, jQ, jb, jh, jU, je, jd, jx, jR, jj, ji, jo, jP, jy, jw, Ts.fill, jV, jT, jf, jW, jn, jl, jg, jc, getAll, stepCall, jm, unI, Opd.get, jB, tag, jz, ja, jN, rv, bin, jX, Nat.reduceAdd, Nat.reduceSub, Nat.reduceMul, Nat.reduceDiv, Nat.reduceMod, Nat.reducePow, Nat.reduceLT, Nat.reduceLeDiff, Nat.reduceEqDiff, Nat.reduceBEq, Nat.reduceBNe, reduceIte, Int.reduceEq, Int.reduceLT, Int.reduceLE, Int.reduceNeg, Int.reduceToNat, Int.reduceMul, Int.reduceAdd, Int.reduceSub, Int.reduceBEq, Int.reduceBNe, reduceCtorEq] at hE
         obtain ⟨f1, h1, h3⟩ := ih (a + 1) _ _ hE (by omega) (by omega) (by first | exact e0 | rfl) (by rfl)
         exact ⟨f1, h1, by rw [h3, Nat.add_assoc]⟩
       | false =>
         cases b9 : ((c.toNat : Int) == 9) with
         | true =>
           rw [jI] at hE
           simp only [qp, e0, e1, d1, d3, hg, b32, b9, w1, rI, jk, jA, Option.toList, jp, nat, j0, jO, jY, jr, lc0, lc1, jD, jE, jF, jG, j5, j6, ju, jt, jv, zV, zS, jC, jQ, jb, jh, jU, je, jd, jx, jR, jj, ji, jo, jP, jy, jw, Ts.fill, jV, jT, jf, jW, jn, jl, jg, jc, getAll, stepCall, jm, unI, Opd.get, jB, tag, jz, ja, jN, rv, bin, jX, Nat.reduceAdd, Nat.reduceSub, Nat.reduceMul, Nat.reduceDiv, Nat.reduceMod, Nat.reducePow, Nat.reduceLT, Nat.reduceLeDiff, Nat.reduceEqDiff, Nat.reduceBEq, Nat.reduceBNe, reduceIte, Int.reduceEq, Int.reduceLT, Int.reduceLE, Int.reduceNeg, Int.reduceToNat, Int.reduceMul, Int.reduceAdd, Int.reduceSub, Int.reduceBEq, Int.reduceBNe, reduceCtorEq] at hE
           obtain ⟨f1, h1, h3⟩ := ih (a + 1) _ _ hE (by omega) (by omega) (by first | exact e0 | rfl) (by rfl)
           exact ⟨f1, h1, by rw [h3, Nat.add_assoc]⟩
         | false =>
           have b10 : ((c.toNat : Int) == 10) = true := by rw [b32, b9] at hb; simpa using hb
           rw [jI] at hE
           simp only [qp, e0, e1, d1, d3, hg, b32, b9, b10, w1, rI, jk, jA, Option.toList, jp, nat, j0, jO, jY, jr, lc0, lc1, jD, jE, jF, jG, j5, j6, ju, jt, jv, zV, zS, jC, jQ, jb, jh, jU, je, jd, jx, jR, jj, ji, jo, jP, jy, jw, Ts.fill, jV, jT, jf, jW, jn, jl, jg, jc, getAll, stepCall, jm, unI, Opd.get, jB, tag, jz, ja, jN, rv, bin, jX, Nat.reduceAdd, Nat.reduceSub, Nat.reduceMul, Nat.reduceDiv, Nat.reduceMod, Nat.reducePow, Nat.reduceLT, Nat.reduceLeDiff, Nat.reduceEqDiff, Nat.reduceBEq, Nat.reduceBNe, reduceIte, Int.reduceEq, Int.reduceLT, Int.reduceLE, Int.reduceNeg, Int.reduceToNat, Int.reduceMul, Int.reduceAdd, Int.reduceSub, Int.reduceBEq, Int.reduceBNe, reduceCtorEq] at hE
           obtain ⟨f1, h1, h3⟩ := ih (a + 1) _ _ hE (by omega) (by omega) (by first | exact e0 | rfl) (by rfl)
           exact ⟨f1, h1, by rw [h3, Nat.add_assoc]⟩
     | false =>
       have hb2 := hb
       rw [jdM, Bool.or_eq_false_iff, Bool.or_eq_false_iff] at hb2
       obtain ⟨⟨b32, b9⟩, b10⟩ := hb2
       have hpre : skN false (s.drop a) = if [47, 47].isPrefixOf (s.drop a) then lnN (s.drop a) + skN false ((s.drop a).drop (lnN (s.drop a))) else 0 := by
         cases hp : [47, 47].isPrefixOf (s.drop a) with
         | true => rw [if_pos rfl]; exact ZL hp
         | false => rw [hd, y5, hb, <- hd, hp]; rfl
       by_cases h47 : c.toNat = 47
       . have n47 : ((c.toNat : Int) != 47) = false := by rw [bne_eq_false_iff_eq]; omega
         have hc47 : c = 47 := by
           apply UInt8.toNat_inj.1; exact h47
         by_cases hl2 : a + 1 < s.length
         . obtain ⟨d, hg2⟩ := qf hl2
           have d5 : decide (((a + 1 : Nat) : Int) ≥ ((s.length : Nat) : Int)) = false := rE (by omega)
           have hd2 := kL hg2
           have hpp : [47, 47].isPrefixOf (s.drop a) = (d == 47) := by
             rw [hd, hd2, hc47]
             have : ((47 : UInt8) == d) = (d == 47) := Bool.eq_iff_iff.2 (by rw [beq_iff_eq, beq_iff_eq]; exact eq_comm)
             simp only [List.isPrefixOf, beq_self_eq_true, Bool.true_and, Bool.and_true]
             exact this
           by_cases h47b : d.toNat = 47
           . have m47 : ((d.toNat : Int) != 47) = false := by rw [bne_eq_false_iff_eq]; omega
             have hdd : d = 47 := UInt8.toNat_inj.1 h47b
             have hT : [47, 47].isPrefixOf (s.drop a) = true := by rw [hpp, hdd]; rfl
             rw [hpre, hT, if_pos rfl]
             have hln := Y3 (s.drop a)
             have hlp := Y4 hT
             rw [List.length_drop] at hln
             rw [jI] at hE
             simp only [qp, e0, e1, d1, d3, d4, d5, hg, hg2, b32, b9, b10, n47, m47, w1, rI, jk, jA, Option.toList, jp, nat, j0, jO, jY, jr, lc0, lc1, jD, jE, jF, jG, j5, j6, ju, jt, jv, zV, zS, jC, jQ, jb, jh, jU, je, jd, jx, jR, jj, ji, jo, jP, jy, jw, Ts.fill, jV, jT, jf, jW, jn, jl, jg, jc, getAll, stepCall, jm, unI, Opd.get, jB, tag, jz, ja, jN, rv, bin, jX, Nat.reduceAdd, Nat.reduceSub, Nat.reduceMul, Nat.reduceDiv, Nat.reduceMod, Nat.reducePow, Nat.reduceLT, Nat.reduceLeDiff, Nat.reduceEqDiff, Nat.reduceBEq, Nat.reduceBNe, reduceIte, Int.reduceEq, Int.reduceLT, Int.reduceLE, Int.reduceNeg, Int.reduceToNat, Int.reduceMul, Int.reduceAdd, Int.reduceSub, Int.reduceBEq, Int.reduceBNe, reduceCtorEq] at hE
             generalize hI : evw F (ICode.loop vW) _ = R2 at hE
             obtain ⟨f2, rfl, i0, i1⟩ := jcI hl s.length a _ _ hI (by omega) ha (by first | exact e0 | rfl) (by first | exact e1 | rfl)
             simp only [qp, jA, Option.toList, jp, nat, j0, jO, jY, jr, lc0, lc1, jD, jE, jF, jG, j5, j6, ju, jt, jv, zV, zS, jC, jQ, jb, jh, jU, je, jk, jd, jx, jR, jj, ji, jo, jP, jy, jw, Ts.fill, jV, jT, jf, jW, jn, jl, jg, jc, getAll, stepCall, jm, unI, Opd.get, jB, tag, jz, ja, jN, rv, bin, jX, Nat.reduceAdd, Nat.reduceSub, Nat.reduceMul, Nat.reduceDiv, Nat.reduceMod, Nat.reducePow, Nat.reduceLT, Nat.reduceLeDiff, Nat.reduceEqDiff, Nat.reduceBEq, Nat.reduceBNe, reduceIte, Int.reduceEq, Int.reduceLT, Int.reduceLE, Int.reduceNeg, Int.reduceToNat, Int.reduceMul, Int.reduceAdd, Int.reduceSub, Int.reduceBEq, Int.reduceBNe, reduceCtorEq] at hE
             obtain ⟨f1, h1, h3⟩ := ih (a + lnN (s.drop a)) f2 _ hE (by omega) (by omega) i0 i1
             exact ⟨f1, h1, by rw [h3, List.drop_drop, Nat.add_assoc]⟩
           . have m47 : ((d.toNat : Int) != 47) = true := by rw [bne_iff_ne]; omega
             have hT : [47, 47].isPrefixOf (s.drop a) = false := by
               rw [hpp, beq_eq_false_iff_ne]; intro e; rw [e] at h47b; exact h47b rfl
             rw [hpre, hT]
             rw [jI] at hE
             simp only [qp, e0, e1, d1, d3, d4, d5, hg, hg2, b32, b9, b10, n47, m47, w1, rI, jk, jA, Option.toList, jp, nat, j0, jO, jY, jr, lc0, lc1, jD, jE, jF, jG, j5, j6, ju, jt, jv, zV, zS, jC, jQ, jb, jh, jU, je, jd, jx, jR, jj, ji, jo, jP, jy, jw, Ts.fill, jV, jT, jf, jW, jn, jl, jg, jc, getAll, stepCall, jm, unI, Opd.get, jB, tag, jz, ja, jN, rv, bin, jX, Nat.reduceAdd, Nat.reduceSub, Nat.reduceMul, Nat.reduceDiv, Nat.reduceMod, Nat.reducePow, Nat.reduceLT, Nat.reduceLeDiff, Nat.reduceEqDiff, Nat.reduceBEq, Nat.reduceBNe, reduceIte, Int.reduceEq, Int.reduceLT, Int.reduceLE, Int.reduceNeg, Int.reduceToNat, Int.reduceMul, Int.reduceAdd, Int.reduceSub, Int.reduceBEq, Int.reduceBNe, reduceCtorEq] at hE
             exact ⟨_, hE.symm, (by first | exact e1 | rfl)⟩
         . have d5 : decide (((a + 1 : Nat) : Int) ≥ ((s.length : Nat) : Int)) = true := rB (by omega)
           have hT : [47, 47].isPrefixOf (s.drop a) = false := by
             rw [hd, tN (by omega)]; simp [List.isPrefixOf]
           rw [hpre, hT]
           rw [jI] at hE
           simp only [qp, e0, e1, d1, d3, d4, d5, hg, b32, b9, b10, n47, w1, rI, jk, jA, Option.toList, jp, nat, j0, jO, jY, jr, lc0, lc1, jD, jE, jF, jG, j5, j6, ju, jt, jv, zV, zS, jC, jQ, jb, jh, jU, je, jd, jx, jR, jj, ji, jo, jP, jy, jw, Ts.fill, jV, jT, jf, jW, jn, jl, jg, jc, getAll, stepCall, jm, unI, Opd.get, jB, tag, jz, ja, jN, rv, bin, jX, Nat.reduceAdd, Nat.reduceSub, Nat.reduceMul, Nat.reduceDiv, Nat.reduceMod, Nat.reducePow, Nat.reduceLT, Nat.reduceLeDiff, Nat.reduceEqDiff, Nat.reduceBEq, Nat.reduceBNe, reduceIte, Int.reduceEq, Int.reduceLT, Int.reduceLE, Int.reduceNeg, Int.reduceToNat, Int.reduceMul, Int.reduceAdd, Int.reduceSub, Int.reduceBEq, Int.reduceBNe, reduceCtorEq] at hE
           exact ⟨_, hE.symm, (by first | exact e1 | rfl)⟩
       . have n47 : ((c.toNat : Int) != 47) = true := by rw [bne_iff_ne]; omega
         have hT : [47, 47].isPrefixOf (s.drop a) = false := by
           rw [hd]
           have : (47 == c) = false := by rw [beq_eq_false_iff_ne]; intro e; exact h47 (by rw [<- e]; rfl)
           simp [List.isPrefixOf, this]
         rw [hpre, hT]
         rw [jI] at hE
         simp only [qp, e0, e1, d1, d3, hg, b32, b9, b10, n47, w1, rI, jk, jA, Option.toList, jp, nat, j0, jO, jY, jr, lc0, lc1, jD, jE, jF, jG, j5, j6, ju, jt, jv, zV, zS, jC, jQ, jb, jh, jU, je, jd, jx, jR, jj, ji, jo, jP, jy, jw, Ts.fill, jV, jT, jf, jW, jn, jl, jg, jc, getAll, stepCall, jm, unI, Opd.get, jB, tag, jz, ja, jN, rv, bin, jX, Nat.reduceAdd, Nat.reduceSub, Nat.reduceMul, Nat.reduceDiv, Nat.reduceMod, Nat.reducePow, Nat.reduceLT, Nat.reduceLeDiff, Nat.reduceEqDiff, Nat.reduceBEq, Nat.reduceBNe, reduceIte, Int.reduceEq, Int.reduceLT, Int.reduceLE, Int.reduceNeg, Int.reduceToNat, Int.reduceMul, Int.reduceAdd, Int.reduceSub, Int.reduceBEq, Int.reduceBNe, reduceCtorEq] at hE
         exact ⟨_, hE.symm, (by first | exact e1 | rfl)⟩
   . have d1 : decide ((a : Int) < ((s.length : Nat) : Int)) = false := rE (by omega)
     rw [jI] at hE
     simp only [qp, e0, e1, d1, jk, jA, Option.toList, jp, nat, j0, jO, jY, jr, lc0, lc1, jD, jE, jF, jG, j5, j6, ju, jt, jv, zV, zS, jC, jQ, jb, jh, jU, je, jd, jx, jR, jj, ji, jo, jP, jy, jw, Ts.fill, jV, jT, jf, jW, jn, jl, jg, jc, getAll, stepCall, jm, unI, Opd.get, jB, tag, jz, ja, jN, rv, bin, jX, Nat.reduceAdd, Nat.reduceSub, Nat.reduceMul, Nat.reduceDiv, Nat.reduceMod, Nat.reducePow, Nat.reduceLT, Nat.reduceLeDiff, Nat.reduceEqDiff, Nat.reduceBEq, Nat.reduceBNe, reduceIte, Int.reduceEq, Int.reduceLT, Int.reduceLE, Int.reduceNeg, Int.reduceToNat, Int.reduceMul, Int.reduceAdd, Int.reduceSub, Int.reduceBEq, Int.reduceBNe, reduceCtorEq] at hE
     rw [tN (by omega)]
     exact ⟨_, hE.symm, (by first | exact e1 | rfl)⟩
theorem Qm (h : F 51 = some jeg) (hl : s.length <= 20000) {a : Nat} (ha : a <= s.length) : cfw F (.f 51) [.str s, I a] σ = some ⟨false, I ((a + skN false (s.drop a) : Nat) : Int), σ, []⟩ := by
 rw [cfw_of jeg h, jw]
 simp only [jeg, jA, Option.toList, jp, nat, j0, jO, jY, jr, lc0, lc1, jD, jE, jF, jG, j5, j6, ju, jt, jv, zV, zS, jC, jQ, jb, jh, jU, je, jk, jd, jx, jR, jj, ji, jo, jP, jy, jw, Ts.fill, jV, jT, jf, jW, jn, jl, jg, jc, getAll, stepCall, jm, unI, Opd.get, jB, tag, jz, ja, jN, rv, bin, jX, Nat.reduceAdd, Nat.reduceSub, Nat.reduceMul, Nat.reduceDiv, Nat.reduceMod, Nat.reducePow, Nat.reduceLT, Nat.reduceLeDiff, Nat.reduceEqDiff, Nat.reduceBEq, Nat.reduceBNe, reduceIte, Int.reduceEq, Int.reduceLT, Int.reduceLE, Int.reduceNeg, Int.reduceToNat, Int.reduceMul, Int.reduceAdd, Int.reduceSub, Int.reduceBEq, Int.reduceBNe, reduceCtorEq]
 generalize hE : evw F (ICode.loop qp) _ = R
 obtain ⟨f1, rfl, e1⟩ := jeG hl s.length a _ _ hE (by omega) ha (by rfl) (by rfl)
 simp only [e1, jA, Option.toList, jp, nat, j0, jO, jY, jr, lc0, lc1, jD, jE, jF, jG, j5, j6, ju, jt, jv, zV, zS, jC, jQ, jb, jh, jU, je, jk, jd, jx, jR, jj, ji, jo, jP, jy, jw, Ts.fill, jV, jT, jf, jW, jn, jl, jg, jc, getAll, stepCall, jm, unI, Opd.get, jB, tag, jz, ja, jN, rv, bin, jX, Nat.reduceAdd, Nat.reduceSub, Nat.reduceMul, Nat.reduceDiv, Nat.reduceMod, Nat.reducePow, Nat.reduceLT, Nat.reduceLeDiff, Nat.reduceEqDiff, Nat.reduceBEq, Nat.reduceBNe, reduceIte, Int.reduceEq, Int.reduceLT, Int.reduceLE, Int.reduceNeg, Int.reduceToNat, Int.reduceMul, Int.reduceAdd, Int.reduceSub, Int.reduceBEq, Int.reduceBNe, reduceCtorEq]
end
end Go.Idl.Lx
namespace Go.Idl.Lx
open Go Go.Idl Go.Idl.En
variable {F : kb}
def hxv (c : Nat) : Int := if oth 16 c then -1 else vdg c
theorem jgK : ∀ c : Nat, c < 256 -> 48 <= c -> c <= 57 -> oth 16 c = false /\ vdg c = c - 48 := by decide +kernel
theorem jgL : ∀ c : Nat, c < 256 -> 97 <= c -> c <= 102 -> oth 16 c = false /\ vdg c = c - 97 + 10 := by decide +kernel
theorem jgM : ∀ c : Nat, c < 256 -> 65 <= c -> c <= 70 -> oth 16 c = false /\ vdg c = c - 65 + 10 := by decide +kernel
theorem jgN : ∀ c : Nat, c < 256 -> (c < 48 \/ 57 < c) -> (c < 97 \/ 102 < c) -> (c < 65 \/ 70 < c) -> oth 16 c = true := by decide +kernel
theorem jcj : ∀ c : Nat, c < 256 -> oth 10 c = (oth 16 c || decide (10 <= vdg c)) := by decide +kernel
theorem jfU : ∀ c : Nat, c < 256 -> oth 16 c = false -> vdg c < 16 := by decide +kernel
section
variable {σ : List IObj} {s : List UInt8}
theorem jfT (h : F 83 = some Yf) (h10 : F 10 = some YT) {c : Nat} (hc : c < 256) : cfw F (.f 83) [B c] σ = some ⟨false, I (hxv c), σ, []⟩ := by
 rw [cfw_of Yf h, jw]
 have u := fun τ => JG h10 hc (σ := τ)
 rw [jcA c hc] at u
 by_cases h1 : 48 <= c /\ c <= 57
 . obtain ⟨e1, e2⟩ := jgK c hc h1.1 h1.2
   rw [rB h1] at u
   have w1 : IntKind.u8.wrap ((c : Int) - 48) = ((vdg c : Nat) : Int) := by rw [vD, e2]; omega
   have w2 : IntKind.i64.wrap ((vdg c : Nat) : Int) = ((vdg c : Nat) : Int) := qe (by omega) (by omega)
   have e3 : hxv c = ((vdg c : Nat) : Int) := by rw [hxv, e1]; rfl
   simp only [Yf, u, w1, w2, e3, jA, Option.toList, jp, nat, j0, jO, jY, jr, lc0, lc1, jD, jE, jF, jG, j5, j6, ju, jt, jv, zV, zS, jC, jQ, jb, jh, jU, je, jk, jd, jx, jR, jj, ji, jo, jP, jy, jw, Ts.fill, jV, jT, jf, jW, jn, jl, jg, jc, getAll, stepCall, jm, unI, Opd.get, jB, tag, jz, ja, jN, rv, bin, jX, Nat.reduceAdd, Nat.reduceSub, Nat.reduceMul, Nat.reduceDiv, Nat.reduceMod, Nat.reducePow, Nat.reduceLT, Nat.reduceLeDiff, Nat.reduceEqDiff, Nat.reduceBEq, Nat.reduceBNe, reduceIte, Int.reduceEq, Int.reduceLT, Int.reduceLE, Int.reduceNeg, Int.reduceToNat, Int.reduceMul, Int.reduceAdd, Int.reduceSub, Int.reduceBEq, Int.reduceBNe, reduceCtorEq]
 . rw [rE h1] at u
   by_cases h2 : 97 <= c /\ c <= 102
   . obtain ⟨e1, e2⟩ := jgL c hc h2.1 h2.2
     have d1 : decide ((c : Int) ≥ 97) = true := rB (by omega)
     have d2 : decide ((c : Int) <= 102) = true := rB (by omega)
     have w1 : IntKind.u8.wrap ((c : Int) - 97) = ((c - 97 : Nat) : Int) := by rw [vD]; omega
     have w2 : IntKind.i64.wrap ((c - 97 : Nat) : Int) = ((c - 97 : Nat) : Int) := qe (by omega) (by omega)
     have w3 : IntKind.i64.wrap (((c - 97 : Nat) : Int) + 10) = ((vdg c : Nat) : Int) := by rw [qe (by omega) (by omega), e2]; omega
     have e3 : hxv c = ((vdg c : Nat) : Int) := by rw [hxv, e1]; rfl
     simp only [Yf, u, d1, d2, w1, w2, w3, e3, jk, jA, Option.toList, jp, nat, j0, jO, jY, jr, lc0, lc1, jD, jE, jF, jG, j5, j6, ju, jt, jv, zV, zS, jC, jQ, jb, jh, jU, je, jd, jx, jR, jj, ji, jo, jP, jy, jw, Ts.fill, jV, jT, jf, jW, jn, jl, jg, jc, getAll, stepCall, jm, unI, Opd.get, jB, tag, jz, ja, jN, rv, bin, jX, Nat.reduceAdd, Nat.reduceSub, Nat.reduceMul, Nat.reduceDiv, Nat.reduceMod, Nat.reducePow, Nat.reduceLT, Nat.reduceLeDiff, Nat.reduceEqDiff, Nat.reduceBEq, Nat.reduceBNe, reduceIte, Int.reduceEq, Int.reduceLT, Int.reduceLE, Int.reduceNeg, Int.reduceToNat, Int.reduceMul, Int.reduceAdd, Int.reduceSub, Int.reduceBEq, Int.reduceBNe, reduceCtorEq]
   . have no1 : (decide ((c : Int) ≥ 97) && decide ((c : Int) <= 102)) = false := by
       rw [Bool.and_eq_false_iff]; rcases Nat.lt_or_ge c 97 with h | h
       . exact Or.inl (rE (by omega))
       . exact Or.inr (rE (by omega))
     by_cases h3 : 65 <= c /\ c <= 70
     . obtain ⟨e1, e2⟩ := jgM c hc h3.1 h3.2
       have d0 : decide ((c : Int) ≥ 97) = false := rE (by omega)
       have d1 : decide ((c : Int) ≥ 65) = true := rB (by omega)
       have d2 : decide ((c : Int) <= 70) = true := rB (by omega)
       have w1 : IntKind.u8.wrap ((c : Int) - 65) = ((c - 65 : Nat) : Int) := by rw [vD]; omega
       have w2 : IntKind.i64.wrap ((c - 65 : Nat) : Int) = ((c - 65 : Nat) : Int) := qe (by omega) (by omega)
       have w3 : IntKind.i64.wrap (((c - 65 : Nat) : Int) + 10) = ((vdg c : Nat) : Int) := by rw [qe (by omega) (by omega), e2]; omega
       have e3 : hxv c = ((vdg c : Nat) : Int) := by rw [hxv, e1]; rfl
       simp only [Yf, u, d0, d1, d2, w1, w2, w3, e3, jk, jA, Option.toList, jp, nat, j0, jO, jY, jr, lc0, lc1, jD, jE, jF, jG, j5, j6, ju, jt, jv, zV, zS, jC, jQ, jb, jh, jU, je, jd, jx, jR, jj, ji, jo, jP, jy, jw, Ts.fill, jV, jT, jf, jW, jn, jl, jg, jc, getAll, stepCall, jm, unI, Opd.get, jB, tag, jz, ja, jN, rv, bin, jX, Nat.reduceAdd, Nat.reduceSub, Nat.reduceMul, Nat.reduceDiv, Nat.reduceMod, Nat.reducePow, Nat.reduceLT, Nat.reduceLeDiff, Nat.reduceEqDiff, Nat.reduceBEq, Nat.reduceBNe, reduceIte, Int.reduceEq, Int.reduceLT, Int.reduceLE, Int.reduceNeg, Int.reduceToNat, Int.reduceMul, Int.reduceAdd, Int.reduceSub, Int.reduceBEq, Int.reduceBNe, reduceCtorEq]
     . have e1 := jgN c hc (by omega) (by omega) (by omega)
       have e3 : hxv c = -1 := by rw [hxv, e1]; rfl
       rw [e3]
       rcases Nat.lt_or_ge c 97 with h | h
       . have d0 : decide ((c : Int) ≥ 97) = false := rE (by omega)
         rcases Nat.lt_or_ge c 65 with h5 | h5
         . have d1 : decide ((c : Int) ≥ 65) = false := rE (by omega)
           simp only [Yf, u, d0, d1, jk, jA, Option.toList, jp, nat, j0, jO, jY, jr, lc0, lc1, jD, jE, jF, jG, j5, j6, ju, jt, jv, zV, zS, jC, jQ, jb, jh, jU, je, jd, jx, jR, jj, ji, jo, jP, jy, jw, Ts.fill, jV, jT, jf, jW, jn, jl, jg, jc, getAll, stepCall, jm, unI, Opd.get, jB, tag, jz, ja, jN, rv, bin, jX, Nat.reduceAdd, Nat.reduceSub, Nat.reduceMul, Nat.reduceDiv, Nat.reduceMod, Nat.reducePow, Nat.reduceLT, Nat.reduceLeDiff, Nat.reduceEqDiff, Nat.reduceBEq, Nat.reduceBNe, reduceIte, Int.reduceEq, Int.reduceLT, Int.reduceLE, Int.reduceNeg, Int.reduceToNat, Int.reduceMul, Int.reduceAdd, Int.reduceSub, Int.reduceBEq, Int.reduceBNe, reduceCtorEq]
         . have d1 : decide ((c : Int) ≥ 65) = true := rB (by omega)
           have d2 : decide ((c : Int) <= 70) = false := rE (by omega)
           simp only [Yf, u, d0, d1, d2, jk, jA, Option.toList, jp, nat, j0, jO, jY, jr, lc0, lc1, jD, jE, jF, jG, j5, j6, ju, jt, jv, zV, zS, jC, jQ, jb, jh, jU, je, jd, jx, jR, jj, ji, jo, jP, jy, jw, Ts.fill, jV, jT, jf, jW, jn, jl, jg, jc, getAll, stepCall, jm, unI, Opd.get, jB, tag, jz, ja, jN, rv, bin, jX, Nat.reduceAdd, Nat.reduceSub, Nat.reduceMul, Nat.reduceDiv, Nat.reduceMod, Nat.reducePow, Nat.reduceLT, Nat.reduceLeDiff, Nat.reduceEqDiff, Nat.reduceBEq, Nat.reduceBNe, reduceIte, Int.reduceEq, Int.reduceLT, Int.reduceLE, Int.reduceNeg, Int.reduceToNat, Int.reduceMul, Int.reduceAdd, Int.reduceSub, Int.reduceBEq, Int.reduceBNe, reduceCtorEq]
       . have d0 : decide ((c : Int) ≥ 97) = true := rB (by omega)
         have d0b : decide ((c : Int) <= 102) = false := rE (by omega)
         have d1 : decide ((c : Int) ≥ 65) = true := rB (by omega)
         have d2 : decide ((c : Int) <= 70) = false := rE (by omega)
         simp only [Yf, u, d0, d0b, d1, d2, jk, jA, Option.toList, jp, nat, j0, jO, jY, jr, lc0, lc1, jD, jE, jF, jG, j5, j6, ju, jt, jv, zV, zS, jC, jQ, jb, jh, jU, je, jd, jx, jR, jj, ji, jo, jP, jy, jw, Ts.fill, jV, jT, jf, jW, jn, jl, jg, jc, getAll, stepCall, jm, unI, Opd.get, jB, tag, jz, ja, jN, rv, bin, jX, Nat.reduceAdd, Nat.reduceSub, Nat.reduceMul, Nat.reduceDiv, Nat.reduceMod, Nat.reducePow, Nat.reduceLT, Nat.reduceLeDiff, Nat.reduceEqDiff, Nat.reduceBEq, Nat.reduceBNe, reduceIte, Int.reduceEq, Int.reduceLT, Int.reduceLE, Int.reduceNeg, Int.reduceToNat, Int.reduceMul, Int.reduceAdd, Int.reduceSub, Int.reduceBEq, Int.reduceBNe, reduceCtorEq]
def tv (ba : Nat) : Nat -> List UInt8 -> Nat
 | n, [] => n
 | n, c :: t => tv ba (n * ba + vdg c.toNat) t
theorem jfd (ba : Nat) (h : 1 <= ba) : ∀ (t : List UInt8) (n : Nat), n <= tv ba n t
 | [], n => rP _
 | c :: t, n => by
   have := jfd ba h t (n * ba + vdg c.toNat)
   have h2 : n * 1 <= n * ba := Nat.mul_le_mul_left n h
   rw [tv]; omega
theorem je1 (ba : Nat) (h : 1 <= ba) : ∀ (t : List UInt8) (n : Nat), n < T64 -> pz ba n t = if T64 <= tv ba n t then none else some (tv ba n t)
 | [], n, hn => by rw [pz, tv, if_neg (by omega)]
 | c :: t, n, hn => by
   rw [pz, tv]
   by_cases e : T64 <= n * ba + vdg c.toNat
   . have := jfd ba h t (n * ba + vdg c.toNat)
     rw [if_pos e, if_pos (by omega)]
   . rw [if_neg e, je1 ba h t _ (by omega)]
def C40 : Nat := 1099511627776
theorem jdN (ba d : Nat) (h : 1 <= ba) (n : Nat) : min (min n C40 * ba + d) C40 = min (n * ba + d) C40 := by
 by_cases e : n <= C40
 . rw [Nat.min_eq_left e]
 . have h2 : C40 * 1 <= C40 * ba := Nat.mul_le_mul_left _ h
   have h3 : C40 * ba <= n * ba := tV _ (by omega)
   rw [Nat.min_eq_right (by omega : C40 <= n), Nat.min_eq_right (by omega), Nat.min_eq_right (by omega)]
set_option maxRecDepth 20000 in
theorem jeI (h83 : F 83 = some Yf) (h10 : F 10 = some YT) (hl : s.length <= 20000) {ba : Nat} (hba : ba = 10 \/ ba = 16) : ∀ (m a n : Nat) (f0 : Nat -> Option (Nat × IVal)) (R : Option (IExit × St)), evw F (.loop vB) ⟨E 10 7 5 [] f0, σ, []⟩ = R -> s.length - a <= m -> a <= s.length -> f0 0 = some (0, .str s) -> f0 1 = some (1, I a) -> f0 2 = some (2, I ba) -> f0 8 = some (8, I ((min n C40 : Nat) : Int)) ->
   ∃ f1, R = some (.exit 0, ⟨E 10 7 5 [] (base f1), σ, []⟩) /\ f1 1 = some (1, I ((a + dgs ba (s.drop a) : Nat) : Int)) /\ f1 8 = some (8, I ((min (tv ba n ((s.drop a).take (dgs ba (s.drop a)))) C40 : Nat) : Int)) := by
 have hb1 : 1 <= ba := by omega
 intro m
 induction m with
 | zero =>
   intro a n f0 R hE hm ha e0 e1 e2 e8
   have d1 : decide ((a : Int) < ((s.length : Nat) : Int)) = false := rE (by omega)
   change evw F (.loop vB) ⟨E 10 7 5 [] (base f0), σ, []⟩ = R at hE
   rw [jI] at hE
   simp only [vB, e0, e1, e2, e8, d1, jk, jA, Option.toList, jp, nat, j0, jO, jY, jr, lc0, lc1, jD, jE, jF, jG, j5, j6, ju, jt, jv, zV, zS, jC, jQ, jb, jh, jU, je, jd, jx, jR, jj, ji, jo, jP, jy, jw, Ts.fill, jV, jT, jf, jW, jn, jl, jg, jc, getAll, stepCall, jm, unI, Opd.get, jB, tag, jz, ja, jN, rv, bin, jX, Nat.reduceAdd, Nat.reduceSub, Nat.reduceMul, Nat.reduceDiv, Nat.reduceMod, Nat.reducePow, Nat.reduceLT, Nat.reduceLeDiff, Nat.reduceEqDiff, Nat.reduceBEq, Nat.reduceBNe, reduceIte, Int.reduceEq, Int.reduceLT, Int.reduceLE, Int.reduceNeg, Int.reduceToNat, Int.reduceMul, Int.reduceAdd, Int.reduceSub, Int.reduceBEq, Int.reduceBNe, reduceCtorEq] at hE
   rw [tN (by omega)]
   exact ⟨_, hE.symm, (by first | exact e1 | rfl), (by first | exact e8 | rfl)⟩
 | succ m ih =>
   intro a n f0 R hE hm ha e0 e1 e2 e8
   change evw F (.loop vB) ⟨E 10 7 5 [] (base f0), σ, []⟩ = R at hE
   by_cases hlt : a < s.length
   . obtain ⟨c, hg⟩ := qf hlt
     have hc : c.toNat < 256 := c.toNat_lt
     have d1 : decide ((a : Int) < ((s.length : Nat) : Int)) = true := rB (by omega)
     have d3 : (0 : Int) <= (a : Int) := by omega
     have w1 := yU (n := a) (by omega)
     have u := jfT h83 h10 hc (σ := σ)
     rw [kL hg, zp]
     cases h16 : oth 16 c.toNat with
     | true =>
       have e3 : hxv c.toNat = -1 := by rw [hxv, h16]; rfl
       have ho : oth ba c.toNat = true := by
         rcases hba with rfl | rfl
         . show oth 10 c.toNat = true; rw [jcj _ hc, h16]; rfl
         . exact h16
       rw [e3] at u
       have d4 : decide ((-1 : Int) < 0) = true := rfl
       rw [jI] at hE
       simp only [vB, e0, e1, e2, e8, d1, d3, d4, hg, u, rI, jk, jA, Option.toList, jp, nat, j0, jO, jY, jr, lc0, lc1, jD, jE, jF, jG, j5, j6, ju, jt, jv, zV, zS, jC, jQ, jb, jh, jU, je, jd, jx, jR, jj, ji, jo, jP, jy, jw, Ts.fill, jV, jT, jf, jW, jn, jl, jg, jc, getAll, stepCall, jm, unI, Opd.get, jB, tag, jz, ja, jN, rv, bin, jX, Nat.reduceAdd, Nat.reduceSub, Nat.reduceMul, Nat.reduceDiv, Nat.reduceMod, Nat.reducePow, Nat.reduceLT, Nat.reduceLeDiff, Nat.reduceEqDiff, Nat.reduceBEq, Nat.reduceBNe, reduceIte, Int.reduceEq, Int.reduceLT, Int.reduceLE, Int.reduceNeg, Int.reduceToNat, Int.reduceMul, Int.reduceAdd, Int.reduceSub, Int.reduceBEq, Int.reduceBNe, reduceCtorEq] at hE
       rw [ho]
       exact ⟨_, hE.symm, (by first | exact e1 | rfl), (by first | exact e8 | rfl)⟩
     | false =>
       have e3 : hxv c.toNat = ((vdg c.toNat : Nat) : Int) := by rw [hxv, h16]; rfl
       have hv := jfU _ hc h16
       rw [e3] at u
       have d4 : decide (((vdg c.toNat : Nat) : Int) < 0) = false := rE (by omega)
       by_cases hge : ba <= vdg c.toNat
       . have ho : oth ba c.toNat = true := by
           rcases hba with rfl | rfl
           . show oth 10 c.toNat = true; rw [jcj _ hc, rB hge]; simp
           . omega
         have d5 : decide (((vdg c.toNat : Nat) : Int) ≥ ((ba : Nat) : Int)) = true := rB (by omega)
         rw [jI] at hE
         simp only [vB, e0, e1, e2, e8, d1, d3, d4, d5, hg, u, rI, jk, jA, Option.toList, jp, nat, j0, jO, jY, jr, lc0, lc1, jD, jE, jF, jG, j5, j6, ju, jt, jv, zV, zS, jC, jQ, jb, jh, jU, je, jd, jx, jR, jj, ji, jo, jP, jy, jw, Ts.fill, jV, jT, jf, jW, jn, jl, jg, jc, getAll, stepCall, jm, unI, Opd.get, jB, tag, jz, ja, jN, rv, bin, jX, Nat.reduceAdd, Nat.reduceSub, Nat.reduceMul, Nat.reduceDiv, Nat.reduceMod, Nat.reducePow, Nat.reduceLT, Nat.reduceLeDiff, Nat.reduceEqDiff, Nat.reduceBEq, Nat.reduceBNe, reduceIte, Int.reduceEq, Int.reduceLT, Int.reduceLE, Int.reduceNeg, Int.reduceToNat, Int.reduceMul, Int.reduceAdd, Int.reduceSub, Int.reduceBEq, Int.reduceBNe, reduceCtorEq] at hE
         rw [ho]
         exact ⟨_, hE.symm, (by first | exact e1 | rfl), (by first | exact e8 | rfl)⟩
       . have ho : oth ba c.toNat = false := by
           rcases hba with rfl | rfl
           . show oth 10 c.toNat = false; rw [jcj _ hc, h16, rE hge]; rfl
           . exact h16
         have d5 : decide (((vdg c.toNat : Nat) : Int) ≥ ((ba : Nat) : Int)) = false := rE (by omega)
         have hC : min n C40 <= C40 := Nat.min_le_right _ _
         have hCm : min n C40 * ba <= C40 * ba := tV _ hC
         have hCb : C40 * ba <= C40 * 16 := Nat.mul_le_mul_left _ (by omega)
         have hCv : C40 = 1099511627776 := rfl
         have w2 : IntKind.i64.wrap (((min n C40 : Nat) : Int) * ((ba : Nat) : Int)) = ((min n C40 * ba : Nat) : Int) := by rw [<- Int.natCast_mul, qe (by omega) (by omega)]
         have w3 : IntKind.i64.wrap (((min n C40 * ba : Nat) : Int) + ((vdg c.toNat : Nat) : Int)) = ((min n C40 * ba + vdg c.toNat : Nat) : Int) := by rw [qe (by omega) (by omega)]; omega
         have hmn : (if (1099511627776 : Int) < ((min n C40 * ba + vdg c.toNat : Nat) : Int) then (1099511627776 : Int) else ((min n C40 * ba + vdg c.toNat : Nat) : Int)) = ((min (n * ba + vdg c.toNat) C40 : Nat) : Int) := by
           rw [<- jdN ba _ hb1, hCv]
           split <;> omega
         rw [jI] at hE
         simp only [vB, e0, e1, e2, e8, d1, d3, d4, d5, hg, u, w1, w2, w3, hmn, rI, jk, jA, Option.toList, jp, nat, j0, jO, jY, jr, lc0, lc1, jD, jE, jF, jG, j5, j6, ju, jt, jv, zV, zS, jC, jQ, jb, jh, jU, je, jd, jx, jR, jj, ji, jo, jP, jy, jw, Ts.fill, jV, jT, jf, jW, jn, jl, jg, jc, getAll, stepCall, jm, unI, Opd.get, jB, tag, jz, ja, jN, rv, bin, jX, Nat.reduceAdd, Nat.reduceSub, Nat.reduceMul, Nat.reduceDiv, Nat.reduceMod, Nat.reducePow, Nat.reduceLT, Nat.reduceLeDiff, Nat.reduceEqDiff, Nat.reduceBEq, Nat.reduceBNe, reduceIte, Int.reduceEq, Int.reduceLT, Int.reduceLE, Int.reduceNeg, Int.reduceToNat, Int.reduceMul, Int.reduceAdd, Int.reduceSub, Int.reduceBEq, Int.reduceBNe, reduceCtorEq] at hE
         rw [ho, if_neg (by simp)]
         obtain ⟨f1, h1, h2, h3⟩ := ih (a + 1) (n * ba + vdg c.toNat) _ _ hE (by omega) (by omega) (by first | exact e0 | rfl) (by rfl) (by first | exact e2 | rfl) (by rfl)
         refine ⟨f1, h1, by rw [h2, Nat.add_assoc], ?_⟩
         rw [h3, Nat.add_comm 1, r5, tv]
   . have d1 : decide ((a : Int) < ((s.length : Nat) : Int)) = false := rE (by omega)
     rw [jI] at hE
     simp only [vB, e0, e1, e2, e8, d1, jk, jA, Option.toList, jp, nat, j0, jO, jY, jr, lc0, lc1, jD, jE, jF, jG, j5, j6, ju, jt, jv, zV, zS, jC, jQ, jb, jh, jU, je, jd, jx, jR, jj, ji, jo, jP, jy, jw, Ts.fill, jV, jT, jf, jW, jn, jl, jg, jc, getAll, stepCall, jm, unI, Opd.get, jB, tag, jz, ja, jN, rv, bin, jX, Nat.reduceAdd, Nat.reduceSub, Nat.reduceMul, Nat.reduceDiv, Nat.reduceMod, Nat.reducePow, Nat.reduceLT, Nat.reduceLeDiff, Nat.reduceEqDiff, Nat.reduceBEq, Nat.reduceBNe, reduceIte, Int.reduceEq, Int.reduceLT, Int.reduceLE, Int.reduceNeg, Int.reduceToNat, Int.reduceMul, Int.reduceAdd, Int.reduceSub, Int.reduceBEq, Int.reduceBNe, reduceCtorEq] at hE
     rw [tN (by omega)]
     exact ⟨_, hE.symm, (by first | exact e1 | rfl), (by first | exact e8 | rfl)⟩
theorem Xd (h : F 71 = some jem) (h83 : F 83 = some Yf) (h10 : F 10 = some YT) (hl : s.length <= 20000) {ba a : Nat} (hba : ba = 10 \/ ba = 16) (ha : a <= s.length) : cfw F (.f 71) [.str s, I a, I ba] σ = some ⟨false, .tup [I ((min (tv ba 0 ((s.drop a).take (dgs ba (s.drop a)))) C40 : Nat) : Int), I ((a + dgs ba (s.drop a) : Nat) : Int)], σ, []⟩ := by
 rw [cfw_of jem h, jw]
 simp only [jem, jA, Option.toList, jp, nat, j0, jO, jY, jr, lc0, lc1, jD, jE, jF, jG, j5, j6, ju, jt, jv, zV, zS, jC, jQ, jb, jh, jU, je, jk, jd, jx, jR, jj, ji, jo, jP, jy, jw, Ts.fill, jV, jT, jf, jW, jn, jl, jg, jc, getAll, stepCall, jm, unI, Opd.get, jB, tag, jz, ja, jN, rv, bin, jX, Nat.reduceAdd, Nat.reduceSub, Nat.reduceMul, Nat.reduceDiv, Nat.reduceMod, Nat.reducePow, Nat.reduceLT, Nat.reduceLeDiff, Nat.reduceEqDiff, Nat.reduceBEq, Nat.reduceBNe, reduceIte, Int.reduceEq, Int.reduceLT, Int.reduceLE, Int.reduceNeg, Int.reduceToNat, Int.reduceMul, Int.reduceAdd, Int.reduceSub, Int.reduceBEq, Int.reduceBNe, reduceCtorEq]
 generalize hE : evw F (ICode.loop vB) _ = R
 obtain ⟨f1, rfl, e1, e8⟩ := jeI h83 h10 hl hba s.length a 0 _ _ hE (by omega) ha (by rfl) (by rfl) (by rfl) (by rfl)
 simp only [e1, e8, jA, Option.toList, jp, nat, j0, jO, jY, jr, lc0, lc1, jD, jE, jF, jG, j5, j6, ju, jt, jv, zV, zS, jC, jQ, jb, jh, jU, je, jk, jd, jx, jR, jj, ji, jo, jP, jy, jw, Ts.fill, jV, jT, jf, jW, jn, jl, jg, jc, getAll, stepCall, jm, unI, Opd.get, jB, tag, jz, ja, jN, rv, bin, jX, Nat.reduceAdd, Nat.reduceSub, Nat.reduceMul, Nat.reduceDiv, Nat.reduceMod, Nat.reducePow, Nat.reduceLT, Nat.reduceLeDiff, Nat.reduceEqDiff, Nat.reduceBEq, Nat.reduceBNe, reduceIte, Int.reduceEq, Int.reduceLT, Int.reduceLE, Int.reduceNeg, Int.reduceToNat, Int.reduceMul, Int.reduceAdd, Int.reduceSub, Int.reduceBEq, Int.reduceBNe, reduceCtorEq]
end
end Go.Idl.Lx
