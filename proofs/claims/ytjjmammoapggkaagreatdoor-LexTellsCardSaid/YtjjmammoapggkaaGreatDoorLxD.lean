/- Chapter 2: what the ideal machine makes of its functions, part D; no conditions. -/
import Derived.Test.YtjjmammoapggkaaGreatDoorLxC
import Derived.KernelRfl
set_option linter.defProp false
set_option linter.unusedSectionVars false
set_option linter.unusedVariables false
set_option linter.unusedSimpArgs false
namespace Go.Idl.Lx
open Go Go.Idl Go.Idl.En
variable {F : kb}
def sgs : List (List UInt8) := [[123], [125], [40], [41], [91], [93], [59], [58], [44], [46], [61], [60], [62], [43], [45], [42], [47], [37], [38], [94], [124], [126], [33]]
def mks : List (List UInt8) := dbls ++ sgs
theorem jdg : ∀ c : Nat, c < 256 -> sgs.find? (fun m => m.isPrefixOf [UInt8.ofNat c]) = if isS 8 c then some [UInt8.ofNat c] else none := by decide +kernel
theorem jdh {c : UInt8} {t : List UInt8} : ∀ m ∈ sgs, m.isPrefixOf (c :: t) = m.isPrefixOf [c] := by
 have : ∀ m ∈ sgs, ∃ x, m = [x] := by
   intro m hm
   simp only [sgs, List.mem_cons, List.not_mem_nil, or_false] at hm
   rcases hm with rfl | rfl | rfl | rfl | rfl | rfl | rfl | rfl | rfl | rfl | rfl | rfl | rfl | rfl | rfl | rfl | rfl | rfl | rfl | rfl | rfl | rfl | rfl <;> exact ⟨_, rfl⟩
 intro m hm
 obtain ⟨x, rfl⟩ := this m hm
 simp [List.isPrefixOf]
theorem XM {α : Type} {l : List α} {p q : α -> Bool} (h : ∀ a ∈ l, p a = q a) : l.find? p = l.find? q := by
 induction l with
 | nil => rfl
 | cons a l ih =>
   rw [List.find?_cons, List.find?_cons, h a (by simp), ih fun b hb => h b (by simp [hb])]
theorem jfI : ∀ m ∈ dbls, ∃ x y, m = [x, y] /\ isS 8 x.toNat = true := by
 intro m hm
 simp only [dbls, List.mem_cons, List.not_mem_nil, or_false] at hm
 have a1 := jav 60 (by omega)
 have a2 := jav 62 (by omega)
 have a3 := jav 61 (by omega)
 have a4 := jav 33 (by omega)
 rcases hm with rfl | rfl | rfl | rfl | rfl | rfl
 . exact ⟨_, _, rfl, a1⟩
 . exact ⟨_, _, rfl, a2⟩
 . exact ⟨_, _, rfl, a1⟩
 . exact ⟨_, _, rfl, a2⟩
 . exact ⟨_, _, rfl, a3⟩
 . exact ⟨_, _, rfl, a4⟩
theorem jaJ (c : UInt8) (t : List UInt8) : mks.find? (fun m => m.isPrefixOf (c :: t)) = if isS 8 c.toNat then some ((c :: t).take (mkN (c :: t))) else none := by
 rw [mks, List.find?_append]
 cases hd : dbls.find? (fun m => m.isPrefixOf (c :: t)) with
 | some m =>
   have hm := List.mem_of_find?_eq_some hd
   have hp := List.find?_some hd
   have ha : dbls.any (fun m => m.isPrefixOf (c :: t)) = true := List.any_eq_true.2 ⟨m, hm, hp⟩
   obtain ⟨x, y, rfl, h8⟩ := jfI m hm
   have hp2 : [x, y] <+: c :: t := List.isPrefixOf_iff_prefix.1 hp
   have e := List.prefix_iff_eq_take.1 hp2
   have hx : x = c := by
     have := congrArg List.head? e
     simpa using this
   rw [hx] at h8
   rw [mkN, ha, h8]
   simpa using e
 | none =>
   have ha : dbls.any (fun m => m.isPrefixOf (c :: t)) = false := by
     rw [List.any_eq_false]
     intro m hm
     have := List.find?_eq_none.1 hd m hm
     exact this
   rw [mkN, ha, XM jdh]
   have := jdg c.toNat c.toNat_lt
   rw [UInt8.ofNat_toNat] at this
   simpa using this
section
variable {σ : List IObj} {s : List UInt8}
set_option maxRecDepth 20000 in
theorem jcJ (h10 : F 10 = some YT) (h11 : F 11 = some Z0) (hl : s.length <= 20000) : ∀ (m e : Nat) (f0 : Nat -> Option (Nat × IVal)) (R : Option (IExit × St)) (wr : List (Nat × Bool)), evw F (.loop vA) ⟨E 14 18 6 [] f0, σ, wr⟩ = R -> s.length - e <= m -> e <= s.length -> f0 0 = some (0, .str s) -> f0 8 = some (8, I e) ->
   ∃ f1, R = some (.exit 0, ⟨E 14 18 6 [] (base f1), σ, wr⟩) /\ f1 8 = some (8, I ((e + spn 6 (s.drop e) : Nat) : Int)) /\ f1 0 = f0 0 /\ f1 1 = f0 1 /\ f1 4 = f0 4 /\ f1 5 = f0 5 /\ f1 6 = f0 6 := by
 intro m
 induction m with
 | zero =>
   intro e f0 R wr hE hm he e0 e8
   have d1 : decide ((e : Int) < ((s.length : Nat) : Int)) = false := rE (by omega)
   change evw F (.loop vA) ⟨E 14 18 6 [] (base f0), σ, wr⟩ = R at hE
   rw [jI] at hE
   simp only [vA, e0, e8, d1, jk, jA, Option.toList, jp, nat, j0, jO, jY, jr, lc0, lc1, jD, jE, jF, jG, j5, j6, ju, jt, jv, zV, zS, jC, jQ, jb, jh, jU, je, jd, jx, jR, jj, ji, jo, jP, jy, jw, Ts.fill, jV, jT, jf, jW, jn, jl, jg, jc, getAll, stepCall, jm, unI, Opd.get, jB, tag, jz, ja, jN, rv, bin, jX, Nat.reduceAdd, Nat.reduceSub, Nat.reduceMul, Nat.reduceDiv, Nat.reduceMod, Nat.reducePow, Nat.reduceLT, Nat.reduceLeDiff, Nat.reduceEqDiff, Nat.reduceBEq, Nat.reduceBNe, reduceIte, Int.reduceEq, Int.reduceLT, Int.reduceLE, Int.reduceNeg, Int.reduceToNat, Int.reduceMul, Int.reduceAdd, Int.reduceSub, Int.reduceBEq, Int.reduceBNe, reduceCtorEq] at hE
   rw [tN (by omega)]
   exact ⟨_, hE.symm, (by first | exact e8 | rfl), rfl, rfl, rfl, rfl, rfl⟩
 | succ m ih =>
   intro e f0 R wr hE hm he e0 e8
   change evw F (.loop vA) ⟨E 14 18 6 [] (base f0), σ, wr⟩ = R at hE
   by_cases hlt : e < s.length
   . obtain ⟨c, hg⟩ := qf hlt
     have hc : c.toNat < 256 := c.toNat_lt
     have d1 : decide ((e : Int) < ((s.length : Nat) : Int)) = true := rB (by omega)
     have d3 : (0 : Int) <= (e : Int) := by omega
     have w1 := yU (n := e) (by omega)
     have u1 := zx h11 hc (σ := σ)
     have u2 := JG h10 hc (σ := σ)
     rw [kL hg, Jx, jcB _ hc]
     cases h2 : isS 2 c.toNat with
     | true =>
       rw [h2] at u1
       rw [jI] at hE
       simp only [vA, e0, e8, d1, d3, hg, u1, w1, rI, jk, jA, Option.toList, jp, nat, j0, jO, jY, jr, lc0, lc1, jD, jE, jF, jG, j5, j6, ju, jt, jv, zV, zS, jC, jQ, jb, jh, jU, je, jd, jx, jR, jj, ji, jo, jP, jy, jw, Ts.fill, jV, jT, jf, jW, jn, jl, jg, jc, getAll, stepCall, jm, unI, Opd.get, jB, tag, jz, ja, jN, rv, bin, jX, Nat.reduceAdd, Nat.reduceSub, Nat.reduceMul, Nat.reduceDiv, Nat.reduceMod, Nat.reducePow, Nat.reduceLT, Nat.reduceLeDiff, Nat.reduceEqDiff, Nat.reduceBEq, Nat.reduceBNe, reduceIte, Int.reduceEq, Int.reduceLT, Int.reduceLE, Int.reduceNeg, Int.reduceToNat, Int.reduceMul, Int.reduceAdd, Int.reduceSub, Int.reduceBEq, Int.reduceBNe, reduceCtorEq] at hE
       obtain ⟨f1, g1, g2, g3, g4, g5, g6, g7⟩ := ih (e + 1) _ _ _ hE (by omega) (by omega) (by first | exact e0 | rfl) (by rfl)
       exact ⟨f1, g1, by rw [g2, Bool.true_or, if_pos rfl, Nat.add_assoc], g3, g4, g5, g6, g7⟩
     | false =>
       rw [h2] at u1
       cases h4 : isS 4 c.toNat with
       | true =>
         rw [h4] at u2
         rw [jI] at hE
         simp only [vA, e0, e8, d1, d3, hg, u1, u2, w1, rI, jk, jA, Option.toList, jp, nat, j0, jO, jY, jr, lc0, lc1, jD, jE, jF, jG, j5, j6, ju, jt, jv, zV, zS, jC, jQ, jb, jh, jU, je, jd, jx, jR, jj, ji, jo, jP, jy, jw, Ts.fill, jV, jT, jf, jW, jn, jl, jg, jc, getAll, stepCall, jm, unI, Opd.get, jB, tag, jz, ja, jN, rv, bin, jX, Nat.reduceAdd, Nat.reduceSub, Nat.reduceMul, Nat.reduceDiv, Nat.reduceMod, Nat.reducePow, Nat.reduceLT, Nat.reduceLeDiff, Nat.reduceEqDiff, Nat.reduceBEq, Nat.reduceBNe, reduceIte, Int.reduceEq, Int.reduceLT, Int.reduceLE, Int.reduceNeg, Int.reduceToNat, Int.reduceMul, Int.reduceAdd, Int.reduceSub, Int.reduceBEq, Int.reduceBNe, reduceCtorEq] at hE
         obtain ⟨f1, g1, g2, g3, g4, g5, g6, g7⟩ := ih (e + 1) _ _ _ hE (by omega) (by omega) (by first | exact e0 | rfl) (by rfl)
         exact ⟨f1, g1, by rw [g2, Bool.false_or, if_pos rfl, Nat.add_assoc], g3, g4, g5, g6, g7⟩
       | false =>
         rw [h4] at u2
         rw [jI] at hE
         simp only [vA, e0, e8, d1, d3, hg, u1, u2, w1, rI, jk, jA, Option.toList, jp, nat, j0, jO, jY, jr, lc0, lc1, jD, jE, jF, jG, j5, j6, ju, jt, jv, zV, zS, jC, jQ, jb, jh, jU, je, jd, jx, jR, jj, ji, jo, jP, jy, jw, Ts.fill, jV, jT, jf, jW, jn, jl, jg, jc, getAll, stepCall, jm, unI, Opd.get, jB, tag, jz, ja, jN, rv, bin, jX, Nat.reduceAdd, Nat.reduceSub, Nat.reduceMul, Nat.reduceDiv, Nat.reduceMod, Nat.reducePow, Nat.reduceLT, Nat.reduceLeDiff, Nat.reduceEqDiff, Nat.reduceBEq, Nat.reduceBNe, reduceIte, Int.reduceEq, Int.reduceLT, Int.reduceLE, Int.reduceNeg, Int.reduceToNat, Int.reduceMul, Int.reduceAdd, Int.reduceSub, Int.reduceBEq, Int.reduceBNe, reduceCtorEq] at hE
         exact ⟨_, hE.symm, (by first | exact e8 | rfl), rfl, rfl, rfl, rfl, rfl⟩
   . have d1 : decide ((e : Int) < ((s.length : Nat) : Int)) = false := rE (by omega)
     rw [jI] at hE
     simp only [vA, e0, e8, d1, jk, jA, Option.toList, jp, nat, j0, jO, jY, jr, lc0, lc1, jD, jE, jF, jG, j5, j6, ju, jt, jv, zV, zS, jC, jQ, jb, jh, jU, je, jd, jx, jR, jj, ji, jo, jP, jy, jw, Ts.fill, jV, jT, jf, jW, jn, jl, jg, jc, getAll, stepCall, jm, unI, Opd.get, jB, tag, jz, ja, jN, rv, bin, jX, Nat.reduceAdd, Nat.reduceSub, Nat.reduceMul, Nat.reduceDiv, Nat.reduceMod, Nat.reducePow, Nat.reduceLT, Nat.reduceLeDiff, Nat.reduceEqDiff, Nat.reduceBEq, Nat.reduceBNe, reduceIte, Int.reduceEq, Int.reduceLT, Int.reduceLE, Int.reduceNeg, Int.reduceToNat, Int.reduceMul, Int.reduceAdd, Int.reduceSub, Int.reduceBEq, Int.reduceBNe, reduceCtorEq] at hE
     rw [tN (by omega)]
     exact ⟨_, hE.symm, (by first | exact e8 | rfl), rfl, rfl, rfl, rfl, rfl⟩
theorem jcL (h : F 72 = some jen) : cfw F (.f 72) [] σ = some ⟨false, .sl 1 false (mks.map .str), σ, []⟩ := by
 rw [cfw_of jen h, jw]
 simp only [jen, ext, jA, Option.toList, jp, nat, j0, jO, jY, jr, lc0, lc1, jD, jE, jF, jG, j5, j6, ju, jt, jv, zV, zS, jC, jQ, jb, jh, jU, je, jk, jd, jx, jR, jj, ji, jo, jP, jy, jw, Ts.fill, jV, jT, jf, jW, jn, jl, jg, jc, getAll, stepCall, jm, unI, Opd.get, jB, tag, jz, ja, jN, rv, bin, jX, Nat.reduceAdd, Nat.reduceSub, Nat.reduceMul, Nat.reduceDiv, Nat.reduceMod, Nat.reducePow, Nat.reduceLT, Nat.reduceLeDiff, Nat.reduceEqDiff, Nat.reduceBEq, Nat.reduceBNe, reduceIte, Int.reduceEq, Int.reduceLT, Int.reduceLE, Int.reduceNeg, Int.reduceToNat, Int.reduceMul, Int.reduceAdd, Int.reduceSub, Int.reduceBEq, Int.reduceBNe, reduceCtorEq]
 rfl
end
end Go.Idl.Lx
namespace Go.Idl.Lx
open Go Go.Idl Go.Idl.En
variable {F : kb}
section
variable {σ : List IObj} {s : List UInt8}
theorem Ky {n : Nat} : Ge n [] := fun p hp => by simp at hp
theorem tk2 (a b : IVal) : [a, b].take 2 = [a, b] := rfl
abbrev S52 (σ : List IObj) (r q t : List IVal) : List IObj := σ ++ [.cells r, .cells q, .cells t]
theorem Zw {m : List UInt8} {a : Nat} (ha : a <= s.length) : m.isPrefixOf (s.drop a) = (decide (m.length <= s.length - a) && ((s.take (a + m.length)).drop a == m)) := by
 have e : (s.take (a + m.length)).drop a = (s.drop a).take m.length := take_drop s a m.length
 rw [e, Bool.eq_iff_iff, List.isPrefixOf_iff_prefix, List.prefix_iff_eq_take, Bool.and_eq_true, decide_eq_true_eq, beq_iff_eq]
 constructor
 . intro h
   refine ⟨?_, h.symm⟩
   have := congrArg List.length h
   rw [tE, List.length_drop] at this; omega
 . intro h; exact h.2.symm
set_option maxRecDepth 20000 in
theorem jcK (hl : s.length <= 20000) {a ln : Nat} (ha : a <= s.length) {ms : List (List UInt8)} (hms : ∀ m ∈ ms, m.length <= 100) (hml : ms.length <= 1000) {o : Nat} {r : Bool} : ∀ (m i : Nat) (f0 : Nat -> Option (Nat × IVal)) (wr : List (Nat × Bool)) (R : Option (IExit × St)), evw F (.loop vX) ⟨E 14 18 6 [] f0, S52 σ (TC 0 0 0 [] 0) [I 0, I 0] (TC 0 a ln [] 0), wr⟩ = R -> i + m = ms.length -> f0 0 = some (0, .str s) -> f0 1 = some (1, I a) -> f0 4 = some (4, .ptr σ.length 0) -> f0 5 = some (5, .ptr (σ.length + 1) 0) -> f0 6 = some (6, .ptr (σ.length + 2) 0) -> f0 11 = some (11, .sl o r (ms.map .str)) -> f0 12 = some (12, I i) -> Fl wr -> Ge σ.length wr ->
   ∃ f1 wr1, Fl wr1 /\ Ge σ.length wr1 /\ f1 4 = some (4, .ptr σ.length 0) /\ f1 5 = some (5, .ptr (σ.length + 1) 0) /\ match (ms.drop i).find? (fun m => m.isPrefixOf (s.drop a)) with
     | none => R = some (.exit 2, ⟨E 14 18 6 [] (base f1), S52 σ (TC 0 0 0 [] 0) [I 0, I 0] (TC 0 a ln [] 0), wr1⟩) /\ f1 1 = some (1, I a) /\ f1 6 = some (6, .ptr (σ.length + 2) 0)
     | some m => ∃ x, R = some (.ret, ⟨E 14 18 6 [] (base f1), S52 σ (TC 3 a ln m 0) [I 0, I 0] x, wr1⟩) := by
 have w0 : IntKind.i64.wrap (((s.length : Nat) : Int) - ((a : Nat) : Int)) = ((s.length - a : Nat) : Int) := by rw [qe (by omega) (by omega)]; omega
 intro m
 induction m with
 | zero =>
   intro i f0 wr R hE hm e0 e1 e4 e5 e6 e11 e12 hw hw2
   have d1 : decide ((i : Int) < (ms.length : Nat)) = false := rE (by omega)
   change evw F (.loop vX) ⟨E 14 18 6 [] (base f0), S52 σ (TC 0 0 0 [] 0) [I 0, I 0] (TC 0 a ln [] 0), wr⟩ = R at hE
   rw [jI] at hE
   simp only [vX, e0, e1, e4, e5, e6, e11, e12, d1, jk, jA, Option.toList, jp, nat, j0, jO, jY, jr, lc0, lc1, jD, jE, jF, jG, j5, j6, ju, jt, jv, zV, zS, jC, jQ, jb, jh, jU, je, jd, jx, jR, jj, ji, jo, jP, jy, jw, Ts.fill, jV, jT, jf, jW, jn, jl, jg, jc, getAll, stepCall, jm, unI, Opd.get, jB, tag, jz, ja, jN, rv, bin, jX, Nat.reduceAdd, Nat.reduceSub, Nat.reduceMul, Nat.reduceDiv, Nat.reduceMod, Nat.reducePow, Nat.reduceLT, Nat.reduceLeDiff, Nat.reduceEqDiff, Nat.reduceBEq, Nat.reduceBNe, reduceIte, Int.reduceEq, Int.reduceLT, Int.reduceLE, Int.reduceNeg, Int.reduceToNat, Int.reduceMul, Int.reduceAdd, Int.reduceSub, Int.reduceBEq, Int.reduceBNe, reduceCtorEq] at hE
   rw [show ms.drop i = [] from tN (by omega)]
   exact ⟨_, _, hw, hw2, (by first | exact e4 | rfl), (by first | exact e5 | rfl), hE.symm, (by first | exact e1 | rfl), (by first | exact e6 | rfl)⟩
 | succ m ih =>
   intro i f0 wr R hE hm e0 e1 e4 e5 e6 e11 e12 hw hw2
   obtain ⟨mk, hg⟩ := qf (l := ms) (i := i) (by omega)
   have hmk := hms mk (List.mem_of_getElem? hg)
   have d1 : decide ((i : Int) < (ms.length : Nat)) = true := rB (by omega)
   have d2 : (0 : Int) <= (i : Int) := by omega
   have d3 : (0 : Int) <= (a : Int) := by omega
   have d4 : (0 : Int) <= ((a + mk.length : Nat) : Int) := by omega
   have d6 : a <= a + mk.length := by omega
   have w1 := yU (n := i) (by omega)
   have w2 : IntKind.i64.wrap ((a : Int) + ((mk.length : Nat) : Int)) = ((a + mk.length : Nat) : Int) := by rw [qe (by omega) (by omega)]; omega
   have hpre := Zw (s := s) (m := mk) ha
   have f2 : qD [.int .i64 0, .int .i64 0] [] = some [I 0, I 0] := rfl
   have tcu : ∀ k (t : List UInt8) n, (TC k a ln t n).map un1 = TC k a ln t n := fun _ _ _ => rfl
   rw [kL hg, List.find?_cons]
   change evw F (.loop vX) ⟨E 14 18 6 [] (base f0), S52 σ (TC 0 0 0 [] 0) [I 0, I 0] (TC 0 a ln [] 0), wr⟩ = R at hE
   rw [jI] at hE
   by_cases hle : mk.length <= s.length - a
   . have d5 : decide (((s.length - a : Nat) : Int) ≥ ((mk.length : Nat) : Int)) = true := rB (by omega)
     have d7 : a + mk.length <= s.length := by omega
     rw [rB hle, Bool.true_and] at hpre
     cases hb : ((s.take (a + mk.length)).drop a == mk) with
     | true =>
       rw [hb] at hpre
       simp only [vX, e0, e1, e4, e5, e6, e11, e12, d1, d2, d3, d4, d5, d6, d7, hg, w0, w1, w2, hb, f2, tcu, tk5, List.zip_nil_left, rI, jk, jA, Option.toList, jp, nat, j0, jO, jY, jr, lc0, lc1, jD, jE, jF, jG, j5, j6, ju, jt, jv, zV, zS, jC, jQ, jb, jh, jU, je, jd, jx, jR, jj, ji, jo, jP, jy, jw, Ts.fill, jV, jT, jf, jW, jn, jl, jg, jc, getAll, stepCall, jm, unI, Opd.get, jB, tag, jz, ja, jN, rv, bin, jX, Nat.reduceAdd, Nat.reduceSub, Nat.reduceMul, Nat.reduceDiv, Nat.reduceMod, Nat.reducePow, Nat.reduceLT, Nat.reduceLeDiff, Nat.reduceEqDiff, Nat.reduceBEq, Nat.reduceBNe, reduceIte, Int.reduceEq, Int.reduceLT, Int.reduceLE, Int.reduceNeg, Int.reduceToNat, Int.reduceMul, Int.reduceAdd, Int.reduceSub, Int.reduceBEq, Int.reduceBNe, reduceCtorEq] at hE
       rw [hpre]
       exact ⟨_, _, by simpa using hw, by repeat (first | exact hw2 | apply qc (by omega)), (by first | exact e4 | rfl), (by first | exact e5 | rfl), _, hE.symm⟩
     | false =>
       rw [hb] at hpre
       simp only [vX, e0, e1, e4, e5, e6, e11, e12, d1, d2, d3, d4, d5, d6, d7, hg, w0, w1, w2, hb, rI, jk, jA, Option.toList, jp, nat, j0, jO, jY, jr, lc0, lc1, jD, jE, jF, jG, j5, j6, ju, jt, jv, zV, zS, jC, jQ, jb, jh, jU, je, jd, jx, jR, jj, ji, jo, jP, jy, jw, Ts.fill, jV, jT, jf, jW, jn, jl, jg, jc, getAll, stepCall, jm, unI, Opd.get, jB, tag, jz, ja, jN, rv, bin, jX, Nat.reduceAdd, Nat.reduceSub, Nat.reduceMul, Nat.reduceDiv, Nat.reduceMod, Nat.reducePow, Nat.reduceLT, Nat.reduceLeDiff, Nat.reduceEqDiff, Nat.reduceBEq, Nat.reduceBNe, reduceIte, Int.reduceEq, Int.reduceLT, Int.reduceLE, Int.reduceNeg, Int.reduceToNat, Int.reduceMul, Int.reduceAdd, Int.reduceSub, Int.reduceBEq, Int.reduceBNe, reduceCtorEq] at hE
       rw [hpre]
       exact ih (i + 1) _ _ _ hE (by omega) (by first | exact e0 | rfl) (by first | exact e1 | rfl) (by first | exact e4 | rfl) (by first | exact e5 | rfl) (by first | exact e6 | rfl) (by first | exact e11 | rfl) (by rfl) hw hw2
   . have d5 : decide (((s.length - a : Nat) : Int) ≥ ((mk.length : Nat) : Int)) = false := rE (by omega)
     rw [rE hle, Bool.false_and] at hpre
     simp only [vX, e0, e1, e4, e5, e6, e11, e12, d1, d2, d5, hg, w0, w1, rI, jk, jA, Option.toList, jp, nat, j0, jO, jY, jr, lc0, lc1, jD, jE, jF, jG, j5, j6, ju, jt, jv, zV, zS, jC, jQ, jb, jh, jU, je, jd, jx, jR, jj, ji, jo, jP, jy, jw, Ts.fill, jV, jT, jf, jW, jn, jl, jg, jc, getAll, stepCall, jm, unI, Opd.get, jB, tag, jz, ja, jN, rv, bin, jX, Nat.reduceAdd, Nat.reduceSub, Nat.reduceMul, Nat.reduceDiv, Nat.reduceMod, Nat.reducePow, Nat.reduceLT, Nat.reduceLeDiff, Nat.reduceEqDiff, Nat.reduceBEq, Nat.reduceBNe, reduceIte, Int.reduceEq, Int.reduceLT, Int.reduceLE, Int.reduceNeg, Int.reduceToNat, Int.reduceMul, Int.reduceAdd, Int.reduceSub, Int.reduceBEq, Int.reduceBNe, reduceCtorEq] at hE
     rw [hpre]
     exact ih (i + 1) _ _ _ hE (by omega) (by first | exact e0 | rfl) (by first | exact e1 | rfl) (by first | exact e4 | rfl) (by first | exact e5 | rfl) (by first | exact e6 | rfl) (by first | exact e11 | rfl) (by rfl) hw hw2
structure FOne (F : kb) : Prop where
 h10 : F 10 = some YT
 h11 : F 11 = some Z0
 h18 : F 18 = some jd6
 h52 : F 52 = some Ye
 h71 : F 71 = some jem
 h72 : F 72 = some jen
 h83 : F 83 = some Yf
def XT (s : List UInt8) (a : Nat) : IVal := match Jn s a with
 | .inl f => .tup [.agg (TC 0 a (1 + nl (s.take a)) [] 0), .agg [I f.1, I f.2]]
 | .inr (k, ed, v) => .tup [.agg (TC k a (1 + nl (s.take a)) ((s.take ed).drop a) v), .agg [I 0, I 0]]
set_option maxRecDepth 20000 in
theorem jeU (H : FOne F) (hl : s.length <= 20000) {a : Nat} {c : UInt8} (hg : s[a]? = some c) (h2 : isS 2 c.toNat = true) : cfw F (.f 52) [.str s, I a] σ = some ⟨false, XT s a, σ, []⟩ := by
 rw [cfw_of Ye H.h52, jw]
 have hlt := (List.getElem?_eq_some_iff.1 hg).1
 have hc : c.toNat < 256 := c.toNat_lt
 have u18 := fun τ => KD H.h18 hl (a : Int) (σ := τ)
 simp only [rI] at u18
 have u11 := fun τ => zx H.h11 hc (σ := τ)
 rw [h2] at u11
 have d3 : (0 : Int) <= (a : Int) := by omega
 have f5 : qD [.int .i64 0, .int .i64 0, .int .i64 0, .str [], .int .i64 0] [(1, 1, I a), (2, 1, I ((1 + nl (s.take a) : Nat) : Int))] = some (TC 0 a (1 + nl (s.take a)) [] 0) := rfl
 have hsp := Xq 6 (s.drop a)
 rw [List.length_drop] at hsp
 have w1 : IntKind.i64.wrap (((a + spn 6 (s.drop a) : Nat) : Int) - (a : Int)) = ((spn 6 (s.drop a) : Nat) : Int) := by rw [qe (by omega) (by omega)]; omega
 have f2 : qD [.int .i64 0, .int .i64 0] [] = some [I 0, I 0] := rfl
 have f2b : qD [.int .i64 0, .int .i64 0] [(0, 1, I 4), (1, 1, I a)] = some [I 4, I a] := rfl
 have tcu : ∀ k (t : List UInt8) n, (TC k a (1 + nl (s.take a)) t n).map un1 = TC k a (1 + nl (s.take a)) t n := fun _ _ _ => rfl
 simp only [Ye, u18, u11, hg, d3, f5, tC, tM, rI, jA, Option.toList, jp, nat, j0, jO, jY, jr, lc0, lc1, jD, jE, jF, jG, j5, j6, ju, jt, jv, zV, zS, jC, jQ, jb, jh, jU, je, jk, jd, jx, jR, jj, ji, jo, jP, jy, jw, Ts.fill, jV, jT, jf, jW, jn, jl, jg, jc, getAll, stepCall, jm, unI, Opd.get, jB, tag, jz, ja, jN, rv, bin, jX, Nat.reduceAdd, Nat.reduceSub, Nat.reduceMul, Nat.reduceDiv, Nat.reduceMod, Nat.reducePow, Nat.reduceLT, Nat.reduceLeDiff, Nat.reduceEqDiff, Nat.reduceBEq, Nat.reduceBNe, reduceIte, Int.reduceEq, Int.reduceLT, Int.reduceLE, Int.reduceNeg, Int.reduceToNat, Int.reduceMul, Int.reduceAdd, Int.reduceSub, Int.reduceBEq, Int.reduceBNe, reduceCtorEq]
 generalize hE : evw F (ICode.loop vA) _ = R
 obtain ⟨f1, rfl, i8, i0, i1, i4, i5, i6⟩ := jcJ H.h10 H.h11 hl s.length a _ _ _ hE (by omega) (by omega) (by rfl) (by rfl)
 have i0 : f1 0 = some (0, .str s) := i0.trans rfl
 have i1 : f1 1 = some (1, I a) := i1.trans rfl
 have i4 : f1 4 = some (4, .ptr σ.length 0) := i4.trans rfl
 have i5 : f1 5 = some (5, .ptr (σ.length + 1) 0) := i5.trans rfl
 have i6 : f1 6 = some (6, .ptr (σ.length + 2) 0) := i6.trans rfl
 by_cases h16 : spn 6 (s.drop a) > 16
 . have d5 : decide (((spn 6 (s.drop a) : Nat) : Int) > 16) = true := rB (by omega)
   have ho : Jn s a = .inl (4, a) := by unfold Jn; rw [hg]; simp only [h2, if_true, if_pos h16]
   simp only [XT, ho, i0, i1, i4, i5, i6, i8, w1, d5, f2b, tcu, tk5, tk2, tC, tM, jA, Option.toList, jp, nat, j0, jO, jY, jr, lc0, lc1, jD, jE, jF, jG, j5, j6, ju, jt, jv, zV, zS, jC, jQ, jb, jh, jU, je, jk, jd, jx, jR, jj, ji, jo, jP, jy, jw, Ts.fill, jV, jT, jf, jW, jn, jl, jg, jc, getAll, stepCall, jm, unI, Opd.get, jB, tag, jz, ja, jN, rv, bin, jX, Nat.reduceAdd, Nat.reduceSub, Nat.reduceMul, Nat.reduceDiv, Nat.reduceMod, Nat.reducePow, Nat.reduceLT, Nat.reduceLeDiff, Nat.reduceEqDiff, Nat.reduceBEq, Nat.reduceBNe, reduceIte, Int.reduceEq, Int.reduceLT, Int.reduceLE, Int.reduceNeg, Int.reduceToNat, Int.reduceMul, Int.reduceAdd, Int.reduceSub, Int.reduceBEq, Int.reduceBNe, reduceCtorEq]
 . have d5 : decide (((spn 6 (s.drop a) : Nat) : Int) > 16) = false := rE (by omega)
   have ho : Jn s a = .inr (1, a + spn 6 (s.drop a), 0) := by unfold Jn; rw [hg]; simp only [h2, if_true, if_neg h16]
   have d6 : (0 : Int) <= ((a + spn 6 (s.drop a) : Nat) : Int) := by omega
   have d7 : a <= a + spn 6 (s.drop a) := by omega
   have d8 : a + spn 6 (s.drop a) <= s.length := by omega
   simp only [XT, ho, i0, i1, i4, i5, i6, i8, w1, d3, d5, d6, d7, d8, f2, tcu, tk5, tk2, List.zip_nil_left, rI, jA, Option.toList, jp, nat, j0, jO, jY, jr, lc0, lc1, jD, jE, jF, jG, j5, j6, ju, jt, jv, zV, zS, jC, jQ, jb, jh, jU, je, jk, jd, jx, jR, jj, ji, jo, jP, jy, jw, Ts.fill, jV, jT, jf, jW, jn, jl, jg, jc, getAll, stepCall, jm, unI, Opd.get, jB, tag, jz, ja, jN, rv, bin, jX, Nat.reduceAdd, Nat.reduceSub, Nat.reduceMul, Nat.reduceDiv, Nat.reduceMod, Nat.reducePow, Nat.reduceLT, Nat.reduceLeDiff, Nat.reduceEqDiff, Nat.reduceBEq, Nat.reduceBNe, reduceIte, Int.reduceEq, Int.reduceLT, Int.reduceLE, Int.reduceNeg, Int.reduceToNat, Int.reduceMul, Int.reduceAdd, Int.reduceSub, Int.reduceBEq, Int.reduceBNe, reduceCtorEq]
set_option maxRecDepth 20000 in
theorem jeT (H : FOne F) (hl : s.length <= 20000) {a : Nat} {c : UInt8} (hg : s[a]? = some c) (h2 : isS 2 c.toNat = false) (h4 : isS 4 c.toNat = false) : cfw F (.f 52) [.str s, I a] σ = some ⟨false, XT s a, σ, []⟩ := by
 rw [cfw_of Ye H.h52, jw]
 have hlt := (List.getElem?_eq_some_iff.1 hg).1
 have hc : c.toNat < 256 := c.toNat_lt
 have u18 := fun τ => KD H.h18 hl (a : Int) (σ := τ)
 simp only [rI] at u18
 have u11 := fun τ => zx H.h11 hc (σ := τ)
 have u10 := fun τ => JG H.h10 hc (σ := τ)
 have u72 := fun τ => jcL H.h72 (σ := τ)
 rw [h2] at u11
 rw [h4] at u10
 have d3 : (0 : Int) <= (a : Int) := by omega
 have f5 : qD [.int .i64 0, .int .i64 0, .int .i64 0, .str [], .int .i64 0] [(1, 1, I a), (2, 1, I ((1 + nl (s.take a) : Nat) : Int))] = some (TC 0 a (1 + nl (s.take a)) [] 0) := rfl
 have f2b : qD [.int .i64 0, .int .i64 0] [(0, 1, I 7), (1, 1, I a)] = some [I 7, I a] := rfl
 have tcu : ∀ k (t : List UInt8) n, (TC k a (1 + nl (s.take a)) t n).map un1 = TC k a (1 + nl (s.take a)) t n := fun _ _ _ => rfl
 simp only [Ye, u18, u11, u10, u72, hg, d3, f5, tC, tM, rI, jA, Option.toList, jp, nat, j0, jO, jY, jr, lc0, lc1, jD, jE, jF, jG, j5, j6, ju, jt, jv, zV, zS, jC, jQ, jb, jh, jU, je, jk, jd, jx, jR, jj, ji, jo, jP, jy, jw, Ts.fill, jV, jT, jf, jW, jn, jl, jg, jc, getAll, stepCall, jm, unI, Opd.get, jB, tag, jz, ja, jN, rv, bin, jX, Nat.reduceAdd, Nat.reduceSub, Nat.reduceMul, Nat.reduceDiv, Nat.reduceMod, Nat.reducePow, Nat.reduceLT, Nat.reduceLeDiff, Nat.reduceEqDiff, Nat.reduceBEq, Nat.reduceBNe, reduceIte, Int.reduceEq, Int.reduceLT, Int.reduceLE, Int.reduceNeg, Int.reduceToNat, Int.reduceMul, Int.reduceAdd, Int.reduceSub, Int.reduceBEq, Int.reduceBNe, reduceCtorEq]
 generalize hE : evw F (ICode.loop vX) _ = R
 obtain ⟨f1, wr1, gw, gg, i4, i5, hm⟩ := jcK hl (a := a) (ln := 1 + nl (s.take a)) (by omega) (ms := mks) (by decide) (by decide) mks.length 0 _ _ _ hE (tS _) (by rfl) (by rfl) (by rfl) (by rfl) (by rfl) (by rfl) (by rfl) (by simp) (by repeat (first | exact Ky | apply qc (by omega)))
 rw [List.drop_zero, kL hg, jaJ] at hm
 cases h8 : isS 8 c.toNat with
 | true =>
   rw [h8] at hm
   simp only [if_true] at hm
   obtain ⟨x, rfl⟩ := hm
   have hd := kL hg
   have ho : Jn s a = .inr (3, a + mkN (s.drop a), 0) := by unfold Jn; rw [hg]; simp only [h2, h4, h8, r8, if_false, if_true]
   have ht : (c :: s.drop (a + 1)).take (mkN (c :: s.drop (a + 1))) = (s.take (a + mkN (s.drop a))).drop a := by rw [take_drop, hd]
   rw [ht]
   simp only [XT, ho, i4, i5, tcu, tk5, tk2, j8 gw, jA, Option.toList, jp, nat, j0, jO, jY, jr, lc0, lc1, jD, jE, jF, jG, j5, j6, ju, jt, jv, zV, zS, jC, jQ, jb, jh, jU, je, jk, jd, jx, jR, jj, ji, jo, jP, jy, jw, Ts.fill, jV, jT, jf, jW, jn, jl, jg, jc, getAll, stepCall, jm, unI, Opd.get, jB, tag, jz, ja, jN, rv, bin, jX, Nat.reduceAdd, Nat.reduceSub, Nat.reduceMul, Nat.reduceDiv, Nat.reduceMod, Nat.reducePow, Nat.reduceLT, Nat.reduceLeDiff, Nat.reduceEqDiff, Nat.reduceBEq, Nat.reduceBNe, reduceIte, Int.reduceEq, Int.reduceLT, Int.reduceLE, Int.reduceNeg, Int.reduceToNat, Int.reduceMul, Int.reduceAdd, Int.reduceSub, Int.reduceBEq, Int.reduceBNe, reduceCtorEq]
   rw [vy gg]
 | false =>
   rw [h8] at hm
   simp only [r8, if_false] at hm
   obtain ⟨rfl, i1, i6⟩ := hm
   have ho : Jn s a = .inl (7, a) := by unfold Jn; rw [hg]; simp only [h2, h4, h8, r8, if_false]
   simp only [XT, ho, i1, i4, i5, i6, f2b, tcu, tk5, tk2, j8 gw, tC, tM, jA, Option.toList, jp, nat, j0, jO, jY, jr, lc0, lc1, jD, jE, jF, jG, j5, j6, ju, jt, jv, zV, zS, jC, jQ, jb, jh, jU, je, jk, jd, jx, jR, jj, ji, jo, jP, jy, jw, Ts.fill, jV, jT, jf, jW, jn, jl, jg, jc, getAll, stepCall, jm, unI, Opd.get, jB, tag, jz, ja, jN, rv, bin, jX, Nat.reduceAdd, Nat.reduceSub, Nat.reduceMul, Nat.reduceDiv, Nat.reduceMod, Nat.reducePow, Nat.reduceLT, Nat.reduceLeDiff, Nat.reduceEqDiff, Nat.reduceBEq, Nat.reduceBNe, reduceIte, Int.reduceEq, Int.reduceLT, Int.reduceLE, Int.reduceNeg, Int.reduceToNat, Int.reduceMul, Int.reduceAdd, Int.reduceSub, Int.reduceBEq, Int.reduceBNe, reduceCtorEq]
   rw [vy gg]
end
end Go.Idl.Lx
namespace Go.Idl.Lx
open Go Go.Idl Go.Idl.En
variable {F : kb}
theorem Zk (s : List UInt8) (a ba hd : Nat) (hb : 1 <= ba) : Vx s a ba hd = if dgs ba (s.drop (a + hd)) = 0 then .inl (7, a + hd + dgs ba (s.drop (a + hd))) else
   if 4294967296 <= tv ba 0 ((s.drop (a + hd)).take (dgs ba (s.drop (a + hd)))) then .inl (10, a) else
   match s[a + hd + dgs ba (s.drop (a + hd))]? with
   | some c => if isS 6 c.toNat then .inl (7, a + hd + dgs ba (s.drop (a + hd))) else .inr (a + hd + dgs ba (s.drop (a + hd)), tv ba 0 ((s.drop (a + hd)).take (dgs ba (s.drop (a + hd)))))
   | none => .inr (a + hd + dgs ba (s.drop (a + hd)), tv ba 0 ((s.drop (a + hd)).take (dgs ba (s.drop (a + hd))))) := by
 unfold Vx
 simp only
 have h0 : 0 < T64 := by decide
 have hT : 4294967296 <= T64 := by decide
 rw [je1 ba hb _ 0 h0]
 by_cases hd0 : dgs ba (s.drop (a + hd)) = 0
 . rw [if_pos hd0, if_pos hd0]
 . rw [if_neg hd0, if_neg hd0]
   by_cases hz : T64 <= tv ba 0 ((s.drop (a + hd)).take (dgs ba (s.drop (a + hd))))
   . rw [if_pos hz, if_pos (by omega)]
   . rw [if_neg hz] <;> rfl
section
variable {σ : List IObj} {s : List UInt8}
theorem Ya {ed v a : Nat} {R : (Nat × Nat) ⊕ (Nat × Nat)} (hR : R = if 4294967296 <= v then .inl (10, a) else match s[ed]? with
   | some c => if isS 6 c.toNat then .inl (7, ed) else .inr (ed, v)
   | none => .inr (ed, v)) : (4294967296 <= v /\ R = .inl (10, a)) \/ (v < 4294967296 /\ ((∃ c, s[ed]? = some c /\ ((isS 2 c.toNat = true /\ R = .inl (7, ed)) \/ (isS 2 c.toNat = false /\ isS 4 c.toNat = true /\ R = .inl (7, ed)) \/ (isS 2 c.toNat = false /\ isS 4 c.toNat = false /\ R = .inr (ed, v)))) \/ (s[ed]? = none /\ R = .inr (ed, v)))) := by
 by_cases hv : 4294967296 <= v
 . rw [if_pos hv] at hR; exact Or.inl ⟨hv, hR⟩
 . rw [if_neg hv] at hR
   refine Or.inr ⟨by omega, ?_⟩
   cases hg : s[ed]? with
   | none => rw [hg] at hR; exact Or.inr ⟨rfl, hR⟩
   | some c =>
     rw [hg] at hR
     simp only [jcB _ c.toNat_lt] at hR
     refine Or.inl ⟨c, rfl, ?_⟩
     cases h2 : isS 2 c.toNat with
     | true => rw [h2] at hR; exact Or.inl ⟨rfl, hR⟩
     | false =>
       cases h4 : isS 4 c.toNat with
       | true => rw [h2, h4] at hR; exact Or.inr (Or.inl ⟨rfl, rfl, hR⟩)
       | false => rw [h2, h4] at hR; exact Or.inr (Or.inr ⟨rfl, rfl, hR⟩)
def Ko (s : List UInt8) (a ln : Nat) : (Nat × Nat) ⊕ (Nat × Nat) -> List IVal × List IVal
 | .inl f => (TC 0 a ln [] 0, [I f.1, I f.2])
 | .inr (ed, v) => (TC 2 a ln ((s.take ed).drop a) v, [I 0, I 0])
set_option maxRecDepth 20000 in
theorem Xu (H : FOne F) (hl : s.length <= 20000) {a ln ed vv : Nat} {f0 : Nat -> Option (Nat × IVal)} {R : Option (IExit × St)} {wr : List (Nat × Bool)} {Rn : (Nat × Nat) ⊕ (Nat × Nat)} (hE : evw F yt ⟨E 14 18 6 [] (base f0), S52 σ (TC 0 0 0 [] 0) [I 0, I 0] (TC 0 a ln [] 0), wr⟩ = R)
   (hR : Rn = if 4294967296 <= vv then .inl (10, a) else match s[ed]? with
     | some c => if isS 6 c.toNat then .inl (7, ed) else .inr (ed, vv)
     | none => .inr (ed, vv)) (ha : a <= ed) (he : ed <= s.length) (e0 : f0 0 = some (0, .str s)) (e1 : f0 1 = some (1, I a)) (e4 : f0 4 = some (4, .ptr σ.length 0)) (e5 : f0 5 = some (5, .ptr (σ.length + 1) 0)) (e6 : f0 6 = some (6, .ptr (σ.length + 2) 0)) (e9 : f0 9 = some (9, I ((min vv C40 : Nat) : Int))) (e10 : f0 10 = some (10, I ed)) (hw : Fl wr) (hg : Ge σ.length wr) :
   ∃ f1 wr1 x, Fl wr1 /\ Ge σ.length wr1 /\ f1 4 = some (4, .ptr σ.length 0) /\ f1 5 = some (5, .ptr (σ.length + 1) 0) /\ R = some (.ret, ⟨E 14 18 6 [] (base f1), S52 σ (Ko s a ln Rn).1 (Ko s a ln Rn).2 x, wr1⟩) := by
 have f2 : qD [.int .i64 0, .int .i64 0] [] = some [I 0, I 0] := rfl
 have f2t : qD [.int .i64 0, .int .i64 0] [(0, 1, I 10), (1, 1, I a)] = some [I 10, I a] := rfl
 have f2e : qD [.int .i64 0, .int .i64 0] [(0, 1, I 7), (1, 1, I ed)] = some [I 7, I ed] := rfl
 have tcu : ∀ k (t : List UInt8) n, (TC k a ln t n).map un1 = TC k a ln t n := fun _ _ _ => rfl
 have d3 : (0 : Int) <= (a : Int) := by omega
 have d6 : (0 : Int) <= (ed : Int) := by omega
 have hC : C40 = 1099511627776 := rfl
 rcases Ya hR with ⟨hv, rfl⟩ | ⟨hv, ⟨c, hge, hh⟩ | ⟨hge, rfl⟩⟩
 . have dv : decide (((min vv C40 : Nat) : Int) ≥ 4294967296) = true := rB (by omega)
   simp only [yt, e0, e1, e4, e5, e6, e9, e10, dv, f2t, tcu, tk5, tk2, tC, tM, jk, jA, Option.toList, jp, nat, j0, jO, jY, jr, lc0, lc1, jD, jE, jF, jG, j5, j6, ju, jt, jv, zV, zS, jC, jQ, jb, jh, jU, je, jd, jx, jR, jj, ji, jo, jP, jy, jw, Ts.fill, jV, jT, jf, jW, jn, jl, jg, jc, getAll, stepCall, jm, unI, Opd.get, jB, tag, jz, ja, jN, rv, bin, jX, Nat.reduceAdd, Nat.reduceSub, Nat.reduceMul, Nat.reduceDiv, Nat.reduceMod, Nat.reducePow, Nat.reduceLT, Nat.reduceLeDiff, Nat.reduceEqDiff, Nat.reduceBEq, Nat.reduceBNe, reduceIte, Int.reduceEq, Int.reduceLT, Int.reduceLE, Int.reduceNeg, Int.reduceToNat, Int.reduceMul, Int.reduceAdd, Int.reduceSub, Int.reduceBEq, Int.reduceBNe, reduceCtorEq] at hE
   exact ⟨_, _, _, by simpa using hw, by repeat (first | exact hg | apply qc (by omega)), (by first | exact e4 | rfl), (by first | exact e5 | rfl), hE.symm⟩
 . have dv : decide (((min vv C40 : Nat) : Int) ≥ 4294967296) = false := rE (by omega)
   have hlt := (List.getElem?_eq_some_iff.1 hge).1
   have dl : decide ((ed : Int) < ((s.length : Nat) : Int)) = true := rB (by omega)
   have u11 := fun τ => zx H.h11 c.toNat_lt (σ := τ)
   have u10 := fun τ => JG H.h10 c.toNat_lt (σ := τ)
   have hmin : min vv C40 = vv := by omega
   rcases hh with ⟨h2, rfl⟩ | ⟨h2, h4, rfl⟩ | ⟨h2, h4, rfl⟩
   . rw [h2] at u11
     simp only [yt, e0, e1, e4, e5, e6, e9, e10, dv, dl, d6, hge, u11, f2e, tcu, tk5, tk2, tC, tM, rI, jk, jA, Option.toList, jp, nat, j0, jO, jY, jr, lc0, lc1, jD, jE, jF, jG, j5, j6, ju, jt, jv, zV, zS, jC, jQ, jb, jh, jU, je, jd, jx, jR, jj, ji, jo, jP, jy, jw, Ts.fill, jV, jT, jf, jW, jn, jl, jg, jc, getAll, stepCall, jm, unI, Opd.get, jB, tag, jz, ja, jN, rv, bin, jX, Nat.reduceAdd, Nat.reduceSub, Nat.reduceMul, Nat.reduceDiv, Nat.reduceMod, Nat.reducePow, Nat.reduceLT, Nat.reduceLeDiff, Nat.reduceEqDiff, Nat.reduceBEq, Nat.reduceBNe, reduceIte, Int.reduceEq, Int.reduceLT, Int.reduceLE, Int.reduceNeg, Int.reduceToNat, Int.reduceMul, Int.reduceAdd, Int.reduceSub, Int.reduceBEq, Int.reduceBNe, reduceCtorEq] at hE
     exact ⟨_, _, _, by simpa using hw, by repeat (first | exact hg | apply qc (by omega)), (by first | exact e4 | rfl), (by first | exact e5 | rfl), hE.symm⟩
   . rw [h2] at u11
     rw [h4] at u10
     simp only [yt, e0, e1, e4, e5, e6, e9, e10, dv, dl, d6, hge, u11, u10, f2e, tcu, tk5, tk2, tC, tM, rI, jk, jA, Option.toList, jp, nat, j0, jO, jY, jr, lc0, lc1, jD, jE, jF, jG, j5, j6, ju, jt, jv, zV, zS, jC, jQ, jb, jh, jU, je, jd, jx, jR, jj, ji, jo, jP, jy, jw, Ts.fill, jV, jT, jf, jW, jn, jl, jg, jc, getAll, stepCall, jm, unI, Opd.get, jB, tag, jz, ja, jN, rv, bin, jX, Nat.reduceAdd, Nat.reduceSub, Nat.reduceMul, Nat.reduceDiv, Nat.reduceMod, Nat.reducePow, Nat.reduceLT, Nat.reduceLeDiff, Nat.reduceEqDiff, Nat.reduceBEq, Nat.reduceBNe, reduceIte, Int.reduceEq, Int.reduceLT, Int.reduceLE, Int.reduceNeg, Int.reduceToNat, Int.reduceMul, Int.reduceAdd, Int.reduceSub, Int.reduceBEq, Int.reduceBNe, reduceCtorEq] at hE
     exact ⟨_, _, _, by simpa using hw, by repeat (first | exact hg | apply qc (by omega)), (by first | exact e4 | rfl), (by first | exact e5 | rfl), hE.symm⟩
   . rw [h2] at u11
     rw [h4] at u10
     rw [hmin] at e9 dv
     simp only [yt, e0, e1, e4, e5, e6, e9, e10, dv, dl, d3, d6, ha, he, hge, u11, u10, f2, tcu, tk5, tk2, List.zip_nil_left, rI, jk, jA, Option.toList, jp, nat, j0, jO, jY, jr, lc0, lc1, jD, jE, jF, jG, j5, j6, ju, jt, jv, zV, zS, jC, jQ, jb, jh, jU, je, jd, jx, jR, jj, ji, jo, jP, jy, jw, Ts.fill, jV, jT, jf, jW, jn, jl, jg, jc, getAll, stepCall, jm, unI, Opd.get, jB, tag, jz, ja, jN, rv, bin, jX, Nat.reduceAdd, Nat.reduceSub, Nat.reduceMul, Nat.reduceDiv, Nat.reduceMod, Nat.reducePow, Nat.reduceLT, Nat.reduceLeDiff, Nat.reduceEqDiff, Nat.reduceBEq, Nat.reduceBNe, reduceIte, Int.reduceEq, Int.reduceLT, Int.reduceLE, Int.reduceNeg, Int.reduceToNat, Int.reduceMul, Int.reduceAdd, Int.reduceSub, Int.reduceBEq, Int.reduceBNe, reduceCtorEq] at hE
     exact ⟨_, _, _, by simpa using hw, by repeat (first | exact hg | apply qc (by omega)), (by first | exact e4 | rfl), (by first | exact e5 | rfl), hE.symm⟩
 . have hlt : ¬ ed < s.length := fun h => by rw [rG h] at hge; cases hge
   have hmin : min vv C40 = vv := by omega
   rw [hmin] at e9
   have dv : decide ((vv : Int) ≥ 4294967296) = false := rE (by omega)
   have dl : decide ((ed : Int) < ((s.length : Nat) : Int)) = false := rE (by omega)
   simp only [yt, e0, e1, e4, e5, e6, e9, e10, dv, dl, d3, d6, ha, he, f2, tcu, tk5, tk2, List.zip_nil_left, rI, jk, jA, Option.toList, jp, nat, j0, jO, jY, jr, lc0, lc1, jD, jE, jF, jG, j5, j6, ju, jt, jv, zV, zS, jC, jQ, jb, jh, jU, je, jd, jx, jR, jj, ji, jo, jP, jy, jw, Ts.fill, jV, jT, jf, jW, jn, jl, jg, jc, getAll, stepCall, jm, unI, Opd.get, jB, tag, jz, ja, jN, rv, bin, jX, Nat.reduceAdd, Nat.reduceSub, Nat.reduceMul, Nat.reduceDiv, Nat.reduceMod, Nat.reducePow, Nat.reduceLT, Nat.reduceLeDiff, Nat.reduceEqDiff, Nat.reduceBEq, Nat.reduceBNe, reduceIte, Int.reduceEq, Int.reduceLT, Int.reduceLE, Int.reduceNeg, Int.reduceToNat, Int.reduceMul, Int.reduceAdd, Int.reduceSub, Int.reduceBEq, Int.reduceBNe, reduceCtorEq] at hE
   exact ⟨_, _, _, by simpa using hw, by repeat (first | exact hg | apply qc (by omega)), (by first | exact e4 | rfl), (by first | exact e5 | rfl), hE.symm⟩
set_option maxRecDepth 20000 in
theorem jeS (H : FOne F) (hl : s.length <= 20000) {a : Nat} {c : UInt8} (hg : s[a]? = some c) (h2 : isS 2 c.toNat = false) (h4 : isS 4 c.toNat = true) : cfw F (.f 52) [.str s, I a] σ = some ⟨false, XT s a, σ, []⟩ := by
 rw [cfw_of Ye H.h52, jw]
 have hlt := (List.getElem?_eq_some_iff.1 hg).1
 have hc : c.toNat < 256 := c.toNat_lt
 have u18 := fun τ => KD H.h18 hl (a : Int) (σ := τ)
 simp only [rI] at u18
 have u11 := fun τ => zx H.h11 hc (σ := τ)
 have u10 := fun τ => JG H.h10 hc (σ := τ)
 rw [h2] at u11
 rw [h4] at u10
 have d3 : (0 : Int) <= (a : Int) := by omega
 have d4 : (0 : Int) <= ((a + 1 : Nat) : Int) := by omega
 have f5 : qD [.int .i64 0, .int .i64 0, .int .i64 0, .str [], .int .i64 0] [(1, 1, I a), (2, 1, I ((1 + nl (s.take a) : Nat) : Int))] = some (TC 0 a (1 + nl (s.take a)) [] 0) := rfl
 have tcu : ∀ k (t : List UInt8) n, (TC k a (1 + nl (s.take a)) t n).map un1 = TC k a (1 + nl (s.take a)) t n := fun _ _ _ => rfl
 have u71 := fun τ => Xd H.h71 H.h83 H.h10 hl (Or.inl rfl) (a := a) (σ := τ) (by omega)
 have u71 : ∀ τ, cfw F (.f 71) [.str s, I a, .int .i64 10] τ = _ := u71
 have w1 : IntKind.i64.wrap ((a : Int) + 1) = ((a + 1 : Nat) : Int) := yU (by omega)
 have w2 : IntKind.i64.wrap ((a : Int) + 2) = ((a + 2 : Nat) : Int) := by rw [qe (by omega) (by omega)]; omega
 have hd := kL hg
 have hon : ∀ r, zk s a = r -> Jn s a = match r with | .inl f => .inl f | .inr (ed, v) => .inr (2, ed, v) := by
   intro r hr
   unfold Jn; rw [hg]; simp only [h2, h4, hr, r8, if_false, if_true] <;> rfl
 have fin : ∀ (Rn : (Nat × Nat) ⊕ (Nat × Nat)), zk s a = Rn -> XT s a = .tup [.agg (Ko s a (1 + nl (s.take a)) Rn).1, .agg (Ko s a (1 + nl (s.take a)) Rn).2] := by
   intro Rn hr
   unfold XT
   rw [hon _ hr]
   cases Rn with
   | inl f => rfl
   | inr v => rfl
 have aw : ∀ Rn, (Ko s a (1 + nl (s.take a)) Rn).1.length = 5 /\ (Ko s a (1 + nl (s.take a)) Rn).2.length = 2 /\ (Ko s a (1 + nl (s.take a)) Rn).1.map un1 = (Ko s a (1 + nl (s.take a)) Rn).1 /\ (Ko s a (1 + nl (s.take a)) Rn).2.map un1 = (Ko s a (1 + nl (s.take a)) Rn).2 /\ (Ko s a (1 + nl (s.take a)) Rn).1.all nr1 = true /\ (Ko s a (1 + nl (s.take a)) Rn).2.all nr1 = true := by
   intro Rn
   cases Rn with
   | inl f => exact ⟨rfl, rfl, rfl, rfl, rfl, rfl⟩
   | inr v => exact ⟨rfl, rfl, rfl, rfl, rfl, rfl⟩
 have c48 : c.toNat = 48 -> ((c.toNat : Int) == 48) = true := fun h => by rw [beq_iff_eq]; omega
 have c48n : c.toNat ≠ 48 -> ((c.toNat : Int) == 48) = false := fun h => by rw [beq_eq_false_iff_ne]; omega
 cases hx : [48, 120].isPrefixOf (s.drop a) with
 | true =>
   have hpl := Zv hx
   rw [List.length_drop] at hpl
   obtain ⟨d, hg2⟩ := qf (l := s) (i := a + 1) (by omega)
   have hcd : c.toNat = 48 /\ d.toNat = 120 := by
     rw [hd, kL hg2] at hx
     simp only [List.isPrefixOf, Bool.and_eq_true, beq_iff_eq] at hx
     obtain ⟨h48, h120, _⟩ := hx
     exact ⟨by rw [<- h48]; rfl, by rw [<- h120]; rfl⟩
   have b48 := c48 hcd.1
   have b120 : ((d.toNat : Int) == 120) = true := by rw [beq_iff_eq]; omega
   have dl : decide (((a + 1 : Nat) : Int) < ((s.length : Nat) : Int)) = true := rB (by omega)
   have u16 := fun τ => Xd H.h71 H.h83 H.h10 hl (Or.inr rfl) (a := a + 2) (σ := τ) (by omega)
   have u16 : ∀ τ, cfw F (.f 71) [.str s, I (a + 2 : Nat), .int .i64 16] τ = _ := u16
   have hP0 : zk s a = Vx s a 16 2 := by unfold zk; rw [hx]; rfl
   have hEq := Zk s a 16 2 (by omega)
   have hdl := Ks (16 : Nat) (s.drop (a + 2))
   rw [List.length_drop] at hdl
   by_cases h0 : dgs (16 : Nat) (s.drop (a + 2)) = 0
   . rw [if_pos h0] at hEq
     have ho := hon _ (hP0.trans hEq)
     have be : (((a + 2 + dgs (16 : Nat) (s.drop (a + 2)) : Nat) : Int) == ((a + 2 : Nat) : Int)) = true := by rw [beq_iff_eq]; omega
     have be : (((a + 2 + dgs (16 : Int) (s.drop (a + 2)) : Nat) : Int) == ((a + 2 : Nat) : Int)) = true := be
     have f2e : qD [.int .i64 0, .int .i64 0] [(0, 1, I 7), (1, 1, I ((a + 2 + dgs (16 : Int) (s.drop (a + 2)) : Nat) : Int))] = some [I 7, I ((a + 2 + dgs (16 : Int) (s.drop (a + 2)) : Nat) : Int)] := rfl
     simp only [Ye, XT, ho, u18, u11, u10, u71, u16, hg, hg2, d3, d4, dl, b48, b120, be, w1, w2, f5, f2e, tcu, tk5, tk2, tC, tM, rI, jk, jA, Option.toList, jp, nat, j0, jO, jY, jr, lc0, lc1, jD, jE, jF, jG, j5, j6, ju, jt, jv, zV, zS, jC, jQ, jb, jh, jU, je, jd, jx, jR, jj, ji, jo, jP, jy, jw, Ts.fill, jV, jT, jf, jW, jn, jl, jg, jc, getAll, stepCall, jm, unI, Opd.get, jB, tag, jz, ja, jN, rv, bin, jX, Nat.reduceAdd, Nat.reduceSub, Nat.reduceMul, Nat.reduceDiv, Nat.reduceMod, Nat.reducePow, Nat.reduceLT, Nat.reduceLeDiff, Nat.reduceEqDiff, Nat.reduceBEq, Nat.reduceBNe, reduceIte, Int.reduceEq, Int.reduceLT, Int.reduceLE, Int.reduceNeg, Int.reduceToNat, Int.reduceMul, Int.reduceAdd, Int.reduceSub, Int.reduceBEq, Int.reduceBNe, reduceCtorEq]
     done
   . rw [if_neg h0] at hEq
     have hRn := hP0.trans hEq
     have hP : zk s a = zk s a := rfl
     have be : (((a + 2 + dgs (16 : Nat) (s.drop (a + 2)) : Nat) : Int) == ((a + 2 : Nat) : Int)) = false := by rw [beq_eq_false_iff_ne]; omega
     have be : (((a + 2 + dgs (16 : Int) (s.drop (a + 2)) : Nat) : Int) == ((a + 2 : Nat) : Int)) = false := be
     simp only [Ye, u18, u11, u10, u71, u16, hg, hg2, d3, d4, dl, b48, b120, be, w1, w2, f5, tC, tM, rI, jk, jA, Option.toList, jp, nat, j0, jO, jY, jr, lc0, lc1, jD, jE, jF, jG, j5, j6, ju, jt, jv, zV, zS, jC, jQ, jb, jh, jU, je, jd, jx, jR, jj, ji, jo, jP, jy, jw, Ts.fill, jV, jT, jf, jW, jn, jl, jg, jc, getAll, stepCall, jm, unI, Opd.get, jB, tag, jz, ja, jN, rv, bin, jX, Nat.reduceAdd, Nat.reduceSub, Nat.reduceMul, Nat.reduceDiv, Nat.reduceMod, Nat.reducePow, Nat.reduceLT, Nat.reduceLeDiff, Nat.reduceEqDiff, Nat.reduceBEq, Nat.reduceBNe, reduceIte, Int.reduceEq, Int.reduceLT, Int.reduceLE, Int.reduceNeg, Int.reduceToNat, Int.reduceMul, Int.reduceAdd, Int.reduceSub, Int.reduceBEq, Int.reduceBNe, reduceCtorEq]
     generalize hE : evw F yt _ = R
     obtain ⟨f1, wr1, x, gw, gg, i4, i5, rfl⟩ := Xu H hl (a := a) (ln := 1 + nl (s.take a)) (vv := tv 16 0 ((s.drop (a + 2)).take (dgs (16 : Nat) (s.drop (a + 2))))) (ed := a + 2 + dgs (16 : Nat) (s.drop (a + 2))) hE hRn (by omega) (by omega) (by rfl) (by rfl) (by rfl) (by rfl) (by rfl) (by rfl) (by rfl) (by simp) (by repeat (first | exact Ky | apply qc (by omega)))
     rw [fin _ hP]
     obtain ⟨a1, a2, a3, a4, a5, a6⟩ := aw (zk s a)
     generalize (Ko s a (1 + nl (s.take a)) (zk s a)).1 = X at *
     generalize (Ko s a (1 + nl (s.take a)) (zk s a)).2 = Y at *
     have t1 : X.take 5 = X := rU (by omega)
     have t2 : Y.take 2 = Y := rU (by omega)
     simp only [i4, i5, a1, a2, a3, a4, a5, a6, t1, t2, j8 gw, jA, Option.toList, jp, nat, j0, jO, jY, jr, lc0, lc1, jD, jE, jF, jG, j5, j6, ju, jt, jv, zV, zS, jC, jQ, jb, jh, jU, je, jk, jd, jx, jR, jj, ji, jo, jP, jy, jw, Ts.fill, jV, jT, jf, jW, jn, jl, jg, jc, getAll, stepCall, jm, unI, Opd.get, jB, tag, jz, ja, jN, rv, bin, jX, Nat.reduceAdd, Nat.reduceSub, Nat.reduceMul, Nat.reduceDiv, Nat.reduceMod, Nat.reducePow, Nat.reduceLT, Nat.reduceLeDiff, Nat.reduceEqDiff, Nat.reduceBEq, Nat.reduceBNe, reduceIte, Int.reduceEq, Int.reduceLT, Int.reduceLE, Int.reduceNeg, Int.reduceToNat, Int.reduceMul, Int.reduceAdd, Int.reduceSub, Int.reduceBEq, Int.reduceBNe, reduceCtorEq]
     rw [vy gg]
 | false =>
   have hcond : (∃ d, s[a + 1]? = some d /\ c.toNat = 48 /\ (a + 1 < s.length) /\ ((d.toNat : Int) == 120) = false) \/ (c.toNat = 48 /\ ¬ a + 1 < s.length) \/ c.toNat ≠ 48 := by
     by_cases h48 : c.toNat = 48
     . by_cases hl2 : a + 1 < s.length
       . obtain ⟨d, hg2⟩ := qf hl2
         refine Or.inl ⟨d, hg2, h48, hl2, ?_⟩
         rw [beq_eq_false_iff_ne]
         intro e
         have hd120 : d = 120 := UInt8.toNat_inj.1 (by show d.toNat = 120; omega)
         have hc48 : c = 48 := UInt8.toNat_inj.1 h48
         rw [hd, kL hg2, hd120, hc48] at hx
         simp [List.isPrefixOf] at hx
       . exact Or.inr (Or.inl ⟨h48, hl2⟩)
     . exact Or.inr (Or.inr h48)
   have hP0 : zk s a = Vx s a 10 0 := by unfold zk; rw [hx]; rfl
   have hP : zk s a = zk s a := rfl
   have hEq := Zk s a 10 0 (by omega)
   have hdp : dgs (10 : Nat) (s.drop a) ≠ 0 := by
     have ho : oth 10 c.toNat = false := by
       rw [jeX _ hc, <- jcA _ hc, h4]; rfl
     rw [hd, zp]
     show (if oth 10 c.toNat = true then 0 else _) ≠ 0
     rw [ho, if_neg (by simp)]; omega
   rw [Nat.add_zero, if_neg hdp] at hEq
   have hRn := hP0.trans hEq
   have hdl := Ks (10 : Nat) (s.drop a)
   rw [List.length_drop] at hdl
   rcases hcond with ⟨d, hg2, e48, hl2, e120⟩ | ⟨e48, hl2⟩ | e48
   . have b48 := c48 e48
     have dl : decide (((a + 1 : Nat) : Int) < ((s.length : Nat) : Int)) = true := rB (by omega)
     simp only [Ye, u18, u11, u10, u71, hg, hg2, d3, d4, dl, b48, e120, w1, f5, tC, tM, rI, jk, jA, Option.toList, jp, nat, j0, jO, jY, jr, lc0, lc1, jD, jE, jF, jG, j5, j6, ju, jt, jv, zV, zS, jC, jQ, jb, jh, jU, je, jd, jx, jR, jj, ji, jo, jP, jy, jw, Ts.fill, jV, jT, jf, jW, jn, jl, jg, jc, getAll, stepCall, jm, unI, Opd.get, jB, tag, jz, ja, jN, rv, bin, jX, Nat.reduceAdd, Nat.reduceSub, Nat.reduceMul, Nat.reduceDiv, Nat.reduceMod, Nat.reducePow, Nat.reduceLT, Nat.reduceLeDiff, Nat.reduceEqDiff, Nat.reduceBEq, Nat.reduceBNe, reduceIte, Int.reduceEq, Int.reduceLT, Int.reduceLE, Int.reduceNeg, Int.reduceToNat, Int.reduceMul, Int.reduceAdd, Int.reduceSub, Int.reduceBEq, Int.reduceBNe, reduceCtorEq]
     generalize hE : evw F yt _ = R
     obtain ⟨f1, wr1, x, gw, gg, i4, i5, rfl⟩ := Xu H hl (a := a) (ln := 1 + nl (s.take a)) (vv := tv 10 0 ((s.drop a).take (dgs (10 : Nat) (s.drop a)))) (ed := a + dgs (10 : Nat) (s.drop a)) hE hRn (by omega) (by omega) (by rfl) (by rfl) (by rfl) (by rfl) (by rfl) (by rfl) (by rfl) (by simp) (by repeat (first | exact Ky | apply qc (by omega)))
     rw [fin _ hP]
     obtain ⟨a1, a2, a3, a4, a5, a6⟩ := aw (zk s a)
     generalize (Ko s a (1 + nl (s.take a)) (zk s a)).1 = X at *
     generalize (Ko s a (1 + nl (s.take a)) (zk s a)).2 = Y at *
     have t1 : X.take 5 = X := rU (by omega)
     have t2 : Y.take 2 = Y := rU (by omega)
     simp only [i4, i5, a1, a2, a3, a4, a5, a6, t1, t2, j8 gw, jA, Option.toList, jp, nat, j0, jO, jY, jr, lc0, lc1, jD, jE, jF, jG, j5, j6, ju, jt, jv, zV, zS, jC, jQ, jb, jh, jU, je, jk, jd, jx, jR, jj, ji, jo, jP, jy, jw, Ts.fill, jV, jT, jf, jW, jn, jl, jg, jc, getAll, stepCall, jm, unI, Opd.get, jB, tag, jz, ja, jN, rv, bin, jX, Nat.reduceAdd, Nat.reduceSub, Nat.reduceMul, Nat.reduceDiv, Nat.reduceMod, Nat.reducePow, Nat.reduceLT, Nat.reduceLeDiff, Nat.reduceEqDiff, Nat.reduceBEq, Nat.reduceBNe, reduceIte, Int.reduceEq, Int.reduceLT, Int.reduceLE, Int.reduceNeg, Int.reduceToNat, Int.reduceMul, Int.reduceAdd, Int.reduceSub, Int.reduceBEq, Int.reduceBNe, reduceCtorEq]
     rw [vy gg]
   . have b48 := c48 e48
     have dl : decide (((a + 1 : Nat) : Int) < ((s.length : Nat) : Int)) = false := rE (by omega)
     simp only [Ye, u18, u11, u10, u71, hg, d3, d4, dl, b48, w1, f5, tC, tM, rI, jk, jA, Option.toList, jp, nat, j0, jO, jY, jr, lc0, lc1, jD, jE, jF, jG, j5, j6, ju, jt, jv, zV, zS, jC, jQ, jb, jh, jU, je, jd, jx, jR, jj, ji, jo, jP, jy, jw, Ts.fill, jV, jT, jf, jW, jn, jl, jg, jc, getAll, stepCall, jm, unI, Opd.get, jB, tag, jz, ja, jN, rv, bin, jX, Nat.reduceAdd, Nat.reduceSub, Nat.reduceMul, Nat.reduceDiv, Nat.reduceMod, Nat.reducePow, Nat.reduceLT, Nat.reduceLeDiff, Nat.reduceEqDiff, Nat.reduceBEq, Nat.reduceBNe, reduceIte, Int.reduceEq, Int.reduceLT, Int.reduceLE, Int.reduceNeg, Int.reduceToNat, Int.reduceMul, Int.reduceAdd, Int.reduceSub, Int.reduceBEq, Int.reduceBNe, reduceCtorEq]
     generalize hE : evw F yt _ = R
     obtain ⟨f1, wr1, x, gw, gg, i4, i5, rfl⟩ := Xu H hl (a := a) (ln := 1 + nl (s.take a)) (vv := tv 10 0 ((s.drop a).take (dgs (10 : Nat) (s.drop a)))) (ed := a + dgs (10 : Nat) (s.drop a)) hE hRn (by omega) (by omega) (by rfl) (by rfl) (by rfl) (by rfl) (by rfl) (by rfl) (by rfl) (by simp) (by repeat (first | exact Ky | apply qc (by omega)))
     rw [fin _ hP]
     obtain ⟨a1, a2, a3, a4, a5, a6⟩ := aw (zk s a)
     generalize (Ko s a (1 + nl (s.take a)) (zk s a)).1 = X at *
     generalize (Ko s a (1 + nl (s.take a)) (zk s a)).2 = Y at *
     have t1 : X.take 5 = X := rU (by omega)
     have t2 : Y.take 2 = Y := rU (by omega)
     simp only [i4, i5, a1, a2, a3, a4, a5, a6, t1, t2, j8 gw, jA, Option.toList, jp, nat, j0, jO, jY, jr, lc0, lc1, jD, jE, jF, jG, j5, j6, ju, jt, jv, zV, zS, jC, jQ, jb, jh, jU, je, jk, jd, jx, jR, jj, ji, jo, jP, jy, jw, Ts.fill, jV, jT, jf, jW, jn, jl, jg, jc, getAll, stepCall, jm, unI, Opd.get, jB, tag, jz, ja, jN, rv, bin, jX, Nat.reduceAdd, Nat.reduceSub, Nat.reduceMul, Nat.reduceDiv, Nat.reduceMod, Nat.reducePow, Nat.reduceLT, Nat.reduceLeDiff, Nat.reduceEqDiff, Nat.reduceBEq, Nat.reduceBNe, reduceIte, Int.reduceEq, Int.reduceLT, Int.reduceLE, Int.reduceNeg, Int.reduceToNat, Int.reduceMul, Int.reduceAdd, Int.reduceSub, Int.reduceBEq, Int.reduceBNe, reduceCtorEq]
     rw [vy gg]
   . have b48 := c48n e48
     simp only [Ye, u18, u11, u10, u71, hg, d3, d4, b48, w1, f5, tC, tM, rI, jk, jA, Option.toList, jp, nat, j0, jO, jY, jr, lc0, lc1, jD, jE, jF, jG, j5, j6, ju, jt, jv, zV, zS, jC, jQ, jb, jh, jU, je, jd, jx, jR, jj, ji, jo, jP, jy, jw, Ts.fill, jV, jT, jf, jW, jn, jl, jg, jc, getAll, stepCall, jm, unI, Opd.get, jB, tag, jz, ja, jN, rv, bin, jX, Nat.reduceAdd, Nat.reduceSub, Nat.reduceMul, Nat.reduceDiv, Nat.reduceMod, Nat.reducePow, Nat.reduceLT, Nat.reduceLeDiff, Nat.reduceEqDiff, Nat.reduceBEq, Nat.reduceBNe, reduceIte, Int.reduceEq, Int.reduceLT, Int.reduceLE, Int.reduceNeg, Int.reduceToNat, Int.reduceMul, Int.reduceAdd, Int.reduceSub, Int.reduceBEq, Int.reduceBNe, reduceCtorEq]
     generalize hE : evw F yt _ = R
     obtain ⟨f1, wr1, x, gw, gg, i4, i5, rfl⟩ := Xu H hl (a := a) (ln := 1 + nl (s.take a)) (vv := tv 10 0 ((s.drop a).take (dgs (10 : Nat) (s.drop a)))) (ed := a + dgs (10 : Nat) (s.drop a)) hE hRn (by omega) (by omega) (by rfl) (by rfl) (by rfl) (by rfl) (by rfl) (by rfl) (by rfl) (by simp) (by repeat (first | exact Ky | apply qc (by omega)))
     rw [fin _ hP]
     obtain ⟨a1, a2, a3, a4, a5, a6⟩ := aw (zk s a)
     generalize (Ko s a (1 + nl (s.take a)) (zk s a)).1 = X at *
     generalize (Ko s a (1 + nl (s.take a)) (zk s a)).2 = Y at *
     have t1 : X.take 5 = X := rU (by omega)
     have t2 : Y.take 2 = Y := rU (by omega)
     simp only [i4, i5, a1, a2, a3, a4, a5, a6, t1, t2, j8 gw, jA, Option.toList, jp, nat, j0, jO, jY, jr, lc0, lc1, jD, jE, jF, jG, j5, j6, ju, jt, jv, zV, zS, jC, jQ, jb, jh, jU, je, jk, jd, jx, jR, jj, ji, jo, jP, jy, jw, Ts.fill, jV, jT, jf, jW, jn, jl, jg, jc, getAll, stepCall, jm, unI, Opd.get, jB, tag, jz, ja, jN, rv, bin, jX, Nat.reduceAdd, Nat.reduceSub, Nat.reduceMul, Nat.reduceDiv, Nat.reduceMod, Nat.reducePow, Nat.reduceLT, Nat.reduceLeDiff, Nat.reduceEqDiff, Nat.reduceBEq, Nat.reduceBNe, reduceIte, Int.reduceEq, Int.reduceLT, Int.reduceLE, Int.reduceNeg, Int.reduceToNat, Int.reduceMul, Int.reduceAdd, Int.reduceSub, Int.reduceBEq, Int.reduceBNe, reduceCtorEq]
     rw [vy gg]
end
end Go.Idl.Lx
namespace Go.Idl.Lx
open Go Go.Idl Go.Idl.En
variable {F : kb}
theorem jcT {s : List UInt8} {a ba hd : Nat} {f : Nat × Nat} (h : Vx s a ba hd = .inl f) : f.1 ≠ 0 := by
 unfold Vx at h
 simp only at h
 split at h
 . cases h; simp
 . split at h
   . cases h; simp
   . split at h
     . cases h; simp
     . split at h
       . split at h
         . cases h; simp
         . cases h
       . cases h
theorem jbN {s : List UInt8} {a : Nat} {f : Nat × Nat} (h : Jn s a = .inl f) : f.1 ≠ 0 := by
 unfold Jn at h
 split at h
 . cases h; simp
 . split at h
   . split at h
     . cases h; simp
     . cases h
   . split at h
     . split at h
       . rename_i e
         cases h
         unfold zk at e
         split at e <;> exact jcT e
       . cases h
     . split at h
       . cases h
       . cases h; simp
theorem Y2 (s : List UInt8) : ∀ m a f, (yY s m a).2 = some f -> f.1 ≠ 0
 | 0, a, f, h => by simp [yY] at h
 | m + 1, a, f, h => by
   rw [yY] at h
   split at h
   . split at h
     . rename_i ho
       obtain rfl := rY h
       exact jbN ho
     . exact Y2 s m _ f h
   . cases h
structure FRef (F : kb) : Prop extends FOne F where
 h32 : F 32 = some jfk
 h33 : F 33 = some jec
 h51 : F 51 = some jeg
section
variable {σ : List IObj} {s : List UInt8}
theorem jf4 (H : FOne F) (hl : s.length <= 20000) {a : Nat} {c : UInt8} (hg : s[a]? = some c) (σ : List IObj) : cfw F (.f 52) [.str s, I a] σ = some ⟨false, XT s a, σ, []⟩ := by
 cases h2 : isS 2 c.toNat with
 | true => exact jeU H hl hg h2
 | false =>
   cases h4 : isS 4 c.toNat with
   | true => exact jeS H hl hg h2 h4
   | false => exact jeT H hl hg h2 h4
set_option maxRecDepth 20000 in
theorem jeB (H : FRef F) (hl : s.length <= 20000) : ∀ (m a : Nat) (g : List IObj) (f0 : Nat -> Option (Nat × IVal)) (wr : List (Nat × Bool)) (L : List IVal) (R : Option (IExit × St)), evw F (.loop yq) ⟨E 8 11 5 [] f0, σ ++ .cells [I 0, I 0] :: g, wr⟩ = R -> s.length - a < m -> a <= s.length -> L.length + (s.length - a) <= 50000 -> f0 0 = some (0, .str s) -> f0 3 = some (3, .ptr σ.length 0) -> f0 4 = some (4, Jt L) -> f0 5 = some (5, I a) -> Fl wr -> Ge σ.length wr ->
   ∃ f1 wr1 g1, Fl wr1 /\ Ge σ.length wr1 /\ f1 3 = some (3, .ptr σ.length 0) /\ match (yY s m a).2 with
     | none => R = some (.exit 0, ⟨E 8 11 5 [] (base f1), σ ++ .cells [I 0, I 0] :: g1, wr1⟩) /\ f1 0 = some (0, .str s) /\ f1 4 = some (4, Jt (L ++ (yY s m a).1.map Je))
     | some f => R = some (.ret, ⟨E 8 11 5 [] (base f1), σ ++ .cells [I f.1, I f.2] :: g1, wr1⟩) /\ f1 2 = some (2, .sl 5 true []) := by
 intro m
 induction m with
 | zero => intro a g f0 wr L R hE hm; omega
 | succ m ih =>
   intro a g f0 wr L R hE hm ha hL e0 e3 e4 e5 hw hg2
   change evw F (.loop yq) ⟨E 8 11 5 [] (base f0), σ ++ .cells [I 0, I 0] :: g, wr⟩ = R at hE
   by_cases hlt : a < s.length
   . obtain ⟨c, hg⟩ := qf hlt
     have d1 : decide ((a : Int) < ((s.length : Nat) : Int)) = true := rB (by omega)
     have u52 := fun τ => jf4 H.toFOne hl hg τ
     have eg : ∀ (x : IObj) (l : List IObj), σ ++ x :: g ++ l = σ ++ x :: (g ++ l) := fun x l => by simp
     have lg : ∀ (x : IObj), (σ ++ x :: g).length = σ.length + (1 + g.length) := fun x => by simp; omega
     have g1 : ∀ (x : IObj) (l : List IObj), (σ ++ x :: (g ++ l))[σ.length + (1 + g.length)]? = l[0]? := fun x l => by
       have := get_app0 (σ := σ ++ x :: g) (l := l); rwa [lg, eg] at this
     have g2 : ∀ (x : IObj) (l : List IObj), (σ ++ x :: (g ++ l))[σ.length + (1 + g.length) + 1]? = l[1]? := fun x l => by
       have := get_app (σ := σ ++ x :: g) (l := l) 1; rwa [lg, eg] at this
     have s1 : ∀ (x y : IObj) (l : List IObj), (σ ++ x :: (g ++ l)).set (σ.length + (1 + g.length)) y = σ ++ x :: (g ++ l.set 0 y) := fun x y l => by
       have := set_app0 (σ := σ ++ x :: g) (l := l) y; rwa [lg, eg, eg] at this
     have s2 : ∀ (x y : IObj) (l : List IObj), (σ ++ x :: (g ++ l)).set (σ.length + (1 + g.length) + 1) y = σ ++ x :: (g ++ l.set 1 y) := fun x y l => by
       have := set_app (σ := σ ++ x :: g) (l := l) 1 y; rwa [lg, eg, eg] at this
     rw [yY, if_pos hlt]
     rw [jI] at hE
     cases ho : Jn s a with
     | inl f =>
       have hf0 := jbN ho
       have bn : ((f.1 : Int) != 0) = true := by rw [bne_iff_ne]; omega
       simp only [XT, ho] at u52
       simp only [yq, e0, e3, e4, e5, d1, u52, bn, lg, eg, g1, g2, s1, s2, tk5, tk2, tI, jA, Option.toList, jp, nat, j0, jO, jY, jr, lc0, lc1, jD, jE, jF, jG, j5, j6, ju, jt, jv, zV, zS, jC, jQ, jb, jh, jU, je, jk, jd, jx, jR, jj, ji, jo, jP, jy, jw, Ts.fill, jV, jT, jf, jW, jn, jl, jg, jc, getAll, stepCall, jm, unI, Opd.get, jB, tag, jz, ja, jN, rv, bin, jX, Nat.reduceAdd, Nat.reduceSub, Nat.reduceMul, Nat.reduceDiv, Nat.reduceMod, Nat.reducePow, Nat.reduceLT, Nat.reduceLeDiff, Nat.reduceEqDiff, Nat.reduceBEq, Nat.reduceBNe, reduceIte, Int.reduceEq, Int.reduceLT, Int.reduceLE, Int.reduceNeg, Int.reduceToNat, Int.reduceMul, Int.reduceAdd, Int.reduceSub, Int.reduceBEq, Int.reduceBNe, reduceCtorEq] at hE
       exact ⟨_, _, _, by simpa using hw, by repeat (first | exact hg2 | apply qc (by omega)), (by first | exact e3 | rfl), hE.symm, (by rfl)⟩
     | inr v =>
       obtain ⟨k, ed, nn⟩ := v
       have hed := jbO ho
       have bn : ((0 : Int) != 0) = false := rfl
       simp only [XT, ho] at u52
       have w1 : (L.length + 1) * 48 <= 1099511627776 := by omega
       have w2 : L.length + 1 <= 1099511627776 := by omega
       have tl : ((s.take ed).drop a).length = ed - a := by rw [List.length_drop, tE]; omega
       have wa : IntKind.i64.wrap ((a : Int) + ((ed - a : Nat) : Int)) = (ed : Int) := by rw [qe (by omega) (by omega)]; omega
       have u51 := fun τ => Qm H.h51 hl (a := ed) (σ := τ) hed.2
       have hsk := Ji false (s.drop ed)
       rw [List.length_drop] at hsk
       have fin : ∀ (f1 : Nat -> Option (Nat × IVal)) (P : Option (Nat × Nat) -> List IVal -> Prop), (match (yY s m (ed + skN false (s.drop ed))).2 with
           | none => P none ((L ++ [Je ⟨k, a, 1 + nl (s.take a), (s.take ed).drop a, nn⟩]) ++ (yY s m (ed + skN false (s.drop ed))).1.map Je)
           | some f => P (some f) []) -> (match (yY s m (ed + skN false (s.drop ed))).2 with
           | none => P none (L ++ (⟨k, a, 1 + nl (s.take a), (s.take ed).drop a, nn⟩ :: (yY s m (ed + skN false (s.drop ed))).1).map Je)
           | some f => P (some f) []) := by
         intro f1 P h
         cases hx : (yY s m (ed + skN false (s.drop ed))).2 with
         | none => rw [hx] at h; simpa using h
         | some f => rw [hx] at h; exact h
       cases L with
       | nil =>
         simp only [yq, e0, e3, e4, e5, d1, u52, bn, lg, eg, g1, g2, s1, s2, tk5, tk2, tl, wa, u51, Jt, List.isEmpty, tI, jA, Option.toList, jp, nat, j0, jO, jY, jr, lc0, lc1, jD, jE, jF, jG, j5, j6, ju, jt, jv, zV, zS, jC, jQ, jb, jh, jU, je, jk, jd, jx, jR, jj, ji, jo, jP, jy, jw, Ts.fill, jV, jT, jf, jW, jn, jl, jg, jc, getAll, stepCall, jm, unI, Opd.get, jB, tag, jz, ja, jN, rv, bin, jX, Nat.reduceAdd, Nat.reduceSub, Nat.reduceMul, Nat.reduceDiv, Nat.reduceMod, Nat.reducePow, Nat.reduceLT, Nat.reduceLeDiff, Nat.reduceEqDiff, Nat.reduceBEq, Nat.reduceBNe, reduceIte, Int.reduceEq, Int.reduceLT, Int.reduceLE, Int.reduceNeg, Int.reduceToNat, Int.reduceMul, Int.reduceAdd, Int.reduceSub, Int.reduceBEq, Int.reduceBNe, reduceCtorEq] at hE
         obtain ⟨f1, wr1, g1', gw, gg, i3, hm⟩ := ih (ed + skN false (s.drop ed)) _ _ _ ([] ++ [Je ⟨k, a, 1 + nl (s.take a), (s.take ed).drop a, nn⟩]) _ hE (by omega) (by omega) (by simp at hL ⊢; omega) (by first | exact e0 | rfl) (by first | exact e3 | rfl) (by rfl) (by rfl) (by simpa using hw) (by repeat (first | exact hg2 | apply qc (by omega)))
         refine ⟨f1, wr1, g1', gw, gg, i3, ?_⟩
         exact fin f1 (fun o l => match o with | none => R = some (.exit 0, ⟨E 8 11 5 [] (base f1), σ ++ .cells [I 0, I 0] :: g1', wr1⟩) /\ f1 0 = some (0, .str s) /\ f1 4 = some (4, Jt l) | some f => R = some (.ret, ⟨E 8 11 5 [] (base f1), σ ++ .cells [I f.1, I f.2] :: g1', wr1⟩) /\ f1 2 = some (2, .sl 5 true [])) hm
       | cons x xs =>
         have w3 : xs.length <= 1099511627774 := by simp at hL; omega
         have w4 : (xs.length + 1 + 1) * 48 <= 1099511627776 := by simp at hL; omega
         simp only [yq, e0, e3, e4, e5, d1, u52, bn, lg, eg, g1, g2, s1, s2, tk5, tk2, tl, wa, u51, Jt, w3, w4, List.isEmpty, tI, jA, Option.toList, jp, nat, j0, jO, jY, jr, lc0, lc1, jD, jE, jF, jG, j5, j6, ju, jt, jv, zV, zS, jC, jQ, jb, jh, jU, je, jk, jd, jx, jR, jj, ji, jo, jP, jy, jw, Ts.fill, jV, jT, jf, jW, jn, jl, jg, jc, getAll, stepCall, jm, unI, Opd.get, jB, tag, jz, ja, jN, rv, bin, jX, Nat.reduceAdd, Nat.reduceSub, Nat.reduceMul, Nat.reduceDiv, Nat.reduceMod, Nat.reducePow, Nat.reduceLT, Nat.reduceLeDiff, Nat.reduceEqDiff, Nat.reduceBEq, Nat.reduceBNe, reduceIte, Int.reduceEq, Int.reduceLT, Int.reduceLE, Int.reduceNeg, Int.reduceToNat, Int.reduceMul, Int.reduceAdd, Int.reduceSub, Int.reduceBEq, Int.reduceBNe, reduceCtorEq] at hE
         obtain ⟨f1, wr1, g1', gw, gg, i3, hm⟩ := ih (ed + skN false (s.drop ed)) _ _ _ ((x :: xs) ++ [Je ⟨k, a, 1 + nl (s.take a), (s.take ed).drop a, nn⟩]) _ hE (by omega) (by omega) (by simp at hL ⊢; omega) (by first | exact e0 | rfl) (by first | exact e3 | rfl) (by rfl) (by rfl) (by simpa using hw) (by repeat (first | exact hg2 | apply qc (by omega)))
         refine ⟨f1, wr1, g1', gw, gg, i3, ?_⟩
         exact fin f1 (fun o l => match o with | none => R = some (.exit 0, ⟨E 8 11 5 [] (base f1), σ ++ .cells [I 0, I 0] :: g1', wr1⟩) /\ f1 0 = some (0, .str s) /\ f1 4 = some (4, Jt l) | some f => R = some (.ret, ⟨E 8 11 5 [] (base f1), σ ++ .cells [I f.1, I f.2] :: g1', wr1⟩) /\ f1 2 = some (2, .sl 5 true [])) hm
   . have d1 : decide ((a : Int) < ((s.length : Nat) : Int)) = false := rE (by omega)
     rw [jI] at hE
     simp only [yq, e0, e3, e4, e5, d1, jA, Option.toList, jp, nat, j0, jO, jY, jr, lc0, lc1, jD, jE, jF, jG, j5, j6, ju, jt, jv, zV, zS, jC, jQ, jb, jh, jU, je, jk, jd, jx, jR, jj, ji, jo, jP, jy, jw, Ts.fill, jV, jT, jf, jW, jn, jl, jg, jc, getAll, stepCall, jm, unI, Opd.get, jB, tag, jz, ja, jN, rv, bin, jX, Nat.reduceAdd, Nat.reduceSub, Nat.reduceMul, Nat.reduceDiv, Nat.reduceMod, Nat.reducePow, Nat.reduceLT, Nat.reduceLeDiff, Nat.reduceEqDiff, Nat.reduceBEq, Nat.reduceBNe, reduceIte, Int.reduceEq, Int.reduceLT, Int.reduceLE, Int.reduceNeg, Int.reduceToNat, Int.reduceMul, Int.reduceAdd, Int.reduceSub, Int.reduceBEq, Int.reduceBNe, reduceCtorEq] at hE
     rw [yY, if_neg hlt]
     exact ⟨_, _, g, hw, hg2, (by first | exact e3 | rfl), hE.symm, (by first | exact e0 | rfl), by rw [List.map_nil, rM]; exact (by first | exact e4 | rfl)⟩
end
end Go.Idl.Lx
namespace Go.Idl.Lx
open Go Go.Idl Go.Idl.En
variable {F : kb}
structure FWk (F : kb) : Prop extends FLex F where
 h7 : F 7 = some ir7
 h13 : F 13 = some jbv
 h22 : F 22 = some jd9
 h23 : F 23 = some jfj
 h27 : F 27 = some jdy
 h28 : F 28 = some jdz
 h47 : F 47 = some jcn
 h49 : F 49 = some jcp
 h153 : F 153 = some QA
section
variable {σ : List IObj}
set_option maxRecDepth 20000 in
theorem jeA {T : List Tok} {ws : List (List UInt8)} {o1 o2 : Nat} {r1 r2 : Bool} (hw : ws = T.map (·.t)) (hl : T.length <= 1000) : ∀ (m i : Nat) (f0 : Nat -> Option (Nat × IVal)) (R : Option (IExit × St)), evw F (.loop za) ⟨E 6 10 5 [] f0, σ, []⟩ = R -> i + m = T.length -> f0 0 = some (0, .sl o1 r1 (T.map Je)) -> f0 1 = some (1, .sl o2 r2 (ws.map .str)) -> f0 5 = some (5, I i) ->
   ∃ f1, R = some (.exit 0, ⟨E 6 10 5 [] (base f1), σ, []⟩) := by
 intro m
 induction m with
 | zero =>
   intro i f0 R hE hm e0 e1 e5
   have d1 : decide ((i : Int) < (T.length : Nat)) = false := rE (by omega)
   change evw F (.loop za) ⟨E 6 10 5 [] (base f0), σ, []⟩ = R at hE
   rw [jI] at hE
   simp only [za, e0, e1, e5, d1, jk, jA, Option.toList, jp, nat, j0, jO, jY, jr, lc0, lc1, jD, jE, jF, jG, j5, j6, ju, jt, jv, zV, zS, jC, jQ, jb, jh, jU, je, jd, jx, jR, jj, ji, jo, jP, jy, jw, Ts.fill, jV, jT, jf, jW, jn, jl, jg, jc, getAll, stepCall, jm, unI, Opd.get, jB, tag, jz, ja, jN, rv, bin, jX, Nat.reduceAdd, Nat.reduceSub, Nat.reduceMul, Nat.reduceDiv, Nat.reduceMod, Nat.reducePow, Nat.reduceLT, Nat.reduceLeDiff, Nat.reduceEqDiff, Nat.reduceBEq, Nat.reduceBNe, reduceIte, Int.reduceEq, Int.reduceLT, Int.reduceLE, Int.reduceNeg, Int.reduceToNat, Int.reduceMul, Int.reduceAdd, Int.reduceSub, Int.reduceBEq, Int.reduceBNe, reduceCtorEq] at hE
   exact ⟨_, hE.symm⟩
 | succ m ih =>
   intro i f0 R hE hm e0 e1 e5
   obtain ⟨t, hg⟩ := qf (l := T) (i := i) (by omega)
   have hg2 : ws[i]? = some t.t := by rw [hw, rJ, hg]; rfl
   have d1 : decide ((i : Int) < (T.length : Nat)) = true := rB (by omega)
   have d2 : (0 : Int) <= (i : Int) := by omega
   have w1 := yU (n := i) (by omega)
   have tc : (Je t).cells = TC t.k t.a t.ln t.t t.n := rfl
   have nb : (!true) = false := rfl
   change evw F (.loop za) ⟨E 6 10 5 [] (base f0), σ, []⟩ = R at hE
   rw [jI] at hE
   simp only [za, e0, e1, e5, d1, d2, hg, hg2, tc, w1, nb, rI, jk, jA, Option.toList, jp, nat, j0, jO, jY, jr, lc0, lc1, jD, jE, jF, jG, j5, j6, ju, jt, jv, zV, zS, jC, jQ, jb, jh, jU, je, jd, jx, jR, jj, ji, jo, jP, jy, jw, Ts.fill, jV, jT, jf, jW, jn, jl, jg, jc, getAll, stepCall, jm, unI, Opd.get, jB, tag, jz, ja, jN, rv, bin, jX, Nat.reduceAdd, Nat.reduceSub, Nat.reduceMul, Nat.reduceDiv, Nat.reduceMod, Nat.reducePow, Nat.reduceLT, Nat.reduceLeDiff, Nat.reduceEqDiff, Nat.reduceBEq, Nat.reduceBNe, reduceIte, Int.reduceEq, Int.reduceLT, Int.reduceLE, Int.reduceNeg, Int.reduceToNat, Int.reduceMul, Int.reduceAdd, Int.reduceSub, Int.reduceBEq, Int.reduceBNe, reduceCtorEq] at hE
   exact ih (i + 1) _ _ hE (by omega) (by first | exact e0 | rfl) (by first | exact e1 | rfl) (by rfl)
set_option maxRecDepth 20000 in
theorem ZP (h : F 22 = some jd9) {T : List Tok} {ws : List (List UInt8)} {o1 o2 : Nat} {r1 r2 : Bool} (hw : ws = T.map (·.t)) (hl : T.length <= 1000) : cfw F (.f 22) [.sl o1 r1 (T.map Je), .sl o2 r2 (ws.map .str)] σ = some ⟨false, .bool true, σ, []⟩ := by
 rw [cfw_of jd9 h, jw]
 have e : ws.length = T.length := by rw [hw, List.length_map]
 have b : ((T.length : Int) != (T.length : Int)) = false := by simp
 simp only [jd9, e, b, jA, Option.toList, jp, nat, j0, jO, jY, jr, lc0, lc1, jD, jE, jF, jG, j5, j6, ju, jt, jv, zV, zS, jC, jQ, jb, jh, jU, je, jk, jd, jx, jR, jj, ji, jo, jP, jy, jw, Ts.fill, jV, jT, jf, jW, jn, jl, jg, jc, getAll, stepCall, jm, unI, Opd.get, jB, tag, jz, ja, jN, rv, bin, jX, Nat.reduceAdd, Nat.reduceSub, Nat.reduceMul, Nat.reduceDiv, Nat.reduceMod, Nat.reducePow, Nat.reduceLT, Nat.reduceLeDiff, Nat.reduceEqDiff, Nat.reduceBEq, Nat.reduceBNe, reduceIte, Int.reduceEq, Int.reduceLT, Int.reduceLE, Int.reduceNeg, Int.reduceToNat, Int.reduceMul, Int.reduceAdd, Int.reduceSub, Int.reduceBEq, Int.reduceBNe, reduceCtorEq]
 generalize hE : evw F (ICode.loop za) _ = R
 obtain ⟨f1, rfl⟩ := jeA hw hl T.length 0 _ _ hE (tS _) (by rfl) (by rfl) (by rfl)
 simp only [jA, Option.toList, jp, nat, j0, jO, jY, jr, lc0, lc1, jD, jE, jF, jG, j5, j6, ju, jt, jv, zV, zS, jC, jQ, jb, jh, jU, je, jk, jd, jx, jR, jj, ji, jo, jP, jy, jw, Ts.fill, jV, jT, jf, jW, jn, jl, jg, jc, getAll, stepCall, jm, unI, Opd.get, jB, tag, jz, ja, jN, rv, bin, jX, Nat.reduceAdd, Nat.reduceSub, Nat.reduceMul, Nat.reduceDiv, Nat.reduceMod, Nat.reducePow, Nat.reduceLT, Nat.reduceLeDiff, Nat.reduceEqDiff, Nat.reduceBEq, Nat.reduceBNe, reduceIte, Int.reduceEq, Int.reduceLT, Int.reduceLE, Int.reduceNeg, Int.reduceToNat, Int.reduceMul, Int.reduceAdd, Int.reduceSub, Int.reduceBEq, Int.reduceBNe, reduceCtorEq]
set_option maxRecDepth 20000 in
theorem KV (H : FWk F) {s : List UInt8} {f : Nat × Nat} (hs : s.length <= 20000) (hf : (z6 s).2 = some f) (h0 : f.1 ≠ 0) : ∃ wr, cfw F (.f 23) [.str s, I f.1, I f.2] σ = some ⟨false, .bool true, σ, wr⟩ /\ Fl wr := by
 rw [cfw_of jfj H.h23, jw]
 obtain ⟨w8, u8, g8⟩ := jdH H.toFLex (tx := s) (σ := σ)
 rw [jdG, if_neg (by omega), hf] at u8
 obtain ⟨c, a⟩ := f
 obtain ⟨wt, ut, gt⟩ := jbY H.h13 H.h27 H.h28 H.h47 H.h49 H.h153 (f := (c, a)) h0 (σ := σ)
 have f2 : qD [.int .i64 0, .int .i64 0] [(0, 1, I c), (1, 1, I a)] = some [I c, I a] := rfl
 simp only [jfj, u8, ut, f2, tC, tM, jk, jA, Option.toList, jp, nat, j0, jO, jY, jr, lc0, lc1, jD, jE, jF, jG, j5, j6, ju, jt, jv, zV, zS, jC, jQ, jb, jh, jU, je, jd, jx, jR, jj, ji, jo, jP, jy, jw, Ts.fill, jV, jT, jf, jW, jn, jl, jg, jc, getAll, stepCall, jm, unI, Opd.get, jB, tag, jz, ja, jN, rv, bin, jX, Nat.reduceAdd, Nat.reduceSub, Nat.reduceMul, Nat.reduceDiv, Nat.reduceMod, Nat.reducePow, Nat.reduceLT, Nat.reduceLeDiff, Nat.reduceEqDiff, Nat.reduceBEq, Nat.reduceBNe, reduceIte, Int.reduceEq, Int.reduceLT, Int.reduceLE, Int.reduceNeg, Int.reduceToNat, Int.reduceMul, Int.reduceAdd, Int.reduceSub, Int.reduceBEq, Int.reduceBNe, reduceCtorEq]
 rw [j8 (j7 gt g8)]
 exact ⟨_, rfl, jZ (j7 gt g8)⟩
set_option maxRecDepth 100000 in
theorem x1 : z6 [120, 49, 32, 61, 32, 48, 120, 49, 70, 59, 32, 47, 47, 32, 101, 110, 100] = ([⟨1, 0, 1, [120, 49], 0⟩, ⟨3, 3, 1, [61], 0⟩, ⟨2, 5, 1, [48, 120, 49, 70], 31⟩, ⟨3, 9, 1, [59], 0⟩], none) := by kernel_rfl
theorem x2 : z6 [97, 60, 60, 61, 50] = ([⟨1, 0, 1, [97], 0⟩, ⟨3, 1, 1, [60, 60], 0⟩, ⟨3, 3, 1, [61], 0⟩, ⟨2, 4, 1, [50], 2⟩], none) := by kernel_rfl
theorem x3 : z6 [] = ([], none) := by kernel_rfl
theorem x4 : (z6 [49, 50, 97, 98]).2 = some (7, 2) := by kernel_rfl
theorem x5 : (z6 [48, 120]).2 = some (7, 2) := by kernel_rfl
theorem x6 : (z6 [52, 50, 57, 52, 57, 54, 55, 50, 57, 54]).2 = some (10, 0) := by kernel_rfl
theorem x7 : (z6 [97, 36]).2 = some (7, 1) := by kernel_rfl
def T1 : List Tok := [⟨1, 0, 1, [120, 49], 0⟩, ⟨3, 3, 1, [61], 0⟩, ⟨2, 5, 1, [48, 120, 49, 70], 31⟩, ⟨3, 9, 1, [59], 0⟩, ⟨0, 17, 1, [], 0⟩]
def T2 : List Tok := [⟨1, 0, 1, [97], 0⟩, ⟨3, 1, 1, [60, 60], 0⟩, ⟨3, 3, 1, [61], 0⟩, ⟨2, 4, 1, [50], 2⟩, ⟨0, 5, 1, [], 0⟩]
def T3 : List Tok := [⟨0, 0, 1, [], 0⟩]
theorem Vs {s : List UInt8} {ts T : List Tok} (hs : s.length <= 20000) (h : z6 s = (ts, none)) (hT : ts ++ [ZZ s] = T) : jdG s = [.sl 0 false (T.map Je), .prim .nilIface] := by
 rw [jdG, if_neg (by omega), h, hT]
set_option maxRecDepth 100000 in
theorem jfg (H : FWk F) : ∃ wr, cfw F (.f 7) [] σ = some ⟨false, .bool true, σ, wr⟩ /\ Fl wr := by
 rw [cfw_of ir7 H.h7, jw]
 obtain ⟨w1, u1, g1⟩ := jdH H.toFLex (tx := [120, 49, 32, 61, 32, 48, 120, 49, 70, 59, 32, 47, 47, 32, 101, 110, 100]) (σ := σ)
 obtain ⟨w2, u2, g2⟩ := jdH H.toFLex (tx := [97, 60, 60, 61, 50]) (σ := σ)
 obtain ⟨w3, u3, g3⟩ := jdH H.toFLex (tx := []) (σ := σ)
 rw [Vs (T := T1) (by decide) x1 rfl] at u1
 rw [Vs (T := T2) (by decide) x2 rfl] at u2
 rw [Vs (T := T3) (by decide) x3 rfl] at u3
 have v1 := ZP H.h22 (T := T1) (ws := [[120, 49], [61], [48, 120, 49, 70], [59], []]) (o1 := 0) (o2 := 0) (r1 := false) (r2 := false) (σ := σ) rfl (by decide)
 have v2 := ZP H.h22 (T := T2) (ws := [[97], [60, 60], [61], [50], []]) (o1 := 0) (o2 := 0) (r1 := false) (r2 := false) (σ := σ) rfl (by decide)
 simp only [rR (f := IVal.str), List.map_nil (f := IVal.str)] at v1 v2
 obtain ⟨w4, u4, g4⟩ := KV H (f := (7, 2)) (σ := σ) (by decide) x4 (by decide)
 obtain ⟨w5, u5, g5⟩ := KV H (f := (7, 2)) (σ := σ) (by decide) x5 (by decide)
 obtain ⟨w6, u6, g6⟩ := KV H (f := (10, 0)) (σ := σ) (by decide) x6 (by decide)
 obtain ⟨w7, u7, g7⟩ := KV H (f := (7, 1)) (σ := σ) (by decide) x7 (by decide)
 have u4 : cfw F (.f 23) [.str [49, 50, 97, 98], .int .i64 7, .int .i64 2] σ = _ := u4
 have u5 : cfw F (.f 23) [.str [48, 120], .int .i64 7, .int .i64 2] σ = _ := u5
 have u6 : cfw F (.f 23) [.str [52, 50, 57, 52, 57, 54, 55, 50, 57, 54], .int .i64 10, .int .i64 0] σ = _ := u6
 have u7 : cfw F (.f 23) [.str [97, 36], .int .i64 7, .int .i64 1] σ = _ := u7
 have a2 : T1[2]? = some ⟨2, 5, 1, [48, 120, 49, 70], 31⟩ := rfl
 have a3 : T1[3]? = some ⟨3, 9, 1, [59], 0⟩ := rfl
 have a4 : T1[4]? = some ⟨0, 17, 1, [], 0⟩ := rfl
 have c0' : T3[0]? = some ⟨0, 0, 1, [], 0⟩ := rfl
 have l3 : T3.length = 1 := rfl
 have tf : (true != false) = true := rfl
 have tc : ∀ t : Tok, (Je t).cells = TC t.k t.a t.ln t.t t.n := fun _ => rfl
 have nr : ∀ T : List Tok, nr2 (.sl 0 false (T.map Je)) = true := fun _ => rfl
 have kI : ∀ n : Int, Jg 0 (.int .i64 n) = true := fun n => rfl
 have kS : ∀ n, Jg 1 (.str n) = true := fun n => rfl
 have eI : ∀ a b : Int, qn (.int .i64 a) (.int .i64 b) = some (a == b) := fun a b => by simp [qn]
 have eS : ∀ a b, qn (.str a) (.str b) = some (a == b) := fun a b => rfl
 have f5 : qD [.int .i64 0, .int .i64 0, .int .i64 0, .str [], .int .i64 0] [(2, 1, I 1)] = some [I 0, I 0, I 1, .str [], I 0] := rfl
 simp only [ir7, u1, u2, u3, u4, u5, u6, u7, v1, v2, a2, a3, a4, c0', l3, tf, tc, tk5, ext, eqK, kI, kS, eI, eS, f5, tC, tM, jk, jA, Option.toList, jp, nat, j0, jO, jY, jr, lc0, lc1, jD, jE, jF, jG, j5, j6, ju, jt, jv, zV, zS, jC, jQ, jb, jh, jU, je, jd, jx, jR, jj, ji, jo, jP, jy, jw, Ts.fill, jV, jT, jf, jW, jn, jl, jg, jc, getAll, stepCall, jm, unI, Opd.get, jB, tag, jz, ja, jN, rv, bin, jX, Nat.reduceAdd, Nat.reduceSub, Nat.reduceMul, Nat.reduceDiv, Nat.reduceMod, Nat.reducePow, Nat.reduceLT, Nat.reduceLeDiff, Nat.reduceEqDiff, Nat.reduceBEq, Nat.reduceBNe, reduceIte, Int.reduceEq, Int.reduceLT, Int.reduceLE, Int.reduceNeg, Int.reduceToNat, Int.reduceMul, Int.reduceAdd, Int.reduceSub, Int.reduceBEq, Int.reduceBNe, reduceCtorEq]
 have gg := j7 g7 (j7 g6 (j7 g5 (j7 g4 (j7 g3 (j7 g2 g1)))))
 rw [j8 gg]
 exact ⟨_, rfl, jZ gg⟩
end
end Go.Idl.Lx
namespace Go.Idl.Lx
open Go Go.Idl Go.Idl.En
variable {F : kb}
section
variable {σ : List IObj}
theorem jfJ (a b c : Int) (d : List UInt8) (e : Int) : eqK [0, 0, 0, 1, 0] [I a, I b, I c, .str d, I e] [I a, I b, I c, .str d, I e] = some true := by
 simp [eqK, Jg, qn]
end
end Go.Idl.Lx
namespace Go.Idl.Lx
open Go Go.Idl Go.Idl.En
variable {F : kb}
section
variable {σ : List IObj} {s : List UInt8}
def jf9 (s : List UInt8) : List IVal := match (z6 s).2 with
 | some f => [.sl 5 true [], .agg [I f.1, I f.2]]
 | none => [.sl 5 false (((z6 s).1 ++ [ZZ s]).map Je), .agg [I 0, I 0]]
set_option maxRecDepth 20000 in
theorem jfB (H : FRef F) (hl : s.length <= 20000) : cfw F (.f 32) [.str s] σ = some ⟨false, .tup (jf9 s), σ, []⟩ := by
 rw [cfw_of jfk H.h32, jw]
 have d1 : decide (((s.length : Nat) : Int) > 20000) = false := rE (by omega)
 have u51 := fun τ => Qm H.h51 hl (a := 0) (σ := τ) (Nat.zero_le _)
 simp only [tS, List.drop_zero] at u51
 have u51 : ∀ τ, cfw F (.f 51) [.str s, .int .i64 0] τ = _ := u51
 have hsk := Ji false s
 have u18 := fun τ => KD H.h18 hl (s.length : Int) (σ := τ)
 simp only [rI, List.take_length] at u18
 have f2 : qD [.int .i64 0, .int .i64 0] [] = some [I 0, I 0] := rfl
 have f5 : qD [.int .i64 0, .int .i64 0, .int .i64 0, .str [], .int .i64 0] [(0, 1, .int .i64 0), (1, 1, I s.length), (2, 1, I ((1 + nl s : Nat) : Int))] = some (TC 0 s.length (1 + nl s) [] 0) := rfl
 simp only [jfk, d1, u51, jA, Option.toList, jp, nat, j0, jO, jY, jr, lc0, lc1, jD, jE, jF, jG, j5, j6, ju, jt, jv, zV, zS, jC, jQ, jb, jh, jU, je, jk, jd, jx, jR, jj, ji, jo, jP, jy, jw, Ts.fill, jV, jT, jf, jW, jn, jl, jg, jc, getAll, stepCall, jm, unI, Opd.get, jB, tag, jz, ja, jN, rv, bin, jX, Nat.reduceAdd, Nat.reduceSub, Nat.reduceMul, Nat.reduceDiv, Nat.reduceMod, Nat.reducePow, Nat.reduceLT, Nat.reduceLeDiff, Nat.reduceEqDiff, Nat.reduceBEq, Nat.reduceBNe, reduceIte, Int.reduceEq, Int.reduceLT, Int.reduceLE, Int.reduceNeg, Int.reduceToNat, Int.reduceMul, Int.reduceAdd, Int.reduceSub, Int.reduceBEq, Int.reduceBNe, reduceCtorEq]
 generalize hE : evw F (ICode.loop yq) _ = R
 obtain ⟨f1, wr1, g1, gw, gg, i3, hm⟩ := jeB H hl (s.length + 1) (skN false s) [] _ _ [] R hE (by omega) hsk (by simp; omega) (by rfl) (by rfl) (by rfl) (by rfl) (by simp) (by repeat (first | exact Ky | apply qc (by omega)))
 have lg : ∀ x : IObj, (σ ++ x :: g1)[σ.length]? = some x := fun x => by rw [get_app0]; rfl
 have s1 : ∀ x y : IObj, (σ ++ x :: g1).set σ.length y = σ ++ y :: g1 := fun x y => by rw [set_app0]; rfl
 have hll := Js s (s.length + 1) (skN false s)
 unfold jf9 z6
 cases h2 : (yY s (s.length + 1) (skN false s)).2 with
 | some f =>
   rw [h2] at hm
   obtain ⟨rfl, i2⟩ := hm
   simp only [i2, i3, lg, s1, tk2, j8 gw, jA, Option.toList, jp, nat, j0, jO, jY, jr, lc0, lc1, jD, jE, jF, jG, j5, j6, ju, jt, jv, zV, zS, jC, jQ, jb, jh, jU, je, jk, jd, jx, jR, jj, ji, jo, jP, jy, jw, Ts.fill, jV, jT, jf, jW, jn, jl, jg, jc, getAll, stepCall, jm, unI, Opd.get, jB, tag, jz, ja, jN, rv, bin, jX, Nat.reduceAdd, Nat.reduceSub, Nat.reduceMul, Nat.reduceDiv, Nat.reduceMod, Nat.reducePow, Nat.reduceLT, Nat.reduceLeDiff, Nat.reduceEqDiff, Nat.reduceBEq, Nat.reduceBNe, reduceIte, Int.reduceEq, Int.reduceLT, Int.reduceLE, Int.reduceNeg, Int.reduceToNat, Int.reduceMul, Int.reduceAdd, Int.reduceSub, Int.reduceBEq, Int.reduceBNe, reduceCtorEq]
   rw [vy gg]
 | none =>
   rw [h2] at hm
   obtain ⟨rfl, i0, i4⟩ := hm
   rw [tJ] at i4
   generalize hT : (yY s (s.length + 1) (skN false s)).1 = T at *
   have te : ZZ s = ⟨0, s.length, 1 + nl s, [], 0⟩ := rfl
   cases T with
   | nil =>
     simp only [i0, i3, i4, lg, s1, u18, tk5, tk2, f2, f5, Jt, List.isEmpty, j8 gw, List.map_nil, tC, tM, jA, Option.toList, jp, nat, j0, jO, jY, jr, lc0, lc1, jD, jE, jF, jG, j5, j6, ju, jt, jv, zV, zS, jC, jQ, jb, jh, jU, je, jk, jd, jx, jR, jj, ji, jo, jP, jy, jw, Ts.fill, jV, jT, jf, jW, jn, jl, jg, jc, getAll, stepCall, jm, unI, Opd.get, jB, tag, jz, ja, jN, rv, bin, jX, Nat.reduceAdd, Nat.reduceSub, Nat.reduceMul, Nat.reduceDiv, Nat.reduceMod, Nat.reducePow, Nat.reduceLT, Nat.reduceLeDiff, Nat.reduceEqDiff, Nat.reduceBEq, Nat.reduceBNe, reduceIte, Int.reduceEq, Int.reduceLT, Int.reduceLE, Int.reduceNeg, Int.reduceToNat, Int.reduceMul, Int.reduceAdd, Int.reduceSub, Int.reduceBEq, Int.reduceBNe, reduceCtorEq]
     rw [vy gg] <;> rfl
   | cons x xs =>
     have w3 : xs.length <= 1099511627774 := by simp at hll; omega
     have w4 : (xs.length + 1 + 1) * 48 <= 1099511627776 := by simp at hll; omega
     simp only [i0, i3, i4, lg, s1, u18, tk5, tk2, f2, f5, Jt, w3, w4, List.isEmpty, j8 gw, rR, tC, tM, jA, Option.toList, jp, nat, j0, jO, jY, jr, lc0, lc1, jD, jE, jF, jG, j5, j6, ju, jt, jv, zV, zS, jC, jQ, jb, jh, jU, je, jk, jd, jx, jR, jj, ji, jo, jP, jy, jw, Ts.fill, jV, jT, jf, jW, jn, jl, jg, jc, getAll, stepCall, jm, unI, Opd.get, jB, tag, jz, ja, jN, rv, bin, jX, Nat.reduceAdd, Nat.reduceSub, Nat.reduceMul, Nat.reduceDiv, Nat.reduceMod, Nat.reducePow, Nat.reduceLT, Nat.reduceLeDiff, Nat.reduceEqDiff, Nat.reduceBEq, Nat.reduceBNe, reduceIte, Int.reduceEq, Int.reduceLT, Int.reduceLE, Int.reduceNeg, Int.reduceToNat, Int.reduceMul, Int.reduceAdd, Int.reduceSub, Int.reduceBEq, Int.reduceBNe, reduceCtorEq]
     rw [vy gg, List.map_append] <;> rfl
set_option maxRecDepth 20000 in
theorem jdo (h : F 13 = some jbv) : cfw F (.f 13) [.prim .nilIface, .agg [I 0, I 0]] σ = some ⟨false, .bool true, σ, []⟩ := by
 rw [cfw_of jbv h, jw]
 have b0 : ((0 : Int) == 0) = true := rfl
 simp only [jbv, jA, b0, tR, r5, zV, zS, jC, jQ, jb, jh, jU, je, jk, jd, jx, jR, jj, ji, jo, jP, jy, jw, Ts.fill, jV, jT, jf, jW, jn, jl, jg, jc, getAll, stepCall, jm, unI, Opd.get, jB, tag, jz, ja, jN, rv, bin, jX, Nat.reduceAdd, Nat.reduceSub, Nat.reduceMul, Nat.reduceDiv, Nat.reduceMod, Nat.reducePow, Nat.reduceLT, Nat.reduceLeDiff, Nat.reduceEqDiff, Nat.reduceBEq, Nat.reduceBNe, reduceIte, Int.reduceEq, Int.reduceLT, Int.reduceLE, Int.reduceNeg, Int.reduceToNat, Int.reduceMul, Int.reduceAdd, Int.reduceSub, Int.reduceBEq, Int.reduceBNe, reduceCtorEq]
 have tf : (true != false) = true := rfl
 rw [tf]
set_option maxRecDepth 20000 in
theorem jeC {T : List Tok} {o1 o2 : Nat} {r1 r2 : Bool} (hl : T.length <= 30000) : ∀ (m i : Nat) (f0 : Nat -> Option (Nat × IVal)) (R : Option (IExit × St)), evw F (.loop zb) ⟨E 6 9 4 [] f0, σ, []⟩ = R -> i + m = T.length -> f0 0 = some (0, .sl o1 r1 (T.map Je)) -> f0 1 = some (1, .sl o2 r2 (T.map Je)) -> f0 5 = some (5, I i) ->
   ∃ f1, R = some (.exit 0, ⟨E 6 9 4 [] (base f1), σ, []⟩) := by
 intro m
 induction m with
 | zero =>
   intro i f0 R hE hm e0 e1 e5
   have d1 : decide ((i : Int) < (T.length : Nat)) = false := rE (by omega)
   change evw F (.loop zb) ⟨E 6 9 4 [] (base f0), σ, []⟩ = R at hE
   rw [jI] at hE
   simp only [zb, e0, e1, e5, d1, jk, jA, Option.toList, jp, nat, j0, jO, jY, jr, lc0, lc1, jD, jE, jF, jG, j5, j6, ju, jt, jv, zV, zS, jC, jQ, jb, jh, jU, je, jd, jx, jR, jj, ji, jo, jP, jy, jw, Ts.fill, jV, jT, jf, jW, jn, jl, jg, jc, getAll, stepCall, jm, unI, Opd.get, jB, tag, jz, ja, jN, rv, bin, jX, Nat.reduceAdd, Nat.reduceSub, Nat.reduceMul, Nat.reduceDiv, Nat.reduceMod, Nat.reducePow, Nat.reduceLT, Nat.reduceLeDiff, Nat.reduceEqDiff, Nat.reduceBEq, Nat.reduceBNe, reduceIte, Int.reduceEq, Int.reduceLT, Int.reduceLE, Int.reduceNeg, Int.reduceToNat, Int.reduceMul, Int.reduceAdd, Int.reduceSub, Int.reduceBEq, Int.reduceBNe, reduceCtorEq] at hE
   exact ⟨_, hE.symm⟩
 | succ m ih =>
   intro i f0 R hE hm e0 e1 e5
   obtain ⟨t, hg⟩ := qf (l := T) (i := i) (by omega)
   have d1 : decide ((i : Int) < (T.length : Nat)) = true := rB (by omega)
   have d2 : (0 : Int) <= (i : Int) := by omega
   have w1 := yU (n := i) (by omega)
   have tc : (Je t).cells = TC t.k t.a t.ln t.t t.n := rfl
   have tcu : ∀ t : Tok, (TC t.k t.a t.ln t.t t.n).map un1 = TC t.k t.a t.ln t.t t.n := fun _ => rfl
   have tt : (true != true) = false := rfl
   change evw F (.loop zb) ⟨E 6 9 4 [] (base f0), σ, []⟩ = R at hE
   rw [jI] at hE
   simp only [zb, e0, e1, e5, d1, d2, hg, tc, tcu, w1, tt, tk5, jfJ, rI, jk, jA, Option.toList, jp, nat, j0, jO, jY, jr, lc0, lc1, jD, jE, jF, jG, j5, j6, ju, jt, jv, zV, zS, jC, jQ, jb, jh, jU, je, jd, jx, jR, jj, ji, jo, jP, jy, jw, Ts.fill, jV, jT, jf, jW, jn, jl, jg, jc, getAll, stepCall, jm, unI, Opd.get, jB, tag, jz, ja, jN, rv, bin, jX, Nat.reduceAdd, Nat.reduceSub, Nat.reduceMul, Nat.reduceDiv, Nat.reduceMod, Nat.reducePow, Nat.reduceLT, Nat.reduceLeDiff, Nat.reduceEqDiff, Nat.reduceBEq, Nat.reduceBNe, reduceIte, Int.reduceEq, Int.reduceLT, Int.reduceLE, Int.reduceNeg, Int.reduceToNat, Int.reduceMul, Int.reduceAdd, Int.reduceSub, Int.reduceBEq, Int.reduceBNe, reduceCtorEq] at hE
   exact ih (i + 1) _ _ hE (by omega) (by first | exact e0 | rfl) (by first | exact e1 | rfl) (by rfl)
set_option maxRecDepth 20000 in
theorem jbU (h : F 33 = some jec) {T : List Tok} {o1 o2 : Nat} {r1 r2 : Bool} (hl : T.length <= 30000) : cfw F (.f 33) [.sl o1 r1 (T.map Je), .sl o2 r2 (T.map Je)] σ = some ⟨false, .bool true, σ, []⟩ := by
 rw [cfw_of jec h, jw]
 have b : ((T.length : Int) != (T.length : Int)) = false := by simp
 simp only [jec, b, jA, Option.toList, jp, nat, j0, jO, jY, jr, lc0, lc1, jD, jE, jF, jG, j5, j6, ju, jt, jv, zV, zS, jC, jQ, jb, jh, jU, je, jk, jd, jx, jR, jj, ji, jo, jP, jy, jw, Ts.fill, jV, jT, jf, jW, jn, jl, jg, jc, getAll, stepCall, jm, unI, Opd.get, jB, tag, jz, ja, jN, rv, bin, jX, Nat.reduceAdd, Nat.reduceSub, Nat.reduceMul, Nat.reduceDiv, Nat.reduceMod, Nat.reducePow, Nat.reduceLT, Nat.reduceLeDiff, Nat.reduceEqDiff, Nat.reduceBEq, Nat.reduceBNe, reduceIte, Int.reduceEq, Int.reduceLT, Int.reduceLE, Int.reduceNeg, Int.reduceToNat, Int.reduceMul, Int.reduceAdd, Int.reduceSub, Int.reduceBEq, Int.reduceBNe, reduceCtorEq]
 generalize hE : evw F (ICode.loop zb) _ = R
 obtain ⟨f1, rfl⟩ := jeC hl T.length 0 _ _ hE (tS _) (by rfl) (by rfl) (by rfl)
 simp only [jA, Option.toList, jp, nat, j0, jO, jY, jr, lc0, lc1, jD, jE, jF, jG, j5, j6, ju, jt, jv, zV, zS, jC, jQ, jb, jh, jU, je, jk, jd, jx, jR, jj, ji, jo, jP, jy, jw, Ts.fill, jV, jT, jf, jW, jn, jl, jg, jc, getAll, stepCall, jm, unI, Opd.get, jB, tag, jz, ja, jN, rv, bin, jX, Nat.reduceAdd, Nat.reduceSub, Nat.reduceMul, Nat.reduceDiv, Nat.reduceMod, Nat.reducePow, Nat.reduceLT, Nat.reduceLeDiff, Nat.reduceEqDiff, Nat.reduceBEq, Nat.reduceBNe, reduceIte, Int.reduceEq, Int.reduceLT, Int.reduceLE, Int.reduceNeg, Int.reduceToNat, Int.reduceMul, Int.reduceAdd, Int.reduceSub, Int.reduceBEq, Int.reduceBNe, reduceCtorEq]
end
end Go.Idl.Lx
namespace Go.Idl.Lx
open Go Go.Idl Go.Idl.En
variable {F : kb}
structure FTel (F : kb) : Prop extends FWk F, FMade F, FRef F where
 h5 : F 5 = some ir5
 h16 : F 16 = some jd4
 h17 : F 17 = some jd5
section
variable {σ : List IObj} {s : List UInt8}
theorem Ym (H : FTel F) (hl : s.length <= 20000) : ∃ wr, cfw F (.f 16) [.str s] σ = some ⟨false, .bool true, σ, wr⟩ /\ Fl wr := by
 rw [cfw_of jd4 H.h16, jw]
 obtain ⟨w8, u8, g8⟩ := jdH H.toFLex (tx := s) (σ := σ)
 have u32 := fun τ => jfB H.toFRef hl (σ := τ)
 have hll := Js s (s.length + 1) (skN false s)
 rw [jdG, if_neg (by omega)] at u8
 unfold jf9 at u32
 cases h2 : (z6 s).2 with
 | some f =>
   rw [h2] at u8 u32
   have hf := Y2 s _ _ f h2
   obtain ⟨w13, u13, g13⟩ := jbY H.h13 H.h27 H.h28 H.h47 H.h49 H.h153 (f := f) hf (σ := σ ++ [.cells [I f.1, I f.2]])
   have us := fun τ => jbU H.h33 (T := []) (o1 := 5) (o2 := 5) (r1 := true) (r2 := true) (σ := τ) (by simp)
   simp only [List.map_nil] at us
   simp only [jd4, u8, u32, us, u13, tk2, jk, jA, Option.toList, jp, nat, j0, jO, jY, jr, lc0, lc1, jD, jE, jF, jG, j5, j6, ju, jt, jv, zV, zS, jC, jQ, jb, jh, jU, je, jd, jx, jR, jj, ji, jo, jP, jy, jw, Ts.fill, jV, jT, jf, jW, jn, jl, jg, jc, getAll, stepCall, jm, unI, Opd.get, jB, tag, jz, ja, jN, rv, bin, jX, Nat.reduceAdd, Nat.reduceSub, Nat.reduceMul, Nat.reduceDiv, Nat.reduceMod, Nat.reducePow, Nat.reduceLT, Nat.reduceLeDiff, Nat.reduceEqDiff, Nat.reduceBEq, Nat.reduceBNe, reduceIte, Int.reduceEq, Int.reduceLT, Int.reduceLE, Int.reduceNeg, Int.reduceToNat, Int.reduceMul, Int.reduceAdd, Int.reduceSub, Int.reduceBEq, Int.reduceBNe, reduceCtorEq]
   have gg : Fl (w13 ++ (σ.length, false) :: w8) := j7 g13 (JL g8)
   rw [j8 gg]
   exact ⟨_, rfl, jZ gg⟩
 | none =>
   rw [h2] at u8 u32
   have u13 := fun τ => jdo H.h13 (σ := τ)
   have us := fun τ => jbU H.h33 (T := (z6 s).1 ++ [ZZ s]) (o1 := 0) (o2 := 5) (r1 := false) (r2 := false) (σ := τ) (by unfold z6; simp; omega)
   generalize ((z6 s).1 ++ [ZZ s]).map Je = Z at *
   simp only [jd4, u8, u32, us, u13, tk2, jk, jA, Option.toList, jp, nat, j0, jO, jY, jr, lc0, lc1, jD, jE, jF, jG, j5, j6, ju, jt, jv, zV, zS, jC, jQ, jb, jh, jU, je, jd, jx, jR, jj, ji, jo, jP, jy, jw, Ts.fill, jV, jT, jf, jW, jn, jl, jg, jc, getAll, stepCall, jm, unI, Opd.get, jB, tag, jz, ja, jN, rv, bin, jX, Nat.reduceAdd, Nat.reduceSub, Nat.reduceMul, Nat.reduceDiv, Nat.reduceMod, Nat.reducePow, Nat.reduceLT, Nat.reduceLeDiff, Nat.reduceEqDiff, Nat.reduceBEq, Nat.reduceBNe, reduceIte, Int.reduceEq, Int.reduceLT, Int.reduceLE, Int.reduceNeg, Int.reduceToNat, Int.reduceMul, Int.reduceAdd, Int.reduceSub, Int.reduceBEq, Int.reduceBNe, reduceCtorEq]
   rw [j8 g8]
   exact ⟨_, rfl, jZ g8⟩
set_option maxRecDepth 20000 in
theorem jgR (H : FTel F) {l : List Nat} {o : Nat} {r : Bool} {z : Int} (hb : ∀ b ∈ l, b < 256) : ∃ wr S, cfw F (.f 5) [.str s, .sl o r (l.map B), I z] σ = some ⟨false, .bool true, S, wr⟩ := by
 rw [cfw_of ir5 H.h5, jw]
 have hm : (if (1000 : Int) < (s.length : Int) then (1000 : Int) else (s.length : Int)) = ((min s.length 1000 : Nat) : Int) := by split <;> omega
 have c1 : (0 : Int) <= ((min s.length 1000 : Nat) : Int) := by omega
 have c2 : min s.length 1000 <= s.length := Nat.min_le_left _ _
 have hA1 : (s.take (min s.length 1000)).length <= 20000 := by rw [tE]; omega
 generalize hA : s.take (min s.length 1000) = A at *
 have hB1 := jcM l
 have hB2 : (mdS l).length <= 20000 := by omega
 obtain ⟨w7, u7, g7⟩ := jfg H.toFWk (σ := σ)
 have u9 := jf2 H.toFMade hb (o := 0) (r := r) σ
 obtain ⟨wa, ua, ga⟩ := Ym H hA1 (σ := σ)
 obtain ⟨wb, ub, gb⟩ := Ym H hB2 (σ := σ)
 have la := jbC H.h17 H.h15 hA1 z (σ := σ)
 have lb := KD H.h18 hA1 z (σ := σ)
 have lc := jbC H.h17 H.h15 hB2 (z.tmod 200) (σ := σ)
 have ld := KD H.h18 hB2 (z.tmod 200) (σ := σ)
 have gg := j7 g7 (j7 gb ga)
 simp only [ir5, hm, c1, c2, hA, u9, ua, ub, la, lb, lc, ld, u7, beq_self_eq_true, rI, jk, jA, Option.toList, jp, nat, j0, jO, jY, jr, lc0, lc1, jD, jE, jF, jG, j5, j6, ju, jt, jv, zV, zS, jC, jQ, jb, jh, jU, je, jd, jx, jR, jj, ji, jo, jP, jy, jw, Ts.fill, jV, jT, jf, jW, jn, jl, jg, jc, getAll, stepCall, jm, unI, Opd.get, jB, tag, jz, ja, jN, rv, bin, jX, Nat.reduceAdd, Nat.reduceSub, Nat.reduceMul, Nat.reduceDiv, Nat.reduceMod, Nat.reducePow, Nat.reduceLT, Nat.reduceLeDiff, Nat.reduceEqDiff, Nat.reduceBEq, Nat.reduceBNe, reduceIte, Int.reduceEq, Int.reduceLT, Int.reduceLE, Int.reduceNeg, Int.reduceToNat, Int.reduceMul, Int.reduceAdd, Int.reduceSub, Int.reduceBEq, Int.reduceBNe, reduceCtorEq]
 rw [j8 gg]
 exact ⟨_, _, rfl⟩
end
end Go.Idl.Lx
