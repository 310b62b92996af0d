/- Chapter 2: what the ideal machine makes of its functions, part C; no conditions. -/
import Derived.Test.YtjjmammoapggkaaGreatDoorLxB
import Derived.KernelRfl
set_option linter.defProp false
set_option linter.unusedSectionVars false
set_option linter.unusedVariables false
set_option linter.unusedSimpArgs false
namespace Go.Idl.Lx
open Go Go.Idl Go.Idl.En
variable {F : kg}
structure Tok where
 k : Nat
 a : Nat
 ln : Nat
 t : List UInt8
 n : Nat
def J2 (t : Tok) : IVal := .agg (TC t.k t.a t.ln t.t t.n)
def zd (tx : List UInt8) : Nat -> Nat -> List Tok × Option (Nat × Nat)
 | 0, _ => ([], none)
 | m + 1, a => if a < tx.length then match zH tx a with
   | .inl f => ([], some f)
   | .inr (k, ed, v) => (⟨k, a, 1 + nl (tx.take a), (tx.take ed).drop a, v⟩ :: (zd tx m (ed + skN false (tx.drop ed))).1, (zd tx m (ed + skN false (tx.drop ed))).2)
   else ([], none)
def Kp (q al : Nat) (S S1 : List IObj) : Prop := S.length <= S1.length /\ ∀ i, i < S.length -> i ≠ q -> i ≠ al -> S1[i]? = S[i]?
theorem Kp.trans {q al : Nat} {S S1 S2 : List IObj} (h : Kp q al S S1) (h2 : Kp q al S1 S2) : Kp q al S S2 :=
 ⟨Nat.le_trans h.1 h2.1, fun i hi h1 h3 => (h2.2 i (by have := h.1; omega) h1 h3).trans (h.2 i hi h1 h3)⟩
section
variable {tx : List UInt8} {q al id : Nat}
def Q6 (tx : List UInt8) (q al id m a : Nat) (L : List IVal) (R : Option (IExit × St)) (f1 : Nat -> Option (Nat × IVal)) (S1 : List IObj) (wr1 : List (Nat × Bool)) : Prop := match (zd tx m a).2 with
 | none => R = some (.exit 0, ⟨E 60 11 7 [] (base f1), S1, wr1⟩) /\ f1 0 = some (0, .yl id) /\ f1 1 = some (1, .pv true [.ptr q 0] 0) /\ (∃ r1, S1[q]? = some (.cells (LP r1 tx tx.length zG))) /\ S1[al]? = some (.cells [Q4 (L ++ (zd tx m a).1.map J2)])
 | some f => R = some (.ret, ⟨E 60 11 7 [] (base f1), S1, wr1⟩) /\ ∃ a', S1[q]? = some (.cells (LP true tx a' (flt f)))
theorem jae {m a : Nat} {ts : List Tok} {L : List IVal} {R : Option (IExit × St)} {f1 : Nat -> Option (Nat × IVal)} {S1 : List IObj} {wr1 : List (Nat × Bool)} (h : zd tx m a = (ts, none)) (hR : R = some (.exit 0, ⟨E 60 11 7 [] (base f1), S1, wr1⟩)) (h0 : f1 0 = some (0, .yl id)) (h1 : f1 1 = some (1, .pv true [.ptr q 0] 0)) (h2 : ∃ r1, S1[q]? = some (.cells (LP r1 tx tx.length zG))) (h3 : S1[al]? = some (.cells [Q4 (L ++ ts.map J2)])) : Q6 tx q al id m a L R f1 S1 wr1 := by
 rw [Q6, h]; exact ⟨hR, h0, h1, h2, h3⟩
theorem jaf {m a : Nat} {ts : List Tok} {ff : Nat × Nat} {L : List IVal} {R : Option (IExit × St)} {f1 : Nat -> Option (Nat × IVal)} {S1 : List IObj} {wr1 : List (Nat × Bool)} (h : zd tx m a = (ts, some ff)) (hR : R = some (.ret, ⟨E 60 11 7 [] (base f1), S1, wr1⟩)) (h2 : ∃ a', S1[q]? = some (.cells (LP true tx a' (flt ff)))) : Q6 tx q al id m a L R f1 S1 wr1 := by
 rw [Q6, h]; exact ⟨hR, h2⟩
set_option maxRecDepth 20000 in
theorem jeu (H : FMrk F) (hl : tx.length <= 20000) (f : Nat -> Option (Nat × IVal)) (hf : f 5 = some (5, .ptr al 0)) (n1 : q ≠ al) (n2 : q ≠ id) (n3 : al ≠ id) : ∀ (m a : Nat) (r : Bool) (f0 : Nat -> Option (Nat × IVal)) (S : List IObj) (wr : List (Nat × Bool)) (R : Option (IExit × St)) (L : List IVal), evw F (.loop zU) ⟨E 60 11 7 [] f0, S, wr⟩ = R -> tx.length - a < m -> a <= tx.length -> S[q]? = some (.cells (LP r tx a zG)) -> S[al]? = some (.cells [Q4 L]) -> S[id]? = some (.loop (jdd f)) -> L.length + (tx.length - a) <= 50000 -> f0 0 = some (0, .yl id) -> f0 1 = some (1, .pv true [.ptr q 0] 0) -> Fl wr ->
   ∃ f1 wr1 S1, Fl wr1 /\ Kp q al S S1 /\ Q6 tx q al id m a L R f1 S1 wr1 := by
 intro m
 induction m with
 | zero => intro a r f0 S wr R L hE hm; omega
 | succ m ih =>
   intro a r f0 S wr R L hE hm ha hq hal hid hL e0 e1 hw
   change evw F (.loop zU) ⟨E 60 11 7 [] (base f0), S, wr⟩ = R at hE
   have lq := jk hq
   by_cases hlt : a < tx.length
   . obtain ⟨c, hg⟩ := qT hlt
     have d1 : decide ((a : Int) < (tx.length : Nat)) = true := rB (by omega)
     have d2 : (0 : Int) <= (a : Int) := by omega
     have dq : decide (q < S.length) = true := rB lq
     have f5 : yZ [.int .i64 0, .int .i64 0, .int .i64 0, .str [], .int .i64 0] [(1, 1, I a), (2, 1, I ((1 + nl (tx.take a) : Nat) : Int))] = some (TC 0 a (1 + nl (tx.take a)) [] 0) := rfl
     have hq2 := fun l => vb hq l
     rw [jT] at hE
     simp only [zU, hq, hq2, e0, e1, d1, d2, dq, hg, f5, tC, tM, rI, jA, Option.toList, jq, nat, j6, jO, j5, jr, lc0, lc1, jE, jF, jG, jH, j7, j8, ju, jt, jv, zV, zS, jC, jS, jc, jh, jX, je, jl, jd, jx, jU, jj, ji, jp, jR, jy, jw, Ts.fill, jY, jV, jf, jZ, jo, jm, jg, ja, getAll, stepCall, jn, unI, Opd.get, jB, tag, jz, jb, jP, rv, bin, j0, Nat.reduceAdd, Nat.reduceSub, Nat.reduceMul, Nat.reduceDiv, Nat.reduceMod, Nat.reducePow, Nat.reduceLT, Nat.reduceLeDiff, Nat.reduceEqDiff, Nat.reduceBEq, Nat.reduceBNe, reduceIte, Int.reduceEq, Int.reduceLT, Int.reduceLE, Int.reduceNeg, Int.reduceToNat, Int.reduceMul, Int.reduceAdd, Int.reduceSub, Int.reduceBEq, Int.reduceBNe, reduceCtorEq] at hE
     generalize hs : evw F zj _ = Rs at hE
     obtain ⟨f1, wr1, S1, gw, rfl, a0, a1, a3, hlen, hk, hsw⟩ := jgB (y := id) H hs hl hg (hq2 [IObj.cells (TC 0 a (1 + nl (tx.take a)) [] 0)]) (by rw [get_app0]; rfl) (by omega) (by first | exact e0 | rfl) (by first | exact e1 | rfl) (by rfl) (by rfl) (by simpa using hw)
     have hk2 : ∀ i, i < S.length -> i ≠ q -> S1[i]? = S[i]? := fun i hi h1 => by
       rw [hk i h1 (by omega), List.getElem?_append_left hi]
     have hlen2 : S1.length = S.length + 1 := by simpa using hlen
     cases ho : zH tx a with
     | inl ff =>
       simp only [Sw, ho] at hsw
       obtain ⟨a', gq⟩ := hsw
       simp only [a0, a1, a3, gq, jl, jA, Option.toList, jq, nat, j6, jO, j5, jr, lc0, lc1, jE, jF, jG, jH, j7, j8, ju, jt, jv, zV, zS, jC, jS, jc, jh, jX, je, jd, jx, jU, jj, ji, jp, jR, jy, jw, Ts.fill, jY, jV, jf, jZ, jo, jm, jg, ja, getAll, stepCall, jn, unI, Opd.get, jB, tag, jz, jb, jP, rv, bin, j0, Nat.reduceAdd, Nat.reduceSub, Nat.reduceMul, Nat.reduceDiv, Nat.reduceMod, Nat.reducePow, Nat.reduceLT, Nat.reduceLeDiff, Nat.reduceEqDiff, Nat.reduceBEq, Nat.reduceBNe, reduceIte, Int.reduceEq, Int.reduceLT, Int.reduceLE, Int.reduceNeg, Int.reduceToNat, Int.reduceMul, Int.reduceAdd, Int.reduceSub, Int.reduceBEq, Int.reduceBNe, reduceCtorEq] at hE
       exact ⟨_, _, S1, gw, ⟨by omega, fun i hi h1 _ => hk2 i hi h1⟩, jaf (by rw [zd, if_pos hlt, ho]) hE.symm ⟨a', gq⟩⟩
     | inr v =>
       obtain ⟨k, ed, v⟩ := v
       simp only [Sw, ho] at hsw
       obtain ⟨gq, gp⟩ := hsw
       obtain ⟨o1, o2⟩ := QA ho
       have gal : S1[al]? = some (.cells [Q4 L]) := by rw [hk2 al (jk hal) (fun e => n1 e.symm)]; exact hal
       have gid : S1[id]? = some (.loop (jdd f)) := by rw [hk2 id (jk hid) (fun e => n2 e.symm)]; exact hid
       obtain ⟨w5, u5, g5⟩ := round (F := F) (k := k) (a := a) (ln := 1 + nl (tx.take a)) (t := (tx.take ed).drop a) (n := v) al id f L (by omega) hf S1 gid gal n3
       have gq2 := get_set (x := .cells [Q4 (L ++ [.agg (TC k a (1 + nl (tx.take a)) ((tx.take ed).drop a) v)])]) gq (j := al) (fun e => n1 e.symm)
       obtain ⟨w6, r6, u6, g6⟩ := jb1 H.toFSkp hl o2 gq2
       have nb : (!true) = false := rfl
       have nn : isNil 1 (un2 zG) = some true := rfl
       simp only [a0, a1, a3, gq, gp, u5, u6, tk5, nb, nn, jl, jA, Option.toList, jq, nat, j6, jO, j5, jr, lc0, lc1, jE, jF, jG, jH, j7, j8, ju, jt, jv, zV, zS, jC, jS, jc, jh, jX, je, jd, jx, jU, jj, ji, jp, jR, jy, jw, Ts.fill, jY, jV, jf, jZ, jo, jm, jg, ja, getAll, stepCall, jn, unI, Opd.get, jB, tag, jz, jb, jP, rv, bin, j0, Nat.reduceAdd, Nat.reduceSub, Nat.reduceMul, Nat.reduceDiv, Nat.reduceMod, Nat.reducePow, Nat.reduceLT, Nat.reduceLeDiff, Nat.reduceEqDiff, Nat.reduceBEq, Nat.reduceBNe, reduceIte, Int.reduceEq, Int.reduceLT, Int.reduceLE, Int.reduceNeg, Int.reduceToNat, Int.reduceMul, Int.reduceAdd, Int.reduceSub, Int.reduceBEq, Int.reduceBNe, reduceCtorEq] at hE
       have hsk := yV false (tx.drop ed)
       rw [List.length_drop] at hsk
       have lal := jk gal
       have lq1 := jk gq
       have i1 := gs gq2 (y := .cells (LP r6 tx (ed + skN false (tx.drop ed)) zG))
       have i2 := get_set (x := .cells (LP r6 tx (ed + skN false (tx.drop ed)) zG)) (gs gal (y := .cells [Q4 (L ++ [.agg (TC k a (1 + nl (tx.take a)) ((tx.take ed).drop a) v)])])) (j := q) n1
       have i3 := get_set (x := .cells (LP r6 tx (ed + skN false (tx.drop ed)) zG)) (get_set (x := .cells [Q4 (L ++ [.agg (TC k a (1 + nl (tx.take a)) ((tx.take ed).drop a) v)])]) gid (j := al) n3) (j := q) n2
       obtain ⟨f2, wr2, S2, gw2, hkp, hend⟩ := ih (ed + skN false (tx.drop ed)) r6 _ _ _ _ _ hE (by omega) (by omega) i1 i2 i3 (by simp; omega) (by first | exact a0 | rfl) (by first | exact a1 | rfl) (by simpa using jQ g6 (jQ g5 gw))
       have hkp0 : Kp q al S ((S1.set al (.cells [Q4 (L ++ [.agg (TC k a (1 + nl (tx.take a)) ((tx.take ed).drop a) v)])])).set q (.cells (LP r6 tx (ed + skN false (tx.drop ed)) zG))) :=
         ⟨by simp; omega, fun i hi h1 h2 => by rw [rA (fun e => h1 e.symm), rA (fun e => h2 e.symm)]; exact hk2 i hi h1⟩
       refine ⟨f2, wr2, S2, gw2, hkp0.trans hkp, ?_⟩
       have hx : zd tx (m + 1) a = (⟨k, a, 1 + nl (tx.take a), (tx.take ed).drop a, v⟩ :: (zd tx m (ed + skN false (tx.drop ed))).1, (zd tx m (ed + skN false (tx.drop ed))).2) := by rw [zd, if_pos hlt, ho]
       unfold Q6 at hend ⊢
       rw [hx]
       simp only
       cases h2 : (zd tx m (ed + skN false (tx.drop ed))).2 with
       | none =>
         rw [h2] at hend
         obtain ⟨b1, b2, b3, b4, b5⟩ := hend
         refine ⟨b1, b2, b3, b4, ?_⟩
         rw [b5, rR, List.append_assoc]; rfl
       | some ff =>
         rw [h2] at hend
         exact hend
   . have d1 : decide ((a : Int) < (tx.length : Nat)) = false := rE (by omega)
     have ha' : a = tx.length := by omega
     rw [jT] at hE
     simp only [zU, hq, e0, e1, d1, jA, Option.toList, jq, nat, j6, jO, j5, jr, lc0, lc1, jE, jF, jG, jH, j7, j8, ju, jt, jv, zV, zS, jC, jS, jc, jh, jX, je, jl, jd, jx, jU, jj, ji, jp, jR, jy, jw, Ts.fill, jY, jV, jf, jZ, jo, jm, jg, ja, getAll, stepCall, jn, unI, Opd.get, jB, tag, jz, jb, jP, rv, bin, j0, Nat.reduceAdd, Nat.reduceSub, Nat.reduceMul, Nat.reduceDiv, Nat.reduceMod, Nat.reducePow, Nat.reduceLT, Nat.reduceLeDiff, Nat.reduceEqDiff, Nat.reduceBEq, Nat.reduceBNe, reduceIte, Int.reduceEq, Int.reduceLT, Int.reduceLE, Int.reduceNeg, Int.reduceToNat, Int.reduceMul, Int.reduceAdd, Int.reduceSub, Int.reduceBEq, Int.reduceBNe, reduceCtorEq] at hE
     exact ⟨_, _, S, hw, ⟨rP _, fun _ _ _ _ => rfl⟩, jae (ts := []) (by rw [zd, if_neg hlt]) hE.symm (by first | exact e0 | rfl) (by first | exact e1 | rfl) ⟨r, by rw [<- ha']; exact hq⟩ (by rw [List.map_nil, rM]; exact hal)⟩
end
end Go.Idl.Lx
namespace Go.Idl.Lx
open Go Go.Idl Go.Idl.En
variable {F : kg}
structure FLex (F : kg) : Prop extends FMrk F where
 h8 : F 8 = some ir8
 h24 : F 24 = some jd7
 h36 : F 36 = some je9
def z8 (tx : List UInt8) : List Tok × Option (Nat × Nat) := zd tx (tx.length + 1) (skN false tx)
def yQ (tx : List UInt8) : Tok := ⟨0, tx.length, 1 + nl tx, [], 0⟩
theorem KP (tx : List UInt8) : ∀ m a, (zd tx m a).1.length <= m
 | 0, a => rP _
 | m + 1, a => by
   rw [zd]
   split
   . split
     . simp
     . have := KP tx m; simp; exact this _
   . simp
section
variable {tx : List UInt8} {q al id : Nat}
theorem jbK (r : Bool) (tx : List UInt8) (er : IVal) : LP r tx tx.length er = LC (dn r) 0 (tb r) tx (tx.length : Int) ((1 + nl tx : Nat) : Int) er := by
 show LC _ _ _ _ _ ((1 + nl (tx.take tx.length) : Nat) : Int) _ = _
 rw [List.take_length]
def jfp (tx : List UInt8) (q al : Nat) (L : List IVal) (S1 : List IObj) : Prop := match (z8 tx).2 with
 | none => (∃ r1, S1[q]? = some (.cells (LP r1 tx tx.length zG))) /\ S1[al]? = some (.cells [Q4 (L ++ ((z8 tx).1 ++ [yQ tx]).map J2)])
 | some f => ∃ a', S1[q]? = some (.cells (LP true tx a' (flt f)))
set_option maxRecDepth 20000 in
theorem jfZ (H : FLex F) (hl : tx.length <= 20000) (f : Nat -> Option (Nat × IVal)) (hf : f 5 = some (5, .ptr al 0)) (n1 : q ≠ al) (n2 : q ≠ id) (n3 : al ≠ id) {r : Bool} {S : List IObj} {C : Option Out} {L : List IVal} (hC : cfw F (.f 36) [.yl id, .pv true [.ptr q 0] 0] S = C) (hq : S[q]? = some (.cells (LP r tx 0 zG))) (hal : S[al]? = some (.cells [Q4 L])) (hid : S[id]? = some (.loop (jdd f))) (hL : L.length <= 10000) :
   ∃ S1 wr, C = some ⟨false, .tup [], S1, wr⟩ /\ Fl wr /\ S1.length = S.length /\ (∀ i, i < S.length -> i ≠ q -> i ≠ al -> S1[i]? = S[i]?) /\ jfp tx q al L S1 := by
 subst hC
 rw [cfw_of je9 H.h36, jw]
 obtain ⟨w1, r1, u1, g1⟩ := jb1 H.toFSkp hl (Nat.zero_le _) hq
 rw [tS, List.drop_zero] at u1
 have hsk := yV false tx
 simp only [je9, hq, u1, jA, Option.toList, jq, nat, j6, jO, j5, jr, lc0, lc1, jE, jF, jG, jH, j7, j8, ju, jt, jv, zV, zS, jC, jS, jc, jh, jX, je, jl, jd, jx, jU, jj, ji, jp, jR, jy, jw, Ts.fill, jY, jV, jf, jZ, jo, jm, jg, ja, getAll, stepCall, jn, unI, Opd.get, jB, tag, jz, jb, jP, rv, bin, j0, Nat.reduceAdd, Nat.reduceSub, Nat.reduceMul, Nat.reduceDiv, Nat.reduceMod, Nat.reducePow, Nat.reduceLT, Nat.reduceLeDiff, Nat.reduceEqDiff, Nat.reduceBEq, Nat.reduceBNe, reduceIte, Int.reduceEq, Int.reduceLT, Int.reduceLE, Int.reduceNeg, Int.reduceToNat, Int.reduceMul, Int.reduceAdd, Int.reduceSub, Int.reduceBEq, Int.reduceBNe, reduceCtorEq]
 generalize hE : evw F (ICode.loop zU) _ = R
 obtain ⟨f1, wr1, S1, gw, hkp, hend⟩ := jeu H.toFMrk hl f hf n1 n2 n3 (tx.length + 1) (skN false tx) r1 _ _ _ _ L hE (by omega) hsk (gs hq) (get_set hal n1) (get_set hid n2) (by omega) (by rfl) (by rfl) (by simpa using g1)
 have lq := jk hq
 have lal := jk hal
 have lid := jk hid
 have hlen : S.length <= S1.length := by simpa using hkp.1
 have hk : ∀ i, i < S.length -> i ≠ q -> i ≠ al -> S1[i]? = S[i]? := fun i hi h1 h2 => by
   rw [hkp.2 i (by simpa using hi) h1 h2, rA (fun e => h1 e.symm)]
 have tkg : ∀ (T : List IObj) (i : Nat), i < S.length -> (T.take S.length)[i]? = T[i]? := fun T i hi => by rw [tD, if_pos hi]
 unfold Q6 at hend
 simp only [jfp, z8]
 cases h2 : (zd tx (tx.length + 1) (skN false tx)).2 with
 | some ff =>
   rw [h2] at hend
   obtain ⟨rfl, a', gq⟩ := hend
   simp only [kb gw, jA, Option.toList, jq, nat, j6, jO, j5, jr, lc0, lc1, jE, jF, jG, jH, j7, j8, ju, jt, jv, zV, zS, jC, jS, jc, jh, jX, je, jl, jd, jx, jU, jj, ji, jp, jR, jy, jw, Ts.fill, jY, jV, jf, jZ, jo, jm, jg, ja, getAll, stepCall, jn, unI, Opd.get, jB, tag, jz, jb, jP, rv, bin, j0, Nat.reduceAdd, Nat.reduceSub, Nat.reduceMul, Nat.reduceDiv, Nat.reduceMod, Nat.reducePow, Nat.reduceLT, Nat.reduceLeDiff, Nat.reduceEqDiff, Nat.reduceBEq, Nat.reduceBNe, reduceIte, Int.reduceEq, Int.reduceLT, Int.reduceLE, Int.reduceNeg, Int.reduceToNat, Int.reduceMul, Int.reduceAdd, Int.reduceSub, Int.reduceBEq, Int.reduceBNe, reduceCtorEq]
   refine ⟨_, _, rfl, jN gw, by rw [tE]; omega, fun i hi h1 h2 => by rw [tkg _ i hi]; exact hk i hi h1 h2, a', by rw [tkg _ q lq]; exact gq⟩
 | none =>
   rw [h2] at hend
   obtain ⟨rfl, e0, e1, ⟨r2, gq⟩, gal⟩ := hend
   have gid : S1[id]? = some (.loop (jdd f)) := by rw [hk id lid (fun e => n2 e.symm) (fun e => n3 e.symm)]; exact hid
   have hlm := KP tx (tx.length + 1) (skN false tx)
   have tl : tx.take tx.length = tx := List.take_length
   have gq : S1[q]? = some (.cells (LC (dn r2) 0 (tb r2) tx (tx.length : Int) ((1 + nl tx : Nat) : Int) zG)) := by rw [<- jbK]; exact gq
   obtain ⟨w5, u5, g5⟩ := round (F := F) (k := 0) (a := tx.length) (ln := 1 + nl tx) (t := []) (n := 0) al id f (L ++ (zd tx (tx.length + 1) (skN false tx)).1.map J2) (by simp; omega) hf S1 gid gal n3
   have f5 : yZ [.int .i64 0, .int .i64 0, .int .i64 0, .str [], .int .i64 0] [(0, 1, I 0), (1, 1, I tx.length), (2, 1, I ((1 + nl tx : Nat) : Int))] = some (TC 0 tx.length (1 + nl tx) [] 0) := rfl
   have tcu : (TC 0 tx.length (1 + nl tx) [] 0).map un1 = TC 0 tx.length (1 + nl tx) [] 0 := rfl
   simp only [jbz, e0, e1, gq, f5, u5, tC, tM, jA, Option.toList, jq, nat, j6, jO, j5, jr, lc0, lc1, jE, jF, jG, jH, j7, j8, ju, jt, jv, zV, zS, jC, jS, jc, jh, jX, je, jl, jd, jx, jU, jj, ji, jp, jR, jy, jw, Ts.fill, jY, jV, jf, jZ, jo, jm, jg, ja, getAll, stepCall, jn, unI, Opd.get, jB, tag, jz, jb, jP, rv, bin, j0, Nat.reduceAdd, Nat.reduceSub, Nat.reduceMul, Nat.reduceDiv, Nat.reduceMod, Nat.reducePow, Nat.reduceLT, Nat.reduceLeDiff, Nat.reduceEqDiff, Nat.reduceBEq, Nat.reduceBNe, reduceIte, Int.reduceEq, Int.reduceLT, Int.reduceLE, Int.reduceNeg, Int.reduceToNat, Int.reduceMul, Int.reduceAdd, Int.reduceSub, Int.reduceBEq, Int.reduceBNe, reduceCtorEq]
   rw [kb (jQ g5 gw)]
   refine ⟨_, _, rfl, jN (jQ g5 gw), ?_, ?_, ⟨r2, ?_⟩, ?_⟩
   . simp; omega
   . intro i hi h1 h2
     rw [tkg _ i hi, rA (fun e => h2 e.symm)]; exact hk i hi h1 h2
   . rw [tkg _ q lq, get_set gq (fun e => n1 e.symm), jbK]
   . rw [tkg _ al lal, List.map_append, rH (jk gal)]; rfl
end
end Go.Idl.Lx
namespace Go.Idl.Lx
open Go Go.Idl Go.Idl.En
variable {F : kg}
def unF (f : Nat -> Option (Nat × IVal)) : Nat -> Option (Nat × IVal) := fun k => match f k with | some (i, v) => some (i, un3 v) | none => none
theorem jgC (nv m d : Nat) (ds : List Nat) (f : Nat -> Option (Nat × IVal)) : ({ E nv m d ds f with t := (E nv m d ds f).t.un, ds := [] } : Ts) = E nv m d [] (unF f) := by
 show Ts.mk nv m (Tm.un (Tm.ofF d f)) [] = _
 rw [Tm.un_ofF]; rfl
theorem XH (x : Opd) (ps : List Nat) (a b : ICode) (nv m d : Nat) (f : Nat -> Option (Nat × IVal)) (σ : List IObj) (wr : List (Nat × Bool)) : evw F (.rangeF x ps a b) ⟨E nv m d [] f, σ, wr⟩ = match x.get (E nv m d [] f) with
   | some (.fn (.func g) us ws, _) =>
     match cfw F (.f g) (us ++ [.yl (σ.length + 1)] ++ ws) (σ ++ [.defr, .loop ⟨0, E nv m d [] (unF f), ps, a, b, none, .none⟩]) with
     | some ⟨false, _, σ', wr'⟩ => match σ'[σ.length + 1]? with
       | some (.loop l) => if l.st = 1 then none else
         match l.pend with
         | none => some (.normal, ⟨E nv m d [σ.length] f, σ'.set (σ.length + 1) .dead, (σ.length + 1, false) :: (wr' ++ wr)⟩)
         | some x => if Ko x then some (x, ⟨E nv m d [σ.length] f, σ'.set (σ.length + 1) .dead, (σ.length + 1, false) :: (wr' ++ wr)⟩) else none
       | _ => none
     | _ => none
   | _ => none := by
 rw [vD]
 simp only [evG, jgC]
 rfl
def jbG (tx : List UInt8) : List IVal := if 20000 < tx.length then [.sl 5 true [], flt (4, 20000)] else match (z8 tx).2 with
 | some f => [.sl 5 true [], flt f]
 | none => [.sl 0 false (((z8 tx).1 ++ [yQ tx]).map J2), .prim .nilIface]
section
variable {tx : List UInt8} {σ : List IObj}
theorem jcK (d st : Int) (f : Nat -> Nat) (a ln : Int) (er : IVal) (h : er.isCell = true) : (LC d st f tx a ln er).all IVal.isCell = true := by
 unfold LC Xr
 simp only [List.all_cons, List.all_append, List.all_map, List.all_nil, h, isCell_int, isCell_str, Bool.true_and, Bool.and_true, rD]
 intro i _; rfl
set_option maxRecDepth 100000 in
theorem jfv (tx : List UInt8) (zs : List IVal) (hz : zs = LC 0 0 (fun _ => 0) [] 0 0 (.prim .nilIface)) : yZ zs [(259, 1, .str tx), (261, 1, I 1)] = some (LP false tx 0 zG) := by
 subst hz
 simp only [yZ, cells_str, cells_int, jr, tB, List.length_nil, List.all_cons, List.all_nil, isCell_str, isCell_int, jb, jt, Bool.and_true]
 have : (LC 0 0 (fun _ => 0) [] 0 0 (.prim .nilIface)).set 259 (.str tx) = LC 0 0 (fun _ => 0) tx 0 0 (.prim .nilIface) := V5 0 0 (fun _ => 0) [] 0 0 (.prim .nilIface) 0 (.str tx)
 rw [if_pos (by decide), this, jt]
 simp only [jr, yZ]
 rw [if_pos (by decide)]
 rfl
theorem jfY (h : F 24 = some jd7) {q : Nat} : cfw F (.f 24) [.ptr q 0] σ = some ⟨false, .fn (.func 36) [] [.pv true [.ptr q 0] 0], σ, []⟩ := by
 rw [cfw_of jd7 h, jw]
 simp only [jd7, ext, jA, Option.toList, jq, nat, j6, jO, j5, jr, lc0, lc1, jE, jF, jG, jH, j7, j8, ju, jt, jv, zV, zS, jC, jS, jc, jh, jX, je, jl, jd, jx, jU, jj, ji, jp, jR, jy, jw, Ts.fill, jY, jV, jf, jZ, jo, jm, jg, ja, getAll, stepCall, jn, unI, Opd.get, jB, tag, jz, jb, jP, rv, bin, j0, Nat.reduceAdd, Nat.reduceSub, Nat.reduceMul, Nat.reduceDiv, Nat.reduceMod, Nat.reducePow, Nat.reduceLT, Nat.reduceLeDiff, Nat.reduceEqDiff, Nat.reduceBEq, Nat.reduceBNe, reduceIte, Int.reduceEq, Int.reduceLT, Int.reduceLE, Int.reduceNeg, Int.reduceToNat, Int.reduceMul, Int.reduceAdd, Int.reduceSub, Int.reduceBEq, Int.reduceBNe, reduceCtorEq]
theorem jfy {x y z w : IObj} : (σ ++ [x, y, z, w])[σ.length]? = some x := by rw [get_app0]; rfl
theorem jfz {x y z w : IObj} : (σ ++ [x, y, z, w])[σ.length + 1]? = some y := by rw [get_app]; rfl
theorem jfA {x y z w : IObj} : (σ ++ [x, y, z, w])[σ.length + 2]? = some z := by rw [get_app]; rfl
theorem jd1 {x y z w : IObj} : (σ ++ [x, y, z, w])[σ.length + 2 + 1]? = some w := by rw [Nat.add_assoc, get_app]; rfl
set_option maxRecDepth 100000 in
theorem jdw (H : FLex F) : ∃ wr, cfw F (.f 8) [.str tx] σ = some ⟨false, .tup (jbG tx), σ, wr⟩ /\ Fl wr := by
 rw [cfw_of ir8 H.h8, jw, jbG]
 by_cases hl : 20000 < tx.length
 . have d1 : decide (((tx.length : Nat) : Int) > 20000) = true := rB (by omega)
   have f2 : yZ [.int .i64 0, .int .i64 0] [(0, 1, I 4), (1, 1, I 20000)] = some [I 4, I 20000] := rfl
   rw [if_pos hl]
   simp only [ir8, d1, f2, ext, tC, tM, jA, Option.toList, jq, nat, j6, jO, j5, jr, lc0, lc1, jE, jF, jG, jH, j7, j8, ju, jt, jv, zV, zS, jC, jS, jc, jh, jX, je, jl, jd, jx, jU, jj, ji, jp, jR, jy, jw, Ts.fill, jY, jV, jf, jZ, jo, jm, jg, ja, getAll, stepCall, jn, unI, Opd.get, jB, tag, jz, jb, jP, rv, bin, j0, Nat.reduceAdd, Nat.reduceSub, Nat.reduceMul, Nat.reduceDiv, Nat.reduceMod, Nat.reducePow, Nat.reduceLT, Nat.reduceLeDiff, Nat.reduceEqDiff, Nat.reduceBEq, Nat.reduceBNe, reduceIte, Int.reduceEq, Int.reduceLT, Int.reduceLE, Int.reduceNeg, Int.reduceToNat, Int.reduceMul, Int.reduceAdd, Int.reduceSub, Int.reduceBEq, Int.reduceBNe, reduceCtorEq]
   exact ⟨_, rfl, rfl⟩
 . have d1 : decide (((tx.length : Nat) : Int) > 20000) = false := rE (by omega)
   rw [if_neg hl]
   simp only [ir8, d1, tC, tM, jA, Option.toList, jq, nat, j6, jO, j5, jr, lc0, lc1, jE, jF, jG, jH, j7, j8, ju, jt, jv, zV, zS, jC, jS, jc, jh, jX, je, jl, jd, jx, jU, jj, ji, jp, jR, jy, jw, Ts.fill, jY, jV, jf, jZ, jo, jm, jg, ja, getAll, stepCall, jn, unI, Opd.get, jB, tag, jz, jb, jP, rv, bin, j0, Nat.reduceAdd, Nat.reduceSub, Nat.reduceMul, Nat.reduceDiv, Nat.reduceMod, Nat.reducePow, Nat.reduceLT, Nat.reduceLeDiff, Nat.reduceEqDiff, Nat.reduceBEq, Nat.reduceBNe, reduceIte, Int.reduceEq, Int.reduceLT, Int.reduceLE, Int.reduceNeg, Int.reduceToNat, Int.reduceMul, Int.reduceAdd, Int.reduceSub, Int.reduceBEq, Int.reduceBNe, reduceCtorEq]
   rw [jfv tx]
   rotate_left
   . rfl
   have ca := jcK (tx := tx) (dn false) 0 (tb false) ((0 : Nat) : Int) ((1 + nl (tx.take 0) : Nat) : Int) zG (by rfl)
   have lc1' : (List.map un1 (LP false tx 0 zG)) = LP false tx 0 zG := by
     unfold LP LC Xr; simp only [rR, List.map_append, List.map_map, List.map_nil]; rfl
   have u1 := fun τ => jfY H.h24 (σ := τ) (q := σ.length)
   simp only [ca, lc1', u1, un2_agg, cells_agg, XH, jA, Option.toList, jq, nat, j6, jO, j5, jr, lc0, lc1, jE, jF, jG, jH, j7, j8, ju, jt, jv, zV, zS, jC, jS, jc, jh, jX, je, jl, jd, jx, jU, jj, ji, jp, jR, jy, jw, Ts.fill, jY, jV, jf, jZ, jo, jm, jg, ja, getAll, stepCall, jn, unI, Opd.get, jB, tag, jz, jb, jP, rv, bin, j0, Nat.reduceAdd, Nat.reduceSub, Nat.reduceMul, Nat.reduceDiv, Nat.reduceMod, Nat.reducePow, Nat.reduceLT, Nat.reduceLeDiff, Nat.reduceEqDiff, Nat.reduceBEq, Nat.reduceBNe, reduceIte, Int.reduceEq, Int.reduceLT, Int.reduceLE, Int.reduceNeg, Int.reduceToNat, Int.reduceMul, Int.reduceAdd, Int.reduceSub, Int.reduceBEq, Int.reduceBNe, reduceCtorEq]
   generalize hC : cfw F (.f 36) _ _ = C
   obtain ⟨S1, wr, rfl, gw, hlen, hk, ht⟩ := jfZ (tx := tx) (al := σ.length + 1) (r := false) (L := []) H (by omega) _ (by rfl) (by omega) (by omega) (by omega) hC jfy jfz jd1 (by simp)
   have hl4 : S1.length = σ.length + 4 := by rw [hlen]; simp
   simp only [rF, tB, List.length_nil] at hk
   obtain ⟨l, gl, l0, lp⟩ : ∃ l, S1[σ.length + 2 + 1]? = some (.loop l) /\ l.st = 0 /\ l.pend = none := by
     exact ⟨_, (hk _ (by omega) (by omega) (by omega)).trans jd1, rfl, rfl⟩
   have gd : S1[σ.length + 2]? = some .defr := by rw [hk _ (by omega) (by omega) (by omega)]; exact jfA
   have gd2 := get_set (x := .dead) gd (j := σ.length + 2 + 1) (by omega)
   have tk : ((S1.set (σ.length + 2 + 1) .dead).set (σ.length + 2) .dead).take σ.length = σ := by
     apply List.ext_getElem?
     intro i
     by_cases hi : i < σ.length
     . rw [tD, if_pos hi, rA (by omega), rA (by omega), hk i (by omega) (by omega) (by omega), List.getElem?_append_left hi]
     . rw [rV (by simp; omega), rV (by omega)]
   unfold jfp at ht
   cases h2 : (z8 tx).2 with
   | some ff =>
     rw [h2] at ht
     obtain ⟨a', gq⟩ := ht
     have gq2 := get_set (x := .dead) gq (j := σ.length + 2 + 1) (by omega)
     simp only [gl, l0, lp, gq2, gd2, tk, jA, Option.toList, jq, nat, j6, jO, j5, jr, lc0, lc1, jE, jF, jG, jH, j7, j8, ju, jt, jv, zV, zS, jC, jS, jc, jh, jX, je, jl, jd, jx, jU, jj, ji, jp, jR, jy, jw, Ts.fill, jY, jV, jf, jZ, jo, jm, jg, ja, getAll, stepCall, jn, unI, Opd.get, jB, tag, jz, jb, jP, rv, bin, j0, Nat.reduceAdd, Nat.reduceSub, Nat.reduceMul, Nat.reduceDiv, Nat.reduceMod, Nat.reducePow, Nat.reduceLT, Nat.reduceLeDiff, Nat.reduceEqDiff, Nat.reduceBEq, Nat.reduceBNe, reduceIte, Int.reduceEq, Int.reduceLT, Int.reduceLE, Int.reduceNeg, Int.reduceToNat, Int.reduceMul, Int.reduceAdd, Int.reduceSub, Int.reduceBEq, Int.reduceBNe, reduceCtorEq]
     rw [kb gw]
     refine ⟨_, rfl, ?_⟩
     repeat (first | exact jN gw | apply V1 | apply KK)
   | none =>
     rw [h2] at ht
     obtain ⟨⟨r1, gq⟩, ga⟩ := ht
     have gq2 := get_set (x := .dead) gq (j := σ.length + 2 + 1) (by omega)
     have ga2 := get_set (x := .dead) ga (j := σ.length + 2 + 1) (by omega)
     have nn : isNil 1 (un2 zG) = some true := rfl
     have lv : Q4 ([] ++ ((z8 tx).1 ++ [yQ tx]).map J2) = .sl 5 false (((z8 tx).1 ++ [yQ tx]).map J2) := by
       rw [tJ]
       cases (z8 tx).1 <;> rfl
     rw [lv] at ga2
     have nr : (((z8 tx).1 ++ [yQ tx]).map J2).isEmpty = false := by cases (z8 tx).1 <;> rfl
     simp only [gl, l0, lp, gq2, ga2, gd2, tk, nn, jA, Option.toList, jq, nat, j6, jO, j5, jr, lc0, lc1, jE, jF, jG, jH, j7, j8, ju, jt, jv, zV, zS, jC, jS, jc, jh, jX, je, jl, jd, jx, jU, jj, ji, jp, jR, jy, jw, Ts.fill, jY, jV, jf, jZ, jo, jm, jg, ja, getAll, stepCall, jn, unI, Opd.get, jB, tag, jz, jb, jP, rv, bin, j0, Nat.reduceAdd, Nat.reduceSub, Nat.reduceMul, Nat.reduceDiv, Nat.reduceMod, Nat.reducePow, Nat.reduceLT, Nat.reduceLeDiff, Nat.reduceEqDiff, Nat.reduceBEq, Nat.reduceBNe, reduceIte, Int.reduceEq, Int.reduceLT, Int.reduceLE, Int.reduceNeg, Int.reduceToNat, Int.reduceMul, Int.reduceAdd, Int.reduceSub, Int.reduceBEq, Int.reduceBNe, reduceCtorEq]
     rw [kb gw]
     refine ⟨_, rfl, ?_⟩
     repeat (first | exact jN gw | apply V1 | apply KK)
end
end Go.Idl.Lx
namespace Go.Idl.Lx
open Go Go.Idl Go.Idl.En
variable {F : kg}
structure Bd (n : Nat) (σ S : List IObj) (s : List UInt8) : Prop where
 len : n + 2 <= S.length
 old : ∀ i, i < n -> S[i]? = σ[i]?
 tg : S[n + 1]? = some (.ty 48 2 n)
 bx : ∃ ad bf, S[n]? = some (.cells [ad, bf]) /\ (ad = .prim (.pointer none) \/ ad = .ptr n 0) /\ ((s = [] /\ bf = .sl 1 true []) \/ (s ≠ [] /\ ∃ id, n + 2 <= id /\ bf = .rs 1 id 0 s.length /\ S[id]? = some (.cells (s.map fun c => .int .u8 c.toNat)) /\ S[id + 1]? = some (.ty 5 0 id)))
structure FBld (F : kg) : Prop where
 h20 : F 20 = some YP
 h21 : F 21 = some jd5
 h35 : F 35 = some jdB
def Ge (n : Nat) (wr : List (Nat × Bool)) : Prop := ∀ p ∈ wr, n <= p.1
theorem jcn {n : Nat} {wr : List (Nat × Bool)} (h : Ge n wr) : wr.all (fun p => !p.2 || decide (n <= p.1)) = true := by
 rw [rD]; intro p hp; simp [h p hp]
theorem JC {n : Nat} {wr : List (Nat × Bool)} (h : Ge n wr) (f : Nat × Bool -> Bool) : Ge n (wr.filter f) := fun p hp => h p (List.mem_filter.mp hp).1
theorem jcm {n : Nat} {wr : List (Nat × Bool)} (h : Ge n wr) : wr.filter (fun p => decide (p.1 < n)) = [] := by
 rw [List.filter_eq_nil_iff]; intro p hp; have := h p hp; simp; omega
theorem Vg {n q : Nat} {b : Bool} {a : List (Nat × Bool)} (h : n <= q) (h2 : Ge n a) : Ge n ((q, b) :: a) := fun p hp => by
 rcases List.mem_cons.1 hp with rfl | hp
 . exact h
 . exact h2 p hp
theorem YK {n : Nat} {c : Prop} [Decidable c] {a b : List (Nat × Bool)} (h : Ge n a) (h2 : Ge n b) : Ge n (if c then a else b) := by split <;> assumption
theorem toB (s : List UInt8) : vB (s.map fun c => IVal.int .u8 c.toNat) = some s := by
 induction s with
 | nil => rfl
 | cons c s ih => simp only [rR, vB, ih]; congr 1; simp
section
variable {n : Nat} {σ S : List IObj} {s : List UInt8}
set_option maxRecDepth 20000 in
theorem Z5 (h : F 35 = some jdB) {ad bf : IVal} (hb : S[n]? = some (.cells [ad, bf])) (hg : S[n + 1]? = some (.ty 48 2 n)) (ha : ad = .prim (.pointer none) \/ ad = .ptr n 0) :
   ∃ wr, cfw F (.f 35) [.ptr n 0] S = some ⟨false, .tup [], S.set n (.cells [.ptr n 0, bf]), wr⟩ /\ Ge n wr := by
 rw [cfw_of jdB h, jw]
 have lb := jk hb
 rcases ha with rfl | rfl
 . have tk : (S.set n (.cells [.ptr n 0, bf])).take S.length = S.set n (.cells [.ptr n 0, bf]) := take_set
   have x1 : nr1 (.ptr n 0) = false := rfl
   have hn : ¬ S.length <= n := by omega
   have tf : (true != false) = true := rfl
   have n20 : (2 : Nat) ≠ 0 := by decide
   simp only [jdB, hb, hg, tk, x1, tf, ne_eq, n20, hn, jA, Option.toList, jq, nat, j6, jO, j5, jr, lc0, lc1, jE, jF, jG, jH, j7, j8, ju, jt, jv, zV, zS, jC, jS, jc, jh, jX, je, jl, jd, jx, jU, jj, ji, jp, jR, jy, jw, Ts.fill, jY, jV, jf, jZ, jo, jm, jg, ja, getAll, stepCall, jn, unI, Opd.get, jB, tag, jz, jb, jP, rv, bin, j0, Nat.reduceAdd, Nat.reduceSub, Nat.reduceMul, Nat.reduceDiv, Nat.reduceMod, Nat.reducePow, Nat.reduceLT, Nat.reduceLeDiff, Nat.reduceEqDiff, Nat.reduceBEq, Nat.reduceBNe, reduceIte, Int.reduceEq, Int.reduceLT, Int.reduceLE, Int.reduceNeg, Int.reduceToNat, Int.reduceMul, Int.reduceAdd, Int.reduceSub, Int.reduceBEq, Int.reduceBNe, reduceCtorEq]
   refine ⟨_, rfl, ?_⟩
   intro p hp
   split at hp
   . simp at hp; subst hp; exact rP _
   . simp at hp
 . simp only [jdB, hb, jA, Option.toList, jq, nat, j6, jO, j5, jr, lc0, lc1, jE, jF, jG, jH, j7, j8, ju, jt, jv, zV, zS, jC, jS, jc, jh, jX, je, jl, jd, jx, jU, jj, ji, jp, jR, jy, jw, Ts.fill, jY, jV, jf, jZ, jo, jm, jg, ja, getAll, stepCall, jn, unI, Opd.get, jB, tag, jz, jb, jP, rv, bin, j0, Nat.reduceAdd, Nat.reduceSub, Nat.reduceMul, Nat.reduceDiv, Nat.reduceMod, Nat.reducePow, Nat.reduceLT, Nat.reduceLeDiff, Nat.reduceEqDiff, Nat.reduceBEq, Nat.reduceBNe, reduceIte, Int.reduceEq, Int.reduceLT, Int.reduceLE, Int.reduceNeg, Int.reduceToNat, Int.reduceMul, Int.reduceAdd, Int.reduceSub, Int.reduceBEq, Int.reduceBNe, reduceCtorEq]
   rw [vt hb]
   exact ⟨_, rfl, by intro p hp; simp at hp⟩
set_option maxRecDepth 20000 in
theorem K8 (H : FBld F) {t : List UInt8} (ht : t ≠ []) (hl : s.length <= 1000000) (htl : t.length <= 1000000) (hB : Bd n σ S s) :
   ∃ S1 wr, cfw F (.f 20) [.ptr n 0, .str t] S = some ⟨false, .tup [I t.length, .prim .nilIface], S1, wr⟩ /\ Ge n wr /\ Bd n σ S1 (s ++ t) := by
 rw [cfw_of YP H.h20, jw]
 obtain ⟨ad, bf, hb, had, hbf⟩ := hB.bx
 obtain ⟨w1, u1, g1⟩ := Z5 H.h35 hb hB.tg had
 have lb := jk hb
 have hlen := hB.len
 have gb := gs hb (y := .cells [.ptr n 0, bf])
 have t0 : t.length ≠ 0 := fun e => ht (List.length_eq_zero_iff.1 e)
 have tl : t.length <= 1099511627776 := by omega
 have hne : s ++ t ≠ [] := by simp [ht]
 rcases hbf with ⟨rfl, rfl⟩ | ⟨hs, id, hid, rfl, hc, htg⟩
 . have s2 : ∀ (x y : IObj) (l : List IObj), (S.set n x ++ l).set n y = S.set n y ++ l := fun x y l => by rw [vg (by simpa using lb), r7]
   have g2 : ∀ (x : IObj) (l : List IObj), (S.set n x ++ l)[n]? = some x := fun x l => by rw [List.getElem?_append_left (by simpa using lb), rH lb]
   have x1 : nr1 (.rs 1 S.length 0 t.length) = false := rfl
   have hn : ¬ S.length <= n := by omega
   have dn : decide (S.length <= n) = false := rE hn
   simp only [YP, u1, gb, t0, tl, s2, g2, x1, dn, rC, jA, Option.toList, jq, nat, j6, jO, j5, jr, lc0, lc1, jE, jF, jG, jH, j7, j8, ju, jt, jv, zV, zS, jC, jS, jc, jh, jX, je, jl, jd, jx, jU, jj, ji, jp, jR, jy, jw, Ts.fill, jY, jV, jf, jZ, jo, jm, jg, ja, getAll, stepCall, jn, unI, Opd.get, jB, tag, jz, jb, jP, rv, bin, j0, Nat.reduceAdd, Nat.reduceSub, Nat.reduceMul, Nat.reduceDiv, Nat.reduceMod, Nat.reducePow, Nat.reduceLT, Nat.reduceLeDiff, Nat.reduceEqDiff, Nat.reduceBEq, Nat.reduceBNe, reduceIte, Int.reduceEq, Int.reduceLT, Int.reduceLE, Int.reduceNeg, Int.reduceToNat, Int.reduceMul, Int.reduceAdd, Int.reduceSub, Int.reduceBEq, Int.reduceBNe, reduceCtorEq]
   refine ⟨_, _, rfl, ?_, ?_, ?_, ?_, ?_⟩
   . repeat (first | exact JC g1 _ | apply YK | apply Vg (by omega))
   . simp; omega
   . intro i hi
     rw [List.getElem?_append_left (by simp; omega), rA (by omega)]; exact hB.old i hi
   . rw [List.getElem?_append_left (by simp; omega), rA (by omega)]; exact hB.tg
   . refine ⟨_, _, g2 _ _, Or.inr rfl, Or.inr ⟨hne, S.length, hlen, rfl, ?_, ?_⟩⟩
     . rw [rS (by simp)]; simp
     . rw [rS (by simp)]; simp
 . have hid2 : id ≠ n := by omega
   have hid3 : id + 1 ≠ n := by omega
   have lid := jk hc
   have lid1 := jk htg
   have c1 := get_set (x := .cells [.ptr n 0, .rs 1 id 0 s.length]) hc (j := n) (by omega)
   have c2 := get_set (x := .cells [.ptr n 0, .rs 1 id 0 s.length]) htg (j := n) (by omega)
   have s2 : ∀ (x y z : IObj) (l : List IObj), ((S.set n x).set id z ++ l).set n y = (S.set n y).set id z ++ l := fun x y z l => by rw [vg (by simpa using lb), List.set_comm _ _ hid2, r7]
   have g2 : ∀ (x z : IObj) (l : List IObj), ((S.set n x).set id z ++ l)[n]? = some x := fun x z l => by rw [List.getElem?_append_left (by simpa using lb), rA hid2, rH lb]
   have x1 : nr1 (.rs 1 S.length 0 (s.length + t.length)) = false := rfl
   have dn : decide (S.length <= n) = false := rE (by omega)
   have l1 : s.length + t.length <= 1099511627776 := by omega
   have tk : (s.map fun c => IVal.int .u8 c.toNat).take s.length = s.map fun c => IVal.int .u8 c.toNat := rU (by simp)
   simp only [YP, u1, gb, c1, c2, t0, tl, l1, tk, s2, g2, x1, dn, rC, jA, Option.toList, jq, nat, j6, jO, j5, jr, lc0, lc1, jE, jF, jG, jH, j7, j8, ju, jt, jv, zV, zS, jC, jS, jc, jh, jX, je, jl, jd, jx, jU, jj, ji, jp, jR, jy, jw, Ts.fill, jY, jV, jf, jZ, jo, jm, jg, ja, getAll, stepCall, jn, unI, Opd.get, jB, tag, jz, jb, jP, rv, bin, j0, Nat.reduceAdd, Nat.reduceSub, Nat.reduceMul, Nat.reduceDiv, Nat.reduceMod, Nat.reducePow, Nat.reduceLT, Nat.reduceLeDiff, Nat.reduceEqDiff, Nat.reduceBEq, Nat.reduceBNe, reduceIte, Int.reduceEq, Int.reduceLT, Int.reduceLE, Int.reduceNeg, Int.reduceToNat, Int.reduceMul, Int.reduceAdd, Int.reduceSub, Int.reduceBEq, Int.reduceBNe, reduceCtorEq]
   refine ⟨_, _, rfl, ?_, ?_, ?_, ?_, ?_⟩
   . repeat (first | exact JC g1 _ | apply YK | apply Vg (by omega))
   . simp; omega
   . intro i hi
     rw [List.getElem?_append_left (by simp; omega), rA (by omega), rA (by omega)]; exact hB.old i hi
   . rw [List.getElem?_append_left (by simp; omega), rA (by omega), rA (by omega)]; exact hB.tg
   . refine ⟨_, _, g2 _ _ _, Or.inr rfl, Or.inr ⟨hne, S.length, hlen, by rw [rF], ?_, ?_⟩⟩
     . rw [rS (by simp)]; simp
     . rw [rS (by simp)]; simp
end
end Go.Idl.Lx
namespace Go.Idl.Lx
open Go Go.Idl Go.Idl.En
variable {F : kg}
section
variable {n : Nat} {σ S : List IObj} {s : List UInt8}
set_option maxRecDepth 20000 in
theorem Xq (H : FBld F) (hl : s.length <= 1000000) (hB : Bd n σ S s) :
   ∃ S1 wr, cfw F (.f 21) [.ptr n 0] S = some ⟨false, .str s, S1, wr⟩ /\ Ge n wr /\ S1.length = S.length /\ ∀ i, i < n -> S1[i]? = σ[i]? := by
 rw [cfw_of jd5 H.h21, jw]
 obtain ⟨ad, bf, hb, had, hbf⟩ := hB.bx
 have lb := jk hb
 have dq : decide (n < S.length) = true := rB lb
 rcases hbf with ⟨rfl, rfl⟩ | ⟨hs, id, hid, rfl, hc, htg⟩
 . simp only [jd5, hb, dq, jA, Option.toList, jq, nat, j6, jO, j5, jr, lc0, lc1, jE, jF, jG, jH, j7, j8, ju, jt, jv, zV, zS, jC, jS, jc, jh, jX, je, jl, jd, jx, jU, jj, ji, jp, jR, jy, jw, Ts.fill, jY, jV, jf, jZ, jo, jm, jg, ja, getAll, stepCall, jn, unI, Opd.get, jB, tag, jz, jb, jP, rv, bin, j0, Nat.reduceAdd, Nat.reduceSub, Nat.reduceMul, Nat.reduceDiv, Nat.reduceMod, Nat.reducePow, Nat.reduceLT, Nat.reduceLeDiff, Nat.reduceEqDiff, Nat.reduceBEq, Nat.reduceBNe, reduceIte, Int.reduceEq, Int.reduceLT, Int.reduceLE, Int.reduceNeg, Int.reduceToNat, Int.reduceMul, Int.reduceAdd, Int.reduceSub, Int.reduceBEq, Int.reduceBNe, reduceCtorEq]
   exact ⟨_, _, rfl, by intro p hp; simp at hp, rfl, hB.old⟩
 . have s0 : s.length ≠ 0 := fun e => hs (List.length_eq_zero_iff.1 e)
   have s1 : 0 < s.length := by omega
   have s2 : (0 : Int) < (s.length : Int) := by omega
   have s3 : (s.length : Int) <= 1099511627776 := by omega
   have tk : (s.map fun c => IVal.int .u8 c.toNat).take s.length = s.map fun c => IVal.int .u8 c.toNat := rU (by simp)
   simp only [jd5, hb, hc, htg, s0, s1, s2, s3, tk, toB, dq, rI, take_set, jA, Option.toList, jq, nat, j6, jO, j5, jr, lc0, lc1, jE, jF, jG, jH, j7, j8, ju, jt, jv, zV, zS, jC, jS, jc, jh, jX, je, jl, jd, jx, jU, jj, ji, jp, jR, jy, jw, Ts.fill, jY, jV, jf, jZ, jo, jm, jg, ja, getAll, stepCall, jn, unI, Opd.get, jB, tag, jz, jb, jP, rv, bin, j0, Nat.reduceAdd, Nat.reduceSub, Nat.reduceMul, Nat.reduceDiv, Nat.reduceMod, Nat.reducePow, Nat.reduceLT, Nat.reduceLeDiff, Nat.reduceEqDiff, Nat.reduceBEq, Nat.reduceBNe, reduceIte, Int.reduceEq, Int.reduceLT, Int.reduceLE, Int.reduceNeg, Int.reduceToNat, Int.reduceMul, Int.reduceAdd, Int.reduceSub, Int.reduceBEq, Int.reduceBNe, reduceCtorEq]
   refine ⟨_, _, rfl, ?_, by simp, ?_⟩
   . have g1 : Ge n [] := by intro p hp; simp at hp
     repeat (first | exact JC g1 _ | exact g1 | apply YK | apply Vg (by omega))
   . intro i hi
     rw [rA (by omega)]; exact hB.old i hi
def pcs : List (List UInt8) := [[120], [119, 104, 105, 108, 101], [95, 97, 57], [119, 49, 54], [48], [49, 50], [48, 120], [48, 120, 49, 102], [52, 50, 57, 52, 57, 54, 55, 50, 57, 53], [52, 50, 57, 52, 57, 54, 55, 50, 57, 54], [97, 98, 99, 100, 101, 102, 103, 104, 105, 106, 107, 108, 109, 110, 111, 112], [60], [60, 60], [62], [61], [61, 61], [33], [33, 61], [47], [47, 47], [123], [125], [40], [41], [91], [93], [59], [58], [44], [46], [43], [45], [42], [37], [38], [94], [124], [126], [32], [32], [9], [10], [36], [0], [255], [48, 88, 49], [57, 122], [47, 47, 32, 101, 110, 100, 10]]
set_option maxRecDepth 100000 in
theorem jaO (h : F 25 = some jd8) : cfw F (.f 25) [] σ = some ⟨false, .sl 1 false (pcs.map .str), σ, []⟩ := by
 rw [cfw_of jd8 h, jw]
 simp only [jd8, ext, jA, Option.toList, jq, nat, j6, jO, j5, jr, lc0, lc1, jE, jF, jG, jH, j7, j8, ju, jt, jv, zV, zS, jC, jS, jc, jh, jX, je, jl, jd, jx, jU, jj, ji, jp, jR, jy, jw, Ts.fill, jY, jV, jf, jZ, jo, jm, jg, ja, getAll, stepCall, jn, unI, Opd.get, jB, tag, jz, jb, jP, rv, bin, j0, Nat.reduceAdd, Nat.reduceSub, Nat.reduceMul, Nat.reduceDiv, Nat.reduceMod, Nat.reducePow, Nat.reduceLT, Nat.reduceLeDiff, Nat.reduceEqDiff, Nat.reduceBEq, Nat.reduceBNe, reduceIte, Int.reduceEq, Int.reduceLT, Int.reduceLE, Int.reduceNeg, Int.reduceToNat, Int.reduceMul, Int.reduceAdd, Int.reduceSub, Int.reduceBEq, Int.reduceBNe, reduceCtorEq]
 rfl
def pc (b : Nat) : List UInt8 := (pcs[b % 48]?).getD []
theorem jbW (b : Nat) : pcs[b % 48]? = some (pc b) := by
 have h : b % 48 < pcs.length := Nat.mod_lt _ (by decide)
 rw [pc, rG h]; rfl
theorem jeO : ∀ p ∈ pcs, p ≠ [] /\ p.length <= 16 := by decide
theorem jeN (b : Nat) : pc b ≠ [] /\ (pc b).length <= 16 := jeO _ (List.mem_of_getElem? (jbW b))
def mdS (l : List Nat) : List UInt8 := (l.take 120).flatMap pc
theorem jcO (l : List Nat) : (mdS l).length <= 1920 := by
 have : ∀ (l : List Nat), (l.flatMap pc).length <= l.length * 16 := by
   intro l
   induction l with
   | nil => simp
   | cons b l ih => rw [rO, rF, tB]; have := (jeN b).2; omega
 have h := this (l.take 120)
 have h2 : (l.take 120).length <= 120 := by rw [tE]; omega
 rw [mdS]; omega
structure FMade (F : kg) : Prop extends FBld F where
 h9 : F 9 = some ir9
 h25 : F 25 = some jd8
set_option maxRecDepth 20000 in
theorem jfI (H : FMade F) {l : List Nat} {o : Nat} {r : Bool} (hb : ∀ b ∈ l, b < 256) : ∀ (m i : Nat) (f0 : Nat -> Option (Nat × IVal)) (S : List IObj) (wr : List (Nat × Bool)) (R : Option (IExit × St)), evw F (.loop yR) ⟨E 6 12 5 [] f0, S, wr⟩ = R -> i <= 120 -> 120 - i <= m -> i <= l.length -> Bd n σ S ((l.take i).flatMap pc) -> f0 0 = some (0, .sl o r (l.map B)) -> f0 3 = some (3, .ptr n 0) -> f0 4 = some (4, .sl 1 false (pcs.map .str)) -> f0 5 = some (5, I i) -> Ge n wr ->
   ∃ f1 S1 wr1, R = some (.exit 0, ⟨E 6 12 5 [] (base f1), S1, wr1⟩) /\ Ge n wr1 /\ Bd n σ S1 (mdS l) /\ f1 3 = some (3, .ptr n 0) := by
 intro m
 induction m with
 | zero =>
   intro i f0 S wr R hE hi hm hil hB e0 e3 e4 e5 hw
   have hi : i = 120 := by omega
   subst hi
   have d2 : decide ((120 : Int) < 120) = false := rfl
   change evw F (.loop yR) ⟨E 6 12 5 [] (base f0), S, wr⟩ = R at hE
   rw [jT] at hE
   cases d1 : decide ((120 : Int) < ((l.length : Nat) : Int)) with
   | true =>
     simp only [yR, e0, e3, e4, e5, d1, d2, jl, jA, Option.toList, jq, nat, j6, jO, j5, jr, lc0, lc1, jE, jF, jG, jH, j7, j8, ju, jt, jv, zV, zS, jC, jS, jc, jh, jX, je, jd, jx, jU, jj, ji, jp, jR, jy, jw, Ts.fill, jY, jV, jf, jZ, jo, jm, jg, ja, getAll, stepCall, jn, unI, Opd.get, jB, tag, jz, jb, jP, rv, bin, j0, Nat.reduceAdd, Nat.reduceSub, Nat.reduceMul, Nat.reduceDiv, Nat.reduceMod, Nat.reducePow, Nat.reduceLT, Nat.reduceLeDiff, Nat.reduceEqDiff, Nat.reduceBEq, Nat.reduceBNe, reduceIte, Int.reduceEq, Int.reduceLT, Int.reduceLE, Int.reduceNeg, Int.reduceToNat, Int.reduceMul, Int.reduceAdd, Int.reduceSub, Int.reduceBEq, Int.reduceBNe, reduceCtorEq] at hE
     exact ⟨_, _, _, hE.symm, hw, hB, (by first | exact e3 | rfl)⟩
   | false =>
     simp only [yR, e0, e3, e4, e5, d1, d2, jl, jA, Option.toList, jq, nat, j6, jO, j5, jr, lc0, lc1, jE, jF, jG, jH, j7, j8, ju, jt, jv, zV, zS, jC, jS, jc, jh, jX, je, jd, jx, jU, jj, ji, jp, jR, jy, jw, Ts.fill, jY, jV, jf, jZ, jo, jm, jg, ja, getAll, stepCall, jn, unI, Opd.get, jB, tag, jz, jb, jP, rv, bin, j0, Nat.reduceAdd, Nat.reduceSub, Nat.reduceMul, Nat.reduceDiv, Nat.reduceMod, Nat.reducePow, Nat.reduceLT, Nat.reduceLeDiff, Nat.reduceEqDiff, Nat.reduceBEq, Nat.reduceBNe, reduceIte, Int.reduceEq, Int.reduceLT, Int.reduceLE, Int.reduceNeg, Int.reduceToNat, Int.reduceMul, Int.reduceAdd, Int.reduceSub, Int.reduceBEq, Int.reduceBNe, reduceCtorEq] at hE
     exact ⟨_, _, _, hE.symm, hw, hB, (by first | exact e3 | rfl)⟩
 | succ m ih =>
   intro i f0 S wr R hE hi hm hil hB e0 e3 e4 e5 hw
   change evw F (.loop yR) ⟨E 6 12 5 [] (base f0), S, wr⟩ = R at hE
   rw [jT] at hE
   by_cases hlt : i < l.length
   . have d1 : decide ((i : Int) < ((l.length : Nat) : Int)) = true := rB (by omega)
     by_cases h120 : i < 120
     . have d2 : decide ((i : Int) < 120) = true := rB (by omega)
       have d3 : (0 : Int) <= (i : Int) := by omega
       obtain ⟨b, hg⟩ := qT hlt
       have hb2 := hb b (List.mem_of_getElem? hg)
       have w1 := Je (n := i) (by omega)
       have w2 : IntKind.i64.wrap (b : Int) = (b : Int) := qN (by omega) (by omega)
       have pl : pcs.length = 48 := rfl
       have w3 : (b : Int).tmod 48 = ((b % 48 : Nat) : Int) := rfl
       have d4 : (0 : Int) <= ((b % 48 : Nat) : Int) := by omega
       have hpg := jbW b
       obtain ⟨hp0, hp1⟩ := jeN b
       have hsl : ((l.take i).flatMap pc).length <= 2000 := by
         have := jcO (l.take i)
         rw [mdS, List.take_take, Nat.min_eq_right (by omega)] at this; omega
       obtain ⟨S1, w5, u5, g5, hB1⟩ := K8 H.toFBld (t := pc b) hp0 (by omega) (by omega) hB
       have pl2 : ((48 : Nat) : Int) = 48 := rfl
       have n48 : ¬ (48 : Int) = 0 := by decide
       simp only [yR, e0, e3, e4, e5, d1, d2, d3, d4, hg, w1, w2, w3, pl, pl2, n48, hpg, u5, rI, jl, jA, Option.toList, jq, nat, j6, jO, j5, jr, lc0, lc1, jE, jF, jG, jH, j7, j8, ju, jt, jv, zV, zS, jC, jS, jc, jh, jX, je, jd, jx, jU, jj, ji, jp, jR, jy, jw, Ts.fill, jY, jV, jf, jZ, jo, jm, jg, ja, getAll, stepCall, jn, unI, Opd.get, jB, tag, jz, jb, jP, rv, bin, j0, Nat.reduceAdd, Nat.reduceSub, Nat.reduceMul, Nat.reduceDiv, Nat.reduceMod, Nat.reducePow, Nat.reduceLT, Nat.reduceLeDiff, Nat.reduceEqDiff, Nat.reduceBEq, Nat.reduceBNe, reduceIte, Int.reduceEq, Int.reduceLT, Int.reduceLE, Int.reduceNeg, Int.reduceToNat, Int.reduceMul, Int.reduceAdd, Int.reduceSub, Int.reduceBEq, Int.reduceBNe, reduceCtorEq] at hE
       have ht : (l.take (i + 1)).flatMap pc = (l.take i).flatMap pc ++ pc b := by
         rw [List.take_add_one, hg]; simp
       exact ih (i + 1) _ _ _ _ hE (by omega) (by omega) (by omega) (by rw [ht]; exact hB1) (by first | exact e0 | rfl) (by first | exact e3 | rfl) (by first | exact e4 | rfl) (by rfl) (by intro p hp; rcases List.mem_append.1 hp with h | h; exact g5 p h; exact hw p h)
     . have hi : i = 120 := by omega
       subst hi
       have d1 : decide ((120 : Int) < ((l.length : Nat) : Int)) = true := d1
       have d2 : decide ((120 : Int) < 120) = false := rfl
       simp only [yR, e0, e3, e4, e5, d1, d2, jl, jA, Option.toList, jq, nat, j6, jO, j5, jr, lc0, lc1, jE, jF, jG, jH, j7, j8, ju, jt, jv, zV, zS, jC, jS, jc, jh, jX, je, jd, jx, jU, jj, ji, jp, jR, jy, jw, Ts.fill, jY, jV, jf, jZ, jo, jm, jg, ja, getAll, stepCall, jn, unI, Opd.get, jB, tag, jz, jb, jP, rv, bin, j0, Nat.reduceAdd, Nat.reduceSub, Nat.reduceMul, Nat.reduceDiv, Nat.reduceMod, Nat.reducePow, Nat.reduceLT, Nat.reduceLeDiff, Nat.reduceEqDiff, Nat.reduceBEq, Nat.reduceBNe, reduceIte, Int.reduceEq, Int.reduceLT, Int.reduceLE, Int.reduceNeg, Int.reduceToNat, Int.reduceMul, Int.reduceAdd, Int.reduceSub, Int.reduceBEq, Int.reduceBNe, reduceCtorEq] at hE
       exact ⟨_, _, _, hE.symm, hw, hB, (by first | exact e3 | rfl)⟩
   . have d1 : decide ((i : Int) < ((l.length : Nat) : Int)) = false := rE (by omega)
     simp only [yR, e0, e3, e4, e5, d1, jl, jA, Option.toList, jq, nat, j6, jO, j5, jr, lc0, lc1, jE, jF, jG, jH, j7, j8, ju, jt, jv, zV, zS, jC, jS, jc, jh, jX, je, jd, jx, jU, jj, ji, jp, jR, jy, jw, Ts.fill, jY, jV, jf, jZ, jo, jm, jg, ja, getAll, stepCall, jn, unI, Opd.get, jB, tag, jz, jb, jP, rv, bin, j0, Nat.reduceAdd, Nat.reduceSub, Nat.reduceMul, Nat.reduceDiv, Nat.reduceMod, Nat.reducePow, Nat.reduceLT, Nat.reduceLeDiff, Nat.reduceEqDiff, Nat.reduceBEq, Nat.reduceBNe, reduceIte, Int.reduceEq, Int.reduceLT, Int.reduceLE, Int.reduceNeg, Int.reduceToNat, Int.reduceMul, Int.reduceAdd, Int.reduceSub, Int.reduceBEq, Int.reduceBNe, reduceCtorEq] at hE
     have : l.take 120 = l.take i := by rw [rU (by omega), rU (by omega)]
     exact ⟨_, _, _, hE.symm, hw, by rw [mdS, this]; exact hB, (by first | exact e3 | rfl)⟩
set_option maxRecDepth 20000 in
theorem jfK (H : FMade F) {l : List Nat} {o : Nat} {r : Bool} (hb : ∀ b ∈ l, b < 256) (σ : List IObj) :
   cfw F (.f 9) [.sl o r (l.map B)] σ = some ⟨false, .str (mdS l), σ, []⟩ := by
 rw [cfw_of ir9 H.h9, jw]
 have u := fun σ => jaO H.h25 (σ := σ)
 simp only [ir9, u, jA, Option.toList, jq, nat, j6, jO, j5, jr, lc0, lc1, jE, jF, jG, jH, j7, j8, ju, jt, jv, zV, zS, jC, jS, jc, jh, jX, je, jl, jd, jx, jU, jj, ji, jp, jR, jy, jw, Ts.fill, jY, jV, jf, jZ, jo, jm, jg, ja, getAll, stepCall, jn, unI, Opd.get, jB, tag, jz, jb, jP, rv, bin, j0, Nat.reduceAdd, Nat.reduceSub, Nat.reduceMul, Nat.reduceDiv, Nat.reduceMod, Nat.reducePow, Nat.reduceLT, Nat.reduceLeDiff, Nat.reduceEqDiff, Nat.reduceBEq, Nat.reduceBNe, reduceIte, Int.reduceEq, Int.reduceLT, Int.reduceLE, Int.reduceNeg, Int.reduceToNat, Int.reduceMul, Int.reduceAdd, Int.reduceSub, Int.reduceBEq, Int.reduceBNe, reduceCtorEq]
 generalize hE : evw F (ICode.loop yR) _ = R
 obtain ⟨f1, S1, wr1, rfl, gw, hB, e3⟩ := jfI (n := σ.length) (σ := σ) H hb 120 0 _ _ _ _ hE (by omega) (by omega) (by omega) ⟨by simp, fun i hi => by rw [List.getElem?_append_left hi], by rw [get_app]; rfl, _, _, by rw [get_app0]; rfl, Or.inl rfl, Or.inl ⟨rfl, rfl⟩⟩ (by rfl) (by rfl) (by rfl) (by rfl) (by intro p hp; simp at hp)
 obtain ⟨S2, w2, u2, g2, hlen, hold⟩ := Xq H.toFBld (by have := jcO l; omega) hB
 have gg : Ge σ.length (w2 ++ wr1) := fun p hp => by rcases List.mem_append.1 hp with h | h; exact g2 p h; exact gw p h
 have tk : S2.take σ.length = σ := by
   apply List.ext_getElem?
   intro i
   by_cases hi : i < σ.length
   . rw [tD, if_pos hi]; exact hold i hi
   . rw [rV (by rw [tE]; omega), rV (by omega)]
 simp only [e3, u2, jA, Option.toList, jq, nat, j6, jO, j5, jr, lc0, lc1, jE, jF, jG, jH, j7, j8, ju, jt, jv, zV, zS, jC, jS, jc, jh, jX, je, jl, jd, jx, jU, jj, ji, jp, jR, jy, jw, Ts.fill, jY, jV, jf, jZ, jo, jm, jg, ja, getAll, stepCall, jn, unI, Opd.get, jB, tag, jz, jb, jP, rv, bin, j0, Nat.reduceAdd, Nat.reduceSub, Nat.reduceMul, Nat.reduceDiv, Nat.reduceMod, Nat.reducePow, Nat.reduceLT, Nat.reduceLeDiff, Nat.reduceEqDiff, Nat.reduceBEq, Nat.reduceBNe, reduceIte, Int.reduceEq, Int.reduceLT, Int.reduceLE, Int.reduceNeg, Int.reduceToNat, Int.reduceMul, Int.reduceAdd, Int.reduceSub, Int.reduceBEq, Int.reduceBNe, reduceCtorEq]
 rw [jcn gg, jcm gg, tk]
 rfl
end
end Go.Idl.Lx
namespace Go.Idl.Lx
open Go Go.Idl Go.Idl.En
variable {F : kg}
theorem Yd (h : F 153 = some Qr) {c a : Int} {σ : List IObj} : cfw F (.f 153) [.pv false [I c, I a] 0] σ = some ⟨false, .iface 35 (I c), σ, []⟩ := by
 rw [cfw_of Qr h, jw]
 have n3 : nr3 (.iface 35 (I c)) = true := rfl
 simp only [Qr, jA, n3, zV, zS, jC, jS, jc, jh, jX, je, jl, jd, jx, jU, jj, ji, jp, jR, jy, jw, Ts.fill, jY, jV, jf, jZ, jo, jm, jg, ja, getAll, stepCall, jn, unI, Opd.get, jB, tag, jz, jb, jP, rv, bin, j0, Nat.reduceAdd, Nat.reduceSub, Nat.reduceMul, Nat.reduceDiv, Nat.reduceMod, Nat.reducePow, Nat.reduceLT, Nat.reduceLeDiff, Nat.reduceEqDiff, Nat.reduceBEq, Nat.reduceBNe, reduceIte, Int.reduceEq, Int.reduceLT, Int.reduceLE, Int.reduceNeg, Int.reduceToNat, Int.reduceMul, Int.reduceAdd, Int.reduceSub, Int.reduceBEq, Int.reduceBNe, reduceCtorEq]
set_option maxRecDepth 20000 in
theorem jgk (h : F 47 = some jcu) {c a : Int} {g : Nat} {x : IVal} {σ : List IObj} (hg : σ[g]? = some (.cells [.prim (.pointer none)])) (hx : nt x = true) :
   ∃ wr, cfw F (.f 47) [.iface 56 (.pv false [I c, I a] 0), x, .agg [V3 10 80, .pv true [.ptr g 0] 0, .int .u64 150], rtI 125 10 56] σ = some ⟨false, .bool true, σ.set g (.cells [.pv false [I c, I a] 0]), wr⟩ /\ Fl wr := by
 rw [cfw_of jcu h, jw]
 have lg := jk hg
 simp only [jcu, jA, hg, hx, V3, rtI, zV, zS, jC, jS, jc, jh, jX, je, jl, jd, jx, jU, jj, ji, jp, jR, jy, jw, Ts.fill, jY, jV, jf, jZ, jo, jm, jg, ja, getAll, stepCall, jn, unI, Opd.get, jB, tag, jz, jb, jP, rv, bin, j0, Nat.reduceAdd, Nat.reduceSub, Nat.reduceMul, Nat.reduceDiv, Nat.reduceMod, Nat.reducePow, Nat.reduceLT, Nat.reduceLeDiff, Nat.reduceEqDiff, Nat.reduceBEq, Nat.reduceBNe, reduceIte, Int.reduceEq, Int.reduceLT, Int.reduceLE, Int.reduceNeg, Int.reduceToNat, Int.reduceMul, Int.reduceAdd, Int.reduceSub, Int.reduceBEq, Int.reduceBNe, reduceCtorEq]
 rw [jT]
 simp only [YS, jA, hg, hx, j5, K9, V3, rtI, J8, List.find?, List.contains_cons, r5, tR, zV, zS, jC, jS, jc, jh, jX, je, jl, jd, jx, jU, jj, ji, jp, jR, jy, jw, Ts.fill, jY, jV, jf, jZ, jo, jm, jg, ja, getAll, stepCall, jn, unI, Opd.get, jB, tag, jz, jb, jP, rv, bin, j0, Nat.reduceAdd, Nat.reduceSub, Nat.reduceMul, Nat.reduceDiv, Nat.reduceMod, Nat.reducePow, Nat.reduceLT, Nat.reduceLeDiff, Nat.reduceEqDiff, Nat.reduceBEq, Nat.reduceBNe, reduceIte, Int.reduceEq, Int.reduceLT, Int.reduceLE, Int.reduceNeg, Int.reduceToNat, Int.reduceMul, Int.reduceAdd, Int.reduceSub, Int.reduceBEq, Int.reduceBNe, reduceCtorEq]
 have np : nr1 (.pv false [I c, I a] 0) = true := rfl
 rw [np, take_set]
 exact ⟨_, rfl, by cases decide (g < σ.length) <;> rfl⟩
set_option maxRecDepth 20000 in
theorem jgg (h : F 27 = some jdy) (h47 : F 47 = some jcu) {c a : Int} {g : Nat} {σ : List IObj} (hg : σ[g]? = some (.cells [.prim (.pointer none)])) :
   ∃ wr, cfw F (.f 27) [.iface 56 (.pv false [I c, I a] 0), .iface 80 (.ptr g 0)] σ = some ⟨false, .bool true, σ.set g (.cells [.pv false [I c, I a] 0]), wr⟩ /\ Fl wr := by
 rw [cfw_of jdy h, jw]
 obtain ⟨wr, u, gw⟩ := jgk h47 (c := c) (a := a) (x := .iface 80 (.ptr g 0)) (vb hg [.cells [V3 10 80, .pv true [.ptr g 0] 0, .int .u64 150]]) rfl
 simp only [V3, rtI] at u
 have b1 : ((22 : Int) != 20) = true := rfl
 have x1 : ext [.ptr g 0] = true := rfl
 have x2 : nr1 (.pv true [.ptr g 0] 0) = false := rfl
 simp only [jdy, jA, hg, u, b1, x1, x2, j5, K9, V3, rtI, J8, List.find?, List.contains_cons, r5, tR, zV, zS, jC, jS, jc, jh, jX, je, jl, jd, jx, jU, jj, ji, jp, jR, jy, jw, Ts.fill, jY, jV, jf, jZ, jo, jm, jg, ja, getAll, stepCall, jn, unI, Opd.get, jB, tag, jz, jb, jP, rv, bin, j0, Nat.reduceAdd, Nat.reduceSub, Nat.reduceMul, Nat.reduceDiv, Nat.reduceMod, Nat.reducePow, Nat.reduceLT, Nat.reduceLeDiff, Nat.reduceEqDiff, Nat.reduceBEq, Nat.reduceBNe, reduceIte, Int.reduceEq, Int.reduceLT, Int.reduceLE, Int.reduceNeg, Int.reduceToNat, Int.reduceMul, Int.reduceAdd, Int.reduceSub, Int.reduceBEq, Int.reduceBNe, reduceCtorEq]
 have fa : (wr ++ [(σ.length, true)]).all (fun p => !p.2 || decide (σ.length <= p.1)) = true := by rw [List.all_append, kb gw]; simp
 have tk : ∀ l, List.take σ.length (σ.set g (.cells [.pv false [I c, I a] 0]) ++ l) = σ.set g (.cells [.pv false [I c, I a] 0]) := fun l => by have := take_app (σ := σ.set g (.cells [.pv false [I c, I a] 0])) (l := l); rw [rC] at this; exact this
 rw [fa, vg (jk hg), tk]
 refine ⟨_, rfl, ?_⟩
 rw [List.filter_append, List.filter_cons_of_neg (by simp), List.filter_nil, rM]
 exact jN gw
set_option maxRecDepth 20000 in
theorem jgv (h : F 49 = some jcw) (h153 : F 153 = some Qr) {c a : Int} {σ : List IObj} (hc : c ≠ 0) :
   cfw F (.f 49) [.iface 56 (.pv false [I c, I a] 0), .iface 35 (I c), .bool true] σ = some ⟨false, .bool true, σ, []⟩ := by
 rw [cfw_of jcw h, jw]
 have u := Yd h153 (c := c) (a := a) (σ := σ)
 simp only [jcw, jA, zV, zS, jC, jS, jc, jh, jX, je, jl, jd, jx, jU, jj, ji, jp, jR, jy, jw, Ts.fill, jY, jV, jf, jZ, jo, jm, jg, ja, getAll, stepCall, jn, unI, Opd.get, jB, tag, jz, jb, jP, rv, bin, j0, Nat.reduceAdd, Nat.reduceSub, Nat.reduceMul, Nat.reduceDiv, Nat.reduceMod, Nat.reducePow, Nat.reduceLT, Nat.reduceLeDiff, Nat.reduceEqDiff, Nat.reduceBEq, Nat.reduceBNe, reduceIte, Int.reduceEq, Int.reduceLT, Int.reduceLE, Int.reduceNeg, Int.reduceToNat, Int.reduceMul, Int.reduceAdd, Int.reduceSub, Int.reduceBEq, Int.reduceBNe, reduceCtorEq]
 rw [jT]
 have np : nt (.iface 35 (I c)) = true := rfl
 simp only [YT, jA, u, np, KD, zG, List.contains_nil, j5, K9, V3, rtI, J8, List.find?, List.contains_cons, r5, tR, zV, zS, jC, jS, jc, jh, jX, je, jl, jd, jx, jU, jj, ji, jp, jR, jy, jw, Ts.fill, jY, jV, jf, jZ, jo, jm, jg, ja, getAll, stepCall, jn, unI, Opd.get, jB, tag, jz, jb, jP, rv, bin, j0, Nat.reduceAdd, Nat.reduceSub, Nat.reduceMul, Nat.reduceDiv, Nat.reduceMod, Nat.reducePow, Nat.reduceLT, Nat.reduceLeDiff, Nat.reduceEqDiff, Nat.reduceBEq, Nat.reduceBNe, reduceIte, Int.reduceEq, Int.reduceLT, Int.reduceLE, Int.reduceNeg, Int.reduceToNat, Int.reduceMul, Int.reduceAdd, Int.reduceSub, Int.reduceBEq, Int.reduceBNe, reduceCtorEq]
 rw [jT]
 have eI : ∀ n : Int, qh (.int .i64 n) (.int .i64 n) = some true := fun n => by simp [qh]
 have kI : ∀ n : Int, Jf 0 (.int .i64 n) = true := fun n => rfl
 have tf : (true != false) = true := rfl
 simp only [jA, u, np, eI, kI, tf, j5, List.find?, zV, zS, jC, jS, jc, jh, jX, je, jl, jd, jx, jU, jj, ji, jp, jR, jy, jw, Ts.fill, jY, jV, jf, jZ, jo, jm, jg, ja, getAll, stepCall, jn, unI, Opd.get, jB, tag, jz, jb, jP, rv, bin, j0, Nat.reduceAdd, Nat.reduceSub, Nat.reduceMul, Nat.reduceDiv, Nat.reduceMod, Nat.reducePow, Nat.reduceLT, Nat.reduceLeDiff, Nat.reduceEqDiff, Nat.reduceBEq, Nat.reduceBNe, reduceIte, Int.reduceEq, Int.reduceLT, Int.reduceLE, Int.reduceNeg, Int.reduceToNat, Int.reduceMul, Int.reduceAdd, Int.reduceSub, Int.reduceBEq, Int.reduceBNe, reduceCtorEq]
set_option maxRecDepth 20000 in
theorem jgi (h : F 28 = some jdz) (h49 : F 49 = some jcw) (h153 : F 153 = some Qr) {c a : Int} {σ : List IObj} (hc : c ≠ 0) :
   cfw F (.f 28) [.iface 56 (.pv false [I c, I a] 0), .iface 35 (I c)] σ = some ⟨false, .bool true, σ, []⟩ := by
 rw [cfw_of jdz h, jw]
 have u := jgv h49 h153 (c := c) (a := a) (σ := σ) hc
 simp only [jdz, jA, u, j5, K9, V3, rtI, J8, List.find?, List.contains_cons, r5, tR, zV, zS, jC, jS, jc, jh, jX, je, jl, jd, jx, jU, jj, ji, jp, jR, jy, jw, Ts.fill, jY, jV, jf, jZ, jo, jm, jg, ja, getAll, stepCall, jn, unI, Opd.get, jB, tag, jz, jb, jP, rv, bin, j0, Nat.reduceAdd, Nat.reduceSub, Nat.reduceMul, Nat.reduceDiv, Nat.reduceMod, Nat.reducePow, Nat.reduceLT, Nat.reduceLeDiff, Nat.reduceEqDiff, Nat.reduceBEq, Nat.reduceBNe, reduceIte, Int.reduceEq, Int.reduceLT, Int.reduceLE, Int.reduceNeg, Int.reduceToNat, Int.reduceMul, Int.reduceAdd, Int.reduceSub, Int.reduceBEq, Int.reduceBNe, reduceCtorEq]
set_option maxRecDepth 20000 in
theorem je0 (h : F 13 = some jd2) (h27 : F 27 = some jdy) (h28 : F 28 = some jdz) (h47 : F 47 = some jcu) (h49 : F 49 = some jcw) (h153 : F 153 = some Qr) {f : Nat × Nat} (hc : f.1 ≠ 0) {σ : List IObj} :
   ∃ wr, cfw F (.f 13) [flt f, .agg [I f.1, I f.2]] σ = some ⟨false, .bool true, σ, wr⟩ /\ Fl wr := by
 rw [cfw_of jd2 h, jw]
 obtain ⟨c, a⟩ := f
 have hc' : (c : Int) ≠ 0 := by omega
 have b0 : ((c : Int) == 0) = false := by simpa using hc'
 have ga : (σ ++ [IObj.cells [.prim (.pointer none)]])[σ.length]? = some (.cells [.prim (.pointer none)]) := by rw [get_app0]; rfl
 obtain ⟨wr, u, gw⟩ := jgg h27 h47 (c := c) (a := a) ga
 have sa : (σ ++ [IObj.cells [.prim (.pointer none)]]).set σ.length (.cells [.pv false [I c, I a] 0]) = σ ++ [.cells [.pv false [I c, I a] 0]] := by rw [set_app0]; rfl
 rw [sa] at u
 have u2 := fun τ => jgi h28 h49 h153 (c := c) (a := a) (σ := τ) hc'
 have eI : ∀ n : Int, qh (.int .i64 n) (.int .i64 n) = some true := fun n => by simp [qh]
 have kI : ∀ n : Int, Jf 0 (.int .i64 n) = true := fun n => rfl
 have tf : (true != false) = true := rfl
 simp only [jd2, jA, b0, u, u2, eI, kI, tf, eqK, tR, r5, zV, zS, jC, jS, jc, jh, jX, je, jl, jd, jx, jU, jj, ji, jp, jR, jy, jw, Ts.fill, jY, jV, jf, jZ, jo, jm, jg, ja, getAll, stepCall, jn, unI, Opd.get, jB, tag, jz, jb, jP, rv, bin, j0, Nat.reduceAdd, Nat.reduceSub, Nat.reduceMul, Nat.reduceDiv, Nat.reduceMod, Nat.reducePow, Nat.reduceLT, Nat.reduceLeDiff, Nat.reduceEqDiff, Nat.reduceBEq, Nat.reduceBNe, reduceIte, Int.reduceEq, Int.reduceLT, Int.reduceLE, Int.reduceNeg, Int.reduceToNat, Int.reduceMul, Int.reduceAdd, Int.reduceSub, Int.reduceBEq, Int.reduceBNe, reduceCtorEq]
 rw [kb gw]
 exact ⟨_, rfl, jN gw⟩
end Go.Idl.Lx
namespace Go.Idl.Lx
open Go Go.Idl Go.Idl.En
variable {F : kg}
section
variable {σ : List IObj}
end
theorem take_drop (tx : List UInt8) (a n : Nat) : (tx.take (a + n)).drop a = (tx.drop a).take n := by rw [List.drop_take, Nat.add_sub_cancel_left]
end Go.Idl.Lx
namespace Go.Idl.Lx
open Go Go.Idl Go.Idl.En
def Nd (s : List UInt8) : Prop := s = [] \/ s.getLast? = some 10
theorem Nd.tail {c : UInt8} {s : List UInt8} (h : Nd (c :: s)) : Nd s := by
 cases s with
 | nil => exact Or.inl rfl
 | cons d s =>
   rcases h with h | h
   . cases h
   . exact Or.inr (by simpa using h)
theorem Nd.one {c : UInt8} (h : Nd [c]) : c = 10 := by
 rcases h with h | h
 . cases h
 . simpa using h
theorem Nd.drop {s : List UInt8} (h : Nd s) : ∀ n, Nd (s.drop n)
 | 0 => h
 | n + 1 => by
   cases s with
   | nil => exact Or.inl rfl
   | cons c s => exact Nd.drop h.tail n
theorem jeS : isS 1 (10 : UInt8).toNat = true := XK 10 (by omega)
theorem jfT : isS 6 (10 : UInt8).toNat = false := by have := jcH 10 (by omega); rw [jcF 10 (by omega), jcG 10 (by omega)] at this; exact this
theorem jgz : ∀ ba : Int, oth ba (10 : UInt8).toNat = true := fun ba => by
 have : cr hexs (10 : UInt8).toNat = false := by decide +kernel
 rw [oth, this]; simp
end Go.Idl.Lx
namespace Go.Idl.Lx
open Go Go.Idl Go.Idl.En
def mv (n k : Nat) (t : Tok) : Tok := ⟨t.k, t.a + n, t.ln + k, t.t, t.n⟩
theorem jcW (A b : List UInt8) (j : Nat) : nl ((A ++ b).take (A.length + j)) = nl A + nl (b.take j) := by
 rw [List.take_append, rU (by omega), show A.length + j - A.length = j by omega, Qy]
theorem Jw (A b : List UInt8) (j : Nat) : (A ++ b).drop (A.length + j) = b.drop j := by
 rw [List.drop_append, tN (by omega), show A.length + j - A.length = j by omega, tJ]
theorem jbw (A b : List UInt8) (j : Nat) : (A ++ b)[A.length + j]? = b[j]? := by
 rw [rS (by omega)]; congr 1; omega
theorem Zh (A b : List UInt8) (a ba hd : Nat) : KV (A ++ b) (A.length + a) ba hd = match KV b a ba hd with
   | .inl (c, p) => .inl (c, A.length + p)
   | .inr (ed, v) => .inr (A.length + ed, v) := by
 have e1 : (A ++ b).drop (A.length + a + hd) = b.drop (a + hd) := by rw [Nat.add_assoc, Jw]
 have e2 : ∀ d, (A ++ b)[A.length + a + hd + d]? = b[a + hd + d]? := fun d => by rw [show A.length + a + hd + d = A.length + (a + hd + d) by omega, jbw]
 have e3 : ∀ d, A.length + a + hd + d = A.length + (a + hd + d) := fun d => by omega
 unfold KV
 simp only [e1, e2]
 split
 . simp only [e3]
 . cases pz ba 0 ((b.drop (a + hd)).take (dgs ba (b.drop (a + hd)))) with
   | none => rfl
   | some v =>
     simp only
     split
     . rfl
     . cases b[a + hd + dgs ba (b.drop (a + hd))]? with
       | none => simp only [e3]
       | some c =>
         simp only
         split <;> simp only [e3]
theorem jbR (A b : List UInt8) (a : Nat) : zH (A ++ b) (A.length + a) = match zH b a with
   | .inl (c, p) => .inl (c, A.length + p)
   | .inr (k, ed, v) => .inr (k, A.length + ed, v) := by
 have hn : Vs (A ++ b) (A.length + a) = match Vs b a with
   | .inl (c, p) => .inl (c, A.length + p)
   | .inr (ed, v) => .inr (A.length + ed, v) := by
   unfold Vs
   rw [Jw]
   split
   . exact Zh A b a 16 2
   . exact Zh A b a 10 0
 unfold zH
 rw [jbw, Jw]
 cases b[a]? with
 | none => rfl
 | some c =>
   simp only
   split
   . split
     . rfl
     . simp only [Nat.add_assoc]
   . split
     . rw [hn]
       cases Vs b a with
       | inl f => rfl
       | inr v => rfl
     . split
       . simp only [Nat.add_assoc]
       . rfl
theorem Y0 (A b : List UInt8) : ∀ m a, zd (A ++ b) m (A.length + a) = ((zd b m a).1.map (mv A.length (nl A)), (zd b m a).2.map fun f => (f.1, A.length + f.2))
 | 0, a => rfl
 | m + 1, a => by
   rw [zd, zd]
   by_cases ha : a < b.length
   . rw [if_pos ha, if_pos (by rw [rF]; omega), jbR]
     cases ho : zH b a with
     | inl f => rfl
     | inr v =>
       obtain ⟨k, ed, v⟩ := v
       have ih := Y0 A b m (ed + skN false (b.drop ed))
       simp only
       rw [Jw, Nat.add_assoc, ih, jcW]
       have ht : ((A ++ b).take (A.length + ed)).drop (A.length + a) = (b.take ed).drop a := by
         rw [List.take_append, rU (by omega), show A.length + ed - A.length = ed by omega, Jw]
       rw [ht]
       simp only [rR, mv]
       congr 3
       . omega
       . omega
   . rw [if_neg ha, if_neg (by rw [rF]; omega)]; rfl
end Go.Idl.Lx
namespace Go.Idl.Lx
open Go Go.Idl Go.Idl.En
variable {F : kg}
section
variable {σ : List IObj} {s : List UInt8}
set_option maxRecDepth 20000 in
theorem jga {z : Int} (hl : s.length <= 20000) : ∀ (m i : Nat) (f0 : Nat -> Option (Nat × IVal)) (R : Option (IExit × St)), evw F (.loop vU) ⟨E 7 9 5 [] f0, σ, []⟩ = R -> s.length - i <= m -> i <= s.length -> (i : Int) <= max z 0 -> f0 0 = some (0, .str s) -> f0 1 = some (1, I z) -> f0 5 = some (5, I ((1 + nl (s.take i) : Nat) : Int)) -> f0 6 = some (6, I i) ->
   ∃ f1, R = some (.exit 0, ⟨E 7 9 5 [] (base f1), σ, []⟩) /\ f1 5 = some (5, I ((1 + nl (s.take z.toNat) : Nat) : Int)) := by
 intro m
 induction m with
 | zero =>
   intro i f0 R hE hm hi hz e0 e1 e5 e6
   have ee : s.take z.toNat = s.take i := by rw [rU (by omega), rU (by omega)]
   change evw F (.loop vU) ⟨E 7 9 5 [] (base f0), σ, []⟩ = R at hE
   have d2 : decide ((i : Int) < ((s.length : Nat) : Int)) = false := rE (by omega)
   rw [jT] at hE
   rw [ee]
   cases d1 : decide ((i : Int) < z) with
   | true =>
     simp only [vU, e0, e1, e5, e6, d1, d2, jl, jA, Option.toList, jq, nat, j6, jO, j5, jr, lc0, lc1, jE, jF, jG, jH, j7, j8, ju, jt, jv, zV, zS, jC, jS, jc, jh, jX, je, jd, jx, jU, jj, ji, jp, jR, jy, jw, Ts.fill, jY, jV, jf, jZ, jo, jm, jg, ja, getAll, stepCall, jn, unI, Opd.get, jB, tag, jz, jb, jP, rv, bin, j0, Nat.reduceAdd, Nat.reduceSub, Nat.reduceMul, Nat.reduceDiv, Nat.reduceMod, Nat.reducePow, Nat.reduceLT, Nat.reduceLeDiff, Nat.reduceEqDiff, Nat.reduceBEq, Nat.reduceBNe, reduceIte, Int.reduceEq, Int.reduceLT, Int.reduceLE, Int.reduceNeg, Int.reduceToNat, Int.reduceMul, Int.reduceAdd, Int.reduceSub, Int.reduceBEq, Int.reduceBNe, reduceCtorEq] at hE
     exact ⟨_, hE.symm, (by first | exact e5 | rfl)⟩
   | false =>
     simp only [vU, e0, e1, e5, e6, d1, d2, jl, jA, Option.toList, jq, nat, j6, jO, j5, jr, lc0, lc1, jE, jF, jG, jH, j7, j8, ju, jt, jv, zV, zS, jC, jS, jc, jh, jX, je, jd, jx, jU, jj, ji, jp, jR, jy, jw, Ts.fill, jY, jV, jf, jZ, jo, jm, jg, ja, getAll, stepCall, jn, unI, Opd.get, jB, tag, jz, jb, jP, rv, bin, j0, Nat.reduceAdd, Nat.reduceSub, Nat.reduceMul, Nat.reduceDiv, Nat.reduceMod, Nat.reducePow, Nat.reduceLT, Nat.reduceLeDiff, Nat.reduceEqDiff, Nat.reduceBEq, Nat.reduceBNe, reduceIte, Int.reduceEq, Int.reduceLT, Int.reduceLE, Int.reduceNeg, Int.reduceToNat, Int.reduceMul, Int.reduceAdd, Int.reduceSub, Int.reduceBEq, Int.reduceBNe, reduceCtorEq] at hE
     exact ⟨_, hE.symm, (by first | exact e5 | rfl)⟩
 | succ m ih =>
   intro i f0 R hE hm hi hz e0 e1 e5 e6
   change evw F (.loop vU) ⟨E 7 9 5 [] (base f0), σ, []⟩ = R at hE
   by_cases h1 : (i : Int) < z
   . have d1 : decide ((i : Int) < z) = true := rB h1
     by_cases h2 : i < s.length
     . have d2 : decide ((i : Int) < ((s.length : Nat) : Int)) = true := rB (by omega)
       have d3 : (0 : Int) <= (i : Int) := by omega
       obtain ⟨c, hg⟩ := qT h2
       have w1 := Je (n := i) (by omega)
       have ht : s.take (i + 1) = s.take i ++ [c] := by rw [List.take_add_one, hg]; rfl
       have hnl : nl (s.take (i + 1)) = nl (s.take i) + (if c.toNat = 10 then 1 else 0) := by rw [ht, Qy, JH]; rfl
       have hle := jaH (s.take i)
       rw [tE] at hle
       by_cases h10 : c.toNat = 10
       . have b1 : ((c.toNat : Int) == 10) = true := by rw [beq_iff_eq]; omega
         have w2 : IntKind.i64.wrap (((1 + nl (s.take i) : Nat) : Int) + 1) = ((1 + nl (s.take (i + 1)) : Nat) : Int) := by rw [qN (by omega) (by omega), hnl, if_pos h10]; omega
         rw [jT] at hE
         simp only [vU, e0, e1, e5, e6, d1, d2, d3, hg, b1, w1, w2, rI, jl, jA, Option.toList, jq, nat, j6, jO, j5, jr, lc0, lc1, jE, jF, jG, jH, j7, j8, ju, jt, jv, zV, zS, jC, jS, jc, jh, jX, je, jd, jx, jU, jj, ji, jp, jR, jy, jw, Ts.fill, jY, jV, jf, jZ, jo, jm, jg, ja, getAll, stepCall, jn, unI, Opd.get, jB, tag, jz, jb, jP, rv, bin, j0, Nat.reduceAdd, Nat.reduceSub, Nat.reduceMul, Nat.reduceDiv, Nat.reduceMod, Nat.reducePow, Nat.reduceLT, Nat.reduceLeDiff, Nat.reduceEqDiff, Nat.reduceBEq, Nat.reduceBNe, reduceIte, Int.reduceEq, Int.reduceLT, Int.reduceLE, Int.reduceNeg, Int.reduceToNat, Int.reduceMul, Int.reduceAdd, Int.reduceSub, Int.reduceBEq, Int.reduceBNe, reduceCtorEq] at hE
         exact ih (i + 1) _ _ hE (by omega) (by omega) (by omega) (by first | exact e0 | rfl) (by first | exact e1 | rfl) (by rfl) (by rfl)
       . have b1 : ((c.toNat : Int) == 10) = false := by rw [beq_eq_false_iff_ne]; omega
         have e5' : f0 5 = some (5, I ((1 + nl (s.take (i + 1)) : Nat) : Int)) := by rw [e5, hnl, if_neg h10]; rfl
         rw [jT] at hE
         simp only [vU, e0, e1, e5, e6, d1, d2, d3, hg, b1, w1, rI, jl, jA, Option.toList, jq, nat, j6, jO, j5, jr, lc0, lc1, jE, jF, jG, jH, j7, j8, ju, jt, jv, zV, zS, jC, jS, jc, jh, jX, je, jd, jx, jU, jj, ji, jp, jR, jy, jw, Ts.fill, jY, jV, jf, jZ, jo, jm, jg, ja, getAll, stepCall, jn, unI, Opd.get, jB, tag, jz, jb, jP, rv, bin, j0, Nat.reduceAdd, Nat.reduceSub, Nat.reduceMul, Nat.reduceDiv, Nat.reduceMod, Nat.reducePow, Nat.reduceLT, Nat.reduceLeDiff, Nat.reduceEqDiff, Nat.reduceBEq, Nat.reduceBNe, reduceIte, Int.reduceEq, Int.reduceLT, Int.reduceLE, Int.reduceNeg, Int.reduceToNat, Int.reduceMul, Int.reduceAdd, Int.reduceSub, Int.reduceBEq, Int.reduceBNe, reduceCtorEq] at hE
         exact ih (i + 1) _ _ hE (by omega) (by omega) (by omega) (by first | exact e0 | rfl) (by first | exact e1 | rfl) (by first | exact e5' | rfl) (by rfl)
     . have d2 : decide ((i : Int) < ((s.length : Nat) : Int)) = false := rE (by omega)
       have ee : s.take z.toNat = s.take i := by rw [rU (by omega), rU (by omega)]
       rw [jT] at hE
       simp only [vU, e0, e1, e5, e6, d1, d2, jl, jA, Option.toList, jq, nat, j6, jO, j5, jr, lc0, lc1, jE, jF, jG, jH, j7, j8, ju, jt, jv, zV, zS, jC, jS, jc, jh, jX, je, jd, jx, jU, jj, ji, jp, jR, jy, jw, Ts.fill, jY, jV, jf, jZ, jo, jm, jg, ja, getAll, stepCall, jn, unI, Opd.get, jB, tag, jz, jb, jP, rv, bin, j0, Nat.reduceAdd, Nat.reduceSub, Nat.reduceMul, Nat.reduceDiv, Nat.reduceMod, Nat.reducePow, Nat.reduceLT, Nat.reduceLeDiff, Nat.reduceEqDiff, Nat.reduceBEq, Nat.reduceBNe, reduceIte, Int.reduceEq, Int.reduceLT, Int.reduceLE, Int.reduceNeg, Int.reduceToNat, Int.reduceMul, Int.reduceAdd, Int.reduceSub, Int.reduceBEq, Int.reduceBNe, reduceCtorEq] at hE
       exact ⟨_, hE.symm, by rw [ee]; exact (by first | exact e5 | rfl)⟩
   . have d1 : decide ((i : Int) < z) = false := rE h1
     have ee : z.toNat = i := by omega
     rw [jT] at hE
     simp only [vU, e0, e1, e5, e6, d1, jl, jA, Option.toList, jq, nat, j6, jO, j5, jr, lc0, lc1, jE, jF, jG, jH, j7, j8, ju, jt, jv, zV, zS, jC, jS, jc, jh, jX, je, jd, jx, jU, jj, ji, jp, jR, jy, jw, Ts.fill, jY, jV, jf, jZ, jo, jm, jg, ja, getAll, stepCall, jn, unI, Opd.get, jB, tag, jz, jb, jP, rv, bin, j0, Nat.reduceAdd, Nat.reduceSub, Nat.reduceMul, Nat.reduceDiv, Nat.reduceMod, Nat.reducePow, Nat.reduceLT, Nat.reduceLeDiff, Nat.reduceEqDiff, Nat.reduceBEq, Nat.reduceBNe, reduceIte, Int.reduceEq, Int.reduceLT, Int.reduceLE, Int.reduceNeg, Int.reduceToNat, Int.reduceMul, Int.reduceAdd, Int.reduceSub, Int.reduceBEq, Int.reduceBNe, reduceCtorEq] at hE
     exact ⟨_, hE.symm, by rw [ee]; exact (by first | exact e5 | rfl)⟩
set_option maxRecDepth 20000 in
theorem jep (h : F 17 = some jd3) (h15 : F 15 = some jcs) (hl : s.length <= 20000) (z : Int) : cfw F (.f 17) [.str s, I z] σ = some ⟨false, I ((1 + nl (s.take z.toNat) : Nat) : Int), σ, []⟩ := by
 rw [cfw_of jd3 h, jw]
 have hm : (if (0 : Int) < (if (s.length : Int) < z then (s.length : Int) else z) then (if (s.length : Int) < z then (s.length : Int) else z) else 0) = ((min z.toNat s.length : Nat) : Int) := by split <;> split <;> omega
 have d1 : (0 : Int) <= ((min z.toNat s.length : Nat) : Int) := by omega
 have d2 : min z.toNat s.length <= s.length := by omega
 have e : s.take (min z.toNat s.length) = s.take z.toNat := by
   rcases Nat.le_total z.toNat s.length with h | h
   . rw [Nat.min_eq_left h]
   . rw [Nat.min_eq_right h, List.take_length, rU h]
 have hle := jaH (s.take z.toNat)
 rw [tE] at hle
 have w1 : IntKind.i64.wrap (1 + ((nl (s.take z.toNat) : Nat) : Int)) = ((1 + nl (s.take z.toNat) : Nat) : Int) := by rw [qN (by omega) (by omega)]; omega
 have u := fun τ => Yp h15 (s := s.take z.toNat) (σ := τ)
 simp only [jd3, hm, d1, d2, e, w1, u, rI, jA, Option.toList, jq, nat, j6, jO, j5, jr, lc0, lc1, jE, jF, jG, jH, j7, j8, ju, jt, jv, zV, zS, jC, jS, jc, jh, jX, je, jl, jd, jx, jU, jj, ji, jp, jR, jy, jw, Ts.fill, jY, jV, jf, jZ, jo, jm, jg, ja, getAll, stepCall, jn, unI, Opd.get, jB, tag, jz, jb, jP, rv, bin, j0, Nat.reduceAdd, Nat.reduceSub, Nat.reduceMul, Nat.reduceDiv, Nat.reduceMod, Nat.reducePow, Nat.reduceLT, Nat.reduceLeDiff, Nat.reduceEqDiff, Nat.reduceBEq, Nat.reduceBNe, reduceIte, Int.reduceEq, Int.reduceLT, Int.reduceLE, Int.reduceNeg, Int.reduceToNat, Int.reduceMul, Int.reduceAdd, Int.reduceSub, Int.reduceBEq, Int.reduceBNe, reduceCtorEq]
end
end Go.Idl.Lx
namespace Go.Idl.Lx
open Go Go.Idl Go.Idl.En
theorem ZI {k : Nat} {c : UInt8} {r : List UInt8} (hc : isS k c.toNat = false) : ∀ y : List UInt8, spn k (y.take (spn k y) ++ c :: r) = spn k y
 | [] => by rw [List.take_nil, tJ, vu, hc]; rfl
 | d :: y => by
   rw [vu k d y]
   cases h : isS k d.toNat with
   | true =>
     simp only [if_true]
     rw [Nat.add_comm 1, r5, tI, vu, h, if_pos rfl, ZI hc y, Nat.add_comm]
   | false =>
     simp only [r8, if_false]
     rw [List.take_zero, tJ, vu, hc]; rfl
theorem Yu {ba : Int} {c : UInt8} {r : List UInt8} (hc : oth ba c.toNat = true) : ∀ y : List UInt8, dgs ba (y.take (dgs ba y) ++ c :: r) = dgs ba y
 | [] => by rw [List.take_nil, tJ, vp, hc]; rfl
 | d :: y => by
   rw [vp ba d y]
   cases h : oth ba d.toNat with
   | false =>
     simp only [r8, if_false]
     rw [Nat.add_comm 1, r5, tI, vp, h, if_neg (by simp), Yu hc y, Nat.add_comm]
   | true =>
     simp only [if_true]
     rw [List.take_zero, tJ, vp, hc]; rfl
def Gap (c : UInt8) : Prop := c = 32 \/ c = 10
theorem Gap.s1 {c : UInt8} (h : Gap c) : isS 1 c.toNat = true := by
 rcases h with rfl | rfl
 . exact XK 32 (by omega)
 . exact XK 10 (by omega)
theorem Gap.s6 {c : UInt8} (h : Gap c) : isS 6 c.toNat = false := by
 have hh : isS 6 c.toNat = (isS 2 c.toNat || isS 4 c.toNat) := jcH _ c.toNat_lt
 rw [hh, jcF _ c.toNat_lt, jcG _ c.toNat_lt]
 rcases h with rfl | rfl <;> rfl
theorem Gap.oth {c : UInt8} (h : Gap c) (ba : Int) : oth ba c.toNat = true := by
 have : cr hexs c.toNat = false := by rcases h with rfl | rfl <;> decide +kernel
 rw [Lx.oth, this]; simp
theorem Xa {y : List UInt8} {ba hd n v : Nat} {c : UInt8} {r : List UInt8} (hc : Gap c) (hy : hd <= y.length) (h : KV y 0 ba hd = .inr (n, v)) : n = hd + dgs ba (y.drop hd) /\ KV (y.take n ++ c :: r) 0 ba hd = .inr (n, v) := by
 have hn : n = hd + dgs ba (y.drop hd) := by
   unfold KV at h
   simp only [tS] at h
   repeat' split at h
   all_goals first | (cases h; done) | (cases h; rfl)
 refine ⟨hn, ?_⟩
 have hdl := Jv (ba : Int) (y.drop hd)
 rw [List.length_drop] at hdl
 have e1 : (y.take n ++ c :: r).drop hd = (y.drop hd).take (dgs ba (y.drop hd)) ++ c :: r := by
   have := take_drop y hd (dgs ba (y.drop hd))
   rw [<- hn] at this
   rw [List.drop_append, this, show hd - (y.take n).length = 0 by rw [tE]; omega, List.drop_zero]
 have e2 := Yu (r := r) (hc.oth ba) (y.drop hd)
 have e3 : ((y.drop hd).take (dgs ba (y.drop hd)) ++ c :: r).take (dgs ba (y.drop hd)) = (y.drop hd).take (dgs ba (y.drop hd)) := by
   rw [List.take_append, List.take_take, Nat.min_self, show dgs ba (y.drop hd) - ((y.drop hd).take (dgs ba (y.drop hd))).length = 0 by rw [tE, List.length_drop]; omega, List.take_zero, rM]
 have e4 : (y.take n ++ c :: r)[hd + dgs ba (y.drop hd)]? = some c := by
   rw [<- hn, rS (by rw [tE]; omega), show n - (y.take n).length = 0 by rw [tE]; omega]; rfl
 unfold KV at h ⊢
 simp only [tS] at h ⊢
 simp only [e1, e2, e3, e4, hc.s6]
 split at h
 . cases h
 . rename_i h0
   rw [if_neg h0]
   split at h
   . cases h
   . rename_i hp
     split at h
     . cases h
     . rename_i hv
       rw [if_neg hv]
       split at h
       . split at h
         . cases h
         . cases h; simp
       . cases h; simp
theorem jfP {x y : UInt8} {l : List UInt8} (h : [x, y].isPrefixOf l = true) : ∃ r, l = x :: y :: r := by
 rw [List.isPrefixOf_iff_prefix] at h
 obtain ⟨r, rfl⟩ := h
 exact ⟨r, rfl⟩
theorem jaJ {y : List UInt8} {n v : Nat} {c : UInt8} {r : List UInt8} (hc : Gap c) (h : Vs y 0 = .inr (n, v)) : n <= y.length /\ Vs (y.take n ++ c :: r) 0 = .inr (n, v) := by
 unfold Vs at h ⊢
 rw [List.drop_zero] at h ⊢
 cases hx : [48, 120].isPrefixOf y with
 | true =>
   rw [hx, if_pos rfl] at h
   have h2 := Zs hx
   obtain ⟨hn, h3⟩ := Xa (r := r) hc h2 h
   have hdl := Jv ((16 : Nat) : Int) (y.drop 2)
   rw [List.length_drop] at hdl
   obtain ⟨y', rfl⟩ := jfP hx
   have hp : [48, 120].isPrefixOf ((48 :: 120 :: y').take n ++ c :: r) = true := by
     rw [hn, Nat.add_comm, r5, r5]; simp [List.isPrefixOf]
   rw [hp, if_pos rfl]
   exact ⟨by omega, h3⟩
 | false =>
   rw [hx] at h
   simp only [r8, if_false] at h
   obtain ⟨hn, h3⟩ := Xa (r := r) hc (Nat.zero_le _) h
   have hdl := Jv ((10 : Nat) : Int) (y.drop 0)
   rw [List.length_drop] at hdl
   have hd0 : dgs (10 : Nat) (y.drop 0) ≠ 0 := by
     intro e
     unfold KV at h
     simp only [tS] at h
     rw [if_pos e] at h; cases h
   have hp : [48, 120].isPrefixOf (y.take n ++ c :: r) = false := by
     match y, n with
     | [], n => rw [List.drop_zero] at hd0; exact absurd rfl hd0
     | d :: y, 0 => omega
     | [d], n + 1 =>
       have : (120 == c) = false := by rcases hc with rfl | rfl <;> rfl
       simp [List.isPrefixOf, this]
     | d :: e :: y, 1 =>
       have : (120 == c) = false := by rcases hc with rfl | rfl <;> rfl
       simp [List.isPrefixOf, this]
     | d :: e :: y, n + 2 =>
       rw [r5, r5]
       simpa [List.isPrefixOf] using hx
   rw [hp]
   simp only [r8, if_false]
   exact ⟨by omega, h3⟩
theorem jcU {a b : UInt8} {r r' : List UInt8} : mkN (a :: b :: r) = mkN (a :: b :: r') := rfl
theorem Vq {a c : UInt8} {r : List UInt8} (hc : Gap c) : mkN (a :: c :: r) = 1 := by
 rcases hc with rfl | rfl <;> simp [mkN, dbls, List.isPrefixOf]
theorem jcS {a : UInt8} {y : List UInt8} {c : UInt8} {r : List UInt8} (hc : Gap c) : mkN (a :: y) <= (a :: y).length /\ mkN ((a :: y).take (mkN (a :: y)) ++ c :: r) = mkN (a :: y) := by
 cases y with
 | nil =>
   have : mkN [a] = 1 := by simp [mkN, dbls, List.isPrefixOf]
   rw [this]
   exact ⟨rP _, Vq hc⟩
 | cons b y =>
   rcases (show mkN (a :: b :: y) = 2 \/ mkN (a :: b :: y) = 1 by unfold mkN; split <;> simp) with e | e
   . rw [e]; exact ⟨by simp, (jcU (r' := y)).trans e⟩
   . rw [e]; exact ⟨by simp, Vq hc⟩
theorem jaM {y : List UInt8} {k n v : Nat} {c : UInt8} {r : List UInt8} (hc : Gap c) (h : zH y 0 = .inr (k, n, v)) : n <= y.length /\ zH (y.take n ++ c :: r) 0 = .inr (k, n, v) := by
 have hle := QA h
 refine ⟨hle.2, ?_⟩
 cases y with
 | nil => simp [zH] at h
 | cons a y =>
   have hn : 0 < n := hle.1
   have hg : ((a :: y).take n ++ c :: r)[0]? = some a := by
     cases n with
     | zero => omega
     | succ n => rfl
   unfold zH at h ⊢
   rw [hg]
   rw [List.drop_zero] at h ⊢
   simp only [List.getElem?_cons_zero] at h ⊢
   cases h2 : isS 2 a.toNat with
   | true =>
     rw [h2] at h
     simp only [if_true] at h ⊢
     split at h
     . cases h
     . rename_i h16
       simp only [Sum.inr.injEq, Prod.mk.injEq] at h
       obtain ⟨rfl, rfl, rfl⟩ := h
       rw [tS] at *
       rw [ZI hc.s6, if_neg h16, tS]
   | false =>
     rw [h2] at h
     cases h4 : isS 4 a.toNat with
     | true =>
       rw [h4] at h
       simp only [r8, if_false, if_true] at h ⊢
       split at h
       . cases h
       . rename_i hp
         simp only [Sum.inr.injEq, Prod.mk.injEq] at h
         obtain ⟨rfl, rfl, rfl⟩ := h
         rw [(jaJ hc hp).2]
     | false =>
       rw [h4] at h
       cases h8 : isS 8 a.toNat with
       | true =>
         rw [h8] at h
         simp only [r8, if_false, if_true, Sum.inr.injEq, Prod.mk.injEq, tS] at h ⊢
         obtain ⟨rfl, rfl, rfl⟩ := h
         exact ⟨rfl, (jcS hc).2, rfl⟩
       | false => rw [h8] at h; simp at h
end Go.Idl.Lx
namespace Go.Idl.Lx
open Go Go.Idl Go.Idl.En
variable {F : kg}
structure FWk (F : kg) : Prop extends FLex F where
 h7 : F 7 = some ir7
 h13 : F 13 = some jd2
 h22 : F 22 = some jd6
 h23 : F 23 = some je8
 h27 : F 27 = some jdy
 h28 : F 28 = some jdz
 h47 : F 47 = some jcu
 h49 : F 49 = some jcw
 h153 : F 153 = some Qr
section
variable {σ : List IObj}
set_option maxRecDepth 20000 in
theorem jet {T : List Tok} {ws : List (List UInt8)} {o1 o2 : Nat} {r1 r2 : Bool} (hw : ws = T.map (·.t)) (hl : T.length <= 1000) : ∀ (m i : Nat) (f0 : Nat -> Option (Nat × IVal)) (R : Option (IExit × St)), evw F (.loop y0) ⟨E 6 10 5 [] f0, σ, []⟩ = R -> i + m = T.length -> f0 0 = some (0, .sl o1 r1 (T.map J2)) -> f0 1 = some (1, .sl o2 r2 (ws.map .str)) -> f0 5 = some (5, I i) ->
   ∃ f1, R = some (.exit 0, ⟨E 6 10 5 [] (base f1), σ, []⟩) := by
 intro m
 induction m with
 | zero =>
   intro i f0 R hE hm e0 e1 e5
   have d1 : decide ((i : Int) < (T.length : Nat)) = false := rE (by omega)
   change evw F (.loop y0) ⟨E 6 10 5 [] (base f0), σ, []⟩ = R at hE
   rw [jT] at hE
   simp only [y0, e0, e1, e5, d1, jl, jA, Option.toList, jq, nat, j6, jO, j5, jr, lc0, lc1, jE, jF, jG, jH, j7, j8, ju, jt, jv, zV, zS, jC, jS, jc, jh, jX, je, jd, jx, jU, jj, ji, jp, jR, jy, jw, Ts.fill, jY, jV, jf, jZ, jo, jm, jg, ja, getAll, stepCall, jn, unI, Opd.get, jB, tag, jz, jb, jP, rv, bin, j0, Nat.reduceAdd, Nat.reduceSub, Nat.reduceMul, Nat.reduceDiv, Nat.reduceMod, Nat.reducePow, Nat.reduceLT, Nat.reduceLeDiff, Nat.reduceEqDiff, Nat.reduceBEq, Nat.reduceBNe, reduceIte, Int.reduceEq, Int.reduceLT, Int.reduceLE, Int.reduceNeg, Int.reduceToNat, Int.reduceMul, Int.reduceAdd, Int.reduceSub, Int.reduceBEq, Int.reduceBNe, reduceCtorEq] at hE
   exact ⟨_, hE.symm⟩
 | succ m ih =>
   intro i f0 R hE hm e0 e1 e5
   obtain ⟨t, hg⟩ := qT (l := T) (i := i) (by omega)
   have hg2 : ws[i]? = some t.t := by rw [hw, rJ, hg]; rfl
   have d1 : decide ((i : Int) < (T.length : Nat)) = true := rB (by omega)
   have d2 : (0 : Int) <= (i : Int) := by omega
   have w1 := Je (n := i) (by omega)
   have tc : (J2 t).cells = TC t.k t.a t.ln t.t t.n := rfl
   have nb : (!true) = false := rfl
   change evw F (.loop y0) ⟨E 6 10 5 [] (base f0), σ, []⟩ = R at hE
   rw [jT] at hE
   simp only [y0, e0, e1, e5, d1, d2, hg, hg2, tc, w1, nb, rI, jl, jA, Option.toList, jq, nat, j6, jO, j5, jr, lc0, lc1, jE, jF, jG, jH, j7, j8, ju, jt, jv, zV, zS, jC, jS, jc, jh, jX, je, jd, jx, jU, jj, ji, jp, jR, jy, jw, Ts.fill, jY, jV, jf, jZ, jo, jm, jg, ja, getAll, stepCall, jn, unI, Opd.get, jB, tag, jz, jb, jP, rv, bin, j0, Nat.reduceAdd, Nat.reduceSub, Nat.reduceMul, Nat.reduceDiv, Nat.reduceMod, Nat.reducePow, Nat.reduceLT, Nat.reduceLeDiff, Nat.reduceEqDiff, Nat.reduceBEq, Nat.reduceBNe, reduceIte, Int.reduceEq, Int.reduceLT, Int.reduceLE, Int.reduceNeg, Int.reduceToNat, Int.reduceMul, Int.reduceAdd, Int.reduceSub, Int.reduceBEq, Int.reduceBNe, reduceCtorEq] at hE
   exact ih (i + 1) _ _ hE (by omega) (by first | exact e0 | rfl) (by first | exact e1 | rfl) (by rfl)
set_option maxRecDepth 20000 in
theorem ZO (h : F 22 = some jd6) {T : List Tok} {ws : List (List UInt8)} {o1 o2 : Nat} {r1 r2 : Bool} (hw : ws = T.map (·.t)) (hl : T.length <= 1000) : cfw F (.f 22) [.sl o1 r1 (T.map J2), .sl o2 r2 (ws.map .str)] σ = some ⟨false, .bool true, σ, []⟩ := by
 rw [cfw_of jd6 h, jw]
 have e : ws.length = T.length := by rw [hw, List.length_map]
 have b : ((T.length : Int) != (T.length : Int)) = false := by simp
 simp only [jd6, e, b, jA, Option.toList, jq, nat, j6, jO, j5, jr, lc0, lc1, jE, jF, jG, jH, j7, j8, ju, jt, jv, zV, zS, jC, jS, jc, jh, jX, je, jl, jd, jx, jU, jj, ji, jp, jR, jy, jw, Ts.fill, jY, jV, jf, jZ, jo, jm, jg, ja, getAll, stepCall, jn, unI, Opd.get, jB, tag, jz, jb, jP, rv, bin, j0, Nat.reduceAdd, Nat.reduceSub, Nat.reduceMul, Nat.reduceDiv, Nat.reduceMod, Nat.reducePow, Nat.reduceLT, Nat.reduceLeDiff, Nat.reduceEqDiff, Nat.reduceBEq, Nat.reduceBNe, reduceIte, Int.reduceEq, Int.reduceLT, Int.reduceLE, Int.reduceNeg, Int.reduceToNat, Int.reduceMul, Int.reduceAdd, Int.reduceSub, Int.reduceBEq, Int.reduceBNe, reduceCtorEq]
 generalize hE : evw F (ICode.loop y0) _ = R
 obtain ⟨f1, rfl⟩ := jet hw hl T.length 0 _ _ hE (tS _) (by rfl) (by rfl) (by rfl)
 simp only [jA, Option.toList, jq, nat, j6, jO, j5, jr, lc0, lc1, jE, jF, jG, jH, j7, j8, ju, jt, jv, zV, zS, jC, jS, jc, jh, jX, je, jl, jd, jx, jU, jj, ji, jp, jR, jy, jw, Ts.fill, jY, jV, jf, jZ, jo, jm, jg, ja, getAll, stepCall, jn, unI, Opd.get, jB, tag, jz, jb, jP, rv, bin, j0, Nat.reduceAdd, Nat.reduceSub, Nat.reduceMul, Nat.reduceDiv, Nat.reduceMod, Nat.reducePow, Nat.reduceLT, Nat.reduceLeDiff, Nat.reduceEqDiff, Nat.reduceBEq, Nat.reduceBNe, reduceIte, Int.reduceEq, Int.reduceLT, Int.reduceLE, Int.reduceNeg, Int.reduceToNat, Int.reduceMul, Int.reduceAdd, Int.reduceSub, Int.reduceBEq, Int.reduceBNe, reduceCtorEq]
set_option maxRecDepth 20000 in
theorem KI (H : FWk F) {s : List UInt8} {f : Nat × Nat} (hs : s.length <= 20000) (hf : (z8 s).2 = some f) (h0 : f.1 ≠ 0) : ∃ wr, cfw F (.f 23) [.str s, I f.1, I f.2] σ = some ⟨false, .bool true, σ, wr⟩ /\ Fl wr := by
 rw [cfw_of je8 H.h23, jw]
 obtain ⟨w8, u8, g8⟩ := jdw H.toFLex (tx := s) (σ := σ)
 rw [jbG, if_neg (by omega), hf] at u8
 obtain ⟨c, a⟩ := f
 obtain ⟨wt, ut, gt⟩ := je0 H.h13 H.h27 H.h28 H.h47 H.h49 H.h153 (f := (c, a)) h0 (σ := σ)
 have f2 : yZ [.int .i64 0, .int .i64 0] [(0, 1, I c), (1, 1, I a)] = some [I c, I a] := rfl
 simp only [je8, u8, ut, f2, tC, tM, jl, jA, Option.toList, jq, nat, j6, jO, j5, jr, lc0, lc1, jE, jF, jG, jH, j7, j8, ju, jt, jv, zV, zS, jC, jS, jc, jh, jX, je, jd, jx, jU, jj, ji, jp, jR, jy, jw, Ts.fill, jY, jV, jf, jZ, jo, jm, jg, ja, getAll, stepCall, jn, unI, Opd.get, jB, tag, jz, jb, jP, rv, bin, j0, Nat.reduceAdd, Nat.reduceSub, Nat.reduceMul, Nat.reduceDiv, Nat.reduceMod, Nat.reducePow, Nat.reduceLT, Nat.reduceLeDiff, Nat.reduceEqDiff, Nat.reduceBEq, Nat.reduceBNe, reduceIte, Int.reduceEq, Int.reduceLT, Int.reduceLE, Int.reduceNeg, Int.reduceToNat, Int.reduceMul, Int.reduceAdd, Int.reduceSub, Int.reduceBEq, Int.reduceBNe, reduceCtorEq]
 rw [kb (jQ gt g8)]
 exact ⟨_, rfl, jN (jQ gt g8)⟩
set_option maxRecDepth 100000 in
theorem x1 : z8 [120, 49, 32, 61, 32, 48, 120, 49, 70, 59, 32, 47, 47, 32, 101, 110, 100] = ([⟨1, 0, 1, [120, 49], 0⟩, ⟨3, 3, 1, [61], 0⟩, ⟨2, 5, 1, [48, 120, 49, 70], 31⟩, ⟨3, 9, 1, [59], 0⟩], none) := by kernel_rfl
theorem x2 : z8 [97, 60, 60, 61, 50] = ([⟨1, 0, 1, [97], 0⟩, ⟨3, 1, 1, [60, 60], 0⟩, ⟨3, 3, 1, [61], 0⟩, ⟨2, 4, 1, [50], 2⟩], none) := by kernel_rfl
theorem x3 : z8 [] = ([], none) := by kernel_rfl
theorem x4 : (z8 [49, 50, 97, 98]).2 = some (7, 2) := by kernel_rfl
theorem x5 : (z8 [48, 120]).2 = some (7, 2) := by kernel_rfl
theorem x6 : (z8 [52, 50, 57, 52, 57, 54, 55, 50, 57, 54]).2 = some (10, 0) := by kernel_rfl
theorem x7 : (z8 [97, 36]).2 = some (7, 1) := by kernel_rfl
def T1 : List Tok := [⟨1, 0, 1, [120, 49], 0⟩, ⟨3, 3, 1, [61], 0⟩, ⟨2, 5, 1, [48, 120, 49, 70], 31⟩, ⟨3, 9, 1, [59], 0⟩, ⟨0, 17, 1, [], 0⟩]
def T2 : List Tok := [⟨1, 0, 1, [97], 0⟩, ⟨3, 1, 1, [60, 60], 0⟩, ⟨3, 3, 1, [61], 0⟩, ⟨2, 4, 1, [50], 2⟩, ⟨0, 5, 1, [], 0⟩]
def T3 : List Tok := [⟨0, 0, 1, [], 0⟩]
theorem Vm {s : List UInt8} {ts T : List Tok} (hs : s.length <= 20000) (h : z8 s = (ts, none)) (hT : ts ++ [yQ s] = T) : jbG s = [.sl 0 false (T.map J2), .prim .nilIface] := by
 rw [jbG, if_neg (by omega), h, hT]
set_option maxRecDepth 100000 in
theorem je4 (H : FWk F) : ∃ wr, cfw F (.f 7) [] σ = some ⟨false, .bool true, σ, wr⟩ /\ Fl wr := by
 rw [cfw_of ir7 H.h7, jw]
 obtain ⟨w1, u1, g1⟩ := jdw H.toFLex (tx := [120, 49, 32, 61, 32, 48, 120, 49, 70, 59, 32, 47, 47, 32, 101, 110, 100]) (σ := σ)
 obtain ⟨w2, u2, g2⟩ := jdw H.toFLex (tx := [97, 60, 60, 61, 50]) (σ := σ)
 obtain ⟨w3, u3, g3⟩ := jdw H.toFLex (tx := []) (σ := σ)
 rw [Vm (T := T1) (by decide) x1 rfl] at u1
 rw [Vm (T := T2) (by decide) x2 rfl] at u2
 rw [Vm (T := T3) (by decide) x3 rfl] at u3
 have v1 := ZO H.h22 (T := T1) (ws := [[120, 49], [61], [48, 120, 49, 70], [59], []]) (o1 := 0) (o2 := 0) (r1 := false) (r2 := false) (σ := σ) rfl (by decide)
 have v2 := ZO H.h22 (T := T2) (ws := [[97], [60, 60], [61], [50], []]) (o1 := 0) (o2 := 0) (r1 := false) (r2 := false) (σ := σ) rfl (by decide)
 simp only [rR (f := IVal.str), List.map_nil (f := IVal.str)] at v1 v2
 obtain ⟨w4, u4, g4⟩ := KI H (f := (7, 2)) (σ := σ) (by decide) x4 (by decide)
 obtain ⟨w5, u5, g5⟩ := KI H (f := (7, 2)) (σ := σ) (by decide) x5 (by decide)
 obtain ⟨w6, u6, g6⟩ := KI H (f := (10, 0)) (σ := σ) (by decide) x6 (by decide)
 obtain ⟨w7, u7, g7⟩ := KI H (f := (7, 1)) (σ := σ) (by decide) x7 (by decide)
 have u4 : cfw F (.f 23) [.str [49, 50, 97, 98], .int .i64 7, .int .i64 2] σ = _ := u4
 have u5 : cfw F (.f 23) [.str [48, 120], .int .i64 7, .int .i64 2] σ = _ := u5
 have u6 : cfw F (.f 23) [.str [52, 50, 57, 52, 57, 54, 55, 50, 57, 54], .int .i64 10, .int .i64 0] σ = _ := u6
 have u7 : cfw F (.f 23) [.str [97, 36], .int .i64 7, .int .i64 1] σ = _ := u7
 have a2 : T1[2]? = some ⟨2, 5, 1, [48, 120, 49, 70], 31⟩ := rfl
 have a3 : T1[3]? = some ⟨3, 9, 1, [59], 0⟩ := rfl
 have a4 : T1[4]? = some ⟨0, 17, 1, [], 0⟩ := rfl
 have c0' : T3[0]? = some ⟨0, 0, 1, [], 0⟩ := rfl
 have l3 : T3.length = 1 := rfl
 have tf : (true != false) = true := rfl
 have tc : ∀ t : Tok, (J2 t).cells = TC t.k t.a t.ln t.t t.n := fun _ => rfl
 have nr : ∀ T : List Tok, nr2 (.sl 0 false (T.map J2)) = true := fun _ => rfl
 have kI : ∀ n : Int, Jf 0 (.int .i64 n) = true := fun n => rfl
 have kS : ∀ n, Jf 1 (.str n) = true := fun n => rfl
 have eI : ∀ a b : Int, qh (.int .i64 a) (.int .i64 b) = some (a == b) := fun a b => by simp [qh]
 have eS : ∀ a b, qh (.str a) (.str b) = some (a == b) := fun a b => rfl
 have f5 : yZ [.int .i64 0, .int .i64 0, .int .i64 0, .str [], .int .i64 0] [(2, 1, I 1)] = some [I 0, I 0, I 1, .str [], I 0] := rfl
 simp only [ir7, u1, u2, u3, u4, u5, u6, u7, v1, v2, a2, a3, a4, c0', l3, tf, tc, tk5, ext, eqK, kI, kS, eI, eS, f5, tC, tM, jl, jA, Option.toList, jq, nat, j6, jO, j5, jr, lc0, lc1, jE, jF, jG, jH, j7, j8, ju, jt, jv, zV, zS, jC, jS, jc, jh, jX, je, jd, jx, jU, jj, ji, jp, jR, jy, jw, Ts.fill, jY, jV, jf, jZ, jo, jm, jg, ja, getAll, stepCall, jn, unI, Opd.get, jB, tag, jz, jb, jP, rv, bin, j0, Nat.reduceAdd, Nat.reduceSub, Nat.reduceMul, Nat.reduceDiv, Nat.reduceMod, Nat.reducePow, Nat.reduceLT, Nat.reduceLeDiff, Nat.reduceEqDiff, Nat.reduceBEq, Nat.reduceBNe, reduceIte, Int.reduceEq, Int.reduceLT, Int.reduceLE, Int.reduceNeg, Int.reduceToNat, Int.reduceMul, Int.reduceAdd, Int.reduceSub, Int.reduceBEq, Int.reduceBNe, reduceCtorEq]
 have gg := jQ g7 (jQ g6 (jQ g5 (jQ g4 (jQ g3 (jQ g2 g1)))))
 rw [kb gg]
 exact ⟨_, rfl, jN gg⟩
end
end Go.Idl.Lx
namespace Go.Idl.Lx
open Go Go.Idl Go.Idl.En
theorem jfS : ∀ c : Nat, c < 256 -> (isS 2 c || isS 4 c || isS 8 c) = true -> isS 1 c = false := by decide +kernel
theorem KT : ∀ t : List UInt8, (∀ c ∈ t, c ≠ 10) -> nl t = 0
 | [], _ => rfl
 | c :: t, h => by
   have hc : c.toNat ≠ 10 := fun e => h c (by simp) (UInt8.toNat_inj.1 e)
   rw [JH, if_neg hc, KT t fun d hd => h d (by simp [hd])]
theorem ZK {k : Nat} : ∀ y : List UInt8, ∀ c ∈ y.take (spn k y), isS k c.toNat = true
 | [], c, h => by simp at h
 | d :: y, c, h => by
   rw [vu] at h
   cases hk : isS k d.toNat with
   | true =>
     rw [hk, if_pos rfl, Nat.add_comm, r5] at h
     rcases List.mem_cons.1 h with rfl | h
     . exact hk
     . exact ZK y c h
   | false => rw [hk] at h; simp at h
theorem Yv {ba : Int} : ∀ y : List UInt8, ∀ c ∈ y.take (dgs ba y), oth ba c.toNat = false
 | [], c, h => by simp at h
 | d :: y, c, h => by
   rw [vp] at h
   cases hk : oth ba d.toNat with
   | false =>
     rw [hk, if_neg (by simp), Nat.add_comm, r5] at h
     rcases List.mem_cons.1 h with rfl | h
     . exact hk
     . exact Yv y c h
   | true => rw [hk] at h; simp at h
structure Tk (t : Tok) : Prop where
 k0 : t.k ≠ 0
 n0 : t.k ≠ 2 -> t.n = 0
 ne : t.t ≠ []
 nln : nl t.t = 0
 sk : ∀ c r, Gap c -> skN false (t.t ++ c :: r) = 0
 one : ∀ c r, Gap c -> zH (t.t ++ c :: r) 0 = .inr (t.k, t.t.length, t.n)
theorem Xb {y : List UInt8} {ba hd n v : Nat} (h : KV y 0 ba hd = .inr (n, v)) (hp : ∀ c ∈ y.take hd, c ≠ 10) : ∀ c ∈ y.take n, c ≠ 10 := by
 have hn : n = hd + dgs ba (y.drop hd) := by
   unfold KV at h
   simp only [tS] at h
   repeat' split at h
   all_goals first | (cases h; done) | (cases h; rfl)
 intro c hc
 rw [hn, List.take_add] at hc
 rcases List.mem_append.1 hc with h1 | h1
 . exact hp c h1
 . intro e
   have := Yv _ c h1
   subst e
   rw [jgz] at this; cases this
theorem jcT {a : UInt8} {y : List UInt8} (ha : a ≠ 10) : ∀ c ∈ (a :: y).take (mkN (a :: y)), c ≠ 10 := by
 cases y with
 | nil =>
   have : mkN [a] = 1 := by simp [mkN, dbls, List.isPrefixOf]
   rw [this]; simp [ha]
 | cons b y =>
   by_cases hb : b = 10
   . subst hb
     have : mkN (a :: 10 :: y) = 1 := Vq (Or.inr rfl)
     rw [this]; simp [ha]
   . rcases (show mkN (a :: b :: y) = 2 \/ mkN (a :: b :: y) = 1 by unfold mkN; split <;> simp) with e | e
     . rw [e]; simp [ha, hb]
     . rw [e]; simp [ha]
theorem jfX {y : List UInt8} {k n v : Nat} (h : zH y 0 = .inr (k, n, v)) (a ln : Nat) : Tk ⟨k, a, ln, y.take n, v⟩ := by
 have hle := QA h
 have hlen : (y.take n).length = n := by rw [tE]; omega
 cases y with
 | nil => simp [zH] at h
 | cons d y =>
   have hone : ∀ c r, Gap c -> zH ((d :: y).take n ++ c :: r) 0 = .inr (k, ((d :: y).take n).length, v) := fun c r hc => by rw [hlen]; exact (jaM hc h).2
   have hne : (d :: y).take n ≠ [] := fun e => by rw [e] at hlen; simp at hlen; omega
   have h' := h
   unfold zH at h
   rw [List.drop_zero] at h
   simp only [List.getElem?_cons_zero] at h
   have hd3 : (isS 2 d.toNat || isS 4 d.toNat || isS 8 d.toNat) = true := by
     cases h2 : isS 2 d.toNat with
     | true => rfl
     | false =>
       cases h4 : isS 4 d.toNat with
       | true => rfl
       | false =>
         cases h8 : isS 8 d.toNat with
         | true => rfl
         | false => rw [h2, h4, h8] at h; simp at h
   have hs1 := jfS _ d.toNat_lt hd3
   have hd10 : d ≠ 10 := fun e => by subst e; rw [jeS] at hs1; cases hs1
   have hcons : ∃ n', n = n' + 1 := ⟨n - 1, by omega⟩
   obtain ⟨n', rfl⟩ := hcons
   have hsk : ∀ c r, Gap c -> (d = 47 -> n' = 0) -> skN false ((d :: y).take (n' + 1) ++ c :: r) = 0 := by
     intro c r hc h47
     rw [r5, tI, skN, hs1]
     simp only [r8, if_false]
     by_cases e : d = 47
     . have := h47 e
       subst this
       have hcc : (47 == c) = false := by rcases hc with rfl | rfl <;> rfl
       simp [List.isPrefixOf, hcc]
     . have hdd : (47 == d) = false := by rw [beq_eq_false_iff_ne]; exact fun x => e x.symm
       simp [List.isPrefixOf, hdd]
   have n47 : isS 2 (47 : UInt8).toNat = false /\ isS 4 (47 : UInt8).toNat = false := ⟨jcF 47 (by omega), jcG 47 (by omega)⟩
   cases h2 : isS 2 d.toNat with
   | true =>
     rw [h2] at h
     simp only [if_true] at h
     split at h
     . cases h
     . simp only [Sum.inr.injEq, Prod.mk.injEq, tS] at h
       obtain ⟨rfl, hn, rfl⟩ := h
       refine ⟨by simp, by simp, hne, KT _ ?_, fun c r hc => hsk c r hc (fun e => by subst e; rw [n47.1] at h2; cases h2), hone⟩
       intro c hc e
       rw [<- hn] at hc
       have := ZK _ c hc
       subst e
       rw [jfT] at this; cases this
   | false =>
     rw [h2] at h
     cases h4 : isS 4 d.toNat with
     | true =>
       rw [h4] at h
       simp only [r8, if_false, if_true] at h
       split at h
       . cases h
       . rename_i hp
         simp only [Sum.inr.injEq, Prod.mk.injEq] at h
         obtain ⟨rfl, rfl, rfl⟩ := h
         refine ⟨by simp, by simp, hne, KT _ ?_, fun c r hc => hsk c r hc (fun e => by subst e; rw [n47.2] at h4; cases h4), hone⟩
         unfold Vs at hp
         rw [List.drop_zero] at hp
         split at hp
         . rename_i hx
           obtain ⟨y', e⟩ := jfP hx
           exact Xb hp (by rw [e]; simp)
         . exact Xb hp (by simp)
     | false =>
       rw [h4] at h
       cases h8 : isS 8 d.toNat with
       | true =>
         rw [h8] at h
         simp only [r8, if_false, if_true, Sum.inr.injEq, Prod.mk.injEq, tS] at h
         obtain ⟨rfl, hn, rfl⟩ := h
         refine ⟨by simp, by simp, hne, KT _ (by rw [<- hn]; exact jcT hd10), fun c r hc => hsk c r hc (fun e => ?_), hone⟩
         subst e
         have : mkN (47 :: y) = 1 := by
           cases y <;> simp [mkN, dbls, List.isPrefixOf]
         omega
       | false => rw [h8] at h; simp at h
theorem jfW {s : List UInt8} {a k ed v : Nat} (h : zH s a = .inr (k, ed, v)) (ln : Nat) : Tk ⟨k, a, ln, (s.take ed).drop a, v⟩ := by
 have hle := QA h
 have e1 : s.take a ++ s.drop a = s := List.take_append_drop a s
 have hla : (s.take a).length = a := by rw [tE]; omega
 have h2 := jbR (s.take a) (s.drop a) 0
 rw [e1, hla, Nat.add_zero, h] at h2
 have e2 : (s.take ed).drop a = (s.drop a).take (ed - a) := by
   have := take_drop s a (ed - a)
   rwa [show a + (ed - a) = ed by omega] at this
 rw [e2]
 cases ho : zH (s.drop a) 0 with
 | inl f => rw [ho] at h2; cases h2
 | inr x =>
   obtain ⟨k', n', v'⟩ := x
   rw [ho] at h2
   simp only [Sum.inr.injEq, Prod.mk.injEq] at h2
   obtain ⟨rfl, h3, rfl⟩ := h2
   rw [show ed - a = n' by omega]
   exact jfX ho a ln
def sep (p : Nat) : UInt8 := if p % 2 = 0 then 32 else 10
theorem KL (p : Nat) : Gap (sep p) := by unfold sep; split; exact Or.inl rfl; exact Or.inr rfl
theorem jeJ (p : Nat) : nl [sep p] = p % 2 := by
 unfold sep
 rcases Nat.mod_two_eq_zero_or_one p with h | h
 . rw [h]; rfl
 . rw [h]; rfl
def cat : Nat -> List Tok -> List UInt8
 | _, [] => []
 | p, t :: ts => t.t ++ sep p :: cat (p + 1) ts
def ag : Nat -> Nat -> Nat -> List Tok -> List Tok
 | _, _, _, [] => []
 | p, a, ln, t :: ts => ⟨t.k, a, ln, t.t, t.n⟩ :: ag (p + 1) (a + (t.t.length + 1)) (ln + p % 2) ts
theorem jdK (n k : Nat) : ∀ (ts : List Tok) (p a ln : Nat), (ag p a ln ts).map (mv n k) = ag p (a + n) (ln + k) ts
 | [], _, _, _ => rfl
 | t :: ts, p, a, ln => by
   rw [ag, rR, jdK n k ts, ag]
   simp only [mv]
   congr 2 <;> omega
theorem jb0 {e : Tok} (he : e.t = []) : ∀ (ts : List Tok) (p : Nat), (∀ t ∈ ts, Tk t) -> skN false (cat p (ts ++ [e])) = if ts = [] then 1 else 0
 | [], p, _ => by
   rw [tJ, cat, cat, he, tJ, skN, (KL p).s1, if_pos rfl]; rfl
 | t :: ts, p, h => by
   rw [tI, cat, (h t (by simp)).sk _ _ (KL p)]; rfl
theorem YZ {e : Tok} (he : e.t = []) : ∀ (ts : List Tok) (p m : Nat), (∀ t ∈ ts, Tk t) -> (cat p (ts ++ [e])).length < m -> zd (cat p (ts ++ [e])) m (skN false (cat p (ts ++ [e]))) = (ag p 0 1 ts, none)
 | [], p, m, h, hm => by
   rw [jb0 he [] p h, if_pos rfl]
   cases m with
   | zero => omega
   | succ m =>
     rw [zd, if_neg]; rfl
     rw [tJ, cat, cat, he]; simp
 | t :: ts, p, m, h, hm => by
   rw [jb0 he (t :: ts) p h, if_neg (by simp)]
   have ht := h t (by simp)
   have hts : ∀ t ∈ ts, Tk t := fun x hx => h x (by simp [hx])
   have ec : cat p (t :: ts ++ [e]) = (t.t ++ [sep p]) ++ cat (p + 1) (ts ++ [e]) := by
     rw [tI, cat, List.append_assoc]; rfl
   have hl := congrArg List.length ec
   simp only [rF, tB, List.length_nil] at hl
   cases m with
   | zero => omega
   | succ m =>
     have ho : zH (cat p (t :: ts ++ [e])) 0 = .inr (t.k, t.t.length, t.n) := by
       rw [tI, cat]; exact ht.one _ _ (KL p)
     have hn : t.t.length ≠ 0 := fun x => ht.ne (List.length_eq_zero_iff.1 x)
     rw [zd, if_pos (by omega), ho]
     simp only
     have hd : (cat p (t :: ts ++ [e])).drop t.t.length = sep p :: cat (p + 1) (ts ++ [e]) := by
       rw [tI, cat, List.drop_left]
     have htk : ((cat p (t :: ts ++ [e])).take t.t.length).drop 0 = t.t := by
       rw [tI, cat, List.take_left, List.drop_zero]
     rw [hd, htk, skN, (KL p).s1, if_pos rfl]
     have hp : t.t.length + (1 + skN false (cat (p + 1) (ts ++ [e]))) = (t.t ++ [sep p]).length + skN false (cat (p + 1) (ts ++ [e])) := by
       rw [rF, List.length_singleton]; omega
     rw [hp, ec, Y0, YZ he ts (p + 1) m hts (by omega), jdK, ag]
     have e1 : nl (t.t ++ [sep p]) = p % 2 := by rw [Qy, ht.nln, jeJ]; omega
     simp only [rF, List.length_singleton, e1, List.take_zero, Option.map_none, tS]
     rfl
theorem jbr : ∀ (ts : List Tok) (p a ln i : Nat) (t : Tok), ts[i]? = some t -> ∃ b, (ag p a ln ts)[i]? = some ⟨t.k, b, ln + (p + i) / 2 - p / 2, t.t, t.n⟩
 | [], _, _, _, _, t, h => by simp at h
 | x :: ts, p, a, ln, 0, t, h => by
   simp at h; subst h
   exact ⟨a, by rw [ag]; simp⟩
 | x :: ts, p, a, ln, i + 1, t, h => by
   obtain ⟨b, hb⟩ := jbr ts (p + 1) (a + (x.t.length + 1)) (ln + p % 2) i t (by simpa using h)
   refine ⟨b, ?_⟩
   rw [ag, List.getElem?_cons_succ, hb]
   congr 2
   omega
theorem Yf : ∀ (ts : List Tok) (p a ln : Nat), (ag p a ln ts).length = ts.length
 | [], _, _, _ => rfl
 | t :: ts, p, a, ln => by rw [ag, tB, tB, Yf ts]
end Go.Idl.Lx
namespace Go.Idl.Lx
open Go Go.Idl Go.Idl.En
variable {F : kg}
theorem V6 : ∀ (y : List UInt8) (k : Nat), lnN y < k -> lnN (y.take k) = lnN y
 | [], k, _ => by rw [List.take_nil]
 | c :: y, 0, h => by omega
 | c :: y, k + 1, h => by
   rw [r5, qI, qI]
   rw [qI] at h
   by_cases e : c.toNat = 10
   . rw [if_pos e, if_pos e]
   . rw [if_neg e] at h ⊢
     rw [if_neg e, V6 y k (by omega)]
def bP : Nat -> List UInt8 -> Prop
 | _, [] => True
 | 0, _ :: _ => False
 | m + 1, c :: x => (isS 1 c.toNat = true /\ bP m x) \/ (isS 1 c.toNat = false /\ [47, 47].isPrefixOf (c :: x) = true /\ (lnN (c :: x) = (c :: x).length \/ (lnN (c :: x) < (c :: x).length /\ bP m ((c :: x).drop (lnN (c :: x))))))
theorem jb9 : ∀ (m : Nat) (y : List UInt8), y.length <= m -> bP m (y.take (skN false y))
 | m, [], _ => by rw [List.take_nil]; cases m <;> trivial
 | 0, c :: y, h => by simp at h
 | m + 1, c :: y, h => by
   cases h1 : isS 1 c.toNat with
   | true =>
     rw [skN, h1, if_pos rfl, show 1 + skN false y = skN false y + 1 by omega, r5]
     exact Or.inl ⟨h1, jb9 m y (by simp at h; omega)⟩
   | false =>
     cases hp : [47, 47].isPrefixOf (c :: y) with
     | false =>
       rw [skN, h1, hp]; trivial
     | true =>
       have hpos := Y2 hp
       rw [ZH hp]
       obtain ⟨r, hr⟩ := jfP hp
       have hl2 : 2 <= lnN (c :: y) := by
         rw [hr, qI, qI, if_neg (by decide), if_neg (by decide)]; omega
       have hle := Y1 (c :: y)
       have hx : ∀ n, lnN (c :: y) <= n -> ∃ x, (c :: y).take n = c :: x /\ [47, 47].isPrefixOf (c :: x) = true := by
         intro n hn
         obtain ⟨n', rfl⟩ : ∃ n', n = n' + 2 := ⟨n - 2, by omega⟩
         cases hr
         exact ⟨47 :: r.take n', rfl, by simp [List.isPrefixOf]⟩
       by_cases e : lnN (c :: y) = (c :: y).length
       . have e0 : (c :: y).take ((c :: y).length + 0) = c :: y := List.take_length
         rw [e, List.drop_length, skN, e0]
         exact Or.inr ⟨h1, hp, Or.inl e⟩
       . have hz : 0 < skN false ((c :: y).drop (lnN (c :: y))) := by
           obtain ⟨d, hg⟩ := qT (l := c :: y) (i := lnN (c :: y)) (by omega)
           have hd : d = 10 := by
             have : ∀ (y : List UInt8) d, y[lnN y]? = some d -> d = 10 := by
               intro y
               induction y with
               | nil => intro d h; simp at h
               | cons a y ih =>
                 intro d h
                 rw [qI] at h
                 by_cases e : a.toNat = 10
                 . rw [if_pos e] at h
                   simp at h; subst h
                   exact UInt8.toNat_inj.1 e
                 . rw [if_neg e, Nat.add_comm, List.getElem?_cons_succ] at h
                   exact ih d h
             exact this _ _ hg
           rw [qG hg, hd, skN, jeS, if_pos rfl]; omega
         have hlt := V6 (c :: y) (lnN (c :: y) + skN false ((c :: y).drop (lnN (c :: y)))) (by omega)
         have hsk := yV false ((c :: y).drop (lnN (c :: y)))
         rw [List.length_drop] at hsk
         have hlen : ((c :: y).take (lnN (c :: y) + skN false ((c :: y).drop (lnN (c :: y))))).length = lnN (c :: y) + skN false ((c :: y).drop (lnN (c :: y))) := by
           rw [tE]; omega
         have htd : ((c :: y).take (lnN (c :: y) + skN false ((c :: y).drop (lnN (c :: y))))).drop (lnN (c :: y)) = ((c :: y).drop (lnN (c :: y))).take (skN false ((c :: y).drop (lnN (c :: y)))) := take_drop _ _ _
         have ih := jb9 m ((c :: y).drop (lnN (c :: y))) (by rw [List.length_drop]; simp only [tB] at h ⊢; omega)
         obtain ⟨x, hx1, hx2⟩ := hx (lnN (c :: y) + skN false ((c :: y).drop (lnN (c :: y)))) (by omega)
         rw [<- htd] at ih
         rw [hx1] at ih hlt hlen ⊢
         refine Or.inr ⟨h1, hx2, Or.inr ⟨by omega, ?_⟩⟩
         rw [hlt]; exact ih
section
variable {σ : List IObj}
structure FBare (F : kg) : Prop where
 h12 : F 12 = some jcr
 h19 : F 19 = some jd4
 h26 : F 26 = some YQ
 h34 : F 34 = some jdA
 h53 : F 53 = some jbB
set_option maxRecDepth 20000 in
theorem jes (H : FBare F) : ∀ (m : Nat) (x : List UInt8) (f0 : Nat -> Option (Nat × IVal)) (R : Option (IExit × St)), evw F (.loop qQ) ⟨E 4 13 5 [] f0, σ, []⟩ = R -> bP m x -> x.length <= 20000 -> f0 0 = some (0, .str x) ->
   (∃ f1, R = some (.exit 0, ⟨E 4 13 5 [] (base f1), σ, []⟩)) \/ (∃ f1, R = some (.ret, ⟨E 4 13 5 [] (base f1), σ, []⟩) /\ f1 2 = some (2, .bool true)) := by
 intro m
 induction m with
 | zero =>
   intro x f0 R hE hb hl e0
   change evw F (.loop qQ) ⟨E 4 13 5 [] (base f0), σ, []⟩ = R at hE
   rw [jT] at hE
   cases x with
   | cons c x => exact absurd hb (by intro h; exact h)
   | nil =>
     have d1 : decide ((0 : Int) > 0) = false := rfl
     simp only [qQ, e0, d1, jA, Option.toList, jq, nat, j6, jO, j5, jr, lc0, lc1, jE, jF, jG, jH, j7, j8, ju, jt, jv, zV, zS, jC, jS, jc, jh, jX, je, jl, jd, jx, jU, jj, ji, jp, jR, jy, jw, Ts.fill, jY, jV, jf, jZ, jo, jm, jg, ja, getAll, stepCall, jn, unI, Opd.get, jB, tag, jz, jb, jP, rv, bin, j0, Nat.reduceAdd, Nat.reduceSub, Nat.reduceMul, Nat.reduceDiv, Nat.reduceMod, Nat.reducePow, Nat.reduceLT, Nat.reduceLeDiff, Nat.reduceEqDiff, Nat.reduceBEq, Nat.reduceBNe, reduceIte, Int.reduceEq, Int.reduceLT, Int.reduceLE, Int.reduceNeg, Int.reduceToNat, Int.reduceMul, Int.reduceAdd, Int.reduceSub, Int.reduceBEq, Int.reduceBNe, reduceCtorEq] at hE
     exact Or.inl ⟨_, hE.symm⟩
 | succ m ih =>
   intro x f0 R hE hb hl e0
   change evw F (.loop qQ) ⟨E 4 13 5 [] (base f0), σ, []⟩ = R at hE
   rw [jT] at hE
   cases x with
   | nil =>
     have d1 : decide ((0 : Int) > 0) = false := rfl
     simp only [qQ, e0, d1, jA, Option.toList, jq, nat, j6, jO, j5, jr, lc0, lc1, jE, jF, jG, jH, j7, j8, ju, jt, jv, zV, zS, jC, jS, jc, jh, jX, je, jl, jd, jx, jU, jj, ji, jp, jR, jy, jw, Ts.fill, jY, jV, jf, jZ, jo, jm, jg, ja, getAll, stepCall, jn, unI, Opd.get, jB, tag, jz, jb, jP, rv, bin, j0, Nat.reduceAdd, Nat.reduceSub, Nat.reduceMul, Nat.reduceDiv, Nat.reduceMod, Nat.reducePow, Nat.reduceLT, Nat.reduceLeDiff, Nat.reduceEqDiff, Nat.reduceBEq, Nat.reduceBNe, reduceIte, Int.reduceEq, Int.reduceLT, Int.reduceLE, Int.reduceNeg, Int.reduceToNat, Int.reduceMul, Int.reduceAdd, Int.reduceSub, Int.reduceBEq, Int.reduceBNe, reduceCtorEq] at hE
     exact Or.inl ⟨_, hE.symm⟩
   | cons c x =>
     have hl0 : 0 < (c :: x).length := by simp
     have d1 : decide ((((c :: x).length : Nat) : Int) > 0) = true := rB (by omega)
     have d2 : (1 : Int) <= (((c :: x).length : Nat) : Int) := by omega
     have d7 : 1 <= (c :: x).length := by omega
     have g0 : (c :: x)[0]? = some c := rfl
     have dr1 : (c :: x).drop 1 = x := rfl
     have hs1 := XK _ c.toNat_lt
     have u34 := fun τ => jaQ H.h34 H.h53 (s := c :: x) (p := [47, 47]) (σ := τ) (by omega) (by simp)
     have u12 := fun τ => jfD H.h12 H.h26 (s := c :: x) (c := 10) (σ := τ) (by omega)
     have u12 : ∀ τ, cfw F (.f 12) [.str (c :: x), .int .u8 10] τ = _ := u12
     rcases hb with ⟨h1, hb⟩ | ⟨h1, hp, hb⟩
     . rw [h1] at hs1
       have hc : c.toNat = 32 \/ (c.toNat ≠ 32 /\ c.toNat = 9) \/ (c.toNat ≠ 32 /\ c.toNat ≠ 9 /\ c.toNat = 10) := by
         have : (c.toNat = 32 \/ c.toNat = 9) \/ c.toNat = 10 := by simpa using hs1.symm
         omega
       have hx : x.length <= 20000 := by simp at hl; omega
       generalize hcx : c :: x = y at *
       rcases hc with h | ⟨h, h'⟩ | ⟨h, h', h''⟩
       . have b1 : ((c.toNat : Int) == 32) = true := by rw [beq_iff_eq]; omega
         simp only [qQ, e0, d1, d2, d7, g0, dr1, b1, jl, jA, Option.toList, jq, nat, j6, jO, j5, jr, lc0, lc1, jE, jF, jG, jH, j7, j8, ju, jt, jv, zV, zS, jC, jS, jc, jh, jX, je, jd, jx, jU, jj, ji, jp, jR, jy, jw, Ts.fill, jY, jV, jf, jZ, jo, jm, jg, ja, getAll, stepCall, jn, unI, Opd.get, jB, tag, jz, jb, jP, rv, bin, j0, Nat.reduceAdd, Nat.reduceSub, Nat.reduceMul, Nat.reduceDiv, Nat.reduceMod, Nat.reducePow, Nat.reduceLT, Nat.reduceLeDiff, Nat.reduceEqDiff, Nat.reduceBEq, Nat.reduceBNe, reduceIte, Int.reduceEq, Int.reduceLT, Int.reduceLE, Int.reduceNeg, Int.reduceToNat, Int.reduceMul, Int.reduceAdd, Int.reduceSub, Int.reduceBEq, Int.reduceBNe, reduceCtorEq] at hE
         exact ih x _ _ hE hb hx (by rfl)
       . have b1 : ((c.toNat : Int) == 32) = false := by rw [beq_eq_false_iff_ne]; omega
         have b2 : ((c.toNat : Int) == 9) = true := by rw [beq_iff_eq]; omega
         simp only [qQ, e0, d1, d2, d7, g0, dr1, b1, b2, jl, jA, Option.toList, jq, nat, j6, jO, j5, jr, lc0, lc1, jE, jF, jG, jH, j7, j8, ju, jt, jv, zV, zS, jC, jS, jc, jh, jX, je, jd, jx, jU, jj, ji, jp, jR, jy, jw, Ts.fill, jY, jV, jf, jZ, jo, jm, jg, ja, getAll, stepCall, jn, unI, Opd.get, jB, tag, jz, jb, jP, rv, bin, j0, Nat.reduceAdd, Nat.reduceSub, Nat.reduceMul, Nat.reduceDiv, Nat.reduceMod, Nat.reducePow, Nat.reduceLT, Nat.reduceLeDiff, Nat.reduceEqDiff, Nat.reduceBEq, Nat.reduceBNe, reduceIte, Int.reduceEq, Int.reduceLT, Int.reduceLE, Int.reduceNeg, Int.reduceToNat, Int.reduceMul, Int.reduceAdd, Int.reduceSub, Int.reduceBEq, Int.reduceBNe, reduceCtorEq] at hE
         exact ih x _ _ hE hb hx (by rfl)
       . have b1 : ((c.toNat : Int) == 32) = false := by rw [beq_eq_false_iff_ne]; omega
         have b2 : ((c.toNat : Int) == 9) = false := by rw [beq_eq_false_iff_ne]; omega
         have b3 : ((c.toNat : Int) == 10) = true := by rw [beq_iff_eq]; omega
         simp only [qQ, e0, d1, d2, d7, g0, dr1, b1, b2, b3, jl, jA, Option.toList, jq, nat, j6, jO, j5, jr, lc0, lc1, jE, jF, jG, jH, j7, j8, ju, jt, jv, zV, zS, jC, jS, jc, jh, jX, je, jd, jx, jU, jj, ji, jp, jR, jy, jw, Ts.fill, jY, jV, jf, jZ, jo, jm, jg, ja, getAll, stepCall, jn, unI, Opd.get, jB, tag, jz, jb, jP, rv, bin, j0, Nat.reduceAdd, Nat.reduceSub, Nat.reduceMul, Nat.reduceDiv, Nat.reduceMod, Nat.reducePow, Nat.reduceLT, Nat.reduceLeDiff, Nat.reduceEqDiff, Nat.reduceBEq, Nat.reduceBNe, reduceIte, Int.reduceEq, Int.reduceLT, Int.reduceLE, Int.reduceNeg, Int.reduceToNat, Int.reduceMul, Int.reduceAdd, Int.reduceSub, Int.reduceBEq, Int.reduceBNe, reduceCtorEq] at hE
         exact ih x _ _ hE hb hx (by rfl)
     . rw [h1] at hs1
       have hc : c.toNat ≠ 32 /\ c.toNat ≠ 9 /\ c.toNat ≠ 10 := by
         have : ((c.toNat == 32 || c.toNat == 9) || c.toNat == 10) = false := hs1.symm
         simp only [Bool.or_eq_false_iff, beq_eq_false_iff_ne] at this
         exact ⟨this.1.1, this.1.2, this.2⟩
       have b1 : ((c.toNat : Int) == 32) = false := by rw [beq_eq_false_iff_ne]; omega
       have b2 : ((c.toNat : Int) == 9) = false := by rw [beq_eq_false_iff_ne]; omega
       have b3 : ((c.toNat : Int) == 10) = false := by rw [beq_eq_false_iff_ne]; omega
       rw [hp] at u34
       have hi := jcp (c :: x)
       generalize hcx : c :: x = y at *
       rcases hb with hb | ⟨hlt, hb⟩
       . rcases hi with ⟨e1, e2⟩ | ⟨e1, e2⟩
         . rw [e1] at u12
           have d3 : decide ((-1 : Int) < 0) = true := rfl
           simp only [qQ, e0, d1, g0, b1, b2, b3, u34, u12, d3, jl, jA, Option.toList, jq, nat, j6, jO, j5, jr, lc0, lc1, jE, jF, jG, jH, j7, j8, ju, jt, jv, zV, zS, jC, jS, jc, jh, jX, je, jd, jx, jU, jj, ji, jp, jR, jy, jw, Ts.fill, jY, jV, jf, jZ, jo, jm, jg, ja, getAll, stepCall, jn, unI, Opd.get, jB, tag, jz, jb, jP, rv, bin, j0, Nat.reduceAdd, Nat.reduceSub, Nat.reduceMul, Nat.reduceDiv, Nat.reduceMod, Nat.reducePow, Nat.reduceLT, Nat.reduceLeDiff, Nat.reduceEqDiff, Nat.reduceBEq, Nat.reduceBNe, reduceIte, Int.reduceEq, Int.reduceLT, Int.reduceLE, Int.reduceNeg, Int.reduceToNat, Int.reduceMul, Int.reduceAdd, Int.reduceSub, Int.reduceBEq, Int.reduceBNe, reduceCtorEq] at hE
           exact Or.inr ⟨_, hE.symm, (by rfl)⟩
         . omega
       . rcases hi with ⟨e1, e2⟩ | ⟨e1, e2⟩
         . omega
         . rw [e1] at u12
           have d3 : decide ((lnN y : Int) < 0) = false := rE (by omega)
           have d4 : (0 : Int) <= (lnN y : Int) := by omega
           have d5 : lnN y <= y.length := by omega
           have d6 : (lnN y : Int) <= (y.length : Int) := by omega
           simp only [qQ, e0, d1, g0, b1, b2, b3, u34, u12, d3, d4, d5, d6, rI, jl, jA, Option.toList, jq, nat, j6, jO, j5, jr, lc0, lc1, jE, jF, jG, jH, j7, j8, ju, jt, jv, zV, zS, jC, jS, jc, jh, jX, je, jd, jx, jU, jj, ji, jp, jR, jy, jw, Ts.fill, jY, jV, jf, jZ, jo, jm, jg, ja, getAll, stepCall, jn, unI, Opd.get, jB, tag, jz, jb, jP, rv, bin, j0, Nat.reduceAdd, Nat.reduceSub, Nat.reduceMul, Nat.reduceDiv, Nat.reduceMod, Nat.reducePow, Nat.reduceLT, Nat.reduceLeDiff, Nat.reduceEqDiff, Nat.reduceBEq, Nat.reduceBNe, reduceIte, Int.reduceEq, Int.reduceLT, Int.reduceLE, Int.reduceNeg, Int.reduceToNat, Int.reduceMul, Int.reduceAdd, Int.reduceSub, Int.reduceBEq, Int.reduceBNe, reduceCtorEq] at hE
           exact ih _ _ _ hE hb (by rw [List.length_drop]; omega) (by rfl)
set_option maxRecDepth 20000 in
theorem jdM (H : FBare F) {y : List UInt8} (hl : y.length <= 20000) : cfw F (.f 19) [.str (y.take (skN false y))] σ = some ⟨false, .bool true, σ, []⟩ := by
 rw [cfw_of jd4 H.h19, jw]
 have hb := jb9 y.length y (rP _)
 have hx : (y.take (skN false y)).length <= 20000 := by rw [tE]; omega
 generalize y.take (skN false y) = x at *
 simp only [jd4, jA, Option.toList, jq, nat, j6, jO, j5, jr, lc0, lc1, jE, jF, jG, jH, j7, j8, ju, jt, jv, zV, zS, jC, jS, jc, jh, jX, je, jl, jd, jx, jU, jj, ji, jp, jR, jy, jw, Ts.fill, jY, jV, jf, jZ, jo, jm, jg, ja, getAll, stepCall, jn, unI, Opd.get, jB, tag, jz, jb, jP, rv, bin, j0, Nat.reduceAdd, Nat.reduceSub, Nat.reduceMul, Nat.reduceDiv, Nat.reduceMod, Nat.reducePow, Nat.reduceLT, Nat.reduceLeDiff, Nat.reduceEqDiff, Nat.reduceBEq, Nat.reduceBNe, reduceIte, Int.reduceEq, Int.reduceLT, Int.reduceLE, Int.reduceNeg, Int.reduceToNat, Int.reduceMul, Int.reduceAdd, Int.reduceSub, Int.reduceBEq, Int.reduceBNe, reduceCtorEq]
 generalize hE : evw F (ICode.loop qQ) _ = R
 rcases jes H _ x _ _ hE hb hx (by rfl) with ⟨f1, rfl⟩ | ⟨f1, rfl, e2⟩
 . simp only [jA, Option.toList, jq, nat, j6, jO, j5, jr, lc0, lc1, jE, jF, jG, jH, j7, j8, ju, jt, jv, zV, zS, jC, jS, jc, jh, jX, je, jl, jd, jx, jU, jj, ji, jp, jR, jy, jw, Ts.fill, jY, jV, jf, jZ, jo, jm, jg, ja, getAll, stepCall, jn, unI, Opd.get, jB, tag, jz, jb, jP, rv, bin, j0, Nat.reduceAdd, Nat.reduceSub, Nat.reduceMul, Nat.reduceDiv, Nat.reduceMod, Nat.reducePow, Nat.reduceLT, Nat.reduceLeDiff, Nat.reduceEqDiff, Nat.reduceBEq, Nat.reduceBNe, reduceIte, Int.reduceEq, Int.reduceLT, Int.reduceLE, Int.reduceNeg, Int.reduceToNat, Int.reduceMul, Int.reduceAdd, Int.reduceSub, Int.reduceBEq, Int.reduceBNe, reduceCtorEq]
 . simp only [e2, jA, Option.toList, jq, nat, j6, jO, j5, jr, lc0, lc1, jE, jF, jG, jH, j7, j8, ju, jt, jv, zV, zS, jC, jS, jc, jh, jX, je, jl, jd, jx, jU, jj, ji, jp, jR, jy, jw, Ts.fill, jY, jV, jf, jZ, jo, jm, jg, ja, getAll, stepCall, jn, unI, Opd.get, jB, tag, jz, jb, jP, rv, bin, j0, Nat.reduceAdd, Nat.reduceSub, Nat.reduceMul, Nat.reduceDiv, Nat.reduceMod, Nat.reducePow, Nat.reduceLT, Nat.reduceLeDiff, Nat.reduceEqDiff, Nat.reduceBEq, Nat.reduceBNe, reduceIte, Int.reduceEq, Int.reduceLT, Int.reduceLE, Int.reduceNeg, Int.reduceToNat, Int.reduceMul, Int.reduceAdd, Int.reduceSub, Int.reduceBEq, Int.reduceBNe, reduceCtorEq]
end
end Go.Idl.Lx
namespace Go.Idl.Lx
open Go Go.Idl Go.Idl.En
variable {F : kg}
def Ch (s : List UInt8) : Nat -> List Tok -> Prop
 | at0, [] => at0 = s.length
 | at0, t :: ts => t.a = at0 + skN false (s.drop at0) /\ t.ln = 1 + nl (s.take t.a) /\ (s.take (t.a + t.t.length)).drop t.a = t.t /\ t.a + t.t.length <= s.length /\ Ch s (t.a + t.t.length) ts
theorem Ym (s : List UInt8) : ∀ (m at0 : Nat), at0 <= s.length -> s.length - (at0 + skN false (s.drop at0)) < m -> (zd s m (at0 + skN false (s.drop at0))).2 = none -> Ch s at0 ((zd s m (at0 + skN false (s.drop at0))).1 ++ [yQ s]) /\ ∀ t ∈ (zd s m (at0 + skN false (s.drop at0))).1, Tk t
 | 0, at0, _, h, _ => by omega
 | m + 1, at0, ha, h, hn => by
   have hs := yV false (s.drop at0)
   rw [List.length_drop] at hs
   rw [zd] at hn ⊢
   by_cases hlt : at0 + skN false (s.drop at0) < s.length
   . rw [if_pos hlt] at hn ⊢
     cases ho : zH s (at0 + skN false (s.drop at0)) with
     | inl f => rw [ho] at hn; cases hn
     | inr x =>
       obtain ⟨k, ed, v⟩ := x
       rw [ho] at hn
       obtain ⟨h1, h2⟩ := QA ho
       have hs2 := yV false (s.drop ed)
       rw [List.length_drop] at hs2
       obtain ⟨i1, i2⟩ := Ym s m ed h2 (by omega) hn
       have tl : ((s.take ed).drop (at0 + skN false (s.drop at0))).length = ed - (at0 + skN false (s.drop at0)) := by rw [List.length_drop, tE]; omega
       have te : at0 + skN false (s.drop at0) + ((s.take ed).drop (at0 + skN false (s.drop at0))).length = ed := by omega
       simp only
       refine ⟨⟨rfl, rfl, ?_, ?_, ?_⟩, ?_⟩
       . simp only; rw [te]
       . simp only; omega
       . simp only; rw [te]; exact i1
       . intro t ht
         rcases List.mem_cons.1 ht with rfl | ht
         . exact jfW ho _
         . exact i2 t ht
   . rw [if_neg hlt]
     have e : at0 + skN false (s.drop at0) = s.length := by omega
     refine ⟨⟨e.symm, ?_, ?_, ?_, ?_⟩, fun t ht => by simp at ht⟩
     . simp only [yQ, List.take_length]
     . simp [yQ]
     . simp [yQ]
     . show (yQ s).a + (yQ s).t.length = s.length
       simp [yQ]
theorem jbt {s : List UInt8} : ∀ (ts : List Tok) (p at0 : Nat), Ch s at0 ts -> at0 <= s.length -> (cat p ts).length <= s.length - at0 + ts.length
 | [], _, _, _, _ => by simp [cat]
 | t :: ts, p, at0, h, ha => by
   obtain ⟨h1, h2, h3, h4, h5⟩ := h
   have := jbt ts (p + 1) _ h5 h4
   rw [cat, rF, tB, tB]
   omega
theorem VZ {t : Tok} : ∀ (l : List Tok) (p : Nat), cat p (l ++ [t]) = cat p l ++ (t.t ++ [sep (p + l.length)])
 | [], p => by simp [cat]
 | x :: l, p => by
   rw [tI, cat, cat, VZ l (p + 1), tB, show p + 1 + l.length = p + (l.length + 1) by omega]
   simp
section
variable {n : Nat} {σ S : List IObj} {s : List UInt8}
theorem Bd.app (h : Bd n σ S s) (g : List IObj) : Bd n σ (S ++ g) s := by
 have hl := h.len
 obtain ⟨ad, bf, hb, had, hbf⟩ := h.bx
 refine ⟨by simp; omega, fun i hi => by rw [List.getElem?_append_left (by omega)]; exact h.old i hi, vb h.tg g, ad, bf, vb hb g, had, ?_⟩
 rcases hbf with h1 | ⟨h1, id, h2, h3, h4, h5⟩
 . exact Or.inl h1
 . exact Or.inr ⟨h1, id, h2, h3, vb h4 g, vb h5 g⟩
structure Bz (n : Nat) (σ S : List IObj) : Prop where
 len : n + 2 <= S.length
 old : ∀ i, i < n -> S[i]? = σ[i]?
 tg : S[n + 1]? = some (.ty 48 2 n)
 bx : S[n]? = some (.cells [.ptr n 0, .sl 0 true []])
set_option maxRecDepth 20000 in
theorem jbp (H : FBld F) (hB : Bd n σ S []) : ∃ S1 wr, cfw F (.f 20) [.ptr n 0, .str []] S = some ⟨false, .tup [I 0, .prim .nilIface], S1, wr⟩ /\ Bz n σ S1 := by
 rw [cfw_of YP H.h20, jw]
 obtain ⟨ad, bf, hb, had, hbf⟩ := hB.bx
 obtain ⟨w1, u1, g1⟩ := Z5 H.h35 hb hB.tg had
 have lb := jk hb
 have hlen := hB.len
 have gb := gs hb (y := .cells [.ptr n 0, bf])
 rcases hbf with ⟨_, rfl⟩ | ⟨hs, _⟩
 . have tk : (S.set n (.cells [.ptr n 0, .sl 0 true []])).take S.length = S.set n (.cells [.ptr n 0, .sl 0 true []]) := take_set
   simp only [YP, u1, gb, rC, r7, tk, jA, Option.toList, jq, nat, j6, jO, j5, jr, lc0, lc1, jE, jF, jG, jH, j7, j8, ju, jt, jv, zV, zS, jC, jS, jc, jh, jX, je, jl, jd, jx, jU, jj, ji, jp, jR, jy, jw, Ts.fill, jY, jV, jf, jZ, jo, jm, jg, ja, getAll, stepCall, jn, unI, Opd.get, jB, tag, jz, jb, jP, rv, bin, j0, Nat.reduceAdd, Nat.reduceSub, Nat.reduceMul, Nat.reduceDiv, Nat.reduceMod, Nat.reducePow, Nat.reduceLT, Nat.reduceLeDiff, Nat.reduceEqDiff, Nat.reduceBEq, Nat.reduceBNe, reduceIte, Int.reduceEq, Int.reduceLT, Int.reduceLE, Int.reduceNeg, Int.reduceToNat, Int.reduceMul, Int.reduceAdd, Int.reduceSub, Int.reduceBEq, Int.reduceBNe, reduceCtorEq]
   refine ⟨_, _, ite_self _, by simp; omega, fun i hi => by rw [rA (by omega)]; exact hB.old i hi, by rw [rA (by omega)]; exact hB.tg, rH lb⟩
 . exact absurd rfl hs
set_option maxRecDepth 20000 in
theorem jbo (H : FBld F) {t : List UInt8} (ht : t ≠ []) (htl : t.length <= 1000000) (hB : Bz n σ S) :
   ∃ S1 wr, cfw F (.f 20) [.ptr n 0, .str t] S = some ⟨false, .tup [I t.length, .prim .nilIface], S1, wr⟩ /\ Bd n σ S1 t := by
 rw [cfw_of YP H.h20, jw]
 have hb := hB.bx
 obtain ⟨w1, u1, g1⟩ := Z5 H.h35 hb hB.tg (Or.inr rfl)
 have lb := jk hb
 have hlen := hB.len
 have gb := gs hb (y := .cells [.ptr n 0, .sl 0 true []])
 have t0 : t.length ≠ 0 := fun e => ht (List.length_eq_zero_iff.1 e)
 have tl : t.length <= 1099511627776 := by omega
 have s2 : ∀ (x y : IObj) (l : List IObj), (S.set n x ++ l).set n y = S.set n y ++ l := fun x y l => by rw [vg (by simpa using lb), r7]
 have g2 : ∀ (x : IObj) (l : List IObj), (S.set n x ++ l)[n]? = some x := fun x l => by rw [List.getElem?_append_left (by simpa using lb), rH lb]
 have x1 : nr1 (.rs 1 S.length 0 t.length) = false := rfl
 have hn : ¬ S.length <= n := by omega
 have dn : decide (S.length <= n) = false := rE hn
 simp only [YP, u1, gb, t0, tl, s2, g2, x1, dn, rC, jA, Option.toList, jq, nat, j6, jO, j5, jr, lc0, lc1, jE, jF, jG, jH, j7, j8, ju, jt, jv, zV, zS, jC, jS, jc, jh, jX, je, jl, jd, jx, jU, jj, ji, jp, jR, jy, jw, Ts.fill, jY, jV, jf, jZ, jo, jm, jg, ja, getAll, stepCall, jn, unI, Opd.get, jB, tag, jz, jb, jP, rv, bin, j0, Nat.reduceAdd, Nat.reduceSub, Nat.reduceMul, Nat.reduceDiv, Nat.reduceMod, Nat.reducePow, Nat.reduceLT, Nat.reduceLeDiff, Nat.reduceEqDiff, Nat.reduceBEq, Nat.reduceBNe, reduceIte, Int.reduceEq, Int.reduceLT, Int.reduceLE, Int.reduceNeg, Int.reduceToNat, Int.reduceMul, Int.reduceAdd, Int.reduceSub, Int.reduceBEq, Int.reduceBNe, reduceCtorEq]
 refine ⟨_, _, rfl, ?_, ?_, ?_, ?_⟩
 . simp; omega
 . intro i hi
   rw [List.getElem?_append_left (by simp; omega), rA (by omega)]; exact hB.old i hi
 . rw [List.getElem?_append_left (by simp; omega), rA (by omega)]; exact hB.tg
 . refine ⟨_, _, g2 _ _, Or.inr rfl, Or.inr ⟨ht, S.length, hlen, rfl, ?_, ?_⟩⟩
   . rw [rS (by simp)]; simp
   . rw [rS (by simp)]; simp
set_option maxRecDepth 20000 in
theorem jbn (H : FBld F) (hs : s ≠ []) (hl : s.length <= 1000000) (hB : Bd n σ S s) :
   ∃ S1 wr, cfw F (.f 20) [.ptr n 0, .str []] S = some ⟨false, .tup [I 0, .prim .nilIface], S1, wr⟩ /\ Bd n σ S1 s := by
 rw [cfw_of YP H.h20, jw]
 obtain ⟨ad, bf, hb, had, hbf⟩ := hB.bx
 obtain ⟨w1, u1, g1⟩ := Z5 H.h35 hb hB.tg had
 have lb := jk hb
 have hlen := hB.len
 have gb := gs hb (y := .cells [.ptr n 0, bf])
 rcases hbf with ⟨rfl, _⟩ | ⟨_, id, hid, rfl, hc, htg⟩
 . exact absurd rfl hs
 . have hid2 : id ≠ n := by omega
   have c1 := get_set (x := .cells [.ptr n 0, .rs 1 id 0 s.length]) hc (j := n) (by omega)
   have c2 := get_set (x := .cells [.ptr n 0, .rs 1 id 0 s.length]) htg (j := n) (by omega)
   have s2 : ∀ (x y z : IObj) (l : List IObj), ((S.set n x).set id z ++ l).set n y = (S.set n y).set id z ++ l := fun x y z l => by rw [vg (by simpa using lb), List.set_comm _ _ hid2, r7]
   have g2 : ∀ (x z : IObj) (l : List IObj), ((S.set n x).set id z ++ l)[n]? = some x := fun x z l => by rw [List.getElem?_append_left (by simpa using lb), rA hid2, rH lb]
   have x1 : nr1 (.rs 1 S.length 0 s.length) = false := rfl
   have dn : decide (S.length <= n) = false := rE (by omega)
   have l1 : s.length <= 1099511627776 := by omega
   have tk : (s.map fun c => IVal.int .u8 c.toNat).take s.length = s.map fun c => IVal.int .u8 c.toNat := rU (by simp)
   simp only [YP, u1, gb, c1, c2, l1, tk, s2, g2, x1, dn, rC, jA, Option.toList, jq, nat, j6, jO, j5, jr, lc0, lc1, jE, jF, jG, jH, j7, j8, ju, jt, jv, zV, zS, jC, jS, jc, jh, jX, je, jl, jd, jx, jU, jj, ji, jp, jR, jy, jw, Ts.fill, jY, jV, jf, jZ, jo, jm, jg, ja, getAll, stepCall, jn, unI, Opd.get, jB, tag, jz, jb, jP, rv, bin, j0, Nat.reduceAdd, Nat.reduceSub, Nat.reduceMul, Nat.reduceDiv, Nat.reduceMod, Nat.reducePow, Nat.reduceLT, Nat.reduceLeDiff, Nat.reduceEqDiff, Nat.reduceBEq, Nat.reduceBNe, reduceIte, Int.reduceEq, Int.reduceLT, Int.reduceLE, Int.reduceNeg, Int.reduceToNat, Int.reduceMul, Int.reduceAdd, Int.reduceSub, Int.reduceBEq, Int.reduceBNe, reduceCtorEq]
   refine ⟨_, _, rfl, ?_, ?_, ?_, ?_⟩
   . simp; omega
   . intro i hi
     rw [List.getElem?_append_left (by simp; omega), rA (by omega), rA (by omega)]; exact hB.old i hi
   . rw [List.getElem?_append_left (by simp; omega), rA (by omega), rA (by omega)]; exact hB.tg
   . refine ⟨_, _, g2 _ _ _, Or.inr rfl, Or.inr ⟨hs, S.length, hlen, rfl, ?_, ?_⟩⟩
     . rw [rS (by simp)]; simp
     . rw [rS (by simp)]; simp
theorem je5 (H : FBld F) {t : List UInt8} {c : UInt8} (hl : s.length <= 100000) (htl : t.length <= 100000) (hB : Bd n σ S s) :
   ∃ S1 w1 S2 w2, cfw F (.f 20) [.ptr n 0, .str t] S = some ⟨false, .tup [I t.length, .prim .nilIface], S1, w1⟩ /\ cfw F (.f 20) [.ptr n 0, .str [c]] S1 = some ⟨false, .tup [I 1, .prim .nilIface], S2, w2⟩ /\ Bd n σ S2 (s ++ (t ++ [c])) := by
 by_cases ht : t = []
 . subst ht
   by_cases hs : s = []
   . subst hs
     obtain ⟨S1, w1, u1, h1⟩ := jbp H hB
     obtain ⟨S2, w2, u2, h2⟩ := jbo H (t := [c]) (by simp) (by simp) h1
     exact ⟨S1, w1, S2, w2, u1, u2, h2⟩
   . obtain ⟨S1, w1, u1, h1⟩ := jbn H hs (by omega) hB
     obtain ⟨S2, w2, u2, _, h2⟩ := K8 H (t := [c]) (by simp) (by omega) (by simp) h1
     exact ⟨S1, w1, S2, w2, u1, u2, h2⟩
 . obtain ⟨S1, w1, u1, _, h1⟩ := K8 H ht (by omega) (by omega) hB
   obtain ⟨S2, w2, u2, _, h2⟩ := K8 H (t := [c]) (by simp) (by rw [rF]; omega) (by simp) h1
   exact ⟨S1, w1, S2, w2, u1, u2, by rw [<- List.append_assoc]; exact h2⟩
end
end Go.Idl.Lx
namespace Go.Idl.Lx
open Go Go.Idl Go.Idl.En
variable {F : kg}
structure FCov (F : kg) : Prop extends FWk F, FMade F where
 h6 : F 6 = some ir6
 h17 : F 17 = some jd3
 h19 : F 19 = some jd4
theorem FCov.bare (H : FCov F) : FBare F := ⟨H.h12, H.h19, H.h26, H.h34, H.h53⟩
def jf5 (T : List Tok) : Prop := ∀ i t, T[i]? = some t -> ((t.k = 0 ↔ i + 1 = T.length) /\ (t.t = [] ↔ i + 1 = T.length) /\ (t.k ≠ 2 -> t.n = 0))
section
variable {n : Nat} {σ : List IObj} {s : List UInt8}
set_option maxRecDepth 20000 in
set_option maxHeartbeats 2000000 in
theorem jey (H : FCov F) (hl : s.length <= 20000) {T : List Tok} (hT : jf5 T) (hTl : T.length <= 30000) {o : Nat} {r : Bool} {ar : IVal} {j : Int} : ∀ (m i at0 : Nat) (f0 : Nat -> Option (Nat × IVal)) (S : List IObj) (wr : List (Nat × Bool)) (R : Option (IExit × St)), evw F (.loop z6) ⟨E 26 78 7 [] f0, S, wr⟩ = R -> i + m = T.length -> Ch s at0 (T.drop i) -> at0 <= s.length -> (cat 0 (T.take i)).length <= at0 + i -> Bd n σ S (cat 0 (T.take i)) -> f0 6 = some (6, .str s) -> f0 7 = some (7, .sl o r (T.map J2)) -> f0 9 = some (9, I at0) -> f0 10 = some (10, .ptr n 0) -> f0 11 = some (11, I i) -> f0 24 = some (24, ar) -> f0 25 = some (25, I j) ->
   ∃ f1 S1 wr1, R = some (.exit 2, ⟨E 26 78 7 [] (base f1), S1, wr1⟩) /\ Bd n σ S1 (cat 0 T) /\ f1 6 = some (6, .str s) /\ f1 7 = some (7, .sl o r (T.map J2)) /\ f1 9 = some (9, I s.length) /\ f1 10 = some (10, .ptr n 0) /\ f1 24 = some (24, ar) /\ f1 25 = some (25, I j) := by
 intro m
 induction m with
 | zero =>
   intro i at0 f0 S wr R hE hm hc ha hlen hB e6 e7 e9 e10 e11 e24 e25
   have d1 : decide ((i : Int) < (T.length : Nat)) = false := rE (by omega)
   change evw F (.loop z6) ⟨E 26 78 7 [] (base f0), S, wr⟩ = R at hE
   rw [jT] at hE
   simp only [z6, e6, e7, e9, e10, e11, e24, e25, d1, jl, jA, Option.toList, jq, nat, j6, jO, j5, jr, lc0, lc1, jE, jF, jG, jH, j7, j8, ju, jt, jv, zV, zS, jC, jS, jc, jh, jX, je, jd, jx, jU, jj, ji, jp, jR, jy, jw, Ts.fill, jY, jV, jf, jZ, jo, jm, jg, ja, getAll, stepCall, jn, unI, Opd.get, jB, tag, jz, jb, jP, rv, bin, j0, Nat.reduceAdd, Nat.reduceSub, Nat.reduceMul, Nat.reduceDiv, Nat.reduceMod, Nat.reducePow, Nat.reduceLT, Nat.reduceLeDiff, Nat.reduceEqDiff, Nat.reduceBEq, Nat.reduceBNe, reduceIte, Int.reduceEq, Int.reduceLT, Int.reduceLE, Int.reduceNeg, Int.reduceToNat, Int.reduceMul, Int.reduceAdd, Int.reduceSub, Int.reduceBEq, Int.reduceBNe, reduceCtorEq] at hE
   rw [tN (by omega)] at hc
   have hc : at0 = s.length := hc
   subst hc
   rw [rU (by omega)] at hB
   exact ⟨_, _, _, hE.symm, hB, (by first | exact e6 | rfl), (by first | exact e7 | rfl), (by first | exact e9 | rfl), (by first | exact e10 | rfl), (by first | exact e24 | rfl), (by first | exact e25 | rfl)⟩
 | succ m ih =>
   intro i at0 f0 S wr R hE hm hc ha hlen hB e6 e7 e9 e10 e11 e24 e25
   obtain ⟨t, hg⟩ := qT (l := T) (i := i) (by omega)
   rw [qG hg] at hc
   obtain ⟨c1, c2, c3, c4, c5⟩ := hc
   obtain ⟨q1, q2, q3⟩ := hT i t hg
   have d1 : decide ((i : Int) < (T.length : Nat)) = true := rB (by omega)
   have d2 : (0 : Int) <= (i : Int) := by omega
   have w1 := Je (n := i) (by omega)
   have tc : (J2 t).cells = TC t.k t.a t.ln t.t t.n := rfl
   have tcu : (TC t.k t.a t.ln t.t t.n).map un1 = TC t.k t.a t.ln t.t t.n := rfl
   have a1 : decide ((t.a : Int) < (at0 : Int)) = false := rE (by omega)
   have a2 : IntKind.i64.wrap ((t.a : Int) + ((t.t.length : Nat) : Int)) = ((t.a + t.t.length : Nat) : Int) := by rw [qN (by omega) (by omega)]; omega
   have a3 : decide (((t.a + t.t.length : Nat) : Int) > ((s.length : Nat) : Int)) = false := rE (by omega)
   have a4 : (0 : Int) <= (t.a : Int) := by omega
   have a5 : (0 : Int) <= ((t.a + t.t.length : Nat) : Int) := by omega
   have a6 : t.a <= t.a + t.t.length := by omega
   have a7 : t.a <= s.length := by omega
   have a8 : at0 <= t.a := by omega
   have a9 : (0 : Int) <= (at0 : Int) := by omega
   have tt : (t.t != t.t) = false := by simp
   have hgap : (s.take t.a).drop at0 = (s.drop at0).take (skN false (s.drop at0)) := by rw [c1]; exact take_drop s at0 _
   have u19 := fun τ => jdM H.bare (y := s.drop at0) (σ := τ) (by rw [List.length_drop]; omega)
   rw [<- hgap] at u19
   have u17 := fun τ => jep H.h17 H.h15 hl (t.a : Int) (σ := τ)
   simp only [rI] at u17
   rw [<- c2] at u17
   have ll : ((t.ln : Int) != (t.ln : Int)) = false := by simp
   have w2 : IntKind.i64.wrap (((T.length : Nat) : Int) - 1) = ((T.length - 1 : Nat) : Int) := by rw [qN (by omega) (by omega)]; omega
   obtain ⟨b, hb⟩ : ∃ b, decide (i + 1 = T.length) = b := ⟨_, rfl⟩
   have b1 : ((t.k : Int) == 0) = b := by
     rw [<- hb, Bool.eq_iff_iff, beq_iff_eq, decide_eq_true_eq, <- q1]; omega
   have b2 : ((i : Int) == ((T.length - 1 : Nat) : Int)) = b := by
     rw [<- hb, Bool.eq_iff_iff, beq_iff_eq, decide_eq_true_eq]; omega
   have b3 : (t.t == []) = b := by
     rw [<- hb, Bool.eq_iff_iff, beq_iff_eq, decide_eq_true_eq, <- q2]
   have bb : (b != b) = false := by simp
   have w3 : (i : Int).tmod 2 = ((i % 2 : Nat) : Int) := rfl
   have n2 : ¬ (2 : Int) = 0 := by decide
   have d4 : (0 : Int) <= ((i % 2 : Nat) : Int) := by omega
   have hsep : ([IVal.str [32], IVal.str [10]] : List IVal)[i % 2]? = some (.str [sep i]) := by
     unfold sep
     rcases Nat.mod_two_eq_zero_or_one i with h | h <;> rw [h] <;> rfl
   have hB' := hB.app [.cells (TC t.k t.a t.ln t.t t.n)]
   obtain ⟨S1, x1, S2, x2, u1, u2, hB2⟩ := je5 H.toFBld (t := t.t) (c := sep i) (by omega) (by omega) hB'
   have ht : cat 0 (T.take (i + 1)) = cat 0 (T.take i) ++ (t.t ++ [sep i]) := by
     rw [List.take_add_one, hg]
     show cat 0 (T.take i ++ [t]) = _
     rw [VZ, tE, Nat.min_eq_left (by omega), tS]
   have hl2 : (cat 0 (T.take (i + 1))).length <= t.a + t.t.length + (i + 1) := by
     rw [ht, rF, rF, List.length_singleton]; omega
   rw [<- ht] at hB2
   change evw F (.loop z6) ⟨E 26 78 7 [] (base f0), S, wr⟩ = R at hE
   rw [jT] at hE
   by_cases hk : t.k = 2
   . have k2 : ((t.k : Int) != 2) = false := by simp [hk]
     simp only [z6, e6, e7, e9, e10, e11, e24, e25, d1, d2, hg, w1, tc, tcu, a1, a2, a3, a4, a5, a6, a7, a8, a9, c3, c4, tt, u19, u17, ll, w2, b1, b2, b3, bb, k2, w3, n2, d4, hsep, u1, u2, tk5, rI, jl, jA, Option.toList, jq, nat, j6, jO, j5, jr, lc0, lc1, jE, jF, jG, jH, j7, j8, ju, jt, jv, zV, zS, jC, jS, jc, jh, jX, je, jd, jx, jU, jj, ji, jp, jR, jy, jw, Ts.fill, jY, jV, jf, jZ, jo, jm, jg, ja, getAll, stepCall, jn, unI, Opd.get, jB, tag, jz, jb, jP, rv, bin, j0, Nat.reduceAdd, Nat.reduceSub, Nat.reduceMul, Nat.reduceDiv, Nat.reduceMod, Nat.reducePow, Nat.reduceLT, Nat.reduceLeDiff, Nat.reduceEqDiff, Nat.reduceBEq, Nat.reduceBNe, reduceIte, Int.reduceEq, Int.reduceLT, Int.reduceLE, Int.reduceNeg, Int.reduceToNat, Int.reduceMul, Int.reduceAdd, Int.reduceSub, Int.reduceBEq, Int.reduceBNe, reduceCtorEq] at hE
     exact ih (i + 1) _ _ _ _ _ hE (by omega) c5 (by omega) hl2 hB2 (by first | exact e6 | rfl) (by first | exact e7 | rfl) (by rfl) (by first | exact e10 | rfl) (by rfl) (by first | exact e24 | rfl) (by first | exact e25 | rfl)
   . have k2 : ((t.k : Int) != 2) = true := by rw [bne_iff_ne]; omega
     have k3 : ((t.n : Int) != 0) = false := by rw [q3 hk]; rfl
     simp only [z6, e6, e7, e9, e10, e11, e24, e25, d1, d2, hg, w1, tc, tcu, a1, a2, a3, a4, a5, a6, a7, a8, a9, c3, c4, tt, u19, u17, ll, w2, b1, b2, b3, bb, k2, k3, w3, n2, d4, hsep, u1, u2, tk5, rI, jl, jA, Option.toList, jq, nat, j6, jO, j5, jr, lc0, lc1, jE, jF, jG, jH, j7, j8, ju, jt, jv, zV, zS, jC, jS, jc, jh, jX, je, jd, jx, jU, jj, ji, jp, jR, jy, jw, Ts.fill, jY, jV, jf, jZ, jo, jm, jg, ja, getAll, stepCall, jn, unI, Opd.get, jB, tag, jz, jb, jP, rv, bin, j0, Nat.reduceAdd, Nat.reduceSub, Nat.reduceMul, Nat.reduceDiv, Nat.reduceMod, Nat.reducePow, Nat.reduceLT, Nat.reduceLeDiff, Nat.reduceEqDiff, Nat.reduceBEq, Nat.reduceBNe, reduceIte, Int.reduceEq, Int.reduceLT, Int.reduceLE, Int.reduceNeg, Int.reduceToNat, Int.reduceMul, Int.reduceAdd, Int.reduceSub, Int.reduceBEq, Int.reduceBNe, reduceCtorEq] at hE
     exact ih (i + 1) _ _ _ _ _ hE (by omega) c5 (by omega) hl2 hB2 (by first | exact e6 | rfl) (by first | exact e7 | rfl) (by rfl) (by first | exact e10 | rfl) (by rfl) (by first | exact e24 | rfl) (by first | exact e25 | rfl)
end
end Go.Idl.Lx
namespace Go.Idl.Lx
open Go Go.Idl Go.Idl.En
variable {F : kg}
def Sm (T M : List Tok) : Prop := ∀ i t, T[i]? = some t -> ∃ u, M[i]? = some u /\ u.k = t.k /\ u.t = t.t /\ u.n = t.n /\ (i + 1 < T.length -> u.ln = 1 + i / 2)
section
variable {n : Nat} {σ : List IObj} {s : List UInt8}
set_option maxRecDepth 20000 in
set_option maxHeartbeats 2000000 in
theorem jez {T M : List Tok} (hM : Sm T M) (hTl : T.length <= 30000) {o o2 : Nat} {r r2 : Bool} {ar : IVal} {j : Int} : ∀ (m i : Nat) (f0 : Nat -> Option (Nat × IVal)) (S : List IObj) (wr : List (Nat × Bool)) (R : Option (IExit × St)), evw F (.loop z7) ⟨E 26 78 7 [] f0, S, wr⟩ = R -> i + m = T.length -> f0 7 = some (7, .sl o r (T.map J2)) -> f0 13 = some (13, .sl o2 r2 (M.map J2)) -> f0 14 = some (14, I i) -> f0 24 = some (24, ar) -> f0 25 = some (25, I j) ->
   ∃ f1 S1 wr1, R = some (.exit 4, ⟨E 26 78 7 [] (base f1), S1, wr1⟩) /\ f1 24 = some (24, ar) /\ f1 25 = some (25, I j) := by
 intro m
 induction m with
 | zero =>
   intro i f0 S wr R hE hm e7 e13 e14 e24 e25
   have d1 : decide ((i : Int) < (T.length : Nat)) = false := rE (by omega)
   change evw F (.loop z7) ⟨E 26 78 7 [] (base f0), S, wr⟩ = R at hE
   rw [jT] at hE
   simp only [z7, e7, e13, e14, e24, e25, d1, jl, jA, Option.toList, jq, nat, j6, jO, j5, jr, lc0, lc1, jE, jF, jG, jH, j7, j8, ju, jt, jv, zV, zS, jC, jS, jc, jh, jX, je, jd, jx, jU, jj, ji, jp, jR, jy, jw, Ts.fill, jY, jV, jf, jZ, jo, jm, jg, ja, getAll, stepCall, jn, unI, Opd.get, jB, tag, jz, jb, jP, rv, bin, j0, Nat.reduceAdd, Nat.reduceSub, Nat.reduceMul, Nat.reduceDiv, Nat.reduceMod, Nat.reducePow, Nat.reduceLT, Nat.reduceLeDiff, Nat.reduceEqDiff, Nat.reduceBEq, Nat.reduceBNe, reduceIte, Int.reduceEq, Int.reduceLT, Int.reduceLE, Int.reduceNeg, Int.reduceToNat, Int.reduceMul, Int.reduceAdd, Int.reduceSub, Int.reduceBEq, Int.reduceBNe, reduceCtorEq] at hE
   exact ⟨_, _, _, hE.symm, (by first | exact e24 | rfl), (by first | exact e25 | rfl)⟩
 | succ m ih =>
   intro i f0 S wr R hE hm e7 e13 e14 e24 e25
   obtain ⟨t, hg⟩ := qT (l := T) (i := i) (by omega)
   obtain ⟨u, hgM, h1, h2, h3, h4⟩ := hM i t hg
   have d1 : decide ((i : Int) < (T.length : Nat)) = true := rB (by omega)
   have d2 : (0 : Int) <= (i : Int) := by omega
   have w1 := Je (n := i) (by omega)
   have tc : (J2 t).cells = TC t.k t.a t.ln t.t t.n := rfl
   have tcu : (J2 u).cells = TC u.k u.a u.ln u.t u.n := rfl
   have b1 : ((u.k : Int) != (t.k : Int)) = false := by rw [h1]; simp
   have b2 : (u.t != t.t) = false := by rw [h2]; simp
   have b4 : (u.t == t.t) = true := by rw [h2]; simp
   have b3 : ((u.n : Int) != (t.n : Int)) = false := by rw [h3]; simp
   have w2 : IntKind.i64.wrap (((T.length : Nat) : Int) - 1) = ((T.length - 1 : Nat) : Int) := by rw [qN (by omega) (by omega)]; omega
   have w3 : (i : Int).tdiv 2 = ((i / 2 : Nat) : Int) := rfl
   have w4 : IntKind.i64.wrap ((i / 2 : Nat) : Int) = ((i / 2 : Nat) : Int) := qN (by omega) (by omega)
   have w5 : IntKind.i64.wrap (1 + ((i / 2 : Nat) : Int)) = ((1 + i / 2 : Nat) : Int) := by rw [qN (by omega) (by omega)]; omega
   have n2 : ¬ (2 : Int) = 0 := by decide
   change evw F (.loop z7) ⟨E 26 78 7 [] (base f0), S, wr⟩ = R at hE
   rw [jT] at hE
   cases hq : ((u.ln : Int) != ((1 + i / 2 : Nat) : Int)) with
   | false =>
     simp only [z7, e7, e13, e14, e24, e25, d1, d2, hg, hgM, w1, tc, tcu, b1, b2, b4, b3, w2, w3, w4, w5, n2, hq, rI, jl, jA, Option.toList, jq, nat, j6, jO, j5, jr, lc0, lc1, jE, jF, jG, jH, j7, j8, ju, jt, jv, zV, zS, jC, jS, jc, jh, jX, je, jd, jx, jU, jj, ji, jp, jR, jy, jw, Ts.fill, jY, jV, jf, jZ, jo, jm, jg, ja, getAll, stepCall, jn, unI, Opd.get, jB, tag, jz, jb, jP, rv, bin, j0, Nat.reduceAdd, Nat.reduceSub, Nat.reduceMul, Nat.reduceDiv, Nat.reduceMod, Nat.reducePow, Nat.reduceLT, Nat.reduceLeDiff, Nat.reduceEqDiff, Nat.reduceBEq, Nat.reduceBNe, reduceIte, Int.reduceEq, Int.reduceLT, Int.reduceLE, Int.reduceNeg, Int.reduceToNat, Int.reduceMul, Int.reduceAdd, Int.reduceSub, Int.reduceBEq, Int.reduceBNe, reduceCtorEq] at hE
     exact ih (i + 1) _ _ _ _ hE (by omega) (by first | exact e7 | rfl) (by first | exact e13 | rfl) (by rfl) (by first | exact e24 | rfl) (by first | exact e25 | rfl)
   | true =>
     have hl : ¬ i + 1 < T.length := fun h => by
       rw [h4 h, bne_iff_ne] at hq; exact hq rfl
     have d3 : decide ((i : Int) < ((T.length - 1 : Nat) : Int)) = false := rE (by omega)
     simp only [z7, e7, e13, e14, e24, e25, d1, d2, d3, hg, hgM, w1, tc, tcu, b1, b2, b4, b3, w2, w3, w4, w5, n2, hq, rI, jl, jA, Option.toList, jq, nat, j6, jO, j5, jr, lc0, lc1, jE, jF, jG, jH, j7, j8, ju, jt, jv, zV, zS, jC, jS, jc, jh, jX, je, jd, jx, jU, jj, ji, jp, jR, jy, jw, Ts.fill, jY, jV, jf, jZ, jo, jm, jg, ja, getAll, stepCall, jn, unI, Opd.get, jB, tag, jz, jb, jP, rv, bin, j0, Nat.reduceAdd, Nat.reduceSub, Nat.reduceMul, Nat.reduceDiv, Nat.reduceMod, Nat.reducePow, Nat.reduceLT, Nat.reduceLeDiff, Nat.reduceEqDiff, Nat.reduceBEq, Nat.reduceBNe, reduceIte, Int.reduceEq, Int.reduceLT, Int.reduceLE, Int.reduceNeg, Int.reduceToNat, Int.reduceMul, Int.reduceAdd, Int.reduceSub, Int.reduceBEq, Int.reduceBNe, reduceCtorEq] at hE
     exact ih (i + 1) _ _ _ _ hE (by omega) (by first | exact e7 | rfl) (by first | exact e13 | rfl) (by rfl) (by first | exact e24 | rfl) (by first | exact e25 | rfl)
theorem jcg {ts : List Tok} {e : Tok} (h : ∀ t ∈ ts, Tk t) (h1 : e.k = 0) (h2 : e.t = []) (h3 : e.n = 0) : jf5 (ts ++ [e]) := by
 intro i t hg
 rw [rF, List.length_singleton]
 by_cases hi : i < ts.length
 . rw [List.getElem?_append_left hi] at hg
   have ht := h t (List.mem_of_getElem? hg)
   have k0 := ht.k0
   have ne := ht.ne
   exact ⟨⟨fun x => absurd x k0, fun x => by omega⟩, ⟨fun x => absurd x ne, fun x => by omega⟩, ht.n0⟩
 . rw [rS (by omega)] at hg
   have hlt := (List.getElem?_eq_some_iff.1 hg).1
   simp at hlt
   have hi2 : i = ts.length := by omega
   subst hi2
   simp at hg; subst hg
   exact ⟨⟨fun _ => rfl, fun _ => h1⟩, ⟨fun _ => rfl, fun _ => h2⟩, fun _ => h3⟩
theorem jfU {ts : List Tok} {e e' : Tok} (h1 : e'.k = e.k) (h2 : e'.t = e.t) (h3 : e'.n = e.n) : Sm (ts ++ [e]) (ag 0 0 1 ts ++ [e']) := by
 intro i t hg
 have hl := Yf ts 0 0 1
 by_cases hi : i < ts.length
 . rw [List.getElem?_append_left hi] at hg
   obtain ⟨b, hb⟩ := jbr ts 0 0 1 i t hg
   refine ⟨⟨t.k, b, 1 + (0 + i) / 2 - 0 / 2, t.t, t.n⟩, by rw [List.getElem?_append_left (by omega)]; exact hb, rfl, rfl, rfl, fun _ => ?_⟩
   show 1 + (0 + i) / 2 - 0 / 2 = 1 + i / 2
   rw [tS]; rfl
 . rw [rS (by omega)] at hg
   have hlt := (List.getElem?_eq_some_iff.1 hg).1
   simp at hlt
   have hi2 : i = ts.length := by omega
   subst hi2
   simp at hg; subst hg
   refine ⟨e', by rw [rS (by omega), hl]; simp, h1, h2, h3, fun h => ?_⟩
   simp at h
end
end Go.Idl.Lx
