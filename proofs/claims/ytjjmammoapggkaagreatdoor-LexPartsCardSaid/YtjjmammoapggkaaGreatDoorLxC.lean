/- Chapter 2: what the ideal machine makes of its functions, part C; no conditions. -/
import Derived.Test.YtjjmammoapggkaaGreatDoorLxB
import Derived.KernelRfl
set_option linter.defProp false
set_option linter.unusedSectionVars false
set_option linter.unusedVariables false
set_option linter.unusedSimpArgs false
namespace Go.Idl.Lx
open Go Go.Idl Go.Idl.En
variable {F : kt}
structure Tok where
 k : Nat
 a : Nat
 ln : Nat
 t : List UInt8
 n : Nat
def KA (t : Tok) : IVal := .agg (TC t.k t.a t.ln t.t t.n)
def ve (tx : List UInt8) : Nat -> Nat -> List Tok × Option (Nat × Nat)
 | 0, _ => ([], none)
 | m + 1, a => if a < tx.length then match JX tx a with
   | .inl f => ([], some f)
   | .inr (k, ed, v) => (⟨k, a, 1 + nl (tx.take a), (tx.take ed).drop a, v⟩ :: (ve tx m (ed + skN false (tx.drop ed))).1, (ve tx m (ed + skN false (tx.drop ed))).2)
   else ([], none)
def Kp (q al : Nat) (S S1 : List IObj) : Prop := S.length <= S1.length /\ ∀ i, i < S.length -> i ≠ q -> i ≠ al -> S1[i]? = S[i]?
theorem Kp.trans {q al : Nat} {S S1 S2 : List IObj} (h : Kp q al S S1) (h2 : Kp q al S1 S2) : Kp q al S S2 :=
 ⟨Nat.le_trans h.1 h2.1, fun i hi h1 h3 => (h2.2 i (by have := h.1; omega) h1 h3).trans (h.2 i hi h1 h3)⟩
section
variable {tx : List UInt8} {q al id : Nat}
def Q1 (tx : List UInt8) (q al id m a : Nat) (L : List IVal) (R : Option (IExit × St)) (f1 : Nat -> Option (Nat × IVal)) (S1 : List IObj) (wr1 : List (Nat × Bool)) : Prop := match (ve tx m a).2 with
 | none => R = some (.exit 0, ⟨E 60 11 7 [] (base f1), S1, wr1⟩) /\ f1 0 = some (0, .yl id) /\ f1 1 = some (1, .pv true [.ptr q 0] 0) /\ (∃ r1, S1[q]? = some (.cells (LP r1 tx tx.length zF))) /\ S1[al]? = some (.cells [QZ (L ++ (ve tx m a).1.map KA)])
 | some f => R = some (.ret, ⟨E 60 11 7 [] (base f1), S1, wr1⟩) /\ ∃ a', S1[q]? = some (.cells (LP true tx a' (flt f)))
theorem Z2 {m a : Nat} {ts : List Tok} {L : List IVal} {R : Option (IExit × St)} {f1 : Nat -> Option (Nat × IVal)} {S1 : List IObj} {wr1 : List (Nat × Bool)} (h : ve tx m a = (ts, none)) (hR : R = some (.exit 0, ⟨E 60 11 7 [] (base f1), S1, wr1⟩)) (h0 : f1 0 = some (0, .yl id)) (h1 : f1 1 = some (1, .pv true [.ptr q 0] 0)) (h2 : ∃ r1, S1[q]? = some (.cells (LP r1 tx tx.length zF))) (h3 : S1[al]? = some (.cells [QZ (L ++ ts.map KA)])) : Q1 tx q al id m a L R f1 S1 wr1 := by
 rw [Q1, h]; exact ⟨hR, h0, h1, h2, h3⟩
theorem Z3 {m a : Nat} {ts : List Tok} {ff : Nat × Nat} {L : List IVal} {R : Option (IExit × St)} {f1 : Nat -> Option (Nat × IVal)} {S1 : List IObj} {wr1 : List (Nat × Bool)} (h : ve tx m a = (ts, some ff)) (hR : R = some (.ret, ⟨E 60 11 7 [] (base f1), S1, wr1⟩)) (h2 : ∃ a', S1[q]? = some (.cells (LP true tx a' (flt ff)))) : Q1 tx q al id m a L R f1 S1 wr1 := by
 rw [Q1, h]; exact ⟨hR, h2⟩
set_option maxRecDepth 20000 in
theorem jd8 (H : FMrk F) (hl : tx.length <= 20000) (f : Nat -> Option (Nat × IVal)) (hf : f 5 = some (5, .ptr al 0)) (n1 : q ≠ al) (n2 : q ≠ id) (n3 : al ≠ id) : ∀ (m a : Nat) (r : Bool) (f0 : Nat -> Option (Nat × IVal)) (S : List IObj) (wr : List (Nat × Bool)) (R : Option (IExit × St)) (L : List IVal), evw F (.loop zQ) ⟨E 60 11 7 [] f0, S, wr⟩ = R -> tx.length - a < m -> a <= tx.length -> S[q]? = some (.cells (LP r tx a zF)) -> S[al]? = some (.cells [QZ L]) -> S[id]? = some (.loop (jcQ f)) -> L.length + (tx.length - a) <= 50000 -> f0 0 = some (0, .yl id) -> f0 1 = some (1, .pv true [.ptr q 0] 0) -> Fl wr ->
   ∃ f1 wr1 S1, Fl wr1 /\ Kp q al S S1 /\ Q1 tx q al id m a L R f1 S1 wr1 := by
 intro m
 induction m with
 | zero => intro a r f0 S wr R L hE hm; omega
 | succ m ih =>
   intro a r f0 S wr R L hE hm ha hq hal hid hL e0 e1 hw
   change evw F (.loop zQ) ⟨E 60 11 7 [] (base f0), S, wr⟩ = R at hE
   have lq := je hq
   by_cases hlt : a < tx.length
   . obtain ⟨c, hg⟩ := vm hlt
     have d1 : decide ((a : Int) < (tx.length : Nat)) = true := rB (by omega)
     have d2 : (0 : Int) <= (a : Int) := by omega
     have dq : decide (q < S.length) = true := rB lq
     have f5 : yW [.int .i64 0, .int .i64 0, .int .i64 0, .str [], .int .i64 0] [(1, 1, I a), (2, 1, I ((1 + nl (tx.take a) : Nat) : Int))] = some (TC 0 a (1 + nl (tx.take a)) [] 0) := rfl
     have hq2 := fun l => yX hq l
     rw [kb] at hE
     simp only [zQ, hq, hq2, e0, e1, d1, d2, dq, hg, f5, tC, tM, rI, jA, Option.toList, jq, nat, ka, jQ, j6, jr, lc0, lc1, jE, jF, jG, jH, kc, ke, jv, jt, jw, zV, zS, jD, jT, jc, jj, jX, jf, jl, jd, jx, jU, ji, jk, jp, jS, jy, ju, Ts.fill, jY, jW, jg, jZ, jo, jm, jh, ja, getAll, stepCall, jn, unI, Opd.get, jC, tag, jz, jb, jR, rv, bin, j5, Nat.reduceAdd, Nat.reduceSub, Nat.reduceMul, Nat.reduceDiv, Nat.reduceMod, Nat.reducePow, Nat.reduceLT, Nat.reduceLeDiff, Nat.reduceEqDiff, Nat.reduceBEq, Nat.reduceBNe, reduceIte, Int.reduceEq, Int.reduceLT, Int.reduceLE, Int.reduceNeg, Int.reduceToNat, Int.reduceMul, Int.reduceAdd, Int.reduceSub, Int.reduceBEq, Int.reduceBNe, reduceCtorEq] at hE
     generalize hs : evw F zh _ = Rs at hE
     obtain ⟨f1, wr1, S1, gw, rfl, a0, a1, a3, hlen, hk, hsw⟩ := jga (y := id) H hs hl hg (hq2 [IObj.cells (TC 0 a (1 + nl (tx.take a)) [] 0)]) (by rw [get_app0]; rfl) (by omega) (by first | exact e0 | rfl) (by first | exact e1 | rfl) (by rfl) (by rfl) (by simpa using hw)
     have hk2 : ∀ i, i < S.length -> i ≠ q -> S1[i]? = S[i]? := fun i hi h1 => by
       rw [hk i h1 (by omega), List.getElem?_append_left hi]
     have hlen2 : S1.length = S.length + 1 := by simpa using hlen
     cases ho : JX tx a with
     | inl ff =>
       simp only [Sw, ho] at hsw
       obtain ⟨a', gq⟩ := hsw
       simp only [a0, a1, a3, gq, jl, jA, Option.toList, jq, nat, ka, jQ, j6, jr, lc0, lc1, jE, jF, jG, jH, kc, ke, jv, jt, jw, zV, zS, jD, jT, jc, jj, jX, jf, jd, jx, jU, ji, jk, jp, jS, jy, ju, Ts.fill, jY, jW, jg, jZ, jo, jm, jh, ja, getAll, stepCall, jn, unI, Opd.get, jC, tag, jz, jb, jR, rv, bin, j5, Nat.reduceAdd, Nat.reduceSub, Nat.reduceMul, Nat.reduceDiv, Nat.reduceMod, Nat.reducePow, Nat.reduceLT, Nat.reduceLeDiff, Nat.reduceEqDiff, Nat.reduceBEq, Nat.reduceBNe, reduceIte, Int.reduceEq, Int.reduceLT, Int.reduceLE, Int.reduceNeg, Int.reduceToNat, Int.reduceMul, Int.reduceAdd, Int.reduceSub, Int.reduceBEq, Int.reduceBNe, reduceCtorEq] at hE
       exact ⟨_, _, S1, gw, ⟨by omega, fun i hi h1 _ => hk2 i hi h1⟩, Z3 (by rw [ve, if_pos hlt, ho]) hE.symm ⟨a', gq⟩⟩
     | inr v =>
       obtain ⟨k, ed, v⟩ := v
       simp only [Sw, ho] at hsw
       obtain ⟨gq, gp⟩ := hsw
       obtain ⟨o1, o2⟩ := Y8 ho
       have gal : S1[al]? = some (.cells [QZ L]) := by rw [hk2 al (je hal) (fun e => n1 e.symm)]; exact hal
       have gid : S1[id]? = some (.loop (jcQ f)) := by rw [hk2 id (je hid) (fun e => n2 e.symm)]; exact hid
       obtain ⟨w5, u5, g5⟩ := round (F := F) (k := k) (a := a) (ln := 1 + nl (tx.take a)) (t := (tx.take ed).drop a) (n := v) al id f L (by omega) hf S1 gid gal n3
       have gq2 := get_set (x := .cells [QZ (L ++ [.agg (TC k a (1 + nl (tx.take a)) ((tx.take ed).drop a) v)])]) gq (j := al) (fun e => n1 e.symm)
       obtain ⟨w6, r6, u6, g6⟩ := jbI H.toFSkp hl o2 gq2
       have nb : (!true) = false := rfl
       have nn : isNil 1 (un2 zF) = some true := rfl
       simp only [a0, a1, a3, gq, gp, u5, u6, tk5, nb, nn, jl, jA, Option.toList, jq, nat, ka, jQ, j6, jr, lc0, lc1, jE, jF, jG, jH, kc, ke, jv, jt, jw, zV, zS, jD, jT, jc, jj, jX, jf, jd, jx, jU, ji, jk, jp, jS, jy, ju, Ts.fill, jY, jW, jg, jZ, jo, jm, jh, ja, getAll, stepCall, jn, unI, Opd.get, jC, tag, jz, jb, jR, rv, bin, j5, Nat.reduceAdd, Nat.reduceSub, Nat.reduceMul, Nat.reduceDiv, Nat.reduceMod, Nat.reducePow, Nat.reduceLT, Nat.reduceLeDiff, Nat.reduceEqDiff, Nat.reduceBEq, Nat.reduceBNe, reduceIte, Int.reduceEq, Int.reduceLT, Int.reduceLE, Int.reduceNeg, Int.reduceToNat, Int.reduceMul, Int.reduceAdd, Int.reduceSub, Int.reduceBEq, Int.reduceBNe, reduceCtorEq] at hE
       have hsk := yS false (tx.drop ed)
       rw [List.length_drop] at hsk
       have lal := je gal
       have lq1 := je gq
       have i1 := gs gq2 (y := .cells (LP r6 tx (ed + skN false (tx.drop ed)) zF))
       have i2 := get_set (x := .cells (LP r6 tx (ed + skN false (tx.drop ed)) zF)) (gs gal (y := .cells [QZ (L ++ [.agg (TC k a (1 + nl (tx.take a)) ((tx.take ed).drop a) v)])])) (j := q) n1
       have i3 := get_set (x := .cells (LP r6 tx (ed + skN false (tx.drop ed)) zF)) (get_set (x := .cells [QZ (L ++ [.agg (TC k a (1 + nl (tx.take a)) ((tx.take ed).drop a) v)])]) gid (j := al) n3) (j := q) n2
       obtain ⟨f2, wr2, S2, gw2, hkp, hend⟩ := ih (ed + skN false (tx.drop ed)) r6 _ _ _ _ _ hE (by omega) (by omega) i1 i2 i3 (by simp; omega) (by first | exact a0 | rfl) (by first | exact a1 | rfl) (by simpa using jO g6 (jO g5 gw))
       have hkp0 : Kp q al S ((S1.set al (.cells [QZ (L ++ [.agg (TC k a (1 + nl (tx.take a)) ((tx.take ed).drop a) v)])])).set q (.cells (LP r6 tx (ed + skN false (tx.drop ed)) zF))) :=
         ⟨by simp; omega, fun i hi h1 h2 => by rw [rA (fun e => h1 e.symm), rA (fun e => h2 e.symm)]; exact hk2 i hi h1⟩
       refine ⟨f2, wr2, S2, gw2, hkp0.trans hkp, ?_⟩
       have hx : ve tx (m + 1) a = (⟨k, a, 1 + nl (tx.take a), (tx.take ed).drop a, v⟩ :: (ve tx m (ed + skN false (tx.drop ed))).1, (ve tx m (ed + skN false (tx.drop ed))).2) := by rw [ve, if_pos hlt, ho]
       unfold Q1 at hend ⊢
       rw [hx]
       simp only
       cases h2 : (ve tx m (ed + skN false (tx.drop ed))).2 with
       | none =>
         rw [h2] at hend
         obtain ⟨b1, b2, b3, b4, b5⟩ := hend
         refine ⟨b1, b2, b3, b4, ?_⟩
         rw [b5, rR, List.append_assoc]; rfl
       | some ff =>
         rw [h2] at hend
         exact hend
   . have d1 : decide ((a : Int) < (tx.length : Nat)) = false := rE (by omega)
     have ha' : a = tx.length := by omega
     rw [kb] at hE
     simp only [zQ, hq, e0, e1, d1, jA, Option.toList, jq, nat, ka, jQ, j6, jr, lc0, lc1, jE, jF, jG, jH, kc, ke, jv, jt, jw, zV, zS, jD, jT, jc, jj, jX, jf, jl, jd, jx, jU, ji, jk, jp, jS, jy, ju, Ts.fill, jY, jW, jg, jZ, jo, jm, jh, ja, getAll, stepCall, jn, unI, Opd.get, jC, tag, jz, jb, jR, rv, bin, j5, Nat.reduceAdd, Nat.reduceSub, Nat.reduceMul, Nat.reduceDiv, Nat.reduceMod, Nat.reducePow, Nat.reduceLT, Nat.reduceLeDiff, Nat.reduceEqDiff, Nat.reduceBEq, Nat.reduceBNe, reduceIte, Int.reduceEq, Int.reduceLT, Int.reduceLE, Int.reduceNeg, Int.reduceToNat, Int.reduceMul, Int.reduceAdd, Int.reduceSub, Int.reduceBEq, Int.reduceBNe, reduceCtorEq] at hE
     exact ⟨_, _, S, hw, ⟨rP _, fun _ _ _ _ => rfl⟩, Z2 (ts := []) (by rw [ve, if_neg hlt]) hE.symm (by first | exact e0 | rfl) (by first | exact e1 | rfl) ⟨r, by rw [<- ha']; exact hq⟩ (by rw [List.map_nil, rM]; exact hal)⟩
end
end Go.Idl.Lx
namespace Go.Idl.Lx
open Go Go.Idl Go.Idl.En
variable {F : kt}
structure FLex (F : kt) : Prop extends FMrk F where
 h8 : F 8 = some ir8
 h24 : F 24 = some jdL
 h36 : F 36 = some jeL
def qV (tx : List UInt8) : List Tok × Option (Nat × Nat) := ve tx (tx.length + 1) (skN false tx)
def KG (tx : List UInt8) : Tok := ⟨0, tx.length, 1 + nl tx, [], 0⟩
theorem Jf (tx : List UInt8) : ∀ m a, (ve tx m a).1.length <= m
 | 0, a => rP _
 | m + 1, a => by
   rw [ve]
   split
   . split
     . simp
     . have := Jf tx m; simp; exact this _
   . simp
section
variable {tx : List UInt8} {q al id : Nat}
theorem jbs (r : Bool) (tx : List UInt8) (er : IVal) : LP r tx tx.length er = LC (dn r) 0 (tb r) tx (tx.length : Int) ((1 + nl tx : Nat) : Int) er := by
 show LC _ _ _ _ _ ((1 + nl (tx.take tx.length) : Nat) : Int) _ = _
 rw [List.take_length]
def je2 (tx : List UInt8) (q al : Nat) (L : List IVal) (S1 : List IObj) : Prop := match (qV tx).2 with
 | none => (∃ r1, S1[q]? = some (.cells (LP r1 tx tx.length zF))) /\ S1[al]? = some (.cells [QZ (L ++ ((qV tx).1 ++ [KG tx]).map KA)])
 | some f => ∃ a', S1[q]? = some (.cells (LP true tx a' (flt f)))
set_option maxRecDepth 20000 in
theorem jfA (H : FLex F) (hl : tx.length <= 20000) (f : Nat -> Option (Nat × IVal)) (hf : f 5 = some (5, .ptr al 0)) (n1 : q ≠ al) (n2 : q ≠ id) (n3 : al ≠ id) {r : Bool} {S : List IObj} {C : Option Out} {L : List IVal} (hC : cfw F (.f 36) [.yl id, .pv true [.ptr q 0] 0] S = C) (hq : S[q]? = some (.cells (LP r tx 0 zF))) (hal : S[al]? = some (.cells [QZ L])) (hid : S[id]? = some (.loop (jcQ f))) (hL : L.length <= 10000) :
   ∃ S1 wr, C = some ⟨false, .tup [], S1, wr⟩ /\ Fl wr /\ S1.length = S.length /\ (∀ i, i < S.length -> i ≠ q -> i ≠ al -> S1[i]? = S[i]?) /\ je2 tx q al L S1 := by
 subst hC
 rw [cfw_of jeL H.h36, ju]
 obtain ⟨w1, r1, u1, g1⟩ := jbI H.toFSkp hl (Nat.zero_le _) hq
 rw [tS, List.drop_zero] at u1
 have hsk := yS false tx
 simp only [jeL, hq, u1, jA, Option.toList, jq, nat, ka, jQ, j6, jr, lc0, lc1, jE, jF, jG, jH, kc, ke, jv, jt, jw, zV, zS, jD, jT, jc, jj, jX, jf, jl, jd, jx, jU, ji, jk, jp, jS, jy, ju, Ts.fill, jY, jW, jg, jZ, jo, jm, jh, ja, getAll, stepCall, jn, unI, Opd.get, jC, tag, jz, jb, jR, rv, bin, j5, Nat.reduceAdd, Nat.reduceSub, Nat.reduceMul, Nat.reduceDiv, Nat.reduceMod, Nat.reducePow, Nat.reduceLT, Nat.reduceLeDiff, Nat.reduceEqDiff, Nat.reduceBEq, Nat.reduceBNe, reduceIte, Int.reduceEq, Int.reduceLT, Int.reduceLE, Int.reduceNeg, Int.reduceToNat, Int.reduceMul, Int.reduceAdd, Int.reduceSub, Int.reduceBEq, Int.reduceBNe, reduceCtorEq]
 generalize hE : evw F (ICode.loop zQ) _ = R
 obtain ⟨f1, wr1, S1, gw, hkp, hend⟩ := jd8 H.toFMrk hl f hf n1 n2 n3 (tx.length + 1) (skN false tx) r1 _ _ _ _ L hE (by omega) hsk (gs hq) (get_set hal n1) (get_set hid n2) (by omega) (by rfl) (by rfl) (by simpa using g1)
 have lq := je hq
 have lal := je hal
 have lid := je hid
 have hlen : S.length <= S1.length := by simpa using hkp.1
 have hk : ∀ i, i < S.length -> i ≠ q -> i ≠ al -> S1[i]? = S[i]? := fun i hi h1 h2 => by
   rw [hkp.2 i (by simpa using hi) h1 h2, rA (fun e => h1 e.symm)]
 have tkg : ∀ (T : List IObj) (i : Nat), i < S.length -> (T.take S.length)[i]? = T[i]? := fun T i hi => by rw [tD, if_pos hi]
 unfold Q1 at hend
 simp only [je2, qV]
 cases h2 : (ve tx (tx.length + 1) (skN false tx)).2 with
 | some ff =>
   rw [h2] at hend
   obtain ⟨rfl, a', gq⟩ := hend
   simp only [jV gw, jA, Option.toList, jq, nat, ka, jQ, j6, jr, lc0, lc1, jE, jF, jG, jH, kc, ke, jv, jt, jw, zV, zS, jD, jT, jc, jj, jX, jf, jl, jd, jx, jU, ji, jk, jp, jS, jy, ju, Ts.fill, jY, jW, jg, jZ, jo, jm, jh, ja, getAll, stepCall, jn, unI, Opd.get, jC, tag, jz, jb, jR, rv, bin, j5, Nat.reduceAdd, Nat.reduceSub, Nat.reduceMul, Nat.reduceDiv, Nat.reduceMod, Nat.reducePow, Nat.reduceLT, Nat.reduceLeDiff, Nat.reduceEqDiff, Nat.reduceBEq, Nat.reduceBNe, reduceIte, Int.reduceEq, Int.reduceLT, Int.reduceLE, Int.reduceNeg, Int.reduceToNat, Int.reduceMul, Int.reduceAdd, Int.reduceSub, Int.reduceBEq, Int.reduceBNe, reduceCtorEq]
   refine ⟨_, _, rfl, jN gw, by rw [tE]; omega, fun i hi h1 h2 => by rw [tkg _ i hi]; exact hk i hi h1 h2, a', by rw [tkg _ q lq]; exact gq⟩
 | none =>
   rw [h2] at hend
   obtain ⟨rfl, e0, e1, ⟨r2, gq⟩, gal⟩ := hend
   have gid : S1[id]? = some (.loop (jcQ f)) := by rw [hk id lid (fun e => n2 e.symm) (fun e => n3 e.symm)]; exact hid
   have hlm := Jf tx (tx.length + 1) (skN false tx)
   have tl : tx.take tx.length = tx := List.take_length
   have gq : S1[q]? = some (.cells (LC (dn r2) 0 (tb r2) tx (tx.length : Int) ((1 + nl tx : Nat) : Int) zF)) := by rw [<- jbs]; exact gq
   obtain ⟨w5, u5, g5⟩ := round (F := F) (k := 0) (a := tx.length) (ln := 1 + nl tx) (t := []) (n := 0) al id f (L ++ (ve tx (tx.length + 1) (skN false tx)).1.map KA) (by simp; omega) hf S1 gid gal n3
   have f5 : yW [.int .i64 0, .int .i64 0, .int .i64 0, .str [], .int .i64 0] [(0, 1, I 0), (1, 1, I tx.length), (2, 1, I ((1 + nl tx : Nat) : Int))] = some (TC 0 tx.length (1 + nl tx) [] 0) := rfl
   have tcu : (TC 0 tx.length (1 + nl tx) [] 0).map un1 = TC 0 tx.length (1 + nl tx) [] 0 := rfl
   simp only [jbh, e0, e1, gq, f5, u5, tC, tM, jA, Option.toList, jq, nat, ka, jQ, j6, jr, lc0, lc1, jE, jF, jG, jH, kc, ke, jv, jt, jw, zV, zS, jD, jT, jc, jj, jX, jf, jl, jd, jx, jU, ji, jk, jp, jS, jy, ju, Ts.fill, jY, jW, jg, jZ, jo, jm, jh, ja, getAll, stepCall, jn, unI, Opd.get, jC, tag, jz, jb, jR, rv, bin, j5, Nat.reduceAdd, Nat.reduceSub, Nat.reduceMul, Nat.reduceDiv, Nat.reduceMod, Nat.reducePow, Nat.reduceLT, Nat.reduceLeDiff, Nat.reduceEqDiff, Nat.reduceBEq, Nat.reduceBNe, reduceIte, Int.reduceEq, Int.reduceLT, Int.reduceLE, Int.reduceNeg, Int.reduceToNat, Int.reduceMul, Int.reduceAdd, Int.reduceSub, Int.reduceBEq, Int.reduceBNe, reduceCtorEq]
   rw [jV (jO g5 gw)]
   refine ⟨_, _, rfl, jN (jO g5 gw), ?_, ?_, ⟨r2, ?_⟩, ?_⟩
   . simp; omega
   . intro i hi h1 h2
     rw [tkg _ i hi, rA (fun e => h2 e.symm)]; exact hk i hi h1 h2
   . rw [tkg _ q lq, get_set gq (fun e => n1 e.symm), jbs]
   . rw [tkg _ al lal, List.map_append, rH (je gal)]; rfl
end
end Go.Idl.Lx
namespace Go.Idl.Lx
open Go Go.Idl Go.Idl.En
variable {F : kt}
def unF (f : Nat -> Option (Nat × IVal)) : Nat -> Option (Nat × IVal) := fun k => match f k with | some (i, v) => some (i, un3 v) | none => none
theorem jgb (nv m d : Nat) (ds : List Nat) (f : Nat -> Option (Nat × IVal)) : ({ E nv m d ds f with t := (E nv m d ds f).t.un, ds := [] } : Ts) = E nv m d [] (unF f) := by
 show Ts.mk nv m (Tm.un (Tm.ofF d f)) [] = _
 rw [Tm.un_ofF]; rfl
theorem XA (x : Opd) (ps : List Nat) (a b : ICode) (nv m d : Nat) (f : Nat -> Option (Nat × IVal)) (σ : List IObj) (wr : List (Nat × Bool)) : evw F (.rangeF x ps a b) ⟨E nv m d [] f, σ, wr⟩ = match x.get (E nv m d [] f) with
   | some (.fn (.func g) us ws, _) =>
     match cfw F (.f g) (us ++ [.yl (σ.length + 1)] ++ ws) (σ ++ [.defr, .loop ⟨0, E nv m d [] (unF f), ps, a, b, none, .none⟩]) with
     | some ⟨false, _, σ', wr'⟩ => match σ'[σ.length + 1]? with
       | some (.loop l) => if l.st = 1 then none else
         match l.pend with
         | none => some (.normal, ⟨E nv m d [σ.length] f, σ'.set (σ.length + 1) .dead, (σ.length + 1, false) :: (wr' ++ wr)⟩)
         | some x => if Kl x then some (x, ⟨E nv m d [σ.length] f, σ'.set (σ.length + 1) .dead, (σ.length + 1, false) :: (wr' ++ wr)⟩) else none
       | _ => none
     | _ => none
   | _ => none := by
 rw [vz]
 simp only [evG, jgb]
 rfl
def jal (tx : List UInt8) : List IVal := if 20000 < tx.length then [.sl 5 true [], flt (4, 20000)] else match (qV tx).2 with
 | some f => [.sl 5 true [], flt f]
 | none => [.sl 0 false (((qV tx).1 ++ [KG tx]).map KA), .prim .nilIface]
section
variable {tx : List UInt8} {σ : List IObj}
theorem jcn (d st : Int) (f : Nat -> Nat) (a ln : Int) (er : IVal) (h : er.isCell = true) : (LC d st f tx a ln er).all IVal.isCell = true := by
 unfold LC Xk
 simp only [List.all_cons, List.all_append, List.all_map, List.all_nil, h, isCell_int, isCell_str, Bool.true_and, Bool.and_true, rD]
 intro i _; rfl
set_option maxRecDepth 100000 in
theorem je9 (tx : List UInt8) (zs : List IVal) (hz : zs = LC 0 0 (fun _ => 0) [] 0 0 (.prim .nilIface)) : yW zs [(259, 1, .str tx), (261, 1, I 1)] = some (LP false tx 0 zF) := by
 subst hz
 simp only [yW, cells_str, cells_int, jr, tB, List.length_nil, List.all_cons, List.all_nil, isCell_str, isCell_int, jb, jt, Bool.and_true]
 have : (LC 0 0 (fun _ => 0) [] 0 0 (.prim .nilIface)).set 259 (.str tx) = LC 0 0 (fun _ => 0) tx 0 0 (.prim .nilIface) := V0 0 0 (fun _ => 0) [] 0 0 (.prim .nilIface) 0 (.str tx)
 rw [if_pos (by decide), this, jt]
 simp only [jr, yW]
 rw [if_pos (by decide)]
 rfl
theorem jfz (h : F 24 = some jdL) {q : Nat} : cfw F (.f 24) [.ptr q 0] σ = some ⟨false, .fn (.func 36) [] [.pv true [.ptr q 0] 0], σ, []⟩ := by
 rw [cfw_of jdL h, ju]
 simp only [jdL, ext, jA, Option.toList, jq, nat, ka, jQ, j6, jr, lc0, lc1, jE, jF, jG, jH, kc, ke, jv, jt, jw, zV, zS, jD, jT, jc, jj, jX, jf, jl, jd, jx, jU, ji, jk, jp, jS, jy, ju, Ts.fill, jY, jW, jg, jZ, jo, jm, jh, ja, getAll, stepCall, jn, unI, Opd.get, jC, tag, jz, jb, jR, rv, bin, j5, Nat.reduceAdd, Nat.reduceSub, Nat.reduceMul, Nat.reduceDiv, Nat.reduceMod, Nat.reducePow, Nat.reduceLT, Nat.reduceLeDiff, Nat.reduceEqDiff, Nat.reduceBEq, Nat.reduceBNe, reduceIte, Int.reduceEq, Int.reduceLT, Int.reduceLE, Int.reduceNeg, Int.reduceToNat, Int.reduceMul, Int.reduceAdd, Int.reduceSub, Int.reduceBEq, Int.reduceBNe, reduceCtorEq]
theorem jfc {x y z w : IObj} : (σ ++ [x, y, z, w])[σ.length]? = some x := by rw [get_app0]; rfl
theorem jfd {x y z w : IObj} : (σ ++ [x, y, z, w])[σ.length + 1]? = some y := by rw [get_app]; rfl
theorem jfe {x y z w : IObj} : (σ ++ [x, y, z, w])[σ.length + 2]? = some z := by rw [get_app]; rfl
theorem jdE {x y z w : IObj} : (σ ++ [x, y, z, w])[σ.length + 2 + 1]? = some w := by rw [Nat.add_assoc, get_app]; rfl
set_option maxRecDepth 100000 in
theorem jbM (H : FLex F) : ∃ wr, cfw F (.f 8) [.str tx] σ = some ⟨false, .tup (jal tx), σ, wr⟩ /\ Fl wr := by
 rw [cfw_of ir8 H.h8, ju, jal]
 by_cases hl : 20000 < tx.length
 . have d1 : decide (((tx.length : Nat) : Int) > 20000) = true := rB (by omega)
   have f2 : yW [.int .i64 0, .int .i64 0] [(0, 1, I 4), (1, 1, I 20000)] = some [I 4, I 20000] := rfl
   rw [if_pos hl]
   simp only [ir8, d1, f2, ext, tC, tM, jA, Option.toList, jq, nat, ka, jQ, j6, jr, lc0, lc1, jE, jF, jG, jH, kc, ke, jv, jt, jw, zV, zS, jD, jT, jc, jj, jX, jf, jl, jd, jx, jU, ji, jk, jp, jS, jy, ju, Ts.fill, jY, jW, jg, jZ, jo, jm, jh, ja, getAll, stepCall, jn, unI, Opd.get, jC, tag, jz, jb, jR, rv, bin, j5, Nat.reduceAdd, Nat.reduceSub, Nat.reduceMul, Nat.reduceDiv, Nat.reduceMod, Nat.reducePow, Nat.reduceLT, Nat.reduceLeDiff, Nat.reduceEqDiff, Nat.reduceBEq, Nat.reduceBNe, reduceIte, Int.reduceEq, Int.reduceLT, Int.reduceLE, Int.reduceNeg, Int.reduceToNat, Int.reduceMul, Int.reduceAdd, Int.reduceSub, Int.reduceBEq, Int.reduceBNe, reduceCtorEq]
   exact ⟨_, rfl, rfl⟩
 . have d1 : decide (((tx.length : Nat) : Int) > 20000) = false := rE (by omega)
   rw [if_neg hl]
   simp only [ir8, d1, tC, tM, jA, Option.toList, jq, nat, ka, jQ, j6, jr, lc0, lc1, jE, jF, jG, jH, kc, ke, jv, jt, jw, zV, zS, jD, jT, jc, jj, jX, jf, jl, jd, jx, jU, ji, jk, jp, jS, jy, ju, Ts.fill, jY, jW, jg, jZ, jo, jm, jh, ja, getAll, stepCall, jn, unI, Opd.get, jC, tag, jz, jb, jR, rv, bin, j5, Nat.reduceAdd, Nat.reduceSub, Nat.reduceMul, Nat.reduceDiv, Nat.reduceMod, Nat.reducePow, Nat.reduceLT, Nat.reduceLeDiff, Nat.reduceEqDiff, Nat.reduceBEq, Nat.reduceBNe, reduceIte, Int.reduceEq, Int.reduceLT, Int.reduceLE, Int.reduceNeg, Int.reduceToNat, Int.reduceMul, Int.reduceAdd, Int.reduceSub, Int.reduceBEq, Int.reduceBNe, reduceCtorEq]
   rw [je9 tx]
   rotate_left
   . rfl
   have ca := jcn (tx := tx) (dn false) 0 (tb false) ((0 : Nat) : Int) ((1 + nl (tx.take 0) : Nat) : Int) zF (by rfl)
   have lc1' : (List.map un1 (LP false tx 0 zF)) = LP false tx 0 zF := by
     unfold LP LC Xk; simp only [rR, List.map_append, List.map_map, List.map_nil]; rfl
   have u1 := fun τ => jfz H.h24 (σ := τ) (q := σ.length)
   simp only [ca, lc1', u1, un2_agg, cells_agg, XA, jA, Option.toList, jq, nat, ka, jQ, j6, jr, lc0, lc1, jE, jF, jG, jH, kc, ke, jv, jt, jw, zV, zS, jD, jT, jc, jj, jX, jf, jl, jd, jx, jU, ji, jk, jp, jS, jy, ju, Ts.fill, jY, jW, jg, jZ, jo, jm, jh, ja, getAll, stepCall, jn, unI, Opd.get, jC, tag, jz, jb, jR, rv, bin, j5, Nat.reduceAdd, Nat.reduceSub, Nat.reduceMul, Nat.reduceDiv, Nat.reduceMod, Nat.reducePow, Nat.reduceLT, Nat.reduceLeDiff, Nat.reduceEqDiff, Nat.reduceBEq, Nat.reduceBNe, reduceIte, Int.reduceEq, Int.reduceLT, Int.reduceLE, Int.reduceNeg, Int.reduceToNat, Int.reduceMul, Int.reduceAdd, Int.reduceSub, Int.reduceBEq, Int.reduceBNe, reduceCtorEq]
   generalize hC : cfw F (.f 36) _ _ = C
   obtain ⟨S1, wr, rfl, gw, hlen, hk, ht⟩ := jfA (tx := tx) (al := σ.length + 1) (r := false) (L := []) H (by omega) _ (by rfl) (by omega) (by omega) (by omega) hC jfc jfd jdE (by simp)
   have hl4 : S1.length = σ.length + 4 := by rw [hlen]; simp
   simp only [rF, tB, List.length_nil] at hk
   obtain ⟨l, gl, l0, lp⟩ : ∃ l, S1[σ.length + 2 + 1]? = some (.loop l) /\ l.st = 0 /\ l.pend = none := by
     exact ⟨_, (hk _ (by omega) (by omega) (by omega)).trans jdE, rfl, rfl⟩
   have gd : S1[σ.length + 2]? = some .defr := by rw [hk _ (by omega) (by omega) (by omega)]; exact jfe
   have gd2 := get_set (x := .dead) gd (j := σ.length + 2 + 1) (by omega)
   have tk : ((S1.set (σ.length + 2 + 1) .dead).set (σ.length + 2) .dead).take σ.length = σ := by
     apply List.ext_getElem?
     intro i
     by_cases hi : i < σ.length
     . rw [tD, if_pos hi, rA (by omega), rA (by omega), hk i (by omega) (by omega) (by omega), List.getElem?_append_left hi]
     . rw [rV (by simp; omega), rV (by omega)]
   unfold je2 at ht
   cases h2 : (qV tx).2 with
   | some ff =>
     rw [h2] at ht
     obtain ⟨a', gq⟩ := ht
     have gq2 := get_set (x := .dead) gq (j := σ.length + 2 + 1) (by omega)
     simp only [gl, l0, lp, gq2, gd2, tk, jA, Option.toList, jq, nat, ka, jQ, j6, jr, lc0, lc1, jE, jF, jG, jH, kc, ke, jv, jt, jw, zV, zS, jD, jT, jc, jj, jX, jf, jl, jd, jx, jU, ji, jk, jp, jS, jy, ju, Ts.fill, jY, jW, jg, jZ, jo, jm, jh, ja, getAll, stepCall, jn, unI, Opd.get, jC, tag, jz, jb, jR, rv, bin, j5, Nat.reduceAdd, Nat.reduceSub, Nat.reduceMul, Nat.reduceDiv, Nat.reduceMod, Nat.reducePow, Nat.reduceLT, Nat.reduceLeDiff, Nat.reduceEqDiff, Nat.reduceBEq, Nat.reduceBNe, reduceIte, Int.reduceEq, Int.reduceLT, Int.reduceLE, Int.reduceNeg, Int.reduceToNat, Int.reduceMul, Int.reduceAdd, Int.reduceSub, Int.reduceBEq, Int.reduceBNe, reduceCtorEq]
     rw [jV gw]
     refine ⟨_, rfl, ?_⟩
     repeat (first | exact jN gw | apply VW | apply KJ)
   | none =>
     rw [h2] at ht
     obtain ⟨⟨r1, gq⟩, ga⟩ := ht
     have gq2 := get_set (x := .dead) gq (j := σ.length + 2 + 1) (by omega)
     have ga2 := get_set (x := .dead) ga (j := σ.length + 2 + 1) (by omega)
     have nn : isNil 1 (un2 zF) = some true := rfl
     have lv : QZ ([] ++ ((qV tx).1 ++ [KG tx]).map KA) = .sl 5 false (((qV tx).1 ++ [KG tx]).map KA) := by
       rw [tJ]
       cases (qV tx).1 <;> rfl
     rw [lv] at ga2
     have nr : (((qV tx).1 ++ [KG tx]).map KA).isEmpty = false := by cases (qV tx).1 <;> rfl
     simp only [gl, l0, lp, gq2, ga2, gd2, tk, nn, jA, Option.toList, jq, nat, ka, jQ, j6, jr, lc0, lc1, jE, jF, jG, jH, kc, ke, jv, jt, jw, zV, zS, jD, jT, jc, jj, jX, jf, jl, jd, jx, jU, ji, jk, jp, jS, jy, ju, Ts.fill, jY, jW, jg, jZ, jo, jm, jh, ja, getAll, stepCall, jn, unI, Opd.get, jC, tag, jz, jb, jR, rv, bin, j5, Nat.reduceAdd, Nat.reduceSub, Nat.reduceMul, Nat.reduceDiv, Nat.reduceMod, Nat.reducePow, Nat.reduceLT, Nat.reduceLeDiff, Nat.reduceEqDiff, Nat.reduceBEq, Nat.reduceBNe, reduceIte, Int.reduceEq, Int.reduceLT, Int.reduceLE, Int.reduceNeg, Int.reduceToNat, Int.reduceMul, Int.reduceAdd, Int.reduceSub, Int.reduceBEq, Int.reduceBNe, reduceCtorEq]
     rw [jV gw]
     refine ⟨_, rfl, ?_⟩
     repeat (first | exact jN gw | apply VW | apply KJ)
end
end Go.Idl.Lx
namespace Go.Idl.Lx
open Go Go.Idl Go.Idl.En
variable {F : kt}
structure Bd (n : Nat) (σ S : List IObj) (s : List UInt8) : Prop where
 len : n + 2 <= S.length
 old : ∀ i, i < n -> S[i]? = σ[i]?
 tg : S[n + 1]? = some (.ty 48 2 n)
 bx : ∃ ad bf, S[n]? = some (.cells [ad, bf]) /\ (ad = .prim (.pointer none) \/ ad = .ptr n 0) /\ ((s = [] /\ bf = .sl 1 true []) \/ (s ≠ [] /\ ∃ id, n + 2 <= id /\ bf = .rs 1 id 0 s.length /\ S[id]? = some (.cells (s.map fun c => .int .u8 c.toNat)) /\ S[id + 1]? = some (.ty 5 0 id)))
structure FBld (F : kt) : Prop where
 h20 : F 20 = some jdI
 h21 : F 21 = some jdJ
 h35 : F 35 = some jde
def Ge (n : Nat) (wr : List (Nat × Bool)) : Prop := ∀ p ∈ wr, n <= p.1
theorem jb3 {n : Nat} {wr : List (Nat × Bool)} (h : Ge n wr) : wr.all (fun p => !p.2 || decide (n <= p.1)) = true := by
 rw [rD]; intro p hp; simp [h p hp]
theorem Jz {n : Nat} {wr : List (Nat × Bool)} (h : Ge n wr) (f : Nat × Bool -> Bool) : Ge n (wr.filter f) := fun p hp => h p (List.mem_filter.mp hp).1
theorem jb2 {n : Nat} {wr : List (Nat × Bool)} (h : Ge n wr) : wr.filter (fun p => decide (p.1 < n)) = [] := by
 rw [List.filter_eq_nil_iff]; intro p hp; have := h p hp; simp; omega
theorem Va {n q : Nat} {b : Bool} {a : List (Nat × Bool)} (h : n <= q) (h2 : Ge n a) : Ge n ((q, b) :: a) := fun p hp => by
 rcases List.mem_cons.1 hp with rfl | hp
 . exact h
 . exact h2 p hp
theorem YA {n : Nat} {c : Prop} [Decidable c] {a b : List (Nat × Bool)} (h : Ge n a) (h2 : Ge n b) : Ge n (if c then a else b) := by split <;> assumption
theorem toB (s : List UInt8) : vx (s.map fun c => IVal.int .u8 c.toNat) = some s := by
 induction s with
 | nil => rfl
 | cons c s ih => simp only [rR, vx, ih]; congr 1; simp
section
variable {n : Nat} {σ S : List IObj} {s : List UInt8}
set_option maxRecDepth 20000 in
theorem je5 (h : F 35 = some jde) {ad bf : IVal} (hb : S[n]? = some (.cells [ad, bf])) (hg : S[n + 1]? = some (.ty 48 2 n)) (ha : ad = .prim (.pointer none) \/ ad = .ptr n 0) :
   ∃ wr, cfw F (.f 35) [.ptr n 0] S = some ⟨false, .tup [], S.set n (.cells [.ptr n 0, bf]), wr⟩ /\ Ge n wr := by
 rw [cfw_of jde h, ju]
 have lb := je hb
 rcases ha with rfl | rfl
 . have tk : (S.set n (.cells [.ptr n 0, bf])).take S.length = S.set n (.cells [.ptr n 0, bf]) := take_set
   have x1 : nr1 (.ptr n 0) = false := rfl
   have hn : ¬ S.length <= n := by omega
   have tf : (true != false) = true := rfl
   have n20 : (2 : Nat) ≠ 0 := by decide
   simp only [jde, hb, hg, tk, x1, tf, ne_eq, n20, hn, jA, Option.toList, jq, nat, ka, jQ, j6, jr, lc0, lc1, jE, jF, jG, jH, kc, ke, jv, jt, jw, zV, zS, jD, jT, jc, jj, jX, jf, jl, jd, jx, jU, ji, jk, jp, jS, jy, ju, Ts.fill, jY, jW, jg, jZ, jo, jm, jh, ja, getAll, stepCall, jn, unI, Opd.get, jC, tag, jz, jb, jR, rv, bin, j5, Nat.reduceAdd, Nat.reduceSub, Nat.reduceMul, Nat.reduceDiv, Nat.reduceMod, Nat.reducePow, Nat.reduceLT, Nat.reduceLeDiff, Nat.reduceEqDiff, Nat.reduceBEq, Nat.reduceBNe, reduceIte, Int.reduceEq, Int.reduceLT, Int.reduceLE, Int.reduceNeg, Int.reduceToNat, Int.reduceMul, Int.reduceAdd, Int.reduceSub, Int.reduceBEq, Int.reduceBNe, reduceCtorEq]
   refine ⟨_, rfl, ?_⟩
   intro p hp
   split at hp
   . simp at hp; subst hp; exact rP _
   . simp at hp
 . simp only [jde, hb, jA, Option.toList, jq, nat, ka, jQ, j6, jr, lc0, lc1, jE, jF, jG, jH, kc, ke, jv, jt, jw, zV, zS, jD, jT, jc, jj, jX, jf, jl, jd, jx, jU, ji, jk, jp, jS, jy, ju, Ts.fill, jY, jW, jg, jZ, jo, jm, jh, ja, getAll, stepCall, jn, unI, Opd.get, jC, tag, jz, jb, jR, rv, bin, j5, Nat.reduceAdd, Nat.reduceSub, Nat.reduceMul, Nat.reduceDiv, Nat.reduceMod, Nat.reducePow, Nat.reduceLT, Nat.reduceLeDiff, Nat.reduceEqDiff, Nat.reduceBEq, Nat.reduceBNe, reduceIte, Int.reduceEq, Int.reduceLT, Int.reduceLE, Int.reduceNeg, Int.reduceToNat, Int.reduceMul, Int.reduceAdd, Int.reduceSub, Int.reduceBEq, Int.reduceBNe, reduceCtorEq]
   rw [vp hb]
   exact ⟨_, rfl, by intro p hp; simp at hp⟩
set_option maxRecDepth 20000 in
theorem jda (H : FBld F) {t : List UInt8} (ht : t ≠ []) (hl : s.length <= 1000000) (htl : t.length <= 1000000) (hB : Bd n σ S s) :
   ∃ S1 wr, cfw F (.f 20) [.ptr n 0, .str t] S = some ⟨false, .tup [I t.length, .prim .nilIface], S1, wr⟩ /\ Ge n wr /\ Bd n σ S1 (s ++ t) := by
 rw [cfw_of jdI H.h20, ju]
 obtain ⟨ad, bf, hb, had, hbf⟩ := hB.bx
 obtain ⟨w1, u1, g1⟩ := je5 H.h35 hb hB.tg had
 have lb := je hb
 have hlen := hB.len
 have gb := gs hb (y := .cells [.ptr n 0, bf])
 have t0 : t.length ≠ 0 := fun e => ht (List.length_eq_zero_iff.1 e)
 have tl : t.length <= 1099511627776 := by omega
 have hne : s ++ t ≠ [] := by simp [ht]
 rcases hbf with ⟨rfl, rfl⟩ | ⟨hs, id, hid, rfl, hc, htg⟩
 . have s2 : ∀ (x y : IObj) (l : List IObj), (S.set n x ++ l).set n y = S.set n y ++ l := fun x y l => by rw [vX (by simpa using lb), r7]
   have g2 : ∀ (x : IObj) (l : List IObj), (S.set n x ++ l)[n]? = some x := fun x l => by rw [List.getElem?_append_left (by simpa using lb), rH lb]
   have x1 : nr1 (.rs 1 S.length 0 t.length) = false := rfl
   have hn : ¬ S.length <= n := by omega
   have dn : decide (S.length <= n) = false := rE hn
   simp only [jdI, u1, gb, t0, tl, s2, g2, x1, dn, List.length_set, jA, Option.toList, jq, nat, ka, jQ, j6, jr, lc0, lc1, jE, jF, jG, jH, kc, ke, jv, jt, jw, zV, zS, jD, jT, jc, jj, jX, jf, jl, jd, jx, jU, ji, jk, jp, jS, jy, ju, Ts.fill, jY, jW, jg, jZ, jo, jm, jh, ja, getAll, stepCall, jn, unI, Opd.get, jC, tag, jz, jb, jR, rv, bin, j5, Nat.reduceAdd, Nat.reduceSub, Nat.reduceMul, Nat.reduceDiv, Nat.reduceMod, Nat.reducePow, Nat.reduceLT, Nat.reduceLeDiff, Nat.reduceEqDiff, Nat.reduceBEq, Nat.reduceBNe, reduceIte, Int.reduceEq, Int.reduceLT, Int.reduceLE, Int.reduceNeg, Int.reduceToNat, Int.reduceMul, Int.reduceAdd, Int.reduceSub, Int.reduceBEq, Int.reduceBNe, reduceCtorEq]
   refine ⟨_, _, rfl, ?_, ?_, ?_, ?_, ?_⟩
   . repeat (first | exact Jz g1 _ | apply YA | apply Va (by omega))
   . simp; omega
   . intro i hi
     rw [List.getElem?_append_left (by simp; omega), rA (by omega)]; exact hB.old i hi
   . rw [List.getElem?_append_left (by simp; omega), rA (by omega)]; exact hB.tg
   . refine ⟨_, _, g2 _ _, Or.inr rfl, Or.inr ⟨hne, S.length, hlen, rfl, ?_, ?_⟩⟩
     . rw [rS (by simp)]; simp
     . rw [rS (by simp)]; simp
 . have hid2 : id ≠ n := by omega
   have hid3 : id + 1 ≠ n := by omega
   have lid := je hc
   have lid1 := je htg
   have c1 := get_set (x := .cells [.ptr n 0, .rs 1 id 0 s.length]) hc (j := n) (by omega)
   have c2 := get_set (x := .cells [.ptr n 0, .rs 1 id 0 s.length]) htg (j := n) (by omega)
   have s2 : ∀ (x y z : IObj) (l : List IObj), ((S.set n x).set id z ++ l).set n y = (S.set n y).set id z ++ l := fun x y z l => by rw [vX (by simpa using lb), List.set_comm _ _ hid2, r7]
   have g2 : ∀ (x z : IObj) (l : List IObj), ((S.set n x).set id z ++ l)[n]? = some x := fun x z l => by rw [List.getElem?_append_left (by simpa using lb), rA hid2, rH lb]
   have x1 : nr1 (.rs 1 S.length 0 (s.length + t.length)) = false := rfl
   have dn : decide (S.length <= n) = false := rE (by omega)
   have l1 : s.length + t.length <= 1099511627776 := by omega
   have tk : (s.map fun c => IVal.int .u8 c.toNat).take s.length = s.map fun c => IVal.int .u8 c.toNat := rU (by simp)
   simp only [jdI, u1, gb, c1, c2, t0, tl, l1, tk, s2, g2, x1, dn, List.length_set, jA, Option.toList, jq, nat, ka, jQ, j6, jr, lc0, lc1, jE, jF, jG, jH, kc, ke, jv, jt, jw, zV, zS, jD, jT, jc, jj, jX, jf, jl, jd, jx, jU, ji, jk, jp, jS, jy, ju, Ts.fill, jY, jW, jg, jZ, jo, jm, jh, ja, getAll, stepCall, jn, unI, Opd.get, jC, tag, jz, jb, jR, rv, bin, j5, Nat.reduceAdd, Nat.reduceSub, Nat.reduceMul, Nat.reduceDiv, Nat.reduceMod, Nat.reducePow, Nat.reduceLT, Nat.reduceLeDiff, Nat.reduceEqDiff, Nat.reduceBEq, Nat.reduceBNe, reduceIte, Int.reduceEq, Int.reduceLT, Int.reduceLE, Int.reduceNeg, Int.reduceToNat, Int.reduceMul, Int.reduceAdd, Int.reduceSub, Int.reduceBEq, Int.reduceBNe, reduceCtorEq]
   refine ⟨_, _, rfl, ?_, ?_, ?_, ?_, ?_⟩
   . repeat (first | exact Jz g1 _ | apply YA | apply Va (by omega))
   . simp; omega
   . intro i hi
     rw [List.getElem?_append_left (by simp; omega), rA (by omega), rA (by omega)]; exact hB.old i hi
   . rw [List.getElem?_append_left (by simp; omega), rA (by omega), rA (by omega)]; exact hB.tg
   . refine ⟨_, _, g2 _ _ _, Or.inr rfl, Or.inr ⟨hne, S.length, hlen, by rw [rF], ?_, ?_⟩⟩
     . rw [rS (by simp)]; simp
     . rw [rS (by simp)]; simp
end
end Go.Idl.Lx
namespace Go.Idl.Lx
open Go Go.Idl Go.Idl.En
variable {F : kt}
section
variable {n : Nat} {σ S : List IObj} {s : List UInt8}
set_option maxRecDepth 20000 in
theorem ja4 (H : FBld F) (hl : s.length <= 1000000) (hB : Bd n σ S s) :
   ∃ S1 wr, cfw F (.f 21) [.ptr n 0] S = some ⟨false, .str s, S1, wr⟩ /\ Ge n wr /\ S1.length = S.length /\ ∀ i, i < n -> S1[i]? = σ[i]? := by
 rw [cfw_of jdJ H.h21, ju]
 obtain ⟨ad, bf, hb, had, hbf⟩ := hB.bx
 have lb := je hb
 have dq : decide (n < S.length) = true := rB lb
 rcases hbf with ⟨rfl, rfl⟩ | ⟨hs, id, hid, rfl, hc, htg⟩
 . simp only [jdJ, hb, dq, jA, Option.toList, jq, nat, ka, jQ, j6, jr, lc0, lc1, jE, jF, jG, jH, kc, ke, jv, jt, jw, zV, zS, jD, jT, jc, jj, jX, jf, jl, jd, jx, jU, ji, jk, jp, jS, jy, ju, Ts.fill, jY, jW, jg, jZ, jo, jm, jh, ja, getAll, stepCall, jn, unI, Opd.get, jC, tag, jz, jb, jR, rv, bin, j5, Nat.reduceAdd, Nat.reduceSub, Nat.reduceMul, Nat.reduceDiv, Nat.reduceMod, Nat.reducePow, Nat.reduceLT, Nat.reduceLeDiff, Nat.reduceEqDiff, Nat.reduceBEq, Nat.reduceBNe, reduceIte, Int.reduceEq, Int.reduceLT, Int.reduceLE, Int.reduceNeg, Int.reduceToNat, Int.reduceMul, Int.reduceAdd, Int.reduceSub, Int.reduceBEq, Int.reduceBNe, reduceCtorEq]
   exact ⟨_, _, rfl, by intro p hp; simp at hp, rfl, hB.old⟩
 . have s0 : s.length ≠ 0 := fun e => hs (List.length_eq_zero_iff.1 e)
   have s1 : 0 < s.length := by omega
   have s2 : (0 : Int) < (s.length : Int) := by omega
   have s3 : (s.length : Int) <= 1099511627776 := by omega
   have tk : (s.map fun c => IVal.int .u8 c.toNat).take s.length = s.map fun c => IVal.int .u8 c.toNat := rU (by simp)
   simp only [jdJ, hb, hc, htg, s0, s1, s2, s3, tk, toB, dq, rI, take_set, jA, Option.toList, jq, nat, ka, jQ, j6, jr, lc0, lc1, jE, jF, jG, jH, kc, ke, jv, jt, jw, zV, zS, jD, jT, jc, jj, jX, jf, jl, jd, jx, jU, ji, jk, jp, jS, jy, ju, Ts.fill, jY, jW, jg, jZ, jo, jm, jh, ja, getAll, stepCall, jn, unI, Opd.get, jC, tag, jz, jb, jR, rv, bin, j5, Nat.reduceAdd, Nat.reduceSub, Nat.reduceMul, Nat.reduceDiv, Nat.reduceMod, Nat.reducePow, Nat.reduceLT, Nat.reduceLeDiff, Nat.reduceEqDiff, Nat.reduceBEq, Nat.reduceBNe, reduceIte, Int.reduceEq, Int.reduceLT, Int.reduceLE, Int.reduceNeg, Int.reduceToNat, Int.reduceMul, Int.reduceAdd, Int.reduceSub, Int.reduceBEq, Int.reduceBNe, reduceCtorEq]
   refine ⟨_, _, rfl, ?_, by simp, ?_⟩
   . have g1 : Ge n [] := by intro p hp; simp at hp
     repeat (first | exact Jz g1 _ | exact g1 | apply YA | apply Va (by omega))
   . intro i hi
     rw [rA (by omega)]; exact hB.old i hi
def pcs : List (List UInt8) := [[120], [119, 104, 105, 108, 101], [95, 97, 57], [119, 49, 54], [48], [49, 50], [48, 120], [48, 120, 49, 102], [52, 50, 57, 52, 57, 54, 55, 50, 57, 53], [52, 50, 57, 52, 57, 54, 55, 50, 57, 54], [97, 98, 99, 100, 101, 102, 103, 104, 105, 106, 107, 108, 109, 110, 111, 112], [60], [60, 60], [62], [61], [61, 61], [33], [33, 61], [47], [47, 47], [123], [125], [40], [41], [91], [93], [59], [58], [44], [46], [43], [45], [42], [37], [38], [94], [124], [126], [32], [32], [9], [10], [36], [0], [255], [48, 88, 49], [57, 122], [47, 47, 32, 101, 110, 100, 10]]
set_option maxRecDepth 100000 in
theorem jaB (h : F 25 = some jdM) : cfw F (.f 25) [] σ = some ⟨false, .sl 1 false (pcs.map .str), σ, []⟩ := by
 rw [cfw_of jdM h, ju]
 simp only [jdM, ext, jA, Option.toList, jq, nat, ka, jQ, j6, jr, lc0, lc1, jE, jF, jG, jH, kc, ke, jv, jt, jw, zV, zS, jD, jT, jc, jj, jX, jf, jl, jd, jx, jU, ji, jk, jp, jS, jy, ju, Ts.fill, jY, jW, jg, jZ, jo, jm, jh, ja, getAll, stepCall, jn, unI, Opd.get, jC, tag, jz, jb, jR, rv, bin, j5, Nat.reduceAdd, Nat.reduceSub, Nat.reduceMul, Nat.reduceDiv, Nat.reduceMod, Nat.reducePow, Nat.reduceLT, Nat.reduceLeDiff, Nat.reduceEqDiff, Nat.reduceBEq, Nat.reduceBNe, reduceIte, Int.reduceEq, Int.reduceLT, Int.reduceLE, Int.reduceNeg, Int.reduceToNat, Int.reduceMul, Int.reduceAdd, Int.reduceSub, Int.reduceBEq, Int.reduceBNe, reduceCtorEq]
 rfl
def pc (b : Nat) : List UInt8 := (pcs[b % 48]?).getD []
theorem jbD (b : Nat) : pcs[b % 48]? = some (pc b) := by
 have h : b % 48 < pcs.length := Nat.mod_lt _ (by decide)
 rw [pc, rG h]; rfl
theorem jes : ∀ p ∈ pcs, p ≠ [] /\ p.length <= 16 := by decide
theorem jer (b : Nat) : pc b ≠ [] /\ (pc b).length <= 16 := jes _ (List.mem_of_getElem? (jbD b))
def mdS (l : List Nat) : List UInt8 := (l.take 120).flatMap pc
theorem jao (l : List Nat) : (mdS l).length <= 1920 := by
 have : ∀ (l : List Nat), (l.flatMap pc).length <= l.length * 16 := by
   intro l
   induction l with
   | nil => simp
   | cons b l ih => rw [rO, rF, tB]; have := (jer b).2; omega
 have h := this (l.take 120)
 have h2 : (l.take 120).length <= 120 := by rw [tE]; omega
 rw [mdS]; omega
structure FMade (F : kt) : Prop extends FBld F where
 h9 : F 9 = some ir9
 h25 : F 25 = some jdM
set_option maxRecDepth 20000 in
theorem jfo (H : FMade F) {l : List Nat} {o : Nat} {r : Bool} (hb : ∀ b ∈ l, b < 256) : ∀ (m i : Nat) (f0 : Nat -> Option (Nat × IVal)) (S : List IObj) (wr : List (Nat × Bool)) (R : Option (IExit × St)), evw F (.loop yO) ⟨E 6 12 5 [] f0, S, wr⟩ = R -> i <= 120 -> 120 - i <= m -> i <= l.length -> Bd n σ S ((l.take i).flatMap pc) -> f0 0 = some (0, .sl o r (l.map B)) -> f0 3 = some (3, .ptr n 0) -> f0 4 = some (4, .sl 1 false (pcs.map .str)) -> f0 5 = some (5, I i) -> Ge n wr ->
   ∃ f1 S1 wr1, R = some (.exit 0, ⟨E 6 12 5 [] (base f1), S1, wr1⟩) /\ Ge n wr1 /\ Bd n σ S1 (mdS l) /\ f1 3 = some (3, .ptr n 0) := by
 intro m
 induction m with
 | zero =>
   intro i f0 S wr R hE hi hm hil hB e0 e3 e4 e5 hw
   have hi : i = 120 := by omega
   subst hi
   have d2 : decide ((120 : Int) < 120) = false := rfl
   change evw F (.loop yO) ⟨E 6 12 5 [] (base f0), S, wr⟩ = R at hE
   rw [kb] at hE
   cases d1 : decide ((120 : Int) < ((l.length : Nat) : Int)) with
   | true =>
     simp only [yO, e0, e3, e4, e5, d1, d2, jl, jA, Option.toList, jq, nat, ka, jQ, j6, jr, lc0, lc1, jE, jF, jG, jH, kc, ke, jv, jt, jw, zV, zS, jD, jT, jc, jj, jX, jf, jd, jx, jU, ji, jk, jp, jS, jy, ju, Ts.fill, jY, jW, jg, jZ, jo, jm, jh, ja, getAll, stepCall, jn, unI, Opd.get, jC, tag, jz, jb, jR, rv, bin, j5, Nat.reduceAdd, Nat.reduceSub, Nat.reduceMul, Nat.reduceDiv, Nat.reduceMod, Nat.reducePow, Nat.reduceLT, Nat.reduceLeDiff, Nat.reduceEqDiff, Nat.reduceBEq, Nat.reduceBNe, reduceIte, Int.reduceEq, Int.reduceLT, Int.reduceLE, Int.reduceNeg, Int.reduceToNat, Int.reduceMul, Int.reduceAdd, Int.reduceSub, Int.reduceBEq, Int.reduceBNe, reduceCtorEq] at hE
     exact ⟨_, _, _, hE.symm, hw, hB, (by first | exact e3 | rfl)⟩
   | false =>
     simp only [yO, e0, e3, e4, e5, d1, d2, jl, jA, Option.toList, jq, nat, ka, jQ, j6, jr, lc0, lc1, jE, jF, jG, jH, kc, ke, jv, jt, jw, zV, zS, jD, jT, jc, jj, jX, jf, jd, jx, jU, ji, jk, jp, jS, jy, ju, Ts.fill, jY, jW, jg, jZ, jo, jm, jh, ja, getAll, stepCall, jn, unI, Opd.get, jC, tag, jz, jb, jR, rv, bin, j5, Nat.reduceAdd, Nat.reduceSub, Nat.reduceMul, Nat.reduceDiv, Nat.reduceMod, Nat.reducePow, Nat.reduceLT, Nat.reduceLeDiff, Nat.reduceEqDiff, Nat.reduceBEq, Nat.reduceBNe, reduceIte, Int.reduceEq, Int.reduceLT, Int.reduceLE, Int.reduceNeg, Int.reduceToNat, Int.reduceMul, Int.reduceAdd, Int.reduceSub, Int.reduceBEq, Int.reduceBNe, reduceCtorEq] at hE
     exact ⟨_, _, _, hE.symm, hw, hB, (by first | exact e3 | rfl)⟩
 | succ m ih =>
   intro i f0 S wr R hE hi hm hil hB e0 e3 e4 e5 hw
   change evw F (.loop yO) ⟨E 6 12 5 [] (base f0), S, wr⟩ = R at hE
   rw [kb] at hE
   by_cases hlt : i < l.length
   . have d1 : decide ((i : Int) < ((l.length : Nat) : Int)) = true := rB (by omega)
     by_cases h120 : i < 120
     . have d2 : decide ((i : Int) < 120) = true := rB (by omega)
       have d3 : (0 : Int) <= (i : Int) := by omega
       obtain ⟨b, hg⟩ := vm hlt
       have hb2 := hb b (List.mem_of_getElem? hg)
       have w1 := KM (n := i) (by omega)
       have w2 : IntKind.i64.wrap (b : Int) = (b : Int) := qx (by omega) (by omega)
       have pl : pcs.length = 48 := rfl
       have w3 : (b : Int).tmod 48 = ((b % 48 : Nat) : Int) := rfl
       have d4 : (0 : Int) <= ((b % 48 : Nat) : Int) := by omega
       have hpg := jbD b
       obtain ⟨hp0, hp1⟩ := jer b
       have hsl : ((l.take i).flatMap pc).length <= 2000 := by
         have := jao (l.take i)
         rw [mdS, List.take_take, Nat.min_eq_right (by omega)] at this; omega
       obtain ⟨S1, w5, u5, g5, hB1⟩ := jda H.toFBld (t := pc b) hp0 (by omega) (by omega) hB
       have pl2 : ((48 : Nat) : Int) = 48 := rfl
       have n48 : ¬ (48 : Int) = 0 := by decide
       simp only [yO, e0, e3, e4, e5, d1, d2, d3, d4, hg, w1, w2, w3, pl, pl2, n48, hpg, u5, rI, jl, jA, Option.toList, jq, nat, ka, jQ, j6, jr, lc0, lc1, jE, jF, jG, jH, kc, ke, jv, jt, jw, zV, zS, jD, jT, jc, jj, jX, jf, jd, jx, jU, ji, jk, jp, jS, jy, ju, Ts.fill, jY, jW, jg, jZ, jo, jm, jh, ja, getAll, stepCall, jn, unI, Opd.get, jC, tag, jz, jb, jR, rv, bin, j5, Nat.reduceAdd, Nat.reduceSub, Nat.reduceMul, Nat.reduceDiv, Nat.reduceMod, Nat.reducePow, Nat.reduceLT, Nat.reduceLeDiff, Nat.reduceEqDiff, Nat.reduceBEq, Nat.reduceBNe, reduceIte, Int.reduceEq, Int.reduceLT, Int.reduceLE, Int.reduceNeg, Int.reduceToNat, Int.reduceMul, Int.reduceAdd, Int.reduceSub, Int.reduceBEq, Int.reduceBNe, reduceCtorEq] at hE
       have ht : (l.take (i + 1)).flatMap pc = (l.take i).flatMap pc ++ pc b := by
         rw [List.take_add_one, hg]; simp
       exact ih (i + 1) _ _ _ _ hE (by omega) (by omega) (by omega) (by rw [ht]; exact hB1) (by first | exact e0 | rfl) (by first | exact e3 | rfl) (by first | exact e4 | rfl) (by rfl) (by intro p hp; rcases List.mem_append.1 hp with h | h; exact g5 p h; exact hw p h)
     . have hi : i = 120 := by omega
       subst hi
       have d1 : decide ((120 : Int) < ((l.length : Nat) : Int)) = true := d1
       have d2 : decide ((120 : Int) < 120) = false := rfl
       simp only [yO, e0, e3, e4, e5, d1, d2, jl, jA, Option.toList, jq, nat, ka, jQ, j6, jr, lc0, lc1, jE, jF, jG, jH, kc, ke, jv, jt, jw, zV, zS, jD, jT, jc, jj, jX, jf, jd, jx, jU, ji, jk, jp, jS, jy, ju, Ts.fill, jY, jW, jg, jZ, jo, jm, jh, ja, getAll, stepCall, jn, unI, Opd.get, jC, tag, jz, jb, jR, rv, bin, j5, Nat.reduceAdd, Nat.reduceSub, Nat.reduceMul, Nat.reduceDiv, Nat.reduceMod, Nat.reducePow, Nat.reduceLT, Nat.reduceLeDiff, Nat.reduceEqDiff, Nat.reduceBEq, Nat.reduceBNe, reduceIte, Int.reduceEq, Int.reduceLT, Int.reduceLE, Int.reduceNeg, Int.reduceToNat, Int.reduceMul, Int.reduceAdd, Int.reduceSub, Int.reduceBEq, Int.reduceBNe, reduceCtorEq] at hE
       exact ⟨_, _, _, hE.symm, hw, hB, (by first | exact e3 | rfl)⟩
   . have d1 : decide ((i : Int) < ((l.length : Nat) : Int)) = false := rE (by omega)
     simp only [yO, e0, e3, e4, e5, d1, jl, jA, Option.toList, jq, nat, ka, jQ, j6, jr, lc0, lc1, jE, jF, jG, jH, kc, ke, jv, jt, jw, zV, zS, jD, jT, jc, jj, jX, jf, jd, jx, jU, ji, jk, jp, jS, jy, ju, Ts.fill, jY, jW, jg, jZ, jo, jm, jh, ja, getAll, stepCall, jn, unI, Opd.get, jC, tag, jz, jb, jR, rv, bin, j5, Nat.reduceAdd, Nat.reduceSub, Nat.reduceMul, Nat.reduceDiv, Nat.reduceMod, Nat.reducePow, Nat.reduceLT, Nat.reduceLeDiff, Nat.reduceEqDiff, Nat.reduceBEq, Nat.reduceBNe, reduceIte, Int.reduceEq, Int.reduceLT, Int.reduceLE, Int.reduceNeg, Int.reduceToNat, Int.reduceMul, Int.reduceAdd, Int.reduceSub, Int.reduceBEq, Int.reduceBNe, reduceCtorEq] at hE
     have : l.take 120 = l.take i := by rw [rU (by omega), rU (by omega)]
     exact ⟨_, _, _, hE.symm, hw, by rw [mdS, this]; exact hB, (by first | exact e3 | rfl)⟩
set_option maxRecDepth 20000 in
theorem jee (H : FMade F) {l : List Nat} {o : Nat} {r : Bool} (hb : ∀ b ∈ l, b < 256) (σ : List IObj) :
   cfw F (.f 9) [.sl o r (l.map B)] σ = some ⟨false, .str (mdS l), σ, []⟩ := by
 rw [cfw_of ir9 H.h9, ju]
 have u := fun σ => jaB H.h25 (σ := σ)
 simp only [ir9, u, jA, Option.toList, jq, nat, ka, jQ, j6, jr, lc0, lc1, jE, jF, jG, jH, kc, ke, jv, jt, jw, zV, zS, jD, jT, jc, jj, jX, jf, jl, jd, jx, jU, ji, jk, jp, jS, jy, ju, Ts.fill, jY, jW, jg, jZ, jo, jm, jh, ja, getAll, stepCall, jn, unI, Opd.get, jC, tag, jz, jb, jR, rv, bin, j5, Nat.reduceAdd, Nat.reduceSub, Nat.reduceMul, Nat.reduceDiv, Nat.reduceMod, Nat.reducePow, Nat.reduceLT, Nat.reduceLeDiff, Nat.reduceEqDiff, Nat.reduceBEq, Nat.reduceBNe, reduceIte, Int.reduceEq, Int.reduceLT, Int.reduceLE, Int.reduceNeg, Int.reduceToNat, Int.reduceMul, Int.reduceAdd, Int.reduceSub, Int.reduceBEq, Int.reduceBNe, reduceCtorEq]
 generalize hE : evw F (ICode.loop yO) _ = R
 obtain ⟨f1, S1, wr1, rfl, gw, hB, e3⟩ := jfo (n := σ.length) (σ := σ) H hb 120 0 _ _ _ _ hE (by omega) (by omega) (by omega) ⟨by simp, fun i hi => by rw [List.getElem?_append_left hi], by rw [get_app]; rfl, _, _, by rw [get_app0]; rfl, Or.inl rfl, Or.inl ⟨rfl, rfl⟩⟩ (by rfl) (by rfl) (by rfl) (by rfl) (by intro p hp; simp at hp)
 obtain ⟨S2, w2, u2, g2, hlen, hold⟩ := ja4 H.toFBld (by have := jao l; omega) hB
 have gg : Ge σ.length (w2 ++ wr1) := fun p hp => by rcases List.mem_append.1 hp with h | h; exact g2 p h; exact gw p h
 have tk : S2.take σ.length = σ := by
   apply List.ext_getElem?
   intro i
   by_cases hi : i < σ.length
   . rw [tD, if_pos hi]; exact hold i hi
   . rw [rV (by rw [tE]; omega), rV (by omega)]
 simp only [e3, u2, jA, Option.toList, jq, nat, ka, jQ, j6, jr, lc0, lc1, jE, jF, jG, jH, kc, ke, jv, jt, jw, zV, zS, jD, jT, jc, jj, jX, jf, jl, jd, jx, jU, ji, jk, jp, jS, jy, ju, Ts.fill, jY, jW, jg, jZ, jo, jm, jh, ja, getAll, stepCall, jn, unI, Opd.get, jC, tag, jz, jb, jR, rv, bin, j5, Nat.reduceAdd, Nat.reduceSub, Nat.reduceMul, Nat.reduceDiv, Nat.reduceMod, Nat.reducePow, Nat.reduceLT, Nat.reduceLeDiff, Nat.reduceEqDiff, Nat.reduceBEq, Nat.reduceBNe, reduceIte, Int.reduceEq, Int.reduceLT, Int.reduceLE, Int.reduceNeg, Int.reduceToNat, Int.reduceMul, Int.reduceAdd, Int.reduceSub, Int.reduceBEq, Int.reduceBNe, reduceCtorEq]
 rw [jb3 gg, jb2 gg, tk]
 rfl
end
end Go.Idl.Lx
namespace Go.Idl.Lx
open Go Go.Idl Go.Idl.En
variable {F : kt}
theorem X6 (h : F 153 = some Qn) {c a : Int} {σ : List IObj} : cfw F (.f 153) [.pv false [I c, I a] 0] σ = some ⟨false, .iface 35 (I c), σ, []⟩ := by
 rw [cfw_of Qn h, ju]
 have n3 : nr3 (.iface 35 (I c)) = true := rfl
 simp only [Qn, jA, n3, zV, zS, jD, jT, jc, jj, jX, jf, jl, jd, jx, jU, ji, jk, jp, jS, jy, ju, Ts.fill, jY, jW, jg, jZ, jo, jm, jh, ja, getAll, stepCall, jn, unI, Opd.get, jC, tag, jz, jb, jR, rv, bin, j5, Nat.reduceAdd, Nat.reduceSub, Nat.reduceMul, Nat.reduceDiv, Nat.reduceMod, Nat.reducePow, Nat.reduceLT, Nat.reduceLeDiff, Nat.reduceEqDiff, Nat.reduceBEq, Nat.reduceBNe, reduceIte, Int.reduceEq, Int.reduceLT, Int.reduceLE, Int.reduceNeg, Int.reduceToNat, Int.reduceMul, Int.reduceAdd, Int.reduceSub, Int.reduceBEq, Int.reduceBNe, reduceCtorEq]
set_option maxRecDepth 20000 in
theorem jfT (h : F 47 = some jbi) {c a : Int} {g : Nat} {x : IVal} {σ : List IObj} (hg : σ[g]? = some (.cells [.prim (.pointer none)])) (hx : nt x = true) :
   ∃ wr, cfw F (.f 47) [.iface 56 (.pv false [I c, I a] 0), x, .agg [VY 10 80, .pv true [.ptr g 0] 0, .int .u64 150], rtI 125 10 56] σ = some ⟨false, .bool true, σ.set g (.cells [.pv false [I c, I a] 0]), wr⟩ /\ Fl wr := by
 rw [cfw_of jbi h, ju]
 have lg := je hg
 simp only [jbi, jA, hg, hx, VY, rtI, zV, zS, jD, jT, jc, jj, jX, jf, jl, jd, jx, jU, ji, jk, jp, jS, jy, ju, Ts.fill, jY, jW, jg, jZ, jo, jm, jh, ja, getAll, stepCall, jn, unI, Opd.get, jC, tag, jz, jb, jR, rv, bin, j5, Nat.reduceAdd, Nat.reduceSub, Nat.reduceMul, Nat.reduceDiv, Nat.reduceMod, Nat.reducePow, Nat.reduceLT, Nat.reduceLeDiff, Nat.reduceEqDiff, Nat.reduceBEq, Nat.reduceBNe, reduceIte, Int.reduceEq, Int.reduceLT, Int.reduceLE, Int.reduceNeg, Int.reduceToNat, Int.reduceMul, Int.reduceAdd, Int.reduceSub, Int.reduceBEq, Int.reduceBNe, reduceCtorEq]
 rw [kb]
 simp only [YG, jA, hg, hx, j6, K4, VY, rtI, J5, List.find?, List.contains_cons, r5, tR, zV, zS, jD, jT, jc, jj, jX, jf, jl, jd, jx, jU, ji, jk, jp, jS, jy, ju, Ts.fill, jY, jW, jg, jZ, jo, jm, jh, ja, getAll, stepCall, jn, unI, Opd.get, jC, tag, jz, jb, jR, rv, bin, j5, Nat.reduceAdd, Nat.reduceSub, Nat.reduceMul, Nat.reduceDiv, Nat.reduceMod, Nat.reducePow, Nat.reduceLT, Nat.reduceLeDiff, Nat.reduceEqDiff, Nat.reduceBEq, Nat.reduceBNe, reduceIte, Int.reduceEq, Int.reduceLT, Int.reduceLE, Int.reduceNeg, Int.reduceToNat, Int.reduceMul, Int.reduceAdd, Int.reduceSub, Int.reduceBEq, Int.reduceBNe, reduceCtorEq]
 have np : nr1 (.pv false [I c, I a] 0) = true := rfl
 rw [np, take_set]
 exact ⟨_, rfl, by cases decide (g < σ.length) <;> rfl⟩
set_option maxRecDepth 20000 in
theorem jeZ (h : F 27 = some jb8) (h47 : F 47 = some jbi) {c a : Int} {g : Nat} {σ : List IObj} (hg : σ[g]? = some (.cells [.prim (.pointer none)])) :
   ∃ wr, cfw F (.f 27) [.iface 56 (.pv false [I c, I a] 0), .iface 80 (.ptr g 0)] σ = some ⟨false, .bool true, σ.set g (.cells [.pv false [I c, I a] 0]), wr⟩ /\ Fl wr := by
 rw [cfw_of jb8 h, ju]
 obtain ⟨wr, u, gw⟩ := jfT h47 (c := c) (a := a) (x := .iface 80 (.ptr g 0)) (yX hg [.cells [VY 10 80, .pv true [.ptr g 0] 0, .int .u64 150]]) rfl
 simp only [VY, rtI] at u
 have b1 : ((22 : Int) != 20) = true := rfl
 have x1 : ext [.ptr g 0] = true := rfl
 have x2 : nr1 (.pv true [.ptr g 0] 0) = false := rfl
 simp only [jb8, jA, hg, u, b1, x1, x2, j6, K4, VY, rtI, J5, List.find?, List.contains_cons, r5, tR, zV, zS, jD, jT, jc, jj, jX, jf, jl, jd, jx, jU, ji, jk, jp, jS, jy, ju, Ts.fill, jY, jW, jg, jZ, jo, jm, jh, ja, getAll, stepCall, jn, unI, Opd.get, jC, tag, jz, jb, jR, rv, bin, j5, Nat.reduceAdd, Nat.reduceSub, Nat.reduceMul, Nat.reduceDiv, Nat.reduceMod, Nat.reducePow, Nat.reduceLT, Nat.reduceLeDiff, Nat.reduceEqDiff, Nat.reduceBEq, Nat.reduceBNe, reduceIte, Int.reduceEq, Int.reduceLT, Int.reduceLE, Int.reduceNeg, Int.reduceToNat, Int.reduceMul, Int.reduceAdd, Int.reduceSub, Int.reduceBEq, Int.reduceBNe, reduceCtorEq]
 have fa : (wr ++ [(σ.length, true)]).all (fun p => !p.2 || decide (σ.length <= p.1)) = true := by rw [List.all_append, jV gw]; simp
 have tk : ∀ l, List.take σ.length (σ.set g (.cells [.pv false [I c, I a] 0]) ++ l) = σ.set g (.cells [.pv false [I c, I a] 0]) := fun l => by have := take_app (σ := σ.set g (.cells [.pv false [I c, I a] 0])) (l := l); rw [List.length_set] at this; exact this
 rw [fa, vX (je hg), tk]
 refine ⟨_, rfl, ?_⟩
 rw [List.filter_append, List.filter_cons_of_neg (by simp), List.filter_nil, rM]
 exact jN gw
set_option maxRecDepth 20000 in
theorem jf4 (h : F 49 = some jca) (h153 : F 153 = some Qn) {c a : Int} {σ : List IObj} (hc : c ≠ 0) :
   cfw F (.f 49) [.iface 56 (.pv false [I c, I a] 0), .iface 35 (I c), .bool true] σ = some ⟨false, .bool true, σ, []⟩ := by
 rw [cfw_of jca h, ju]
 have u := X6 h153 (c := c) (a := a) (σ := σ)
 simp only [jca, jA, zV, zS, jD, jT, jc, jj, jX, jf, jl, jd, jx, jU, ji, jk, jp, jS, jy, ju, Ts.fill, jY, jW, jg, jZ, jo, jm, jh, ja, getAll, stepCall, jn, unI, Opd.get, jC, tag, jz, jb, jR, rv, bin, j5, Nat.reduceAdd, Nat.reduceSub, Nat.reduceMul, Nat.reduceDiv, Nat.reduceMod, Nat.reducePow, Nat.reduceLT, Nat.reduceLeDiff, Nat.reduceEqDiff, Nat.reduceBEq, Nat.reduceBNe, reduceIte, Int.reduceEq, Int.reduceLT, Int.reduceLE, Int.reduceNeg, Int.reduceToNat, Int.reduceMul, Int.reduceAdd, Int.reduceSub, Int.reduceBEq, Int.reduceBNe, reduceCtorEq]
 rw [kb]
 have np : nt (.iface 35 (I c)) = true := rfl
 simp only [YH, jA, u, np, KB, zF, List.contains_nil, j6, K4, VY, rtI, J5, List.find?, List.contains_cons, r5, tR, zV, zS, jD, jT, jc, jj, jX, jf, jl, jd, jx, jU, ji, jk, jp, jS, jy, ju, Ts.fill, jY, jW, jg, jZ, jo, jm, jh, ja, getAll, stepCall, jn, unI, Opd.get, jC, tag, jz, jb, jR, rv, bin, j5, Nat.reduceAdd, Nat.reduceSub, Nat.reduceMul, Nat.reduceDiv, Nat.reduceMod, Nat.reducePow, Nat.reduceLT, Nat.reduceLeDiff, Nat.reduceEqDiff, Nat.reduceBEq, Nat.reduceBNe, reduceIte, Int.reduceEq, Int.reduceLT, Int.reduceLE, Int.reduceNeg, Int.reduceToNat, Int.reduceMul, Int.reduceAdd, Int.reduceSub, Int.reduceBEq, Int.reduceBNe, reduceCtorEq]
 rw [kb]
 have eI : ∀ n : Int, qh (.int .i64 n) (.int .i64 n) = some true := fun n => by simp [qh]
 have kI : ∀ n : Int, z5 0 (.int .i64 n) = true := fun n => rfl
 have tf : (true != false) = true := rfl
 simp only [jA, u, np, eI, kI, tf, j6, List.find?, zV, zS, jD, jT, jc, jj, jX, jf, jl, jd, jx, jU, ji, jk, jp, jS, jy, ju, Ts.fill, jY, jW, jg, jZ, jo, jm, jh, ja, getAll, stepCall, jn, unI, Opd.get, jC, tag, jz, jb, jR, rv, bin, j5, Nat.reduceAdd, Nat.reduceSub, Nat.reduceMul, Nat.reduceDiv, Nat.reduceMod, Nat.reducePow, Nat.reduceLT, Nat.reduceLeDiff, Nat.reduceEqDiff, Nat.reduceBEq, Nat.reduceBNe, reduceIte, Int.reduceEq, Int.reduceLT, Int.reduceLE, Int.reduceNeg, Int.reduceToNat, Int.reduceMul, Int.reduceAdd, Int.reduceSub, Int.reduceBEq, Int.reduceBNe, reduceCtorEq]
set_option maxRecDepth 20000 in
theorem jfR (h : F 28 = some jdd) (h49 : F 49 = some jca) (h153 : F 153 = some Qn) {c a : Int} {σ : List IObj} (hc : c ≠ 0) :
   cfw F (.f 28) [.iface 56 (.pv false [I c, I a] 0), .iface 35 (I c)] σ = some ⟨false, .bool true, σ, []⟩ := by
 rw [cfw_of jdd h, ju]
 have u := jf4 h49 h153 (c := c) (a := a) (σ := σ) hc
 simp only [jdd, jA, u, j6, K4, VY, rtI, J5, List.find?, List.contains_cons, r5, tR, zV, zS, jD, jT, jc, jj, jX, jf, jl, jd, jx, jU, ji, jk, jp, jS, jy, ju, Ts.fill, jY, jW, jg, jZ, jo, jm, jh, ja, getAll, stepCall, jn, unI, Opd.get, jC, tag, jz, jb, jR, rv, bin, j5, Nat.reduceAdd, Nat.reduceSub, Nat.reduceMul, Nat.reduceDiv, Nat.reduceMod, Nat.reducePow, Nat.reduceLT, Nat.reduceLeDiff, Nat.reduceEqDiff, Nat.reduceBEq, Nat.reduceBNe, reduceIte, Int.reduceEq, Int.reduceLT, Int.reduceLE, Int.reduceNeg, Int.reduceToNat, Int.reduceMul, Int.reduceAdd, Int.reduceSub, Int.reduceBEq, Int.reduceBNe, reduceCtorEq]
set_option maxRecDepth 20000 in
theorem jeD (h : F 13 = some jdG) (h27 : F 27 = some jb8) (h28 : F 28 = some jdd) (h47 : F 47 = some jbi) (h49 : F 49 = some jca) (h153 : F 153 = some Qn) {f : Nat × Nat} (hc : f.1 ≠ 0) {σ : List IObj} :
   ∃ wr, cfw F (.f 13) [flt f, .agg [I f.1, I f.2]] σ = some ⟨false, .bool true, σ, wr⟩ /\ Fl wr := by
 rw [cfw_of jdG h, ju]
 obtain ⟨c, a⟩ := f
 have hc' : (c : Int) ≠ 0 := by omega
 have b0 : ((c : Int) == 0) = false := by simpa using hc'
 have ga : (σ ++ [IObj.cells [.prim (.pointer none)]])[σ.length]? = some (.cells [.prim (.pointer none)]) := by rw [get_app0]; rfl
 obtain ⟨wr, u, gw⟩ := jeZ h27 h47 (c := c) (a := a) ga
 have sa : (σ ++ [IObj.cells [.prim (.pointer none)]]).set σ.length (.cells [.pv false [I c, I a] 0]) = σ ++ [.cells [.pv false [I c, I a] 0]] := by rw [set_app0]; rfl
 rw [sa] at u
 have u2 := fun τ => jfR h28 h49 h153 (c := c) (a := a) (σ := τ) hc'
 have eI : ∀ n : Int, qh (.int .i64 n) (.int .i64 n) = some true := fun n => by simp [qh]
 have kI : ∀ n : Int, z5 0 (.int .i64 n) = true := fun n => rfl
 have tf : (true != false) = true := rfl
 simp only [jdG, jA, b0, u, u2, eI, kI, tf, eqK, tR, r5, zV, zS, jD, jT, jc, jj, jX, jf, jl, jd, jx, jU, ji, jk, jp, jS, jy, ju, Ts.fill, jY, jW, jg, jZ, jo, jm, jh, ja, getAll, stepCall, jn, unI, Opd.get, jC, tag, jz, jb, jR, rv, bin, j5, Nat.reduceAdd, Nat.reduceSub, Nat.reduceMul, Nat.reduceDiv, Nat.reduceMod, Nat.reducePow, Nat.reduceLT, Nat.reduceLeDiff, Nat.reduceEqDiff, Nat.reduceBEq, Nat.reduceBNe, reduceIte, Int.reduceEq, Int.reduceLT, Int.reduceLE, Int.reduceNeg, Int.reduceToNat, Int.reduceMul, Int.reduceAdd, Int.reduceSub, Int.reduceBEq, Int.reduceBNe, reduceCtorEq]
 rw [jV gw]
 exact ⟨_, rfl, jN gw⟩
end Go.Idl.Lx
namespace Go.Idl.Lx
open Go Go.Idl Go.Idl.En
def Nd (s : List UInt8) : Prop := s = [] \/ s.getLast? = some 10
theorem Nd.tail {c : UInt8} {s : List UInt8} (h : Nd (c :: s)) : Nd s := by
 cases s with
 | nil => exact Or.inl rfl
 | cons d s =>
   rcases h with h | h
   . cases h
   . exact Or.inr (by simpa using h)
theorem Nd.one {c : UInt8} (h : Nd [c]) : c = 10 := by
 rcases h with h | h
 . cases h
 . simpa using h
theorem Nd.drop {s : List UInt8} (h : Nd s) : ∀ n, Nd (s.drop n)
 | 0 => h
 | n + 1 => by
   cases s with
   | nil => exact Or.inl rfl
   | cons c s => exact Nd.drop h.tail n
theorem jfw : isS 1 (10 : UInt8).toNat = true := jck 10 (by omega)
theorem jfx : isS 6 (10 : UInt8).toNat = false := by have := jd2 10 (by omega); rw [jfj 10 (by omega), jfk 10 (by omega)] at this; exact this
theorem jf8 : ∀ ba : Int, oth ba (10 : UInt8).toNat = true := fun ba => by
 have : cr hexs (10 : UInt8).toNat = false := by decide +kernel
 rw [oth, this]; simp
theorem yo {x y : UInt8} (hx : x ≠ 10) {s b : List UInt8} (h : Nd s) (h0 : s ≠ []) : [x, y].isPrefixOf (s ++ b) = [x, y].isPrefixOf s := by
 cases s with
 | nil => exact absurd rfl h0
 | cons c s =>
   cases s with
   | nil =>
     have := h.one; subst this
     have hb : (x == 10) = false := by simpa using hx
     simp [List.isPrefixOf, hb]
   | cons d s => simp [List.isPrefixOf]
theorem Zw {b : List UInt8} : ∀ s : List UInt8, Nd s -> (skN false (s ++ b) = if skN false s = s.length then s.length + skN false b else skN false s) /\ (s ≠ [] -> skN true (s ++ b) = if skN true s = s.length then s.length + skN false b else skN true s)
 | [], _ => ⟨by simp [skN], fun h => absurd rfl h⟩
 | c :: s, h => by
   obtain ⟨i1, i2⟩ := Zw (b := b) s h.tail
   have hs : c ≠ 10 -> s ≠ [] := fun hc e => by subst e; exact hc h.one
   have arith : ∀ x y : Nat, x = (if y = s.length then s.length + skN false b else y) -> 1 + x = if 1 + y = s.length + 1 then s.length + 1 + skN false b else 1 + y := by
     intro x y hx
     rw [hx]
     by_cases e : y = s.length
     . rw [if_pos e, if_pos (by omega)]; omega
     . rw [if_neg e, if_neg (by omega)]
   refine ⟨?_, fun _ => ?_⟩
   . rw [tI, skN, skN, tB]
     cases h1 : isS 1 c.toNat with
     | true => simp only [if_true]; exact arith _ _ i1
     | false =>
       have hc : c ≠ 10 := by intro e; subst e; rw [jfw] at h1; cases h1
       have hp := yo (x := 47) (y := 47) (by decide) (b := b) h (by simp)
       rw [tI] at hp
       rw [hp]
       cases hq : [47, 47].isPrefixOf (c :: s) with
       | true => simp only [r8, if_false, if_true]; exact arith _ _ (i2 (hs hc))
       | false => simp only [r8, if_false]; rw [if_neg (by omega)]
   . rw [tI, skN, skN, tB]
     by_cases hc : c.toNat = 10
     . rw [if_pos hc, if_pos hc]; exact arith _ _ i1
     . rw [if_neg hc, if_neg hc]
       exact arith _ _ (i2 (hs (fun e => hc (by rw [e]; rfl))))
theorem Zx {b : List UInt8} : ∀ s : List UInt8, Nd s -> s ≠ [] -> spn 6 (s ++ b) = spn 6 s
 | [], _, h0 => absurd rfl h0
 | c :: s, h, _ => by
   rw [tI, zy, zy]
   cases h6 : isS 6 c.toNat with
   | false => rfl
   | true =>
     have hs : s ≠ [] := fun e => by subst e; have := h.one; subst this; rw [jfx] at h6; cases h6
     rw [Zx s h.tail hs]
theorem Yl {ba : Int} {b : List UInt8} : ∀ s : List UInt8, Nd s -> s ≠ [] -> dgs ba (s ++ b) = dgs ba s /\ dgs ba s < s.length
 | [], _, h0 => absurd rfl h0
 | c :: s, h, _ => by
   rw [tI, ze, ze, tB]
   cases h6 : oth ba c.toNat with
   | true => exact ⟨rfl, by simp⟩
   | false =>
     have hs : s ≠ [] := fun e => by subst e; have := h.one; subst this; rw [jf8] at h6; cases h6
     obtain ⟨i1, i2⟩ := Yl (ba := ba) (b := b) s h.tail hs
     rw [i1]; exact ⟨rfl, by simp; omega⟩
theorem jcv {s b : List UInt8} (h : Nd s) (h0 : s ≠ []) : mkN (s ++ b) = mkN s := by
 have : dbls.any (fun m => m.isPrefixOf (s ++ b)) = dbls.any (fun m => m.isPrefixOf s) := by
   simp only [dbls, List.any_cons, List.any_nil]
   rw [yo (by decide) h h0, yo (by decide) h h0, yo (by decide) h h0, yo (by decide) h h0, yo (by decide) h h0, yo (by decide) h h0]
 rw [mkN, mkN, this]
theorem V5 {A b : List UInt8} {a ba hd : Nat} (h : Nd A) (ha : a + hd < A.length) : Qu (A ++ b) a ba hd = Qu A a ba hd := by
 have hd1 : (A ++ b).drop (a + hd) = A.drop (a + hd) ++ b := by rw [List.drop_append, show a + hd - A.length = 0 by omega, List.drop_zero]
 have hne : A.drop (a + hd) ≠ [] := fun e => by have := List.length_drop (l := A) (i := a + hd); rw [e] at this; simp at this; omega
 obtain ⟨g1, g2⟩ := Yl (ba := (ba : Int)) (b := b) _ (h.drop (a + hd)) hne
 rw [List.length_drop] at g2
 have ht : (A.drop (a + hd) ++ b).take (dgs ba (A.drop (a + hd))) = (A.drop (a + hd)).take (dgs ba (A.drop (a + hd))) := by
   rw [List.take_append, show dgs ba (A.drop (a + hd)) - (A.drop (a + hd)).length = 0 by rw [List.length_drop]; omega, List.take_zero, rM]
 have hg : (A ++ b)[a + hd + dgs ba (A.drop (a + hd))]? = A[a + hd + dgs ba (A.drop (a + hd))]? := List.getElem?_append_left (by omega)
 unfold Qu
 simp only [hd1, g1, ht, hg]
theorem jcC {A b : List UInt8} {a : Nat} (h : Nd A) (ha : a < A.length) : JX (A ++ b) a = JX A a := by
 have hd1 : (A ++ b).drop a = A.drop a ++ b := by rw [List.drop_append, show a - A.length = 0 by omega, List.drop_zero]
 have hne : A.drop a ≠ [] := fun e => by have := List.length_drop (l := A) (i := a); rw [e] at this; simp at this; omega
 have hg : (A ++ b)[a]? = A[a]? := List.getElem?_append_left ha
 have hn : (∀ c, A[a]? = some c -> isS 4 c.toNat = true -> Vn (A ++ b) a = Vn A a) := by
   intro c hc h4
   have hd0 := qQ hc
   unfold Vn
   rw [hd1, yo (by decide) (h.drop a) hne]
   cases hx : [48, 120].isPrefixOf (A.drop a) with
   | true =>
     simp only [if_true]
     have : 2 < (A.drop a).length := by
       have h2 := Vt hx
       rcases Nat.lt_or_ge 2 (A.drop a).length with h3 | h3
       . exact h3
       . exfalso
         have hl : (A.drop a).length = 2 := by omega
         match hm : A.drop a, hl with
         | [x, y], _ =>
           have hn := h.drop a
           rw [hm] at hn hx
           have hy := hn.tail.one
           subst hy
           simp [List.isPrefixOf] at hx
     rw [List.length_drop] at this
     exact V5 h (by omega)
   | false =>
     simp only [r8, if_false]
     exact V5 h (by omega)
 unfold JX
 rw [hg]
 cases hc : A[a]? with
 | none => rfl
 | some c =>
   simp only
   rw [hd1, Zx _ (h.drop a) hne, jcv (h.drop a) hne]
   cases h2 : isS 2 c.toNat with
   | true => rfl
   | false =>
     cases h4 : isS 4 c.toNat with
     | true => simp only [r8, if_false, if_true, hn c hc h4]
     | false => rfl
end Go.Idl.Lx
namespace Go.Idl.Lx
open Go Go.Idl Go.Idl.En
def mv (n k : Nat) (t : Tok) : Tok := ⟨t.k, t.a + n, t.ln + k, t.t, t.n⟩
theorem jcx (A b : List UInt8) (j : Nat) : nl ((A ++ b).take (A.length + j)) = nl A + nl (b.take j) := by
 rw [List.take_append, rU (by omega), show A.length + j - A.length = j by omega, V3]
theorem Jt (A b : List UInt8) (j : Nat) : (A ++ b).drop (A.length + j) = b.drop j := by
 rw [List.drop_append, tN (by omega), show A.length + j - A.length = j by omega, tJ]
theorem jbe (A b : List UInt8) (j : Nat) : (A ++ b)[A.length + j]? = b[j]? := by
 rw [rS (by omega)]; congr 1; omega
theorem Y5 (A b : List UInt8) (a ba hd : Nat) : Qu (A ++ b) (A.length + a) ba hd = match Qu b a ba hd with
   | .inl (c, p) => .inl (c, A.length + p)
   | .inr (ed, v) => .inr (A.length + ed, v) := by
 have e1 : (A ++ b).drop (A.length + a + hd) = b.drop (a + hd) := by rw [Nat.add_assoc, Jt]
 have e2 : ∀ d, (A ++ b)[A.length + a + hd + d]? = b[a + hd + d]? := fun d => by rw [show A.length + a + hd + d = A.length + (a + hd + d) by omega, jbe]
 have e3 : ∀ d, A.length + a + hd + d = A.length + (a + hd + d) := fun d => by omega
 unfold Qu
 simp only [e1, e2]
 split
 . simp only [e3]
 . cases pz ba 0 ((b.drop (a + hd)).take (dgs ba (b.drop (a + hd)))) with
   | none => rfl
   | some v =>
     simp only
     split
     . rfl
     . cases b[a + hd + dgs ba (b.drop (a + hd))]? with
       | none => simp only [e3]
       | some c =>
         simp only
         split <;> simp only [e3]
theorem jem (A b : List UInt8) (a : Nat) : JX (A ++ b) (A.length + a) = match JX b a with
   | .inl (c, p) => .inl (c, A.length + p)
   | .inr (k, ed, v) => .inr (k, A.length + ed, v) := by
 have hn : Vn (A ++ b) (A.length + a) = match Vn b a with
   | .inl (c, p) => .inl (c, A.length + p)
   | .inr (ed, v) => .inr (A.length + ed, v) := by
   unfold Vn
   rw [Jt]
   split
   . exact Y5 A b a 16 2
   . exact Y5 A b a 10 0
 unfold JX
 rw [jbe, Jt]
 cases b[a]? with
 | none => rfl
 | some c =>
   simp only
   split
   . split
     . rfl
     . simp only [Nat.add_assoc]
   . split
     . rw [hn]
       cases Vn b a with
       | inl f => rfl
       | inr v => rfl
     . split
       . simp only [Nat.add_assoc]
       . rfl
theorem JD (tx : List UInt8) : ∀ (m m' a : Nat), tx.length - a < m -> tx.length - a < m' -> ve tx m a = ve tx m' a
 | 0, _, _, h, _ => by omega
 | _, 0, _, _, h => by omega
 | m + 1, m' + 1, a, h, h' => by
   rw [ve, ve]
   by_cases ha : a < tx.length
   . rw [if_pos ha, if_pos ha]
     cases ho : JX tx a with
     | inl f => rfl
     | inr v =>
       obtain ⟨k, ed, v⟩ := v
       have := Y8 ho
       have hs := yS false (tx.drop ed)
       rw [List.length_drop] at hs
       simp only
       rw [JD tx m m' (ed + skN false (tx.drop ed)) (by omega) (by omega)]
   . rw [if_neg ha, if_neg ha]
theorem YO (A b : List UInt8) : ∀ m a, ve (A ++ b) m (A.length + a) = ((ve b m a).1.map (mv A.length (nl A)), (ve b m a).2.map fun f => (f.1, A.length + f.2))
 | 0, a => rfl
 | m + 1, a => by
   rw [ve, ve]
   by_cases ha : a < b.length
   . rw [if_pos ha, if_pos (by rw [rF]; omega), jem]
     cases ho : JX b a with
     | inl f => rfl
     | inr v =>
       obtain ⟨k, ed, v⟩ := v
       have ih := YO A b m (ed + skN false (b.drop ed))
       simp only
       rw [Jt, Nat.add_assoc, ih, jcx]
       have ht : ((A ++ b).take (A.length + ed)).drop (A.length + a) = (b.take ed).drop a := by
         rw [List.take_append, rU (by omega), show A.length + ed - A.length = ed by omega, Jt]
       rw [ht]
       simp only [rR, mv]
       congr 3
       . omega
       . omega
   . rw [if_neg ha, if_neg (by rw [rF]; omega)]; rfl
def pst (A b : List UInt8) (p : Nat) : Nat := if p = A.length then A.length + skN false b else p
theorem jbE {A b : List UInt8} (h : Nd A) {p : Nat} (hp : p <= A.length) : p + skN false ((A ++ b).drop p) = pst A b (p + skN false (A.drop p)) := by
 have hd1 : (A ++ b).drop p = A.drop p ++ b := by rw [List.drop_append, show p - A.length = 0 by omega, List.drop_zero]
 have := (Zw (b := b) _ (h.drop p)).1
 rw [hd1, this, List.length_drop, pst]
 have hs := yS false (A.drop p)
 rw [List.length_drop] at hs
 by_cases e : skN false (A.drop p) = A.length - p
 . rw [if_pos e, if_pos (by omega)]; omega
 . rw [if_neg e, if_neg (by omega)]
theorem XF {A b : List UInt8} (h : Nd A) (MB : Nat) (hM : (A ++ b).length < MB) : ∀ m p, A.length - p < m -> p <= A.length -> ∀ m', (A ++ b).length - p < m' -> match (ve A m p).2 with
   | some f => (ve (A ++ b) m' (pst A b p)).2 = some f
   | none => ve (A ++ b) m' (pst A b p) = ((ve A m p).1 ++ (ve b MB (skN false b)).1.map (mv A.length (nl A)), (ve b MB (skN false b)).2.map fun f => (f.1, A.length + f.2)) := by
 intro m
 induction m with
 | zero => intro p hm; omega
 | succ m ih =>
   intro p hm hp m' hm'
   by_cases ha : p < A.length
   . cases m' with
     | zero => omega
     | succ m' =>
       have hp0 : pst A b p = p := by rw [pst, if_neg (by omega)]
       rw [hp0, ve, ve, if_pos ha, if_pos (by rw [rF]; omega), jcC h ha]
       cases ho : JX A p with
       | inl f => rfl
       | inr v =>
         obtain ⟨k, ed, v⟩ := v
         obtain ⟨h1, h2⟩ := Y8 ho
         have hs := yS false (A.drop ed)
         rw [List.length_drop] at hs
         have IH := ih (ed + skN false (A.drop ed)) (by omega) (by omega) m' (by rw [rF] at *; omega)
         have hT1 : (A ++ b).take p = A.take p := by rw [List.take_append, show p - A.length = 0 by omega, List.take_zero, rM]
         have hT2 : (A ++ b).take ed = A.take ed := by rw [List.take_append, show ed - A.length = 0 by omega, List.take_zero, rM]
         simp only
         rw [jbE h h2, hT1, hT2]
         cases hr : (ve A m (ed + skN false (A.drop ed))).2 with
         | some f => rw [hr] at IH; exact IH
         | none =>
           rw [hr] at IH
           simp only at IH ⊢
           rw [IH]; rfl
   . have hp1 : p = A.length := by omega
     subst hp1
     rw [pst, if_pos rfl, ve, if_neg ha]
     simp only
     rw [YO, JD b m' MB _ (by rw [rF] at hm'; omega) (by rw [rF] at hM; omega)]
     simp
theorem YN {A b : List UInt8} (h : Nd A) : match (qV A).2 with
   | some f => (qV (A ++ b)).2 = some f
   | none => qV (A ++ b) = ((qV A).1 ++ (qV b).1.map (mv A.length (nl A)), (qV b).2.map fun f => (f.1, A.length + f.2)) := by
 have hs := yS false A
 have H := XF (b := b) h ((A ++ b).length + 1) (by omega) (A.length + 1) (skN false A) (by omega) hs ((A ++ b).length + 1) (by omega)
 have e0 : skN false (A ++ b) = pst A b (skN false A) := by
   have := jbE (b := b) h (Nat.zero_le A.length)
   simpa using this
 have e1 : qV (A ++ b) = ve (A ++ b) ((A ++ b).length + 1) (pst A b (skN false A)) := by rw [qV, e0]
 have e2 : qV b = ve b ((A ++ b).length + 1) (skN false b) := by
   rw [qV]
   exact JD b _ _ _ (by omega) (by rw [rF]; omega)
 rw [e1, e2]
 exact H
theorem jdy (A b : List UInt8) : KG (A ++ b) = mv A.length (nl A) (KG b) := by
 simp only [KG, mv, rF, V3]
 congr 1 <;> omega
end Go.Idl.Lx
namespace Go.Idl.Lx
open Go Go.Idl Go.Idl.En
variable {F : kt}
structure FWk (F : kt) : Prop extends FLex F where
 h7 : F 7 = some ir7
 h13 : F 13 = some jdG
 h22 : F 22 = some jdK
 h23 : F 23 = some jeK
 h27 : F 27 = some jb8
 h28 : F 28 = some jdd
 h47 : F 47 = some jbi
 h49 : F 49 = some jca
 h153 : F 153 = some Qn
section
variable {σ : List IObj}
set_option maxRecDepth 20000 in
theorem jd7 {T : List Tok} {ws : List (List UInt8)} {o1 o2 : Nat} {r1 r2 : Bool} (hw : ws = T.map (·.t)) (hl : T.length <= 1000) : ∀ (m i : Nat) (f0 : Nat -> Option (Nat × IVal)) (R : Option (IExit × St)), evw F (.loop yY) ⟨E 6 10 5 [] f0, σ, []⟩ = R -> i + m = T.length -> f0 0 = some (0, .sl o1 r1 (T.map KA)) -> f0 1 = some (1, .sl o2 r2 (ws.map .str)) -> f0 5 = some (5, I i) ->
   ∃ f1, R = some (.exit 0, ⟨E 6 10 5 [] (base f1), σ, []⟩) := by
 intro m
 induction m with
 | zero =>
   intro i f0 R hE hm e0 e1 e5
   have d1 : decide ((i : Int) < (T.length : Nat)) = false := rE (by omega)
   change evw F (.loop yY) ⟨E 6 10 5 [] (base f0), σ, []⟩ = R at hE
   rw [kb] at hE
   simp only [yY, e0, e1, e5, d1, jl, jA, Option.toList, jq, nat, ka, jQ, j6, jr, lc0, lc1, jE, jF, jG, jH, kc, ke, jv, jt, jw, zV, zS, jD, jT, jc, jj, jX, jf, jd, jx, jU, ji, jk, jp, jS, jy, ju, Ts.fill, jY, jW, jg, jZ, jo, jm, jh, ja, getAll, stepCall, jn, unI, Opd.get, jC, tag, jz, jb, jR, rv, bin, j5, Nat.reduceAdd, Nat.reduceSub, Nat.reduceMul, Nat.reduceDiv, Nat.reduceMod, Nat.reducePow, Nat.reduceLT, Nat.reduceLeDiff, Nat.reduceEqDiff, Nat.reduceBEq, Nat.reduceBNe, reduceIte, Int.reduceEq, Int.reduceLT, Int.reduceLE, Int.reduceNeg, Int.reduceToNat, Int.reduceMul, Int.reduceAdd, Int.reduceSub, Int.reduceBEq, Int.reduceBNe, reduceCtorEq] at hE
   exact ⟨_, hE.symm⟩
 | succ m ih =>
   intro i f0 R hE hm e0 e1 e5
   obtain ⟨t, hg⟩ := vm (l := T) (i := i) (by omega)
   have hg2 : ws[i]? = some t.t := by rw [hw, rJ, hg]; rfl
   have d1 : decide ((i : Int) < (T.length : Nat)) = true := rB (by omega)
   have d2 : (0 : Int) <= (i : Int) := by omega
   have w1 := KM (n := i) (by omega)
   have tc : (KA t).cells = TC t.k t.a t.ln t.t t.n := rfl
   have nb : (!true) = false := rfl
   change evw F (.loop yY) ⟨E 6 10 5 [] (base f0), σ, []⟩ = R at hE
   rw [kb] at hE
   simp only [yY, e0, e1, e5, d1, d2, hg, hg2, tc, w1, nb, rI, jl, jA, Option.toList, jq, nat, ka, jQ, j6, jr, lc0, lc1, jE, jF, jG, jH, kc, ke, jv, jt, jw, zV, zS, jD, jT, jc, jj, jX, jf, jd, jx, jU, ji, jk, jp, jS, jy, ju, Ts.fill, jY, jW, jg, jZ, jo, jm, jh, ja, getAll, stepCall, jn, unI, Opd.get, jC, tag, jz, jb, jR, rv, bin, j5, Nat.reduceAdd, Nat.reduceSub, Nat.reduceMul, Nat.reduceDiv, Nat.reduceMod, Nat.reducePow, Nat.reduceLT, Nat.reduceLeDiff, Nat.reduceEqDiff, Nat.reduceBEq, Nat.reduceBNe, reduceIte, Int.reduceEq, Int.reduceLT, Int.reduceLE, Int.reduceNeg, Int.reduceToNat, Int.reduceMul, Int.reduceAdd, Int.reduceSub, Int.reduceBEq, Int.reduceBNe, reduceCtorEq] at hE
   exact ih (i + 1) _ _ hE (by omega) (by first | exact e0 | rfl) (by first | exact e1 | rfl) (by rfl)
set_option maxRecDepth 20000 in
theorem ZB (h : F 22 = some jdK) {T : List Tok} {ws : List (List UInt8)} {o1 o2 : Nat} {r1 r2 : Bool} (hw : ws = T.map (·.t)) (hl : T.length <= 1000) : cfw F (.f 22) [.sl o1 r1 (T.map KA), .sl o2 r2 (ws.map .str)] σ = some ⟨false, .bool true, σ, []⟩ := by
 rw [cfw_of jdK h, ju]
 have e : ws.length = T.length := by rw [hw, List.length_map]
 have b : ((T.length : Int) != (T.length : Int)) = false := by simp
 simp only [jdK, e, b, jA, Option.toList, jq, nat, ka, jQ, j6, jr, lc0, lc1, jE, jF, jG, jH, kc, ke, jv, jt, jw, zV, zS, jD, jT, jc, jj, jX, jf, jl, jd, jx, jU, ji, jk, jp, jS, jy, ju, Ts.fill, jY, jW, jg, jZ, jo, jm, jh, ja, getAll, stepCall, jn, unI, Opd.get, jC, tag, jz, jb, jR, rv, bin, j5, Nat.reduceAdd, Nat.reduceSub, Nat.reduceMul, Nat.reduceDiv, Nat.reduceMod, Nat.reducePow, Nat.reduceLT, Nat.reduceLeDiff, Nat.reduceEqDiff, Nat.reduceBEq, Nat.reduceBNe, reduceIte, Int.reduceEq, Int.reduceLT, Int.reduceLE, Int.reduceNeg, Int.reduceToNat, Int.reduceMul, Int.reduceAdd, Int.reduceSub, Int.reduceBEq, Int.reduceBNe, reduceCtorEq]
 generalize hE : evw F (ICode.loop yY) _ = R
 obtain ⟨f1, rfl⟩ := jd7 hw hl T.length 0 _ _ hE (tS _) (by rfl) (by rfl) (by rfl)
 simp only [jA, Option.toList, jq, nat, ka, jQ, j6, jr, lc0, lc1, jE, jF, jG, jH, kc, ke, jv, jt, jw, zV, zS, jD, jT, jc, jj, jX, jf, jl, jd, jx, jU, ji, jk, jp, jS, jy, ju, Ts.fill, jY, jW, jg, jZ, jo, jm, jh, ja, getAll, stepCall, jn, unI, Opd.get, jC, tag, jz, jb, jR, rv, bin, j5, Nat.reduceAdd, Nat.reduceSub, Nat.reduceMul, Nat.reduceDiv, Nat.reduceMod, Nat.reducePow, Nat.reduceLT, Nat.reduceLeDiff, Nat.reduceEqDiff, Nat.reduceBEq, Nat.reduceBNe, reduceIte, Int.reduceEq, Int.reduceLT, Int.reduceLE, Int.reduceNeg, Int.reduceToNat, Int.reduceMul, Int.reduceAdd, Int.reduceSub, Int.reduceBEq, Int.reduceBNe, reduceCtorEq]
set_option maxRecDepth 20000 in
theorem KH (H : FWk F) {s : List UInt8} {f : Nat × Nat} (hs : s.length <= 20000) (hf : (qV s).2 = some f) (h0 : f.1 ≠ 0) : ∃ wr, cfw F (.f 23) [.str s, I f.1, I f.2] σ = some ⟨false, .bool true, σ, wr⟩ /\ Fl wr := by
 rw [cfw_of jeK H.h23, ju]
 obtain ⟨w8, u8, g8⟩ := jbM H.toFLex (tx := s) (σ := σ)
 rw [jal, if_neg (by omega), hf] at u8
 obtain ⟨c, a⟩ := f
 obtain ⟨wt, ut, gt⟩ := jeD H.h13 H.h27 H.h28 H.h47 H.h49 H.h153 (f := (c, a)) h0 (σ := σ)
 have f2 : yW [.int .i64 0, .int .i64 0] [(0, 1, I c), (1, 1, I a)] = some [I c, I a] := rfl
 simp only [jeK, u8, ut, f2, tC, tM, jl, jA, Option.toList, jq, nat, ka, jQ, j6, jr, lc0, lc1, jE, jF, jG, jH, kc, ke, jv, jt, jw, zV, zS, jD, jT, jc, jj, jX, jf, jd, jx, jU, ji, jk, jp, jS, jy, ju, Ts.fill, jY, jW, jg, jZ, jo, jm, jh, ja, getAll, stepCall, jn, unI, Opd.get, jC, tag, jz, jb, jR, rv, bin, j5, Nat.reduceAdd, Nat.reduceSub, Nat.reduceMul, Nat.reduceDiv, Nat.reduceMod, Nat.reducePow, Nat.reduceLT, Nat.reduceLeDiff, Nat.reduceEqDiff, Nat.reduceBEq, Nat.reduceBNe, reduceIte, Int.reduceEq, Int.reduceLT, Int.reduceLE, Int.reduceNeg, Int.reduceToNat, Int.reduceMul, Int.reduceAdd, Int.reduceSub, Int.reduceBEq, Int.reduceBNe, reduceCtorEq]
 rw [jV (jO gt g8)]
 exact ⟨_, rfl, jN (jO gt g8)⟩
set_option maxRecDepth 100000 in
theorem x1 : qV [120, 49, 32, 61, 32, 48, 120, 49, 70, 59, 32, 47, 47, 32, 101, 110, 100] = ([⟨1, 0, 1, [120, 49], 0⟩, ⟨3, 3, 1, [61], 0⟩, ⟨2, 5, 1, [48, 120, 49, 70], 31⟩, ⟨3, 9, 1, [59], 0⟩], none) := by kernel_rfl
theorem x2 : qV [97, 60, 60, 61, 50] = ([⟨1, 0, 1, [97], 0⟩, ⟨3, 1, 1, [60, 60], 0⟩, ⟨3, 3, 1, [61], 0⟩, ⟨2, 4, 1, [50], 2⟩], none) := by kernel_rfl
theorem x3 : qV [] = ([], none) := by kernel_rfl
theorem x4 : (qV [49, 50, 97, 98]).2 = some (7, 2) := by kernel_rfl
theorem x5 : (qV [48, 120]).2 = some (7, 2) := by kernel_rfl
theorem x6 : (qV [52, 50, 57, 52, 57, 54, 55, 50, 57, 54]).2 = some (10, 0) := by kernel_rfl
theorem x7 : (qV [97, 36]).2 = some (7, 1) := by kernel_rfl
def T1 : List Tok := [⟨1, 0, 1, [120, 49], 0⟩, ⟨3, 3, 1, [61], 0⟩, ⟨2, 5, 1, [48, 120, 49, 70], 31⟩, ⟨3, 9, 1, [59], 0⟩, ⟨0, 17, 1, [], 0⟩]
def T2 : List Tok := [⟨1, 0, 1, [97], 0⟩, ⟨3, 1, 1, [60, 60], 0⟩, ⟨3, 3, 1, [61], 0⟩, ⟨2, 4, 1, [50], 2⟩, ⟨0, 5, 1, [], 0⟩]
def T3 : List Tok := [⟨0, 0, 1, [], 0⟩]
theorem Vg {s : List UInt8} {ts T : List Tok} (hs : s.length <= 20000) (h : qV s = (ts, none)) (hT : ts ++ [KG s] = T) : jal s = [.sl 0 false (T.map KA), .prim .nilIface] := by
 rw [jal, if_neg (by omega), h, hT]
set_option maxRecDepth 100000 in
theorem jeH (H : FWk F) : ∃ wr, cfw F (.f 7) [] σ = some ⟨false, .bool true, σ, wr⟩ /\ Fl wr := by
 rw [cfw_of ir7 H.h7, ju]
 obtain ⟨w1, u1, g1⟩ := jbM H.toFLex (tx := [120, 49, 32, 61, 32, 48, 120, 49, 70, 59, 32, 47, 47, 32, 101, 110, 100]) (σ := σ)
 obtain ⟨w2, u2, g2⟩ := jbM H.toFLex (tx := [97, 60, 60, 61, 50]) (σ := σ)
 obtain ⟨w3, u3, g3⟩ := jbM H.toFLex (tx := []) (σ := σ)
 rw [Vg (T := T1) (by decide) x1 rfl] at u1
 rw [Vg (T := T2) (by decide) x2 rfl] at u2
 rw [Vg (T := T3) (by decide) x3 rfl] at u3
 have v1 := ZB H.h22 (T := T1) (ws := [[120, 49], [61], [48, 120, 49, 70], [59], []]) (o1 := 0) (o2 := 0) (r1 := false) (r2 := false) (σ := σ) rfl (by decide)
 have v2 := ZB H.h22 (T := T2) (ws := [[97], [60, 60], [61], [50], []]) (o1 := 0) (o2 := 0) (r1 := false) (r2 := false) (σ := σ) rfl (by decide)
 simp only [rR (f := IVal.str), List.map_nil (f := IVal.str)] at v1 v2
 obtain ⟨w4, u4, g4⟩ := KH H (f := (7, 2)) (σ := σ) (by decide) x4 (by decide)
 obtain ⟨w5, u5, g5⟩ := KH H (f := (7, 2)) (σ := σ) (by decide) x5 (by decide)
 obtain ⟨w6, u6, g6⟩ := KH H (f := (10, 0)) (σ := σ) (by decide) x6 (by decide)
 obtain ⟨w7, u7, g7⟩ := KH H (f := (7, 1)) (σ := σ) (by decide) x7 (by decide)
 have u4 : cfw F (.f 23) [.str [49, 50, 97, 98], .int .i64 7, .int .i64 2] σ = _ := u4
 have u5 : cfw F (.f 23) [.str [48, 120], .int .i64 7, .int .i64 2] σ = _ := u5
 have u6 : cfw F (.f 23) [.str [52, 50, 57, 52, 57, 54, 55, 50, 57, 54], .int .i64 10, .int .i64 0] σ = _ := u6
 have u7 : cfw F (.f 23) [.str [97, 36], .int .i64 7, .int .i64 1] σ = _ := u7
 have a2 : T1[2]? = some ⟨2, 5, 1, [48, 120, 49, 70], 31⟩ := rfl
 have a3 : T1[3]? = some ⟨3, 9, 1, [59], 0⟩ := rfl
 have a4 : T1[4]? = some ⟨0, 17, 1, [], 0⟩ := rfl
 have c0' : T3[0]? = some ⟨0, 0, 1, [], 0⟩ := rfl
 have l3 : T3.length = 1 := rfl
 have tf : (true != false) = true := rfl
 have tc : ∀ t : Tok, (KA t).cells = TC t.k t.a t.ln t.t t.n := fun _ => rfl
 have nr : ∀ T : List Tok, nr2 (.sl 0 false (T.map KA)) = true := fun _ => rfl
 have kI : ∀ n : Int, z5 0 (.int .i64 n) = true := fun n => rfl
 have kS : ∀ n, z5 1 (.str n) = true := fun n => rfl
 have eI : ∀ a b : Int, qh (.int .i64 a) (.int .i64 b) = some (a == b) := fun a b => by simp [qh]
 have eS : ∀ a b, qh (.str a) (.str b) = some (a == b) := fun a b => rfl
 have f5 : yW [.int .i64 0, .int .i64 0, .int .i64 0, .str [], .int .i64 0] [(2, 1, I 1)] = some [I 0, I 0, I 1, .str [], I 0] := rfl
 simp only [ir7, u1, u2, u3, u4, u5, u6, u7, v1, v2, a2, a3, a4, c0', l3, tf, tc, tk5, ext, eqK, kI, kS, eI, eS, f5, tC, tM, jl, jA, Option.toList, jq, nat, ka, jQ, j6, jr, lc0, lc1, jE, jF, jG, jH, kc, ke, jv, jt, jw, zV, zS, jD, jT, jc, jj, jX, jf, jd, jx, jU, ji, jk, jp, jS, jy, ju, Ts.fill, jY, jW, jg, jZ, jo, jm, jh, ja, getAll, stepCall, jn, unI, Opd.get, jC, tag, jz, jb, jR, rv, bin, j5, Nat.reduceAdd, Nat.reduceSub, Nat.reduceMul, Nat.reduceDiv, Nat.reduceMod, Nat.reducePow, Nat.reduceLT, Nat.reduceLeDiff, Nat.reduceEqDiff, Nat.reduceBEq, Nat.reduceBNe, reduceIte, Int.reduceEq, Int.reduceLT, Int.reduceLE, Int.reduceNeg, Int.reduceToNat, Int.reduceMul, Int.reduceAdd, Int.reduceSub, Int.reduceBEq, Int.reduceBNe, reduceCtorEq]
 have gg := jO g7 (jO g6 (jO g5 (jO g4 (jO g3 (jO g2 g1)))))
 rw [jV gg]
 exact ⟨_, rfl, jN gg⟩
end
end Go.Idl.Lx
namespace Go.Idl.Lx
open Go Go.Idl Go.Idl.En
variable {F : kt}
theorem YP (tx : List UInt8) : ∀ m a, ∀ t ∈ (ve tx m a).1, t.a <= tx.length /\ t.ln <= 1 + tx.length
 | 0, a, t, h => by simp [ve] at h
 | m + 1, a, t, h => by
   rw [ve] at h
   split at h
   . split at h
     . simp at h
     . rcases List.mem_cons.1 h with rfl | h
       . have := Y4 (tx.take a)
         rw [tE] at this
         simp only; omega
       . exact YP tx m _ t h
   . simp at h
section
variable {σ : List IObj}
set_option maxRecDepth 20000 in
theorem jbF (h : F 14 = some jdH) (h27 : F 27 = some jb8) (h47 : F 47 = some jbi) {c a d b : Nat} (hb : d + b < 1000000000) (ha : a = d + b) : ∃ wr, cfw F (.f 14) [.iface 56 (.pv false [I c, I d] 0), .iface 56 (.pv false [I c, I a] 0), I b] σ = some ⟨false, .bool true, σ, wr⟩ /\ Fl wr := by
 rw [cfw_of jdH h, ju]
 subst ha
 have w1 : IntKind.i64.wrap ((d : Int) + (b : Int)) = ((d + b : Nat) : Int) := by rw [qx (by omega) (by omega)]; omega
 have ga : (σ ++ [IObj.cells [.prim (.pointer none)], IObj.cells [.prim (.pointer none)]])[σ.length]? = some (.cells [.prim (.pointer none)]) := by rw [get_app0]; rfl
 obtain ⟨wr, u, gw⟩ := jeZ h27 h47 (c := (c : Int)) (a := (d : Int)) ga
 have sa : (σ ++ [IObj.cells [.prim (.pointer none)], IObj.cells [.prim (.pointer none)]]).set σ.length (.cells [.pv false [I c, I d] 0]) = σ ++ [.cells [.pv false [I c, I d] 0], .cells [.prim (.pointer none)]] := by rw [set_app0]; rfl
 rw [sa] at u
 have gb : (σ ++ [IObj.cells [.pv false [I c, I d] 0], IObj.cells [.prim (.pointer none)]])[σ.length + 1]? = some (.cells [.prim (.pointer none)]) := by rw [get_app]; rfl
 obtain ⟨wr2, u2, gw2⟩ := jeZ h27 h47 (c := (c : Int)) (a := ((d + b : Nat) : Int)) gb
 have sb : (σ ++ [IObj.cells [.pv false [I c, I d] 0], IObj.cells [.prim (.pointer none)]]).set (σ.length + 1) (.cells [.pv false [I c, I (d + b : Nat)] 0]) = σ ++ [.cells [.pv false [I c, I d] 0], .cells [.pv false [I c, I (d + b : Nat)] 0]] := by rw [set_app]; rfl
 rw [sb] at u2
 simp only [jdH, u, u2, w1, jl, jA, Option.toList, jq, nat, ka, jQ, j6, jr, lc0, lc1, jE, jF, jG, jH, kc, ke, jv, jt, jw, zV, zS, jD, jT, jc, jj, jX, jf, jd, jx, jU, ji, jk, jp, jS, jy, ju, Ts.fill, jY, jW, jg, jZ, jo, jm, jh, ja, getAll, stepCall, jn, unI, Opd.get, jC, tag, jz, jb, jR, rv, bin, j5, Nat.reduceAdd, Nat.reduceSub, Nat.reduceMul, Nat.reduceDiv, Nat.reduceMod, Nat.reducePow, Nat.reduceLT, Nat.reduceLeDiff, Nat.reduceEqDiff, Nat.reduceBEq, Nat.reduceBNe, reduceIte, Int.reduceEq, Int.reduceLT, Int.reduceLE, Int.reduceNeg, Int.reduceToNat, Int.reduceMul, Int.reduceAdd, Int.reduceSub, Int.reduceBEq, Int.reduceBNe, reduceCtorEq]
 rw [jV (jO gw2 gw)]
 exact ⟨_, rfl, jN (jO gw2 gw)⟩
theorem jdz (a b c : Int) (d : List UInt8) (e : Int) : eqK [0, 0, 0, 1, 0] [I a, I b, I c, .str d, I e] [I a, I b, I c, .str d, I e] = some true := by
 simp [eqK, z5, qh]
set_option maxRecDepth 20000 in
theorem jfn (h15 : F 15 = some jb6) {A : List UInt8} {xs ys : List Tok} {eX : Tok} {o1 o2 o3 : Nat} {r1 r2 r3 : Bool} (hA : A.length <= 100000) (hb : ∀ t ∈ ys, t.a <= 100000 /\ t.ln <= 200000) (hx : xs.length <= 100000) (hy : ys.length <= 100000) : ∀ (m i : Nat) (f0 : Nat -> Option (Nat × IVal)) (S : List IObj) (wr : List (Nat × Bool)) (R : Option (IExit × St)), evw F (.loop z4) ⟨E 15 18 6 [] f0, S, wr⟩ = R -> i + m = xs.length + ys.length -> f0 5 = some (5, .str A) -> f0 7 = some (7, .sl o1 r1 ((xs ++ [eX]).map KA)) -> f0 9 = some (9, .sl o2 r2 (ys.map KA)) -> f0 11 = some (11, .sl o3 r3 ((xs ++ ys.map (mv A.length (nl A))).map KA)) -> f0 13 = some (13, I i) -> Fl wr ->
   ∃ f1 wr1 g, R = some (.exit 0, ⟨E 15 18 6 [] (base f1), S ++ g, wr1⟩) /\ Fl wr1 := by
 intro m
 have lZ : (xs ++ ys.map (mv A.length (nl A))).length = xs.length + ys.length := by simp
 have lX : (xs ++ [eX]).length = xs.length + 1 := by simp
 have w0 : IntKind.i64.wrap (((xs.length + 1 : Nat) : Int) - 1) = (xs.length : Int) := by rw [qx (by omega) (by omega)]; omega
 have tc : ∀ t : Tok, (KA t).cells = TC t.k t.a t.ln t.t t.n := fun _ => rfl
 have tcu : ∀ t : Tok, (TC t.k t.a t.ln t.t t.n).map un1 = TC t.k t.a t.ln t.t t.n := fun _ => rfl
 have f5 : yW [.int .i64 0, .int .i64 0, .int .i64 0, .str [], .int .i64 0] [] = some (TC 0 0 0 [] 0) := rfl
 have tt : (true != true) = false := rfl
 induction m with
 | zero =>
   intro i f0 S wr R hE hm e5 e7 e9 e11 e13 hw
   have d1 : decide ((i : Int) < ((xs.length + ys.length : Nat) : Int)) = false := rE (by omega)
   change evw F (.loop z4) ⟨E 15 18 6 [] (base f0), S, wr⟩ = R at hE
   generalize hZ : xs ++ ys.map (mv A.length (nl A)) = Z at *
   rw [kb] at hE
   simp only [z4, e5, e7, e9, e11, e13, lZ, d1, jl, jA, Option.toList, jq, nat, ka, jQ, j6, jr, lc0, lc1, jE, jF, jG, jH, kc, ke, jv, jt, jw, zV, zS, jD, jT, jc, jj, jX, jf, jd, jx, jU, ji, jk, jp, jS, jy, ju, Ts.fill, jY, jW, jg, jZ, jo, jm, jh, ja, getAll, stepCall, jn, unI, Opd.get, jC, tag, jz, jb, jR, rv, bin, j5, Nat.reduceAdd, Nat.reduceSub, Nat.reduceMul, Nat.reduceDiv, Nat.reduceMod, Nat.reducePow, Nat.reduceLT, Nat.reduceLeDiff, Nat.reduceEqDiff, Nat.reduceBEq, Nat.reduceBNe, reduceIte, Int.reduceEq, Int.reduceLT, Int.reduceLE, Int.reduceNeg, Int.reduceToNat, Int.reduceMul, Int.reduceAdd, Int.reduceSub, Int.reduceBEq, Int.reduceBNe, reduceCtorEq] at hE
   exact ⟨_, _, [], by rw [rM]; exact hE.symm, hw⟩
 | succ m ih =>
   intro i f0 S wr R hE hm e5 e7 e9 e11 e13 hw
   have d1 : decide ((i : Int) < ((xs.length + ys.length : Nat) : Int)) = true := rB (by omega)
   have d2 : (0 : Int) <= (i : Int) := by omega
   have w1 : IntKind.i64.wrap ((i : Int) + 1) = ((i + 1 : Nat) : Int) := KM (by omega)
   have e7' := e7
   have e11' := e11
   change evw F (.loop z4) ⟨E 15 18 6 [] (base f0), S, wr⟩ = R at hE
   by_cases hlt : i < xs.length
   . obtain ⟨t, hg⟩ := vm hlt
     have g1 : (xs ++ [eX])[i]? = some t := by rw [List.getElem?_append_left hlt]; exact hg
     have g2 : (xs ++ ys.map (mv A.length (nl A)))[i]? = some t := by rw [List.getElem?_append_left hlt]; exact hg
     have d3 : decide ((i : Int) < (xs.length : Int)) = true := rB (by omega)
     generalize hZ : xs ++ ys.map (mv A.length (nl A)) = Z at *
     generalize hX : xs ++ [eX] = X at *
     rw [kb] at hE
     simp only [z4, e5, e7, e9, e11, e13, lZ, lX, d1, d2, d3, w0, w1, g1, g2, tc, tcu, tk5, f5, tt, jdz, List.zip_nil_left, rI, jl, jA, Option.toList, jq, nat, ka, jQ, j6, jr, lc0, lc1, jE, jF, jG, jH, kc, ke, jv, jt, jw, zV, zS, jD, jT, jc, jj, jX, jf, jd, jx, jU, ji, jk, jp, jS, jy, ju, Ts.fill, jY, jW, jg, jZ, jo, jm, jh, ja, getAll, stepCall, jn, unI, Opd.get, jC, tag, jz, jb, jR, rv, bin, j5, Nat.reduceAdd, Nat.reduceSub, Nat.reduceMul, Nat.reduceDiv, Nat.reduceMod, Nat.reducePow, Nat.reduceLT, Nat.reduceLeDiff, Nat.reduceEqDiff, Nat.reduceBEq, Nat.reduceBNe, reduceIte, Int.reduceEq, Int.reduceLT, Int.reduceLE, Int.reduceNeg, Int.reduceToNat, Int.reduceMul, Int.reduceAdd, Int.reduceSub, Int.reduceBEq, Int.reduceBNe, reduceCtorEq] at hE
     obtain ⟨f1, wr1, g, hR, gw⟩ := ih (i + 1) _ _ _ _ hE (by omega) (by first | exact e5 | rfl) (by first | exact e7 | rfl) (by first | exact e9 | rfl) (by first | exact e11 | rfl) (by rfl) (by simpa using hw)
     exact ⟨f1, wr1, _, by rw [hR, List.append_assoc], gw⟩
   . obtain ⟨j, hj⟩ : ∃ j, i = xs.length + j := ⟨i - xs.length, by omega⟩
     subst hj
     obtain ⟨t, hg⟩ := vm (l := ys) (i := j) (by omega)
     obtain ⟨b1, b2⟩ := hb t (List.mem_of_getElem? hg)
     have hnl := Y4 A
     have g2 : (xs ++ ys.map (mv A.length (nl A)))[xs.length + j]? = some (mv A.length (nl A) t) := by
       rw [rS (by omega), show xs.length + j - xs.length = j by omega, rJ, hg]; rfl
     have d3 : decide (((xs.length + j : Nat) : Int) < (xs.length : Int)) = false := rE (by omega)
     have d4 : (0 : Int) <= (j : Int) := by omega
     have w2 : IntKind.i64.wrap (((xs.length + j : Nat) : Int) - ((xs.length + 1 : Nat) : Int)) = (j : Int) - 1 := by rw [qx (by omega) (by omega)]; omega
     have w3 : IntKind.i64.wrap ((j : Int) - 1 + 1) = (j : Int) := by rw [qx (by omega) (by omega)]; omega
     have wa : IntKind.i64.wrap (((t.a : Nat) : Int) + ((A.length : Nat) : Int)) = ((t.a + A.length : Nat) : Int) := by rw [qx (by omega) (by omega)]; omega
     have wl : IntKind.i64.wrap (((t.ln : Nat) : Int) + ((nl A : Nat) : Int)) = ((t.ln + nl A : Nat) : Int) := by rw [qx (by omega) (by omega)]; omega
     have u15 := fun τ => Yg h15 (s := A) (σ := τ)
     have m1 : (mv A.length (nl A) t).k = t.k := rfl
     have m2 : (mv A.length (nl A) t).a = t.a + A.length := rfl
     have m3 : (mv A.length (nl A) t).ln = t.ln + nl A := rfl
     have m4 : (mv A.length (nl A) t).t = t.t := rfl
     have m5 : (mv A.length (nl A) t).n = t.n := rfl
     generalize hZ : xs ++ ys.map (mv A.length (nl A)) = Z at *
     generalize hX : xs ++ [eX] = X at *
     generalize mv A.length (nl A) t = t' at *
     rw [kb] at hE
     simp only [z4, e5, e7, e9, e11, e13, lZ, lX, d1, d2, d3, d4, w0, w1, w2, w3, wa, wl, u15, hg, g2, m1, m2, m3, m4, m5, tc, tcu, tk5, f5, tt, jdz, List.zip_nil_left, rI, jl, jA, Option.toList, jq, nat, ka, jQ, j6, jr, lc0, lc1, jE, jF, jG, jH, kc, ke, jv, jt, jw, zV, zS, jD, jT, jc, jj, jX, jf, jd, jx, jU, ji, jk, jp, jS, jy, ju, Ts.fill, jY, jW, jg, jZ, jo, jm, jh, ja, getAll, stepCall, jn, unI, Opd.get, jC, tag, jz, jb, jR, rv, bin, j5, Nat.reduceAdd, Nat.reduceSub, Nat.reduceMul, Nat.reduceDiv, Nat.reduceMod, Nat.reducePow, Nat.reduceLT, Nat.reduceLeDiff, Nat.reduceEqDiff, Nat.reduceBEq, Nat.reduceBNe, reduceIte, Int.reduceEq, Int.reduceLT, Int.reduceLE, Int.reduceNeg, Int.reduceToNat, Int.reduceMul, Int.reduceAdd, Int.reduceSub, Int.reduceBEq, Int.reduceBNe, reduceCtorEq] at hE
     obtain ⟨f1, wr1, g, hR, gw⟩ := ih (xs.length + j + 1) _ _ _ _ hE (by omega) (by first | exact e5 | rfl) (by first | exact e7 | rfl) (by first | exact e9 | rfl) (by first | exact e11 | rfl) (by rfl) (by simpa using hw)
     exact ⟨f1, wr1, _, by rw [hR, List.append_assoc], gw⟩
end
end Go.Idl.Lx
namespace Go.Idl.Lx
open Go Go.Idl Go.Idl.En
variable {F : kt}
structure FPrt (F : kt) : Prop extends FWk F, FMade F where
 h4 : F 4 = some ir4
 h14 : F 14 = some jdH
theorem Y6 {tx : List UInt8} {a ba hd : Nat} {f : Nat × Nat} (h : Qu tx a ba hd = .inl f) (ha : a + hd <= tx.length) : f.2 <= tx.length := by
 unfold Qu at h
 simp only at h
 have hd2 := K8 ba (tx.drop (a + hd))
 rw [List.length_drop] at hd2
 split at h
 . cases h; simp only; omega
 . split at h
   . cases h; simp only; omega
   . split at h
     . cases h; simp only; omega
     . split at h
       . split at h
         . cases h; simp only; omega
         . cases h
       . cases h
theorem jen {tx : List UInt8} {a : Nat} {f : Nat × Nat} (h : JX tx a = .inl f) (ha : a < tx.length) : f.2 <= tx.length := by
 unfold JX at h
 cases hg : tx[a]? with
 | none => rw [hg] at h; cases h; simp only; omega
 | some c =>
   rw [hg] at h
   simp only at h
   split at h
   . split at h
     . cases h; simp only; omega
     . cases h
   . split at h
     . split at h
       . rename_i e
         cases h
         unfold Vn at e
         split at e
         . rename_i hx
           have := Vt hx
           rw [List.length_drop] at this
           exact Y6 e (by omega)
         . exact Y6 e (by omega)
       . cases h
     . split at h
       . cases h
       . cases h; simp only; omega
theorem Vh (tx : List UInt8) : ∀ m a f, (ve tx m a).2 = some f -> f.2 <= tx.length
 | 0, a, f, h => by simp [ve] at h
 | m + 1, a, f, h => by
   rw [ve] at h
   split at h
   . rename_i ha
     split at h
     . rename_i ho
       obtain rfl := rY h
       exact jen ho ha
     . exact Vh tx m _ f h
   . cases h
section
variable {σ : List IObj}
theorem zk {s : List UInt8} (hs : s.length <= 20000) (h : (qV s).2 = none) : jal s = [.sl 0 false (((qV s).1 ++ [KG s]).map KA), .prim .nilIface] := by
 rw [jal, if_neg (by omega), h]
theorem yk {s : List UInt8} {f : Nat × Nat} (hs : s.length <= 20000) (h : (qV s).2 = some f) : jal s = [.sl 5 true [], flt f] := by
 rw [jal, if_neg (by omega), h]
set_option maxRecDepth 20000 in
theorem jf7 (H : FPrt F) {l m : List Nat} {o1 o2 : Nat} {r1 r2 : Bool} (hb : ∀ b ∈ l, b < 256) (hb2 : ∀ b ∈ m, b < 256) : ∃ wr S, cfw F (.f 4) [.sl o1 r1 (l.map B), .sl o2 r2 (m.map B)] σ = some ⟨false, .bool true, S, wr⟩ := by
 rw [cfw_of ir4 H.h4, ju]
 obtain ⟨w7, u7, g7⟩ := jeH H.toFWk (σ := σ)
 have u9 := jee H.toFMade hb (o := 0) (r := r1) σ
 have u9b := jee H.toFMade hb2 (o := 0) (r := r2) σ
 have hA1 := jao l
 have hB1 := jao m
 have nd : Nd (mdS l ++ [10]) := Or.inr (by simp)
 have hAl : (mdS l ++ [10]).length <= 1921 := by simp; omega
 have cat1 : (mdS l).length + ([10] : List UInt8).length <= 1099511627776 := by simp; omega
 have cat1' : (mdS l).length + 1 <= 1099511627776 := by omega
 have hp := YN (b := mdS m) nd
 obtain ⟨wa, ua, ga⟩ := jbM H.toFLex (tx := mdS l ++ [10]) (σ := σ)
 obtain ⟨wb, ub, gb⟩ := jbM H.toFLex (tx := mdS m) (σ := σ)
 obtain ⟨wc, uc, gc⟩ := jbM H.toFLex (tx := (mdS l ++ [10]) ++ mdS m) (σ := σ)
 generalize hA : mdS l ++ [10] = A at *
 have cat2 : A.length + (mdS m).length <= 1099511627776 := by omega
 have hAb : (A ++ mdS m).length <= 20000 := by rw [rF]; omega
 have gg := jO gc (jO gb (jO ga g7))
 have tf : (true != false) = true := rfl
 cases hfa : (qV A).2 with
 | some f =>
   rw [hfa] at hp
   rw [yk (by omega) hfa] at ua
   rw [yk hAb hp] at uc
   obtain ⟨c, d⟩ := f
   have hd := Vh A _ _ _ hfa
   simp only at hd
   obtain ⟨ws, us, gs'⟩ := jbF H.h14 H.h27 H.h47 (c := c) (a := d) (d := d) (b := 0) (by omega) rfl (σ := σ)
   have us : cfw F (.f 14) [.iface 56 (.pv false [I c, I d] 0), .iface 56 (.pv false [I c, I d] 0), .int .i64 0] σ = _ := us
   have nb : ∀ v, nr2 v = nr2 v := fun _ => rfl
   cases hfb : (qV (mdS m)).2 with
   | some f2 =>
     rw [yk (by omega) hfb] at ub
     simp only [ir4, u7, u9, u9b, ua, ub, uc, us, hA, cat1', cat2, tf, jl, jA, Option.toList, jq, nat, ka, jQ, j6, jr, lc0, lc1, jE, jF, jG, jH, kc, ke, jv, jt, jw, zV, zS, jD, jT, jc, jj, jX, jf, jd, jx, jU, ji, jk, jp, jS, jy, ju, Ts.fill, jY, jW, jg, jZ, jo, jm, jh, ja, getAll, stepCall, jn, unI, Opd.get, jC, tag, jz, jb, jR, rv, bin, j5, Nat.reduceAdd, Nat.reduceSub, Nat.reduceMul, Nat.reduceDiv, Nat.reduceMod, Nat.reducePow, Nat.reduceLT, Nat.reduceLeDiff, Nat.reduceEqDiff, Nat.reduceBEq, Nat.reduceBNe, reduceIte, Int.reduceEq, Int.reduceLT, Int.reduceLE, Int.reduceNeg, Int.reduceToNat, Int.reduceMul, Int.reduceAdd, Int.reduceSub, Int.reduceBEq, Int.reduceBNe, reduceCtorEq]
     rw [jV (jO gs' gg)]
     exact ⟨_, _, rfl⟩
   | none =>
     rw [zk (by omega) hfb] at ub
     simp only [ir4, u7, u9, u9b, ua, ub, uc, us, hA, cat1', cat2, tf, jl, jA, Option.toList, jq, nat, ka, jQ, j6, jr, lc0, lc1, jE, jF, jG, jH, kc, ke, jv, jt, jw, zV, zS, jD, jT, jc, jj, jX, jf, jd, jx, jU, ji, jk, jp, jS, jy, ju, Ts.fill, jY, jW, jg, jZ, jo, jm, jh, ja, getAll, stepCall, jn, unI, Opd.get, jC, tag, jz, jb, jR, rv, bin, j5, Nat.reduceAdd, Nat.reduceSub, Nat.reduceMul, Nat.reduceDiv, Nat.reduceMod, Nat.reducePow, Nat.reduceLT, Nat.reduceLeDiff, Nat.reduceEqDiff, Nat.reduceBEq, Nat.reduceBNe, reduceIte, Int.reduceEq, Int.reduceLT, Int.reduceLE, Int.reduceNeg, Int.reduceToNat, Int.reduceMul, Int.reduceAdd, Int.reduceSub, Int.reduceBEq, Int.reduceBNe, reduceCtorEq]
     rw [jV (jO gs' gg)]
     exact ⟨_, _, rfl⟩
 | none =>
   rw [hfa] at hp
   rw [zk (by omega) hfa] at ua
   cases hfb : (qV (mdS m)).2 with
   | some f =>
     rw [hfb] at hp
     simp only [tU] at hp
     have hp2 : (qV (A ++ mdS m)).2 = some (f.1, A.length + f.2) := by rw [hp]
     rw [yk (by omega) hfb] at ub
     rw [yk hAb hp2] at uc
     obtain ⟨c, d⟩ := f
     have hd := Vh (mdS m) _ _ _ hfb
     simp only at hd
     obtain ⟨ws, us, gs'⟩ := jbF H.h14 H.h27 H.h47 (c := c) (a := A.length + d) (d := d) (b := A.length) (by omega) (by omega) (σ := σ)
     generalize hX : ((qV A).1 ++ [KG A]).map KA = X at *
     simp only [ir4, u7, u9, u9b, ua, ub, uc, us, hA, cat1', cat2, tf, jl, jA, Option.toList, jq, nat, ka, jQ, j6, jr, lc0, lc1, jE, jF, jG, jH, kc, ke, jv, jt, jw, zV, zS, jD, jT, jc, jj, jX, jf, jd, jx, jU, ji, jk, jp, jS, jy, ju, Ts.fill, jY, jW, jg, jZ, jo, jm, jh, ja, getAll, stepCall, jn, unI, Opd.get, jC, tag, jz, jb, jR, rv, bin, j5, Nat.reduceAdd, Nat.reduceSub, Nat.reduceMul, Nat.reduceDiv, Nat.reduceMod, Nat.reducePow, Nat.reduceLT, Nat.reduceLeDiff, Nat.reduceEqDiff, Nat.reduceBEq, Nat.reduceBNe, reduceIte, Int.reduceEq, Int.reduceLT, Int.reduceLE, Int.reduceNeg, Int.reduceToNat, Int.reduceMul, Int.reduceAdd, Int.reduceSub, Int.reduceBEq, Int.reduceBNe, reduceCtorEq]
     rw [jV (jO gs' gg)]
     exact ⟨_, _, rfl⟩
   | none =>
     rw [hfb] at hp
     simp only [Option.map_none] at hp
     have hp2 : (qV (A ++ mdS m)).2 = none := by rw [hp]
     have hZ : (qV (A ++ mdS m)).1 ++ [KG (A ++ mdS m)] = (qV A).1 ++ ((qV (mdS m)).1 ++ [KG (mdS m)]).map (mv A.length (nl A)) := by
       rw [hp, jdy, List.map_append, List.append_assoc]; rfl
     have hxl : (qV A).1.length <= A.length + 1 := Jf A _ _
     have hyl : (qV (mdS m)).1.length <= (mdS m).length + 1 := Jf (mdS m) _ _
     have hyb : ∀ t ∈ (qV (mdS m)).1 ++ [KG (mdS m)], t.a <= 100000 /\ t.ln <= 200000 := by
       intro t ht
       rcases List.mem_append.1 ht with h | h
       . have := YP (mdS m) _ _ t h; omega
       . rw [List.mem_singleton.1 h]
         have := Y4 (mdS m)
         simp only [KG]; omega
     rw [zk (by omega) hfb] at ub
     rw [zk hAb hp2, hZ] at uc
     generalize hxs : (qV A).1 = xs at *
     generalize hys : (qV (mdS m)).1 ++ [KG (mdS m)] = ys at *
     have lys : ys.length = (qV (mdS m)).1.length + 1 := by rw [<- hys]; simp
     have lX : (xs ++ [KG A]).length = xs.length + 1 := by simp
     have lZ : (xs ++ ys.map (mv A.length (nl A))).length = xs.length + ys.length := by simp
     have d1 : decide (((xs.length + 1 : Nat) : Int) < 1) = false := rE (by omega)
     have w1 : IntKind.i64.wrap (((xs.length + 1 : Nat) : Int) - 1) = (xs.length : Int) := by rw [qx (by omega) (by omega)]; omega
     have w2 : IntKind.i64.wrap ((xs.length : Int) + (ys.length : Int)) = ((xs.length + ys.length : Nat) : Int) := by rw [qx (by omega) (by omega)]; omega
     have b1 : (((xs.length + ys.length : Nat) : Int) != ((xs.length + ys.length : Nat) : Int)) = false := by simp
     generalize hZZ : xs ++ ys.map (mv A.length (nl A)) = Z at *
     generalize hXX : xs ++ [KG A] = X at *
     simp only [ir4, u7, u9, u9b, ua, ub, uc, hA, cat1', cat2, tf, lX, lZ, d1, w1, w2, b1, jl, jA, Option.toList, jq, nat, ka, jQ, j6, jr, lc0, lc1, jE, jF, jG, jH, kc, ke, jv, jt, jw, zV, zS, jD, jT, jc, jj, jX, jf, jd, jx, jU, ji, jk, jp, jS, jy, ju, Ts.fill, jY, jW, jg, jZ, jo, jm, jh, ja, getAll, stepCall, jn, unI, Opd.get, jC, tag, jz, jb, jR, rv, bin, j5, Nat.reduceAdd, Nat.reduceSub, Nat.reduceMul, Nat.reduceDiv, Nat.reduceMod, Nat.reducePow, Nat.reduceLT, Nat.reduceLeDiff, Nat.reduceEqDiff, Nat.reduceBEq, Nat.reduceBNe, reduceIte, Int.reduceEq, Int.reduceLT, Int.reduceLE, Int.reduceNeg, Int.reduceToNat, Int.reduceMul, Int.reduceAdd, Int.reduceSub, Int.reduceBEq, Int.reduceBNe, reduceCtorEq]
     generalize hE : evw F (ICode.loop z4) _ = R
     subst hZZ hXX
     obtain ⟨f1, wr1, g, rfl, gw⟩ := jfn H.h15 (A := A) (xs := xs) (ys := ys) (eX := KG A) (by omega) hyb (by omega) (by omega) (xs.length + ys.length) 0 _ _ _ _ hE (tS _) (by rfl) (by rfl) (by rfl) (by rfl) (by rfl) (by simpa using gg)
     simp only [jA, Option.toList, jq, nat, ka, jQ, j6, jr, lc0, lc1, jE, jF, jG, jH, kc, ke, jv, jt, jw, zV, zS, jD, jT, jc, jj, jX, jf, jl, jd, jx, jU, ji, jk, jp, jS, jy, ju, Ts.fill, jY, jW, jg, jZ, jo, jm, jh, ja, getAll, stepCall, jn, unI, Opd.get, jC, tag, jz, jb, jR, rv, bin, j5, Nat.reduceAdd, Nat.reduceSub, Nat.reduceMul, Nat.reduceDiv, Nat.reduceMod, Nat.reducePow, Nat.reduceLT, Nat.reduceLeDiff, Nat.reduceEqDiff, Nat.reduceBEq, Nat.reduceBNe, reduceIte, Int.reduceEq, Int.reduceLT, Int.reduceLE, Int.reduceNeg, Int.reduceToNat, Int.reduceMul, Int.reduceAdd, Int.reduceSub, Int.reduceBEq, Int.reduceBNe, reduceCtorEq]
     rw [jV gw]
     exact ⟨_, _, rfl⟩
end
end Go.Idl.Lx
