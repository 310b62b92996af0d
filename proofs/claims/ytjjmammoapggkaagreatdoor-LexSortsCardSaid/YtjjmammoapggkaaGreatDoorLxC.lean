/- Chapter 2: what the ideal machine makes of its functions, part C; no conditions. -/
import Derived.Test.YtjjmammoapggkaaGreatDoorLxB
import Derived.KernelRfl
set_option linter.defProp false
set_option linter.unusedSectionVars false
set_option linter.unusedVariables false
set_option linter.unusedSimpArgs false
namespace Go.Idl.Lx
open Go Go.Idl Go.Idl.En
variable {F : ko}
structure Tok where
 k : Nat
 a : Nat
 ln : Nat
 t : List UInt8
 n : Nat
def Jh (t : Tok) : IVal := .agg (TC t.k t.a t.ln t.t t.n)
def zY (tx : List UInt8) : Nat -> Nat -> List Tok × Option (Nat × Nat)
 | 0, _ => ([], none)
 | m + 1, a => if a < tx.length then match KO tx a with
   | .inl f => ([], some f)
   | .inr (k, ed, v) => (⟨k, a, 1 + nl (tx.take a), (tx.take ed).drop a, v⟩ :: (zY tx m (ed + skN false (tx.drop ed))).1, (zY tx m (ed + skN false (tx.drop ed))).2)
   else ([], none)
def Kp (q al : Nat) (S S1 : List IObj) : Prop := S.length <= S1.length /\ ∀ i, i < S.length -> i ≠ q -> i ≠ al -> S1[i]? = S[i]?
theorem Kp.trans {q al : Nat} {S S1 S2 : List IObj} (h : Kp q al S S1) (h2 : Kp q al S1 S2) : Kp q al S S2 :=
 ⟨Nat.le_trans h.1 h2.1, fun i hi h1 h3 => (h2.2 i (by have := h.1; omega) h1 h3).trans (h.2 i hi h1 h3)⟩
section
variable {tx : List UInt8} {q al id : Nat}
def QW (tx : List UInt8) (q al id m a : Nat) (L : List IVal) (R : Option (IExit × St)) (f1 : Nat -> Option (Nat × IVal)) (S1 : List IObj) (wr1 : List (Nat × Bool)) : Prop := match (zY tx m a).2 with
 | none => R = some (.exit 0, ⟨E 60 11 7 [] (base f1), S1, wr1⟩) /\ f1 0 = some (0, .yl id) /\ f1 1 = some (1, .pv true [.ptr q 0] 0) /\ (∃ r1, S1[q]? = some (.cells (LP r1 tx tx.length zz))) /\ S1[al]? = some (.cells [QU (L ++ (zY tx m a).1.map Jh)])
 | some f => R = some (.ret, ⟨E 60 11 7 [] (base f1), S1, wr1⟩) /\ ∃ a', S1[q]? = some (.cells (LP true tx a' (flt f)))
theorem ZK {m a : Nat} {ts : List Tok} {L : List IVal} {R : Option (IExit × St)} {f1 : Nat -> Option (Nat × IVal)} {S1 : List IObj} {wr1 : List (Nat × Bool)} (h : zY tx m a = (ts, none)) (hR : R = some (.exit 0, ⟨E 60 11 7 [] (base f1), S1, wr1⟩)) (h0 : f1 0 = some (0, .yl id)) (h1 : f1 1 = some (1, .pv true [.ptr q 0] 0)) (h2 : ∃ r1, S1[q]? = some (.cells (LP r1 tx tx.length zz))) (h3 : S1[al]? = some (.cells [QU (L ++ ts.map Jh)])) : QW tx q al id m a L R f1 S1 wr1 := by
 rw [QW, h]; exact ⟨hR, h0, h1, h2, h3⟩
theorem ZL {m a : Nat} {ts : List Tok} {ff : Nat × Nat} {L : List IVal} {R : Option (IExit × St)} {f1 : Nat -> Option (Nat × IVal)} {S1 : List IObj} {wr1 : List (Nat × Bool)} (h : zY tx m a = (ts, some ff)) (hR : R = some (.ret, ⟨E 60 11 7 [] (base f1), S1, wr1⟩)) (h2 : ∃ a', S1[q]? = some (.cells (LP true tx a' (flt ff)))) : QW tx q al id m a L R f1 S1 wr1 := by
 rw [QW, h]; exact ⟨hR, h2⟩
set_option maxRecDepth 20000 in
theorem jdX (H : FMrk F) (hl : tx.length <= 20000) (f : Nat -> Option (Nat × IVal)) (hf : f 5 = some (5, .ptr al 0)) (n1 : q ≠ al) (n2 : q ≠ id) (n3 : al ≠ id) : ∀ (m a : Nat) (r : Bool) (f0 : Nat -> Option (Nat × IVal)) (S : List IObj) (wr : List (Nat × Bool)) (R : Option (IExit × St)) (L : List IVal), evw F (.loop zH) ⟨E 60 11 7 [] f0, S, wr⟩ = R -> tx.length - a < m -> a <= tx.length -> S[q]? = some (.cells (LP r tx a zz)) -> S[al]? = some (.cells [QU L]) -> S[id]? = some (.loop (jcC f)) -> L.length + (tx.length - a) <= 50000 -> f0 0 = some (0, .yl id) -> f0 1 = some (1, .pv true [.ptr q 0] 0) -> Fl wr ->
   ∃ f1 wr1 S1, Fl wr1 /\ Kp q al S S1 /\ QW tx q al id m a L R f1 S1 wr1 := by
 intro m
 induction m with
 | zero => intro a r f0 S wr R L hE hm; omega
 | succ m ih =>
   intro a r f0 S wr R L hE hm ha hq hal hid hL e0 e1 hw
   change evw F (.loop zH) ⟨E 60 11 7 [] (base f0), S, wr⟩ = R at hE
   have lq := jk hq
   by_cases hlt : a < tx.length
   . obtain ⟨c, hg⟩ := vk hlt
     have d1 : decide ((a : Int) < (tx.length : Nat)) = true := rB (by omega)
     have d2 : (0 : Int) <= (a : Int) := by omega
     have dq : decide (q < S.length) = true := rB lq
     have f5 : yT [.int .i64 0, .int .i64 0, .int .i64 0, .str [], .int .i64 0] [(1, 1, I a), (2, 1, I ((1 + nl (tx.take a) : Nat) : Int))] = some (TC 0 a (1 + nl (tx.take a)) [] 0) := rfl
     have hq2 := fun l => yU hq l
     rw [ka] at hE
     simp only [zH, hq, hq2, e0, e1, d1, d2, dq, hg, f5, tC, tM, rI, jA, Option.toList, jq, nat, j6, jP, j0, jr, lc0, lc1, jE, jF, jG, jH, j7, j8, ju, jt, jv, zV, zS, jD, jS, jc, jh, jW, je, jl, jd, jx, jU, jj, ji, jp, jR, jy, jw, Ts.fill, jX, jV, jf, jY, jo, jm, jg, ja, getAll, stepCall, jn, unI, Opd.get, jC, tag, jz, jb, jQ, rv, bin, jZ, Nat.reduceAdd, Nat.reduceSub, Nat.reduceMul, Nat.reduceDiv, Nat.reduceMod, Nat.reducePow, Nat.reduceLT, Nat.reduceLeDiff, Nat.reduceEqDiff, Nat.reduceBEq, Nat.reduceBNe, reduceIte, Int.reduceEq, Int.reduceLT, Int.reduceLE, Int.reduceNeg, Int.reduceToNat, Int.reduceMul, Int.reduceAdd, Int.reduceSub, Int.reduceBEq, Int.reduceBNe, reduceCtorEq] at hE
     generalize hs : evw F zd _ = Rs at hE
     obtain ⟨f1, wr1, S1, gw, rfl, a0, a1, a3, hlen, hk, hsw⟩ := jfW (y := id) H hs hl hg (hq2 [IObj.cells (TC 0 a (1 + nl (tx.take a)) [] 0)]) (by rw [get_app0]; rfl) (by omega) (by first | exact e0 | rfl) (by first | exact e1 | rfl) (by rfl) (by rfl) (by simpa using hw)
     have hk2 : ∀ i, i < S.length -> i ≠ q -> S1[i]? = S[i]? := fun i hi h1 => by
       rw [hk i h1 (by omega), List.getElem?_append_left hi]
     have hlen2 : S1.length = S.length + 1 := by simpa using hlen
     cases ho : KO tx a with
     | inl ff =>
       simp only [Sw, ho] at hsw
       obtain ⟨a', gq⟩ := hsw
       simp only [a0, a1, a3, gq, jl, jA, Option.toList, jq, nat, j6, jP, j0, jr, lc0, lc1, jE, jF, jG, jH, j7, j8, ju, jt, jv, zV, zS, jD, jS, jc, jh, jW, je, jd, jx, jU, jj, ji, jp, jR, jy, jw, Ts.fill, jX, jV, jf, jY, jo, jm, jg, ja, getAll, stepCall, jn, unI, Opd.get, jC, tag, jz, jb, jQ, rv, bin, jZ, Nat.reduceAdd, Nat.reduceSub, Nat.reduceMul, Nat.reduceDiv, Nat.reduceMod, Nat.reducePow, Nat.reduceLT, Nat.reduceLeDiff, Nat.reduceEqDiff, Nat.reduceBEq, Nat.reduceBNe, reduceIte, Int.reduceEq, Int.reduceLT, Int.reduceLE, Int.reduceNeg, Int.reduceToNat, Int.reduceMul, Int.reduceAdd, Int.reduceSub, Int.reduceBEq, Int.reduceBNe, reduceCtorEq] at hE
       exact ⟨_, _, S1, gw, ⟨by omega, fun i hi h1 _ => hk2 i hi h1⟩, ZL (by rw [zY, if_pos hlt, ho]) hE.symm ⟨a', gq⟩⟩
     | inr v =>
       obtain ⟨k, ed, v⟩ := v
       simp only [Sw, ho] at hsw
       obtain ⟨gq, gp⟩ := hsw
       obtain ⟨o1, o2⟩ := jbl ho
       have gal : S1[al]? = some (.cells [QU L]) := by rw [hk2 al (jk hal) (fun e => n1 e.symm)]; exact hal
       have gid : S1[id]? = some (.loop (jcC f)) := by rw [hk2 id (jk hid) (fun e => n2 e.symm)]; exact hid
       obtain ⟨w5, u5, g5⟩ := round (F := F) (k := k) (a := a) (ln := 1 + nl (tx.take a)) (t := (tx.take ed).drop a) (n := v) al id f L (by omega) hf S1 gid gal n3
       have gq2 := get_set (x := .cells [QU (L ++ [.agg (TC k a (1 + nl (tx.take a)) ((tx.take ed).drop a) v)])]) gq (j := al) (fun e => n1 e.symm)
       obtain ⟨w6, r6, u6, g6⟩ := jbt H.toFSkp hl o2 gq2
       have nb : (!true) = false := rfl
       have nn : isNil 1 (un2 zz) = some true := rfl
       simp only [a0, a1, a3, gq, gp, u5, u6, tk5, nb, nn, jl, jA, Option.toList, jq, nat, j6, jP, j0, jr, lc0, lc1, jE, jF, jG, jH, j7, j8, ju, jt, jv, zV, zS, jD, jS, jc, jh, jW, je, jd, jx, jU, jj, ji, jp, jR, jy, jw, Ts.fill, jX, jV, jf, jY, jo, jm, jg, ja, getAll, stepCall, jn, unI, Opd.get, jC, tag, jz, jb, jQ, rv, bin, jZ, Nat.reduceAdd, Nat.reduceSub, Nat.reduceMul, Nat.reduceDiv, Nat.reduceMod, Nat.reducePow, Nat.reduceLT, Nat.reduceLeDiff, Nat.reduceEqDiff, Nat.reduceBEq, Nat.reduceBNe, reduceIte, Int.reduceEq, Int.reduceLT, Int.reduceLE, Int.reduceNeg, Int.reduceToNat, Int.reduceMul, Int.reduceAdd, Int.reduceSub, Int.reduceBEq, Int.reduceBNe, reduceCtorEq] at hE
       have hsk := Kr false (tx.drop ed)
       rw [List.length_drop] at hsk
       have lal := jk gal
       have lq1 := jk gq
       have i1 := gs gq2 (y := .cells (LP r6 tx (ed + skN false (tx.drop ed)) zz))
       have i2 := get_set (x := .cells (LP r6 tx (ed + skN false (tx.drop ed)) zz)) (gs gal (y := .cells [QU (L ++ [.agg (TC k a (1 + nl (tx.take a)) ((tx.take ed).drop a) v)])])) (j := q) n1
       have i3 := get_set (x := .cells (LP r6 tx (ed + skN false (tx.drop ed)) zz)) (get_set (x := .cells [QU (L ++ [.agg (TC k a (1 + nl (tx.take a)) ((tx.take ed).drop a) v)])]) gid (j := al) n3) (j := q) n2
       obtain ⟨f2, wr2, S2, gw2, hkp, hend⟩ := ih (ed + skN false (tx.drop ed)) r6 _ _ _ _ _ hE (by omega) (by omega) i1 i2 i3 (by simp; omega) (by first | exact a0 | rfl) (by first | exact a1 | rfl) (by simpa using jN g6 (jN g5 gw))
       have hkp0 : Kp q al S ((S1.set al (.cells [QU (L ++ [.agg (TC k a (1 + nl (tx.take a)) ((tx.take ed).drop a) v)])])).set q (.cells (LP r6 tx (ed + skN false (tx.drop ed)) zz))) :=
         ⟨by simp; omega, fun i hi h1 h2 => by rw [rA (fun e => h1 e.symm), rA (fun e => h2 e.symm)]; exact hk2 i hi h1⟩
       refine ⟨f2, wr2, S2, gw2, hkp0.trans hkp, ?_⟩
       have hx : zY tx (m + 1) a = (⟨k, a, 1 + nl (tx.take a), (tx.take ed).drop a, v⟩ :: (zY tx m (ed + skN false (tx.drop ed))).1, (zY tx m (ed + skN false (tx.drop ed))).2) := by rw [zY, if_pos hlt, ho]
       unfold QW at hend ⊢
       rw [hx]
       simp only
       cases h2 : (zY tx m (ed + skN false (tx.drop ed))).2 with
       | none =>
         rw [h2] at hend
         obtain ⟨b1, b2, b3, b4, b5⟩ := hend
         refine ⟨b1, b2, b3, b4, ?_⟩
         rw [b5, rR, List.append_assoc]; rfl
       | some ff =>
         rw [h2] at hend
         exact hend
   . have d1 : decide ((a : Int) < (tx.length : Nat)) = false := rE (by omega)
     have ha' : a = tx.length := by omega
     rw [ka] at hE
     simp only [zH, hq, e0, e1, d1, jA, Option.toList, jq, nat, j6, jP, j0, jr, lc0, lc1, jE, jF, jG, jH, j7, j8, ju, jt, jv, zV, zS, jD, jS, jc, jh, jW, je, jl, jd, jx, jU, jj, ji, jp, jR, jy, jw, Ts.fill, jX, jV, jf, jY, jo, jm, jg, ja, getAll, stepCall, jn, unI, Opd.get, jC, tag, jz, jb, jQ, rv, bin, jZ, Nat.reduceAdd, Nat.reduceSub, Nat.reduceMul, Nat.reduceDiv, Nat.reduceMod, Nat.reducePow, Nat.reduceLT, Nat.reduceLeDiff, Nat.reduceEqDiff, Nat.reduceBEq, Nat.reduceBNe, reduceIte, Int.reduceEq, Int.reduceLT, Int.reduceLE, Int.reduceNeg, Int.reduceToNat, Int.reduceMul, Int.reduceAdd, Int.reduceSub, Int.reduceBEq, Int.reduceBNe, reduceCtorEq] at hE
     exact ⟨_, _, S, hw, ⟨rP _, fun _ _ _ _ => rfl⟩, ZK (ts := []) (by rw [zY, if_neg hlt]) hE.symm (by first | exact e0 | rfl) (by first | exact e1 | rfl) ⟨r, by rw [<- ha']; exact hq⟩ (by rw [List.map_nil, rM]; exact hal)⟩
end
end Go.Idl.Lx
namespace Go.Idl.Lx
open Go Go.Idl Go.Idl.En
variable {F : ko}
structure FLex (F : ko) : Prop extends FMrk F where
 h8 : F 8 = some ir8
 h24 : F 24 = some jdz
 h36 : F 36 = some jeC
def zg (tx : List UInt8) : List Tok × Option (Nat × Nat) := zY tx (tx.length + 1) (skN false tx)
def ZJ (tx : List UInt8) : Tok := ⟨0, tx.length, 1 + nl tx, [], 0⟩
theorem KJ (tx : List UInt8) : ∀ m a, (zY tx m a).1.length <= m
 | 0, a => rP _
 | m + 1, a => by
   rw [zY]
   split
   . split
     . simp
     . have := KJ tx m; simp; exact this _
   . simp
section
variable {tx : List UInt8} {q al id : Nat}
theorem jbd (r : Bool) (tx : List UInt8) (er : IVal) : LP r tx tx.length er = LC (dn r) 0 (tb r) tx (tx.length : Int) ((1 + nl tx : Nat) : Int) er := by
 show LC _ _ _ _ _ ((1 + nl (tx.take tx.length) : Nat) : Int) _ = _
 rw [List.take_length]
def jeS (tx : List UInt8) (q al : Nat) (L : List IVal) (S1 : List IObj) : Prop := match (zg tx).2 with
 | none => (∃ r1, S1[q]? = some (.cells (LP r1 tx tx.length zz))) /\ S1[al]? = some (.cells [QU (L ++ ((zg tx).1 ++ [ZJ tx]).map Jh)])
 | some f => ∃ a', S1[q]? = some (.cells (LP true tx a' (flt f)))
set_option maxRecDepth 20000 in
theorem jfn (H : FLex F) (hl : tx.length <= 20000) (f : Nat -> Option (Nat × IVal)) (hf : f 5 = some (5, .ptr al 0)) (n1 : q ≠ al) (n2 : q ≠ id) (n3 : al ≠ id) {r : Bool} {S : List IObj} {C : Option Out} {L : List IVal} (hC : cfw F (.f 36) [.yl id, .pv true [.ptr q 0] 0] S = C) (hq : S[q]? = some (.cells (LP r tx 0 zz))) (hal : S[al]? = some (.cells [QU L])) (hid : S[id]? = some (.loop (jcC f))) (hL : L.length <= 10000) :
   ∃ S1 wr, C = some ⟨false, .tup [], S1, wr⟩ /\ Fl wr /\ S1.length = S.length /\ (∀ i, i < S.length -> i ≠ q -> i ≠ al -> S1[i]? = S[i]?) /\ jeS tx q al L S1 := by
 subst hC
 rw [cfw_of jeC H.h36, jw]
 obtain ⟨w1, r1, u1, g1⟩ := jbt H.toFSkp hl (Nat.zero_le _) hq
 rw [tS, List.drop_zero] at u1
 have hsk := Kr false tx
 simp only [jeC, hq, u1, jA, Option.toList, jq, nat, j6, jP, j0, jr, lc0, lc1, jE, jF, jG, jH, j7, j8, ju, jt, jv, zV, zS, jD, jS, jc, jh, jW, je, jl, jd, jx, jU, jj, ji, jp, jR, jy, jw, Ts.fill, jX, jV, jf, jY, jo, jm, jg, ja, getAll, stepCall, jn, unI, Opd.get, jC, tag, jz, jb, jQ, rv, bin, jZ, Nat.reduceAdd, Nat.reduceSub, Nat.reduceMul, Nat.reduceDiv, Nat.reduceMod, Nat.reducePow, Nat.reduceLT, Nat.reduceLeDiff, Nat.reduceEqDiff, Nat.reduceBEq, Nat.reduceBNe, reduceIte, Int.reduceEq, Int.reduceLT, Int.reduceLE, Int.reduceNeg, Int.reduceToNat, Int.reduceMul, Int.reduceAdd, Int.reduceSub, Int.reduceBEq, Int.reduceBNe, reduceCtorEq]
 generalize hE : evw F (ICode.loop zH) _ = R
 obtain ⟨f1, wr1, S1, gw, hkp, hend⟩ := jdX H.toFMrk hl f hf n1 n2 n3 (tx.length + 1) (skN false tx) r1 _ _ _ _ L hE (by omega) hsk (gs hq) (get_set hal n1) (get_set hid n2) (by omega) (by rfl) (by rfl) (by simpa using g1)
 have lq := jk hq
 have lal := jk hal
 have lid := jk hid
 have hlen : S.length <= S1.length := by simpa using hkp.1
 have hk : ∀ i, i < S.length -> i ≠ q -> i ≠ al -> S1[i]? = S[i]? := fun i hi h1 h2 => by
   rw [hkp.2 i (by simpa using hi) h1 h2, rA (fun e => h1 e.symm)]
 have tkg : ∀ (T : List IObj) (i : Nat), i < S.length -> (T.take S.length)[i]? = T[i]? := fun T i hi => by rw [tD, if_pos hi]
 unfold QW at hend
 simp only [jeS, zg]
 cases h2 : (zY tx (tx.length + 1) (skN false tx)).2 with
 | some ff =>
   rw [h2] at hend
   obtain ⟨rfl, a', gq⟩ := hend
   simp only [j5 gw, jA, Option.toList, jq, nat, j6, jP, j0, jr, lc0, lc1, jE, jF, jG, jH, j7, j8, ju, jt, jv, zV, zS, jD, jS, jc, jh, jW, je, jl, jd, jx, jU, jj, ji, jp, jR, jy, jw, Ts.fill, jX, jV, jf, jY, jo, jm, jg, ja, getAll, stepCall, jn, unI, Opd.get, jC, tag, jz, jb, jQ, rv, bin, jZ, Nat.reduceAdd, Nat.reduceSub, Nat.reduceMul, Nat.reduceDiv, Nat.reduceMod, Nat.reducePow, Nat.reduceLT, Nat.reduceLeDiff, Nat.reduceEqDiff, Nat.reduceBEq, Nat.reduceBNe, reduceIte, Int.reduceEq, Int.reduceLT, Int.reduceLE, Int.reduceNeg, Int.reduceToNat, Int.reduceMul, Int.reduceAdd, Int.reduceSub, Int.reduceBEq, Int.reduceBNe, reduceCtorEq]
   refine ⟨_, _, rfl, jO gw, by rw [tE]; omega, fun i hi h1 h2 => by rw [tkg _ i hi]; exact hk i hi h1 h2, a', by rw [tkg _ q lq]; exact gq⟩
 | none =>
   rw [h2] at hend
   obtain ⟨rfl, e0, e1, ⟨r2, gq⟩, gal⟩ := hend
   have gid : S1[id]? = some (.loop (jcC f)) := by rw [hk id lid (fun e => n2 e.symm) (fun e => n3 e.symm)]; exact hid
   have hlm := KJ tx (tx.length + 1) (skN false tx)
   have tl : tx.take tx.length = tx := List.take_length
   have gq : S1[q]? = some (.cells (LC (dn r2) 0 (tb r2) tx (tx.length : Int) ((1 + nl tx : Nat) : Int) zz)) := by rw [<- jbd]; exact gq
   obtain ⟨w5, u5, g5⟩ := round (F := F) (k := 0) (a := tx.length) (ln := 1 + nl tx) (t := []) (n := 0) al id f (L ++ (zY tx (tx.length + 1) (skN false tx)).1.map Jh) (by simp; omega) hf S1 gid gal n3
   have f5 : yT [.int .i64 0, .int .i64 0, .int .i64 0, .str [], .int .i64 0] [(0, 1, I 0), (1, 1, I tx.length), (2, 1, I ((1 + nl tx : Nat) : Int))] = some (TC 0 tx.length (1 + nl tx) [] 0) := rfl
   have tcu : (TC 0 tx.length (1 + nl tx) [] 0).map un1 = TC 0 tx.length (1 + nl tx) [] 0 := rfl
   simp only [ja2, e0, e1, gq, f5, u5, tC, tM, jA, Option.toList, jq, nat, j6, jP, j0, jr, lc0, lc1, jE, jF, jG, jH, j7, j8, ju, jt, jv, zV, zS, jD, jS, jc, jh, jW, je, jl, jd, jx, jU, jj, ji, jp, jR, jy, jw, Ts.fill, jX, jV, jf, jY, jo, jm, jg, ja, getAll, stepCall, jn, unI, Opd.get, jC, tag, jz, jb, jQ, rv, bin, jZ, Nat.reduceAdd, Nat.reduceSub, Nat.reduceMul, Nat.reduceDiv, Nat.reduceMod, Nat.reducePow, Nat.reduceLT, Nat.reduceLeDiff, Nat.reduceEqDiff, Nat.reduceBEq, Nat.reduceBNe, reduceIte, Int.reduceEq, Int.reduceLT, Int.reduceLE, Int.reduceNeg, Int.reduceToNat, Int.reduceMul, Int.reduceAdd, Int.reduceSub, Int.reduceBEq, Int.reduceBNe, reduceCtorEq]
   rw [j5 (jN g5 gw)]
   refine ⟨_, _, rfl, jO (jN g5 gw), ?_, ?_, ⟨r2, ?_⟩, ?_⟩
   . simp; omega
   . intro i hi h1 h2
     rw [tkg _ i hi, rA (fun e => h2 e.symm)]; exact hk i hi h1 h2
   . rw [tkg _ q lq, get_set gq (fun e => n1 e.symm), jbd]
   . rw [tkg _ al lal, List.map_append, rH (jk gal)]; rfl
end
end Go.Idl.Lx
namespace Go.Idl.Lx
open Go Go.Idl Go.Idl.En
variable {F : ko}
def unF (f : Nat -> Option (Nat × IVal)) : Nat -> Option (Nat × IVal) := fun k => match f k with | some (i, v) => some (i, un3 v) | none => none
theorem jfX (nv m d : Nat) (ds : List Nat) (f : Nat -> Option (Nat × IVal)) : ({ E nv m d ds f with t := (E nv m d ds f).t.un, ds := [] } : Ts) = E nv m d [] (unF f) := by
 show Ts.mk nv m (Tm.un (Tm.ofF d f)) [] = _
 rw [Tm.un_ofF]; rfl
theorem Xs (x : Opd) (ps : List Nat) (a b : ICode) (nv m d : Nat) (f : Nat -> Option (Nat × IVal)) (σ : List IObj) (wr : List (Nat × Bool)) : evw F (.rangeF x ps a b) ⟨E nv m d [] f, σ, wr⟩ = match x.get (E nv m d [] f) with
   | some (.fn (.func g) us ws, _) =>
     match cfw F (.f g) (us ++ [.yl (σ.length + 1)] ++ ws) (σ ++ [.defr, .loop ⟨0, E nv m d [] (unF f), ps, a, b, none, .none⟩]) with
     | some ⟨false, _, σ', wr'⟩ => match σ'[σ.length + 1]? with
       | some (.loop l) => if l.st = 1 then none else
         match l.pend with
         | none => some (.normal, ⟨E nv m d [σ.length] f, σ'.set (σ.length + 1) .dead, (σ.length + 1, false) :: (wr' ++ wr)⟩)
         | some x => if Kg x then some (x, ⟨E nv m d [σ.length] f, σ'.set (σ.length + 1) .dead, (σ.length + 1, false) :: (wr' ++ wr)⟩) else none
       | _ => none
     | _ => none
   | _ => none := by
 rw [vx]
 simp only [evG, jfX]
 rfl
def Z7 (tx : List UInt8) : List IVal := if 20000 < tx.length then [.sl 5 true [], flt (4, 20000)] else match (zg tx).2 with
 | some f => [.sl 5 true [], flt f]
 | none => [.sl 0 false (((zg tx).1 ++ [ZJ tx]).map Jh), .prim .nilIface]
section
variable {tx : List UInt8} {σ : List IObj}
theorem jb9 (d st : Int) (f : Nat -> Nat) (a ln : Int) (er : IVal) (h : er.isCell = true) : (LC d st f tx a ln er).all IVal.isCell = true := by
 unfold LC Xd
 simp only [List.all_cons, List.all_append, List.all_map, List.all_nil, h, isCell_int, isCell_str, Bool.true_and, Bool.and_true, rD]
 intro i _; rfl
set_option maxRecDepth 100000 in
theorem jeZ (tx : List UInt8) (zs : List IVal) (hz : zs = LC 0 0 (fun _ => 0) [] 0 0 (.prim .nilIface)) : yT zs [(259, 1, .str tx), (261, 1, I 1)] = some (LP false tx 0 zz) := by
 subst hz
 simp only [yT, cells_str, cells_int, jr, tB, List.length_nil, List.all_cons, List.all_nil, isCell_str, isCell_int, jb, jt, Bool.and_true]
 have : (LC 0 0 (fun _ => 0) [] 0 0 (.prim .nilIface)).set 259 (.str tx) = LC 0 0 (fun _ => 0) tx 0 0 (.prim .nilIface) := VV 0 0 (fun _ => 0) [] 0 0 (.prim .nilIface) 0 (.str tx)
 rw [if_pos (by decide), this, jt]
 simp only [jr, yT]
 rw [if_pos (by decide)]
 rfl
theorem jfm (h : F 24 = some jdz) {q : Nat} : cfw F (.f 24) [.ptr q 0] σ = some ⟨false, .fn (.func 36) [] [.pv true [.ptr q 0] 0], σ, []⟩ := by
 rw [cfw_of jdz h, jw]
 simp only [jdz, ext, jA, Option.toList, jq, nat, j6, jP, j0, jr, lc0, lc1, jE, jF, jG, jH, j7, j8, ju, jt, jv, zV, zS, jD, jS, jc, jh, jW, je, jl, jd, jx, jU, jj, ji, jp, jR, jy, jw, Ts.fill, jX, jV, jf, jY, jo, jm, jg, ja, getAll, stepCall, jn, unI, Opd.get, jC, tag, jz, jb, jQ, rv, bin, jZ, Nat.reduceAdd, Nat.reduceSub, Nat.reduceMul, Nat.reduceDiv, Nat.reduceMod, Nat.reducePow, Nat.reduceLT, Nat.reduceLeDiff, Nat.reduceEqDiff, Nat.reduceBEq, Nat.reduceBNe, reduceIte, Int.reduceEq, Int.reduceLT, Int.reduceLE, Int.reduceNeg, Int.reduceToNat, Int.reduceMul, Int.reduceAdd, Int.reduceSub, Int.reduceBEq, Int.reduceBNe, reduceCtorEq]
theorem je2 {x y z w : IObj} : (σ ++ [x, y, z, w])[σ.length]? = some x := by rw [get_app0]; rfl
theorem je3 {x y z w : IObj} : (σ ++ [x, y, z, w])[σ.length + 1]? = some y := by rw [get_app]; rfl
theorem je4 {x y z w : IObj} : (σ ++ [x, y, z, w])[σ.length + 2]? = some z := by rw [get_app]; rfl
theorem jds {x y z w : IObj} : (σ ++ [x, y, z, w])[σ.length + 2 + 1]? = some w := by rw [Nat.add_assoc, get_app]; rfl
set_option maxRecDepth 100000 in
theorem jcY (H : FLex F) : ∃ wr, cfw F (.f 8) [.str tx] σ = some ⟨false, .tup (Z7 tx), σ, wr⟩ /\ Fl wr := by
 rw [cfw_of ir8 H.h8, jw, Z7]
 by_cases hl : 20000 < tx.length
 . have d1 : decide (((tx.length : Nat) : Int) > 20000) = true := rB (by omega)
   have f2 : yT [.int .i64 0, .int .i64 0] [(0, 1, I 4), (1, 1, I 20000)] = some [I 4, I 20000] := rfl
   rw [if_pos hl]
   simp only [ir8, d1, f2, ext, tC, tM, jA, Option.toList, jq, nat, j6, jP, j0, jr, lc0, lc1, jE, jF, jG, jH, j7, j8, ju, jt, jv, zV, zS, jD, jS, jc, jh, jW, je, jl, jd, jx, jU, jj, ji, jp, jR, jy, jw, Ts.fill, jX, jV, jf, jY, jo, jm, jg, ja, getAll, stepCall, jn, unI, Opd.get, jC, tag, jz, jb, jQ, rv, bin, jZ, Nat.reduceAdd, Nat.reduceSub, Nat.reduceMul, Nat.reduceDiv, Nat.reduceMod, Nat.reducePow, Nat.reduceLT, Nat.reduceLeDiff, Nat.reduceEqDiff, Nat.reduceBEq, Nat.reduceBNe, reduceIte, Int.reduceEq, Int.reduceLT, Int.reduceLE, Int.reduceNeg, Int.reduceToNat, Int.reduceMul, Int.reduceAdd, Int.reduceSub, Int.reduceBEq, Int.reduceBNe, reduceCtorEq]
   exact ⟨_, rfl, rfl⟩
 . have d1 : decide (((tx.length : Nat) : Int) > 20000) = false := rE (by omega)
   rw [if_neg hl]
   simp only [ir8, d1, tC, tM, jA, Option.toList, jq, nat, j6, jP, j0, jr, lc0, lc1, jE, jF, jG, jH, j7, j8, ju, jt, jv, zV, zS, jD, jS, jc, jh, jW, je, jl, jd, jx, jU, jj, ji, jp, jR, jy, jw, Ts.fill, jX, jV, jf, jY, jo, jm, jg, ja, getAll, stepCall, jn, unI, Opd.get, jC, tag, jz, jb, jQ, rv, bin, jZ, Nat.reduceAdd, Nat.reduceSub, Nat.reduceMul, Nat.reduceDiv, Nat.reduceMod, Nat.reducePow, Nat.reduceLT, Nat.reduceLeDiff, Nat.reduceEqDiff, Nat.reduceBEq, Nat.reduceBNe, reduceIte, Int.reduceEq, Int.reduceLT, Int.reduceLE, Int.reduceNeg, Int.reduceToNat, Int.reduceMul, Int.reduceAdd, Int.reduceSub, Int.reduceBEq, Int.reduceBNe, reduceCtorEq]
   rw [jeZ tx]
   rotate_left
   . rfl
   have ca := jb9 (tx := tx) (dn false) 0 (tb false) ((0 : Nat) : Int) ((1 + nl (tx.take 0) : Nat) : Int) zz (by rfl)
   have lc1' : (List.map un1 (LP false tx 0 zz)) = LP false tx 0 zz := by
     unfold LP LC Xd; simp only [rR, List.map_append, List.map_map, List.map_nil]; rfl
   have u1 := fun τ => jfm H.h24 (σ := τ) (q := σ.length)
   simp only [ca, lc1', u1, un2_agg, cells_agg, Xs, jA, Option.toList, jq, nat, j6, jP, j0, jr, lc0, lc1, jE, jF, jG, jH, j7, j8, ju, jt, jv, zV, zS, jD, jS, jc, jh, jW, je, jl, jd, jx, jU, jj, ji, jp, jR, jy, jw, Ts.fill, jX, jV, jf, jY, jo, jm, jg, ja, getAll, stepCall, jn, unI, Opd.get, jC, tag, jz, jb, jQ, rv, bin, jZ, Nat.reduceAdd, Nat.reduceSub, Nat.reduceMul, Nat.reduceDiv, Nat.reduceMod, Nat.reducePow, Nat.reduceLT, Nat.reduceLeDiff, Nat.reduceEqDiff, Nat.reduceBEq, Nat.reduceBNe, reduceIte, Int.reduceEq, Int.reduceLT, Int.reduceLE, Int.reduceNeg, Int.reduceToNat, Int.reduceMul, Int.reduceAdd, Int.reduceSub, Int.reduceBEq, Int.reduceBNe, reduceCtorEq]
   generalize hC : cfw F (.f 36) _ _ = C
   obtain ⟨S1, wr, rfl, gw, hlen, hk, ht⟩ := jfn (tx := tx) (al := σ.length + 1) (r := false) (L := []) H (by omega) _ (by rfl) (by omega) (by omega) (by omega) hC je2 je3 jds (by simp)
   have hl4 : S1.length = σ.length + 4 := by rw [hlen]; simp
   simp only [rF, tB, List.length_nil] at hk
   obtain ⟨l, gl, l0, lp⟩ : ∃ l, S1[σ.length + 2 + 1]? = some (.loop l) /\ l.st = 0 /\ l.pend = none := by
     exact ⟨_, (hk _ (by omega) (by omega) (by omega)).trans jds, rfl, rfl⟩
   have gd : S1[σ.length + 2]? = some .defr := by rw [hk _ (by omega) (by omega) (by omega)]; exact je4
   have gd2 := get_set (x := .dead) gd (j := σ.length + 2 + 1) (by omega)
   have tk : ((S1.set (σ.length + 2 + 1) .dead).set (σ.length + 2) .dead).take σ.length = σ := by
     apply List.ext_getElem?
     intro i
     by_cases hi : i < σ.length
     . rw [tD, if_pos hi, rA (by omega), rA (by omega), hk i (by omega) (by omega) (by omega), List.getElem?_append_left hi]
     . rw [rV (by simp; omega), rV (by omega)]
   unfold jeS at ht
   cases h2 : (zg tx).2 with
   | some ff =>
     rw [h2] at ht
     obtain ⟨a', gq⟩ := ht
     have gq2 := get_set (x := .dead) gq (j := σ.length + 2 + 1) (by omega)
     simp only [gl, l0, lp, gq2, gd2, tk, jA, Option.toList, jq, nat, j6, jP, j0, jr, lc0, lc1, jE, jF, jG, jH, j7, j8, ju, jt, jv, zV, zS, jD, jS, jc, jh, jW, je, jl, jd, jx, jU, jj, ji, jp, jR, jy, jw, Ts.fill, jX, jV, jf, jY, jo, jm, jg, ja, getAll, stepCall, jn, unI, Opd.get, jC, tag, jz, jb, jQ, rv, bin, jZ, Nat.reduceAdd, Nat.reduceSub, Nat.reduceMul, Nat.reduceDiv, Nat.reduceMod, Nat.reducePow, Nat.reduceLT, Nat.reduceLeDiff, Nat.reduceEqDiff, Nat.reduceBEq, Nat.reduceBNe, reduceIte, Int.reduceEq, Int.reduceLT, Int.reduceLE, Int.reduceNeg, Int.reduceToNat, Int.reduceMul, Int.reduceAdd, Int.reduceSub, Int.reduceBEq, Int.reduceBNe, reduceCtorEq]
     rw [j5 gw]
     refine ⟨_, rfl, ?_⟩
     repeat (first | exact jO gw | apply VR | apply KE)
   | none =>
     rw [h2] at ht
     obtain ⟨⟨r1, gq⟩, ga⟩ := ht
     have gq2 := get_set (x := .dead) gq (j := σ.length + 2 + 1) (by omega)
     have ga2 := get_set (x := .dead) ga (j := σ.length + 2 + 1) (by omega)
     have nn : isNil 1 (un2 zz) = some true := rfl
     have lv : QU ([] ++ ((zg tx).1 ++ [ZJ tx]).map Jh) = .sl 5 false (((zg tx).1 ++ [ZJ tx]).map Jh) := by
       rw [tJ]
       cases (zg tx).1 <;> rfl
     rw [lv] at ga2
     have nr : (((zg tx).1 ++ [ZJ tx]).map Jh).isEmpty = false := by cases (zg tx).1 <;> rfl
     simp only [gl, l0, lp, gq2, ga2, gd2, tk, nn, jA, Option.toList, jq, nat, j6, jP, j0, jr, lc0, lc1, jE, jF, jG, jH, j7, j8, ju, jt, jv, zV, zS, jD, jS, jc, jh, jW, je, jl, jd, jx, jU, jj, ji, jp, jR, jy, jw, Ts.fill, jX, jV, jf, jY, jo, jm, jg, ja, getAll, stepCall, jn, unI, Opd.get, jC, tag, jz, jb, jQ, rv, bin, jZ, Nat.reduceAdd, Nat.reduceSub, Nat.reduceMul, Nat.reduceDiv, Nat.reduceMod, Nat.reducePow, Nat.reduceLT, Nat.reduceLeDiff, Nat.reduceEqDiff, Nat.reduceBEq, Nat.reduceBNe, reduceIte, Int.reduceEq, Int.reduceLT, Int.reduceLE, Int.reduceNeg, Int.reduceToNat, Int.reduceMul, Int.reduceAdd, Int.reduceSub, Int.reduceBEq, Int.reduceBNe, reduceCtorEq]
     rw [j5 gw]
     refine ⟨_, rfl, ?_⟩
     repeat (first | exact jO gw | apply VR | apply KE)
end
end Go.Idl.Lx
namespace Go.Idl.Lx
open Go Go.Idl Go.Idl.En
variable {F : ko}
structure Bd (n : Nat) (σ S : List IObj) (s : List UInt8) : Prop where
 len : n + 2 <= S.length
 old : ∀ i, i < n -> S[i]? = σ[i]?
 tg : S[n + 1]? = some (.ty 48 2 n)
 bx : ∃ ad bf, S[n]? = some (.cells [ad, bf]) /\ (ad = .prim (.pointer none) \/ ad = .ptr n 0) /\ ((s = [] /\ bf = .sl 1 true []) \/ (s ≠ [] /\ ∃ id, n + 2 <= id /\ bf = .rs 1 id 0 s.length /\ S[id]? = some (.cells (s.map fun c => .int .u8 c.toNat)) /\ S[id + 1]? = some (.ty 5 0 id)))
structure FBld (F : ko) : Prop where
 h20 : F 20 = some jdw
 h21 : F 21 = some jdx
 h35 : F 35 = some jc4
def Ge (n : Nat) (wr : List (Nat × Bool)) : Prop := ∀ p ∈ wr, n <= p.1
theorem jbP {n : Nat} {wr : List (Nat × Bool)} (h : Ge n wr) : wr.all (fun p => !p.2 || decide (n <= p.1)) = true := by
 rw [rD]; intro p hp; simp [h p hp]
theorem Ju {n : Nat} {wr : List (Nat × Bool)} (h : Ge n wr) (f : Nat × Bool -> Bool) : Ge n (wr.filter f) := fun p hp => h p (List.mem_filter.mp hp).1
theorem jbO {n : Nat} {wr : List (Nat × Bool)} (h : Ge n wr) : wr.filter (fun p => decide (p.1 < n)) = [] := by
 rw [List.filter_eq_nil_iff]; intro p hp; have := h p hp; simp; omega
theorem Q6 {n q : Nat} {b : Bool} {a : List (Nat × Bool)} (h : n <= q) (h2 : Ge n a) : Ge n ((q, b) :: a) := fun p hp => by
 rcases List.mem_cons.1 hp with rfl | hp
 . exact h
 . exact h2 p hp
theorem Yq {n : Nat} {c : Prop} [Decidable c] {a b : List (Nat × Bool)} (h : Ge n a) (h2 : Ge n b) : Ge n (if c then a else b) := by split <;> assumption
theorem toB (s : List UInt8) : qO (s.map fun c => IVal.int .u8 c.toNat) = some s := by
 induction s with
 | nil => rfl
 | cons c s ih => simp only [rR, qO, ih]; congr 1; simp
section
variable {n : Nat} {σ S : List IObj} {s : List UInt8}
set_option maxRecDepth 20000 in
theorem jeV (h : F 35 = some jc4) {ad bf : IVal} (hb : S[n]? = some (.cells [ad, bf])) (hg : S[n + 1]? = some (.ty 48 2 n)) (ha : ad = .prim (.pointer none) \/ ad = .ptr n 0) :
   ∃ wr, cfw F (.f 35) [.ptr n 0] S = some ⟨false, .tup [], S.set n (.cells [.ptr n 0, bf]), wr⟩ /\ Ge n wr := by
 rw [cfw_of jc4 h, jw]
 have lb := jk hb
 rcases ha with rfl | rfl
 . have tk : (S.set n (.cells [.ptr n 0, bf])).take S.length = S.set n (.cells [.ptr n 0, bf]) := take_set
   have x1 : nr1 (.ptr n 0) = false := rfl
   have hn : ¬ S.length <= n := by omega
   have tf : (true != false) = true := rfl
   have n20 : (2 : Nat) ≠ 0 := by decide
   simp only [jc4, hb, hg, tk, x1, tf, ne_eq, n20, hn, jA, Option.toList, jq, nat, j6, jP, j0, jr, lc0, lc1, jE, jF, jG, jH, j7, j8, ju, jt, jv, zV, zS, jD, jS, jc, jh, jW, je, jl, jd, jx, jU, jj, ji, jp, jR, jy, jw, Ts.fill, jX, jV, jf, jY, jo, jm, jg, ja, getAll, stepCall, jn, unI, Opd.get, jC, tag, jz, jb, jQ, rv, bin, jZ, Nat.reduceAdd, Nat.reduceSub, Nat.reduceMul, Nat.reduceDiv, Nat.reduceMod, Nat.reducePow, Nat.reduceLT, Nat.reduceLeDiff, Nat.reduceEqDiff, Nat.reduceBEq, Nat.reduceBNe, reduceIte, Int.reduceEq, Int.reduceLT, Int.reduceLE, Int.reduceNeg, Int.reduceToNat, Int.reduceMul, Int.reduceAdd, Int.reduceSub, Int.reduceBEq, Int.reduceBNe, reduceCtorEq]
   refine ⟨_, rfl, ?_⟩
   intro p hp
   split at hp
   . simp at hp; subst hp; exact rP _
   . simp at hp
 . simp only [jc4, hb, jA, Option.toList, jq, nat, j6, jP, j0, jr, lc0, lc1, jE, jF, jG, jH, j7, j8, ju, jt, jv, zV, zS, jD, jS, jc, jh, jW, je, jl, jd, jx, jU, jj, ji, jp, jR, jy, jw, Ts.fill, jX, jV, jf, jY, jo, jm, jg, ja, getAll, stepCall, jn, unI, Opd.get, jC, tag, jz, jb, jQ, rv, bin, jZ, Nat.reduceAdd, Nat.reduceSub, Nat.reduceMul, Nat.reduceDiv, Nat.reduceMod, Nat.reducePow, Nat.reduceLT, Nat.reduceLeDiff, Nat.reduceEqDiff, Nat.reduceBEq, Nat.reduceBNe, reduceIte, Int.reduceEq, Int.reduceLT, Int.reduceLE, Int.reduceNeg, Int.reduceToNat, Int.reduceMul, Int.reduceAdd, Int.reduceSub, Int.reduceBEq, Int.reduceBNe, reduceCtorEq]
   rw [vo hb]
   exact ⟨_, rfl, by intro p hp; simp at hp⟩
set_option maxRecDepth 20000 in
theorem jcX (H : FBld F) {t : List UInt8} (ht : t ≠ []) (hl : s.length <= 1000000) (htl : t.length <= 1000000) (hB : Bd n σ S s) :
   ∃ S1 wr, cfw F (.f 20) [.ptr n 0, .str t] S = some ⟨false, .tup [I t.length, .prim .nilIface], S1, wr⟩ /\ Ge n wr /\ Bd n σ S1 (s ++ t) := by
 rw [cfw_of jdw H.h20, jw]
 obtain ⟨ad, bf, hb, had, hbf⟩ := hB.bx
 obtain ⟨w1, u1, g1⟩ := jeV H.h35 hb hB.tg had
 have lb := jk hb
 have hlen := hB.len
 have gb := gs hb (y := .cells [.ptr n 0, bf])
 have t0 : t.length ≠ 0 := fun e => ht (List.length_eq_zero_iff.1 e)
 have tl : t.length <= 1099511627776 := by omega
 have hne : s ++ t ≠ [] := by simp [ht]
 rcases hbf with ⟨rfl, rfl⟩ | ⟨hs, id, hid, rfl, hc, htg⟩
 . have s2 : ∀ (x y : IObj) (l : List IObj), (S.set n x ++ l).set n y = S.set n y ++ l := fun x y l => by rw [vW (by simpa using lb), r7]
   have g2 : ∀ (x : IObj) (l : List IObj), (S.set n x ++ l)[n]? = some x := fun x l => by rw [List.getElem?_append_left (by simpa using lb), rH lb]
   have x1 : nr1 (.rs 1 S.length 0 t.length) = false := rfl
   have hn : ¬ S.length <= n := by omega
   have dn : decide (S.length <= n) = false := rE hn
   simp only [jdw, u1, gb, t0, tl, s2, g2, x1, dn, List.length_set, jA, Option.toList, jq, nat, j6, jP, j0, jr, lc0, lc1, jE, jF, jG, jH, j7, j8, ju, jt, jv, zV, zS, jD, jS, jc, jh, jW, je, jl, jd, jx, jU, jj, ji, jp, jR, jy, jw, Ts.fill, jX, jV, jf, jY, jo, jm, jg, ja, getAll, stepCall, jn, unI, Opd.get, jC, tag, jz, jb, jQ, rv, bin, jZ, Nat.reduceAdd, Nat.reduceSub, Nat.reduceMul, Nat.reduceDiv, Nat.reduceMod, Nat.reducePow, Nat.reduceLT, Nat.reduceLeDiff, Nat.reduceEqDiff, Nat.reduceBEq, Nat.reduceBNe, reduceIte, Int.reduceEq, Int.reduceLT, Int.reduceLE, Int.reduceNeg, Int.reduceToNat, Int.reduceMul, Int.reduceAdd, Int.reduceSub, Int.reduceBEq, Int.reduceBNe, reduceCtorEq]
   refine ⟨_, _, rfl, ?_, ?_, ?_, ?_, ?_⟩
   . repeat (first | exact Ju g1 _ | apply Yq | apply Q6 (by omega))
   . simp; omega
   . intro i hi
     rw [List.getElem?_append_left (by simp; omega), rA (by omega)]; exact hB.old i hi
   . rw [List.getElem?_append_left (by simp; omega), rA (by omega)]; exact hB.tg
   . refine ⟨_, _, g2 _ _, Or.inr rfl, Or.inr ⟨hne, S.length, hlen, rfl, ?_, ?_⟩⟩
     . rw [rS (by simp)]; simp
     . rw [rS (by simp)]; simp
 . have hid2 : id ≠ n := by omega
   have hid3 : id + 1 ≠ n := by omega
   have lid := jk hc
   have lid1 := jk htg
   have c1 := get_set (x := .cells [.ptr n 0, .rs 1 id 0 s.length]) hc (j := n) (by omega)
   have c2 := get_set (x := .cells [.ptr n 0, .rs 1 id 0 s.length]) htg (j := n) (by omega)
   have s2 : ∀ (x y z : IObj) (l : List IObj), ((S.set n x).set id z ++ l).set n y = (S.set n y).set id z ++ l := fun x y z l => by rw [vW (by simpa using lb), List.set_comm _ _ hid2, r7]
   have g2 : ∀ (x z : IObj) (l : List IObj), ((S.set n x).set id z ++ l)[n]? = some x := fun x z l => by rw [List.getElem?_append_left (by simpa using lb), rA hid2, rH lb]
   have x1 : nr1 (.rs 1 S.length 0 (s.length + t.length)) = false := rfl
   have dn : decide (S.length <= n) = false := rE (by omega)
   have l1 : s.length + t.length <= 1099511627776 := by omega
   have tk : (s.map fun c => IVal.int .u8 c.toNat).take s.length = s.map fun c => IVal.int .u8 c.toNat := rU (by simp)
   simp only [jdw, u1, gb, c1, c2, t0, tl, l1, tk, s2, g2, x1, dn, List.length_set, jA, Option.toList, jq, nat, j6, jP, j0, jr, lc0, lc1, jE, jF, jG, jH, j7, j8, ju, jt, jv, zV, zS, jD, jS, jc, jh, jW, je, jl, jd, jx, jU, jj, ji, jp, jR, jy, jw, Ts.fill, jX, jV, jf, jY, jo, jm, jg, ja, getAll, stepCall, jn, unI, Opd.get, jC, tag, jz, jb, jQ, rv, bin, jZ, Nat.reduceAdd, Nat.reduceSub, Nat.reduceMul, Nat.reduceDiv, Nat.reduceMod, Nat.reducePow, Nat.reduceLT, Nat.reduceLeDiff, Nat.reduceEqDiff, Nat.reduceBEq, Nat.reduceBNe, reduceIte, Int.reduceEq, Int.reduceLT, Int.reduceLE, Int.reduceNeg, Int.reduceToNat, Int.reduceMul, Int.reduceAdd, Int.reduceSub, Int.reduceBEq, Int.reduceBNe, reduceCtorEq]
   refine ⟨_, _, rfl, ?_, ?_, ?_, ?_, ?_⟩
   . repeat (first | exact Ju g1 _ | apply Yq | apply Q6 (by omega))
   . simp; omega
   . intro i hi
     rw [List.getElem?_append_left (by simp; omega), rA (by omega), rA (by omega)]; exact hB.old i hi
   . rw [List.getElem?_append_left (by simp; omega), rA (by omega), rA (by omega)]; exact hB.tg
   . refine ⟨_, _, g2 _ _ _, Or.inr rfl, Or.inr ⟨hne, S.length, hlen, by rw [rF], ?_, ?_⟩⟩
     . rw [rS (by simp)]; simp
     . rw [rS (by simp)]; simp
end
end Go.Idl.Lx
namespace Go.Idl.Lx
open Go Go.Idl Go.Idl.En
variable {F : ko}
section
variable {n : Nat} {σ S : List IObj} {s : List UInt8}
set_option maxRecDepth 20000 in
theorem jaQ (H : FBld F) (hl : s.length <= 1000000) (hB : Bd n σ S s) :
   ∃ S1 wr, cfw F (.f 21) [.ptr n 0] S = some ⟨false, .str s, S1, wr⟩ /\ Ge n wr /\ S1.length = S.length /\ ∀ i, i < n -> S1[i]? = σ[i]? := by
 rw [cfw_of jdx H.h21, jw]
 obtain ⟨ad, bf, hb, had, hbf⟩ := hB.bx
 have lb := jk hb
 have dq : decide (n < S.length) = true := rB lb
 rcases hbf with ⟨rfl, rfl⟩ | ⟨hs, id, hid, rfl, hc, htg⟩
 . simp only [jdx, hb, dq, jA, Option.toList, jq, nat, j6, jP, j0, jr, lc0, lc1, jE, jF, jG, jH, j7, j8, ju, jt, jv, zV, zS, jD, jS, jc, jh, jW, je, jl, jd, jx, jU, jj, ji, jp, jR, jy, jw, Ts.fill, jX, jV, jf, jY, jo, jm, jg, ja, getAll, stepCall, jn, unI, Opd.get, jC, tag, jz, jb, jQ, rv, bin, jZ, Nat.reduceAdd, Nat.reduceSub, Nat.reduceMul, Nat.reduceDiv, Nat.reduceMod, Nat.reducePow, Nat.reduceLT, Nat.reduceLeDiff, Nat.reduceEqDiff, Nat.reduceBEq, Nat.reduceBNe, reduceIte, Int.reduceEq, Int.reduceLT, Int.reduceLE, Int.reduceNeg, Int.reduceToNat, Int.reduceMul, Int.reduceAdd, Int.reduceSub, Int.reduceBEq, Int.reduceBNe, reduceCtorEq]
   exact ⟨_, _, rfl, by intro p hp; simp at hp, rfl, hB.old⟩
 . have s0 : s.length ≠ 0 := fun e => hs (List.length_eq_zero_iff.1 e)
   have s1 : 0 < s.length := by omega
   have s2 : (0 : Int) < (s.length : Int) := by omega
   have s3 : (s.length : Int) <= 1099511627776 := by omega
   have tk : (s.map fun c => IVal.int .u8 c.toNat).take s.length = s.map fun c => IVal.int .u8 c.toNat := rU (by simp)
   simp only [jdx, hb, hc, htg, s0, s1, s2, s3, tk, toB, dq, rI, take_set, jA, Option.toList, jq, nat, j6, jP, j0, jr, lc0, lc1, jE, jF, jG, jH, j7, j8, ju, jt, jv, zV, zS, jD, jS, jc, jh, jW, je, jl, jd, jx, jU, jj, ji, jp, jR, jy, jw, Ts.fill, jX, jV, jf, jY, jo, jm, jg, ja, getAll, stepCall, jn, unI, Opd.get, jC, tag, jz, jb, jQ, rv, bin, jZ, Nat.reduceAdd, Nat.reduceSub, Nat.reduceMul, Nat.reduceDiv, Nat.reduceMod, Nat.reducePow, Nat.reduceLT, Nat.reduceLeDiff, Nat.reduceEqDiff, Nat.reduceBEq, Nat.reduceBNe, reduceIte, Int.reduceEq, Int.reduceLT, Int.reduceLE, Int.reduceNeg, Int.reduceToNat, Int.reduceMul, Int.reduceAdd, Int.reduceSub, Int.reduceBEq, Int.reduceBNe, reduceCtorEq]
   refine ⟨_, _, rfl, ?_, by simp, ?_⟩
   . have g1 : Ge n [] := by intro p hp; simp at hp
     repeat (first | exact Ju g1 _ | exact g1 | apply Yq | apply Q6 (by omega))
   . intro i hi
     rw [rA (by omega)]; exact hB.old i hi
def pcs : List (List UInt8) := [[120], [119, 104, 105, 108, 101], [95, 97, 57], [119, 49, 54], [48], [49, 50], [48, 120], [48, 120, 49, 102], [52, 50, 57, 52, 57, 54, 55, 50, 57, 53], [52, 50, 57, 52, 57, 54, 55, 50, 57, 54], [97, 98, 99, 100, 101, 102, 103, 104, 105, 106, 107, 108, 109, 110, 111, 112], [60], [60, 60], [62], [61], [61, 61], [33], [33, 61], [47], [47, 47], [123], [125], [40], [41], [91], [93], [59], [58], [44], [46], [43], [45], [42], [37], [38], [94], [124], [126], [32], [32], [9], [10], [36], [0], [255], [48, 88, 49], [57, 122], [47, 47, 32, 101, 110, 100, 10]]
set_option maxRecDepth 100000 in
theorem jam (h : F 25 = some jdA) : cfw F (.f 25) [] σ = some ⟨false, .sl 1 false (pcs.map .str), σ, []⟩ := by
 rw [cfw_of jdA h, jw]
 simp only [jdA, ext, jA, Option.toList, jq, nat, j6, jP, j0, jr, lc0, lc1, jE, jF, jG, jH, j7, j8, ju, jt, jv, zV, zS, jD, jS, jc, jh, jW, je, jl, jd, jx, jU, jj, ji, jp, jR, jy, jw, Ts.fill, jX, jV, jf, jY, jo, jm, jg, ja, getAll, stepCall, jn, unI, Opd.get, jC, tag, jz, jb, jQ, rv, bin, jZ, Nat.reduceAdd, Nat.reduceSub, Nat.reduceMul, Nat.reduceDiv, Nat.reduceMod, Nat.reducePow, Nat.reduceLT, Nat.reduceLeDiff, Nat.reduceEqDiff, Nat.reduceBEq, Nat.reduceBNe, reduceIte, Int.reduceEq, Int.reduceLT, Int.reduceLE, Int.reduceNeg, Int.reduceToNat, Int.reduceMul, Int.reduceAdd, Int.reduceSub, Int.reduceBEq, Int.reduceBNe, reduceCtorEq]
 rfl
def pc (b : Nat) : List UInt8 := (pcs[b % 48]?).getD []
theorem jbq (b : Nat) : pcs[b % 48]? = some (pc b) := by
 have h : b % 48 < pcs.length := Nat.mod_lt _ (by decide)
 rw [pc, rG h]; rfl
theorem jek : ∀ p ∈ pcs, p ≠ [] /\ p.length <= 16 := by decide
theorem jej (b : Nat) : pc b ≠ [] /\ (pc b).length <= 16 := jek _ (List.mem_of_getElem? (jbq b))
def mdS (l : List Nat) : List UInt8 := (l.take 120).flatMap pc
theorem jcf (l : List Nat) : (mdS l).length <= 1920 := by
 have : ∀ (l : List Nat), (l.flatMap pc).length <= l.length * 16 := by
   intro l
   induction l with
   | nil => simp
   | cons b l ih => rw [rO, rF, tB]; have := (jej b).2; omega
 have h := this (l.take 120)
 have h2 : (l.take 120).length <= 120 := by rw [tE]; omega
 rw [mdS]; omega
structure FMade (F : ko) : Prop extends FBld F where
 h9 : F 9 = some ir9
 h25 : F 25 = some jdA
set_option maxRecDepth 20000 in
theorem jfc (H : FMade F) {l : List Nat} {o : Nat} {r : Bool} (hb : ∀ b ∈ l, b < 256) : ∀ (m i : Nat) (f0 : Nat -> Option (Nat × IVal)) (S : List IObj) (wr : List (Nat × Bool)) (R : Option (IExit × St)), evw F (.loop yL) ⟨E 6 12 5 [] f0, S, wr⟩ = R -> i <= 120 -> 120 - i <= m -> i <= l.length -> Bd n σ S ((l.take i).flatMap pc) -> f0 0 = some (0, .sl o r (l.map B)) -> f0 3 = some (3, .ptr n 0) -> f0 4 = some (4, .sl 1 false (pcs.map .str)) -> f0 5 = some (5, I i) -> Ge n wr ->
   ∃ f1 S1 wr1, R = some (.exit 0, ⟨E 6 12 5 [] (base f1), S1, wr1⟩) /\ Ge n wr1 /\ Bd n σ S1 (mdS l) /\ f1 3 = some (3, .ptr n 0) := by
 intro m
 induction m with
 | zero =>
   intro i f0 S wr R hE hi hm hil hB e0 e3 e4 e5 hw
   have hi : i = 120 := by omega
   subst hi
   have d2 : decide ((120 : Int) < 120) = false := rfl
   change evw F (.loop yL) ⟨E 6 12 5 [] (base f0), S, wr⟩ = R at hE
   rw [ka] at hE
   cases d1 : decide ((120 : Int) < ((l.length : Nat) : Int)) with
   | true =>
     simp only [yL, e0, e3, e4, e5, d1, d2, jl, jA, Option.toList, jq, nat, j6, jP, j0, jr, lc0, lc1, jE, jF, jG, jH, j7, j8, ju, jt, jv, zV, zS, jD, jS, jc, jh, jW, je, jd, jx, jU, jj, ji, jp, jR, jy, jw, Ts.fill, jX, jV, jf, jY, jo, jm, jg, ja, getAll, stepCall, jn, unI, Opd.get, jC, tag, jz, jb, jQ, rv, bin, jZ, Nat.reduceAdd, Nat.reduceSub, Nat.reduceMul, Nat.reduceDiv, Nat.reduceMod, Nat.reducePow, Nat.reduceLT, Nat.reduceLeDiff, Nat.reduceEqDiff, Nat.reduceBEq, Nat.reduceBNe, reduceIte, Int.reduceEq, Int.reduceLT, Int.reduceLE, Int.reduceNeg, Int.reduceToNat, Int.reduceMul, Int.reduceAdd, Int.reduceSub, Int.reduceBEq, Int.reduceBNe, reduceCtorEq] at hE
     exact ⟨_, _, _, hE.symm, hw, hB, (by first | exact e3 | rfl)⟩
   | false =>
     simp only [yL, e0, e3, e4, e5, d1, d2, jl, jA, Option.toList, jq, nat, j6, jP, j0, jr, lc0, lc1, jE, jF, jG, jH, j7, j8, ju, jt, jv, zV, zS, jD, jS, jc, jh, jW, je, jd, jx, jU, jj, ji, jp, jR, jy, jw, Ts.fill, jX, jV, jf, jY, jo, jm, jg, ja, getAll, stepCall, jn, unI, Opd.get, jC, tag, jz, jb, jQ, rv, bin, jZ, Nat.reduceAdd, Nat.reduceSub, Nat.reduceMul, Nat.reduceDiv, Nat.reduceMod, Nat.reducePow, Nat.reduceLT, Nat.reduceLeDiff, Nat.reduceEqDiff, Nat.reduceBEq, Nat.reduceBNe, reduceIte, Int.reduceEq, Int.reduceLT, Int.reduceLE, Int.reduceNeg, Int.reduceToNat, Int.reduceMul, Int.reduceAdd, Int.reduceSub, Int.reduceBEq, Int.reduceBNe, reduceCtorEq] at hE
     exact ⟨_, _, _, hE.symm, hw, hB, (by first | exact e3 | rfl)⟩
 | succ m ih =>
   intro i f0 S wr R hE hi hm hil hB e0 e3 e4 e5 hw
   change evw F (.loop yL) ⟨E 6 12 5 [] (base f0), S, wr⟩ = R at hE
   rw [ka] at hE
   by_cases hlt : i < l.length
   . have d1 : decide ((i : Int) < ((l.length : Nat) : Int)) = true := rB (by omega)
     by_cases h120 : i < 120
     . have d2 : decide ((i : Int) < 120) = true := rB (by omega)
       have d3 : (0 : Int) <= (i : Int) := by omega
       obtain ⟨b, hg⟩ := vk hlt
       have hb2 := hb b (List.mem_of_getElem? hg)
       have w1 := JU (n := i) (by omega)
       have w2 : IntKind.i64.wrap (b : Int) = (b : Int) := yQ (by omega) (by omega)
       have pl : pcs.length = 48 := rfl
       have w3 : (b : Int).tmod 48 = ((b % 48 : Nat) : Int) := rfl
       have d4 : (0 : Int) <= ((b % 48 : Nat) : Int) := by omega
       have hpg := jbq b
       obtain ⟨hp0, hp1⟩ := jej b
       have hsl : ((l.take i).flatMap pc).length <= 2000 := by
         have := jcf (l.take i)
         rw [mdS, List.take_take, Nat.min_eq_right (by omega)] at this; omega
       obtain ⟨S1, w5, u5, g5, hB1⟩ := jcX H.toFBld (t := pc b) hp0 (by omega) (by omega) hB
       have pl2 : ((48 : Nat) : Int) = 48 := rfl
       have n48 : ¬ (48 : Int) = 0 := by decide
       simp only [yL, e0, e3, e4, e5, d1, d2, d3, d4, hg, w1, w2, w3, pl, pl2, n48, hpg, u5, rI, jl, jA, Option.toList, jq, nat, j6, jP, j0, jr, lc0, lc1, jE, jF, jG, jH, j7, j8, ju, jt, jv, zV, zS, jD, jS, jc, jh, jW, je, jd, jx, jU, jj, ji, jp, jR, jy, jw, Ts.fill, jX, jV, jf, jY, jo, jm, jg, ja, getAll, stepCall, jn, unI, Opd.get, jC, tag, jz, jb, jQ, rv, bin, jZ, Nat.reduceAdd, Nat.reduceSub, Nat.reduceMul, Nat.reduceDiv, Nat.reduceMod, Nat.reducePow, Nat.reduceLT, Nat.reduceLeDiff, Nat.reduceEqDiff, Nat.reduceBEq, Nat.reduceBNe, reduceIte, Int.reduceEq, Int.reduceLT, Int.reduceLE, Int.reduceNeg, Int.reduceToNat, Int.reduceMul, Int.reduceAdd, Int.reduceSub, Int.reduceBEq, Int.reduceBNe, reduceCtorEq] at hE
       have ht : (l.take (i + 1)).flatMap pc = (l.take i).flatMap pc ++ pc b := by
         rw [List.take_add_one, hg]; simp
       exact ih (i + 1) _ _ _ _ hE (by omega) (by omega) (by omega) (by rw [ht]; exact hB1) (by first | exact e0 | rfl) (by first | exact e3 | rfl) (by first | exact e4 | rfl) (by rfl) (by intro p hp; rcases List.mem_append.1 hp with h | h; exact g5 p h; exact hw p h)
     . have hi : i = 120 := by omega
       subst hi
       have d1 : decide ((120 : Int) < ((l.length : Nat) : Int)) = true := d1
       have d2 : decide ((120 : Int) < 120) = false := rfl
       simp only [yL, e0, e3, e4, e5, d1, d2, jl, jA, Option.toList, jq, nat, j6, jP, j0, jr, lc0, lc1, jE, jF, jG, jH, j7, j8, ju, jt, jv, zV, zS, jD, jS, jc, jh, jW, je, jd, jx, jU, jj, ji, jp, jR, jy, jw, Ts.fill, jX, jV, jf, jY, jo, jm, jg, ja, getAll, stepCall, jn, unI, Opd.get, jC, tag, jz, jb, jQ, rv, bin, jZ, Nat.reduceAdd, Nat.reduceSub, Nat.reduceMul, Nat.reduceDiv, Nat.reduceMod, Nat.reducePow, Nat.reduceLT, Nat.reduceLeDiff, Nat.reduceEqDiff, Nat.reduceBEq, Nat.reduceBNe, reduceIte, Int.reduceEq, Int.reduceLT, Int.reduceLE, Int.reduceNeg, Int.reduceToNat, Int.reduceMul, Int.reduceAdd, Int.reduceSub, Int.reduceBEq, Int.reduceBNe, reduceCtorEq] at hE
       exact ⟨_, _, _, hE.symm, hw, hB, (by first | exact e3 | rfl)⟩
   . have d1 : decide ((i : Int) < ((l.length : Nat) : Int)) = false := rE (by omega)
     simp only [yL, e0, e3, e4, e5, d1, jl, jA, Option.toList, jq, nat, j6, jP, j0, jr, lc0, lc1, jE, jF, jG, jH, j7, j8, ju, jt, jv, zV, zS, jD, jS, jc, jh, jW, je, jd, jx, jU, jj, ji, jp, jR, jy, jw, Ts.fill, jX, jV, jf, jY, jo, jm, jg, ja, getAll, stepCall, jn, unI, Opd.get, jC, tag, jz, jb, jQ, rv, bin, jZ, Nat.reduceAdd, Nat.reduceSub, Nat.reduceMul, Nat.reduceDiv, Nat.reduceMod, Nat.reducePow, Nat.reduceLT, Nat.reduceLeDiff, Nat.reduceEqDiff, Nat.reduceBEq, Nat.reduceBNe, reduceIte, Int.reduceEq, Int.reduceLT, Int.reduceLE, Int.reduceNeg, Int.reduceToNat, Int.reduceMul, Int.reduceAdd, Int.reduceSub, Int.reduceBEq, Int.reduceBNe, reduceCtorEq] at hE
     have : l.take 120 = l.take i := by rw [rU (by omega), rU (by omega)]
     exact ⟨_, _, _, hE.symm, hw, by rw [mdS, this]; exact hB, (by first | exact e3 | rfl)⟩
set_option maxRecDepth 20000 in
theorem jfe (H : FMade F) {l : List Nat} {o : Nat} {r : Bool} (hb : ∀ b ∈ l, b < 256) (σ : List IObj) :
   cfw F (.f 9) [.sl o r (l.map B)] σ = some ⟨false, .str (mdS l), σ, []⟩ := by
 rw [cfw_of ir9 H.h9, jw]
 have u := fun σ => jam H.h25 (σ := σ)
 simp only [ir9, u, jA, Option.toList, jq, nat, j6, jP, j0, jr, lc0, lc1, jE, jF, jG, jH, j7, j8, ju, jt, jv, zV, zS, jD, jS, jc, jh, jW, je, jl, jd, jx, jU, jj, ji, jp, jR, jy, jw, Ts.fill, jX, jV, jf, jY, jo, jm, jg, ja, getAll, stepCall, jn, unI, Opd.get, jC, tag, jz, jb, jQ, rv, bin, jZ, Nat.reduceAdd, Nat.reduceSub, Nat.reduceMul, Nat.reduceDiv, Nat.reduceMod, Nat.reducePow, Nat.reduceLT, Nat.reduceLeDiff, Nat.reduceEqDiff, Nat.reduceBEq, Nat.reduceBNe, reduceIte, Int.reduceEq, Int.reduceLT, Int.reduceLE, Int.reduceNeg, Int.reduceToNat, Int.reduceMul, Int.reduceAdd, Int.reduceSub, Int.reduceBEq, Int.reduceBNe, reduceCtorEq]
 generalize hE : evw F (ICode.loop yL) _ = R
 obtain ⟨f1, S1, wr1, rfl, gw, hB, e3⟩ := jfc (n := σ.length) (σ := σ) H hb 120 0 _ _ _ _ hE (by omega) (by omega) (by omega) ⟨by simp, fun i hi => by rw [List.getElem?_append_left hi], by rw [get_app]; rfl, _, _, by rw [get_app0]; rfl, Or.inl rfl, Or.inl ⟨rfl, rfl⟩⟩ (by rfl) (by rfl) (by rfl) (by rfl) (by intro p hp; simp at hp)
 obtain ⟨S2, w2, u2, g2, hlen, hold⟩ := jaQ H.toFBld (by have := jcf l; omega) hB
 have gg : Ge σ.length (w2 ++ wr1) := fun p hp => by rcases List.mem_append.1 hp with h | h; exact g2 p h; exact gw p h
 have tk : S2.take σ.length = σ := by
   apply List.ext_getElem?
   intro i
   by_cases hi : i < σ.length
   . rw [tD, if_pos hi]; exact hold i hi
   . rw [rV (by rw [tE]; omega), rV (by omega)]
 simp only [e3, u2, jA, Option.toList, jq, nat, j6, jP, j0, jr, lc0, lc1, jE, jF, jG, jH, j7, j8, ju, jt, jv, zV, zS, jD, jS, jc, jh, jW, je, jl, jd, jx, jU, jj, ji, jp, jR, jy, jw, Ts.fill, jX, jV, jf, jY, jo, jm, jg, ja, getAll, stepCall, jn, unI, Opd.get, jC, tag, jz, jb, jQ, rv, bin, jZ, Nat.reduceAdd, Nat.reduceSub, Nat.reduceMul, Nat.reduceDiv, Nat.reduceMod, Nat.reducePow, Nat.reduceLT, Nat.reduceLeDiff, Nat.reduceEqDiff, Nat.reduceBEq, Nat.reduceBNe, reduceIte, Int.reduceEq, Int.reduceLT, Int.reduceLE, Int.reduceNeg, Int.reduceToNat, Int.reduceMul, Int.reduceAdd, Int.reduceSub, Int.reduceBEq, Int.reduceBNe, reduceCtorEq]
 rw [jbP gg, jbO gg, tk]
 rfl
end
end Go.Idl.Lx
namespace Go.Idl.Lx
open Go Go.Idl Go.Idl.En
variable {F : ko}
theorem XY (h : F 153 = some Qj) {c a : Int} {σ : List IObj} : cfw F (.f 153) [.pv false [I c, I a] 0] σ = some ⟨false, .iface 35 (I c), σ, []⟩ := by
 rw [cfw_of Qj h, jw]
 have n3 : nr3 (.iface 35 (I c)) = true := rfl
 simp only [Qj, jA, n3, zV, zS, jD, jS, jc, jh, jW, je, jl, jd, jx, jU, jj, ji, jp, jR, jy, jw, Ts.fill, jX, jV, jf, jY, jo, jm, jg, ja, getAll, stepCall, jn, unI, Opd.get, jC, tag, jz, jb, jQ, rv, bin, jZ, Nat.reduceAdd, Nat.reduceSub, Nat.reduceMul, Nat.reduceDiv, Nat.reduceMod, Nat.reducePow, Nat.reduceLT, Nat.reduceLeDiff, Nat.reduceEqDiff, Nat.reduceBEq, Nat.reduceBNe, reduceIte, Int.reduceEq, Int.reduceLT, Int.reduceLE, Int.reduceNeg, Int.reduceToNat, Int.reduceMul, Int.reduceAdd, Int.reduceSub, Int.reduceBEq, Int.reduceBNe, reduceCtorEq]
set_option maxRecDepth 20000 in
theorem jfG (h : F 47 = some jbU) {c a : Int} {g : Nat} {x : IVal} {σ : List IObj} (hg : σ[g]? = some (.cells [.prim (.pointer none)])) (hx : nt x = true) :
   ∃ wr, cfw F (.f 47) [.iface 56 (.pv false [I c, I a] 0), x, .agg [VT 10 80, .pv true [.ptr g 0] 0, .int .u64 150], rtI 125 10 56] σ = some ⟨false, .bool true, σ.set g (.cells [.pv false [I c, I a] 0]), wr⟩ /\ Fl wr := by
 rw [cfw_of jbU h, jw]
 have lg := jk hg
 simp only [jbU, jA, hg, hx, VT, rtI, zV, zS, jD, jS, jc, jh, jW, je, jl, jd, jx, jU, jj, ji, jp, jR, jy, jw, Ts.fill, jX, jV, jf, jY, jo, jm, jg, ja, getAll, stepCall, jn, unI, Opd.get, jC, tag, jz, jb, jQ, rv, bin, jZ, Nat.reduceAdd, Nat.reduceSub, Nat.reduceMul, Nat.reduceDiv, Nat.reduceMod, Nat.reducePow, Nat.reduceLT, Nat.reduceLeDiff, Nat.reduceEqDiff, Nat.reduceBEq, Nat.reduceBNe, reduceIte, Int.reduceEq, Int.reduceLT, Int.reduceLE, Int.reduceNeg, Int.reduceToNat, Int.reduceMul, Int.reduceAdd, Int.reduceSub, Int.reduceBEq, Int.reduceBNe, reduceCtorEq]
 rw [ka]
 simp only [Yw, jA, hg, hx, j0, K1, VT, rtI, JZ, List.find?, List.contains_cons, r5, tR, zV, zS, jD, jS, jc, jh, jW, je, jl, jd, jx, jU, jj, ji, jp, jR, jy, jw, Ts.fill, jX, jV, jf, jY, jo, jm, jg, ja, getAll, stepCall, jn, unI, Opd.get, jC, tag, jz, jb, jQ, rv, bin, jZ, Nat.reduceAdd, Nat.reduceSub, Nat.reduceMul, Nat.reduceDiv, Nat.reduceMod, Nat.reducePow, Nat.reduceLT, Nat.reduceLeDiff, Nat.reduceEqDiff, Nat.reduceBEq, Nat.reduceBNe, reduceIte, Int.reduceEq, Int.reduceLT, Int.reduceLE, Int.reduceNeg, Int.reduceToNat, Int.reduceMul, Int.reduceAdd, Int.reduceSub, Int.reduceBEq, Int.reduceBNe, reduceCtorEq]
 have np : nr1 (.pv false [I c, I a] 0) = true := rfl
 rw [np, take_set]
 exact ⟨_, rfl, by cases decide (g < σ.length) <;> rfl⟩
set_option maxRecDepth 20000 in
theorem jfC (h : F 27 = some jc2) (h47 : F 47 = some jbU) {c a : Int} {g : Nat} {σ : List IObj} (hg : σ[g]? = some (.cells [.prim (.pointer none)])) :
   ∃ wr, cfw F (.f 27) [.iface 56 (.pv false [I c, I a] 0), .iface 80 (.ptr g 0)] σ = some ⟨false, .bool true, σ.set g (.cells [.pv false [I c, I a] 0]), wr⟩ /\ Fl wr := by
 rw [cfw_of jc2 h, jw]
 obtain ⟨wr, u, gw⟩ := jfG h47 (c := c) (a := a) (x := .iface 80 (.ptr g 0)) (yU hg [.cells [VT 10 80, .pv true [.ptr g 0] 0, .int .u64 150]]) rfl
 simp only [VT, rtI] at u
 have b1 : ((22 : Int) != 20) = true := rfl
 have x1 : ext [.ptr g 0] = true := rfl
 have x2 : nr1 (.pv true [.ptr g 0] 0) = false := rfl
 simp only [jc2, jA, hg, u, b1, x1, x2, j0, K1, VT, rtI, JZ, List.find?, List.contains_cons, r5, tR, zV, zS, jD, jS, jc, jh, jW, je, jl, jd, jx, jU, jj, ji, jp, jR, jy, jw, Ts.fill, jX, jV, jf, jY, jo, jm, jg, ja, getAll, stepCall, jn, unI, Opd.get, jC, tag, jz, jb, jQ, rv, bin, jZ, Nat.reduceAdd, Nat.reduceSub, Nat.reduceMul, Nat.reduceDiv, Nat.reduceMod, Nat.reducePow, Nat.reduceLT, Nat.reduceLeDiff, Nat.reduceEqDiff, Nat.reduceBEq, Nat.reduceBNe, reduceIte, Int.reduceEq, Int.reduceLT, Int.reduceLE, Int.reduceNeg, Int.reduceToNat, Int.reduceMul, Int.reduceAdd, Int.reduceSub, Int.reduceBEq, Int.reduceBNe, reduceCtorEq]
 have fa : (wr ++ [(σ.length, true)]).all (fun p => !p.2 || decide (σ.length <= p.1)) = true := by rw [List.all_append, j5 gw]; simp
 have tk : ∀ l, List.take σ.length (σ.set g (.cells [.pv false [I c, I a] 0]) ++ l) = σ.set g (.cells [.pv false [I c, I a] 0]) := fun l => by have := take_app (σ := σ.set g (.cells [.pv false [I c, I a] 0])) (l := l); rw [List.length_set] at this; exact this
 rw [fa, vW (jk hg), tk]
 refine ⟨_, rfl, ?_⟩
 rw [List.filter_append, List.filter_cons_of_neg (by simp), List.filter_nil, rM]
 exact jO gw
set_option maxRecDepth 20000 in
theorem jfR (h : F 49 = some jbW) (h153 : F 153 = some Qj) {c a : Int} {σ : List IObj} (hc : c ≠ 0) :
   cfw F (.f 49) [.iface 56 (.pv false [I c, I a] 0), .iface 35 (I c), .bool true] σ = some ⟨false, .bool true, σ, []⟩ := by
 rw [cfw_of jbW h, jw]
 have u := XY h153 (c := c) (a := a) (σ := σ)
 simp only [jbW, jA, zV, zS, jD, jS, jc, jh, jW, je, jl, jd, jx, jU, jj, ji, jp, jR, jy, jw, Ts.fill, jX, jV, jf, jY, jo, jm, jg, ja, getAll, stepCall, jn, unI, Opd.get, jC, tag, jz, jb, jQ, rv, bin, jZ, Nat.reduceAdd, Nat.reduceSub, Nat.reduceMul, Nat.reduceDiv, Nat.reduceMod, Nat.reducePow, Nat.reduceLT, Nat.reduceLeDiff, Nat.reduceEqDiff, Nat.reduceBEq, Nat.reduceBNe, reduceIte, Int.reduceEq, Int.reduceLT, Int.reduceLE, Int.reduceNeg, Int.reduceToNat, Int.reduceMul, Int.reduceAdd, Int.reduceSub, Int.reduceBEq, Int.reduceBNe, reduceCtorEq]
 rw [ka]
 have np : nt (.iface 35 (I c)) = true := rfl
 simp only [Yx, jA, u, np, Kw, zz, List.contains_nil, j0, K1, VT, rtI, JZ, List.find?, List.contains_cons, r5, tR, zV, zS, jD, jS, jc, jh, jW, je, jl, jd, jx, jU, jj, ji, jp, jR, jy, jw, Ts.fill, jX, jV, jf, jY, jo, jm, jg, ja, getAll, stepCall, jn, unI, Opd.get, jC, tag, jz, jb, jQ, rv, bin, jZ, Nat.reduceAdd, Nat.reduceSub, Nat.reduceMul, Nat.reduceDiv, Nat.reduceMod, Nat.reducePow, Nat.reduceLT, Nat.reduceLeDiff, Nat.reduceEqDiff, Nat.reduceBEq, Nat.reduceBNe, reduceIte, Int.reduceEq, Int.reduceLT, Int.reduceLE, Int.reduceNeg, Int.reduceToNat, Int.reduceMul, Int.reduceAdd, Int.reduceSub, Int.reduceBEq, Int.reduceBNe, reduceCtorEq]
 rw [ka]
 have eI : ∀ n : Int, qh (.int .i64 n) (.int .i64 n) = some true := fun n => by simp [qh]
 have kI : ∀ n : Int, z6 0 (.int .i64 n) = true := fun n => rfl
 have tf : (true != false) = true := rfl
 simp only [jA, u, np, eI, kI, tf, j0, List.find?, zV, zS, jD, jS, jc, jh, jW, je, jl, jd, jx, jU, jj, ji, jp, jR, jy, jw, Ts.fill, jX, jV, jf, jY, jo, jm, jg, ja, getAll, stepCall, jn, unI, Opd.get, jC, tag, jz, jb, jQ, rv, bin, jZ, Nat.reduceAdd, Nat.reduceSub, Nat.reduceMul, Nat.reduceDiv, Nat.reduceMod, Nat.reducePow, Nat.reduceLT, Nat.reduceLeDiff, Nat.reduceEqDiff, Nat.reduceBEq, Nat.reduceBNe, reduceIte, Int.reduceEq, Int.reduceLT, Int.reduceLE, Int.reduceNeg, Int.reduceToNat, Int.reduceMul, Int.reduceAdd, Int.reduceSub, Int.reduceBEq, Int.reduceBNe, reduceCtorEq]
set_option maxRecDepth 20000 in
theorem jfE (h : F 28 = some jc3) (h49 : F 49 = some jbW) (h153 : F 153 = some Qj) {c a : Int} {σ : List IObj} (hc : c ≠ 0) :
   cfw F (.f 28) [.iface 56 (.pv false [I c, I a] 0), .iface 35 (I c)] σ = some ⟨false, .bool true, σ, []⟩ := by
 rw [cfw_of jc3 h, jw]
 have u := jfR h49 h153 (c := c) (a := a) (σ := σ) hc
 simp only [jc3, jA, u, j0, K1, VT, rtI, JZ, List.find?, List.contains_cons, r5, tR, zV, zS, jD, jS, jc, jh, jW, je, jl, jd, jx, jU, jj, ji, jp, jR, jy, jw, Ts.fill, jX, jV, jf, jY, jo, jm, jg, ja, getAll, stepCall, jn, unI, Opd.get, jC, tag, jz, jb, jQ, rv, bin, jZ, Nat.reduceAdd, Nat.reduceSub, Nat.reduceMul, Nat.reduceDiv, Nat.reduceMod, Nat.reducePow, Nat.reduceLT, Nat.reduceLeDiff, Nat.reduceEqDiff, Nat.reduceBEq, Nat.reduceBNe, reduceIte, Int.reduceEq, Int.reduceLT, Int.reduceLE, Int.reduceNeg, Int.reduceToNat, Int.reduceMul, Int.reduceAdd, Int.reduceSub, Int.reduceBEq, Int.reduceBNe, reduceCtorEq]
set_option maxRecDepth 20000 in
theorem jbu (h : F 13 = some jdv) (h27 : F 27 = some jc2) (h28 : F 28 = some jc3) (h47 : F 47 = some jbU) (h49 : F 49 = some jbW) (h153 : F 153 = some Qj) {f : Nat × Nat} (hc : f.1 ≠ 0) {σ : List IObj} :
   ∃ wr, cfw F (.f 13) [flt f, .agg [I f.1, I f.2]] σ = some ⟨false, .bool true, σ, wr⟩ /\ Fl wr := by
 rw [cfw_of jdv h, jw]
 obtain ⟨c, a⟩ := f
 have hc' : (c : Int) ≠ 0 := by omega
 have b0 : ((c : Int) == 0) = false := by simpa using hc'
 have ga : (σ ++ [IObj.cells [.prim (.pointer none)]])[σ.length]? = some (.cells [.prim (.pointer none)]) := by rw [get_app0]; rfl
 obtain ⟨wr, u, gw⟩ := jfC h27 h47 (c := c) (a := a) ga
 have sa : (σ ++ [IObj.cells [.prim (.pointer none)]]).set σ.length (.cells [.pv false [I c, I a] 0]) = σ ++ [.cells [.pv false [I c, I a] 0]] := by rw [set_app0]; rfl
 rw [sa] at u
 have u2 := fun τ => jfE h28 h49 h153 (c := c) (a := a) (σ := τ) hc'
 have eI : ∀ n : Int, qh (.int .i64 n) (.int .i64 n) = some true := fun n => by simp [qh]
 have kI : ∀ n : Int, z6 0 (.int .i64 n) = true := fun n => rfl
 have tf : (true != false) = true := rfl
 simp only [jdv, jA, b0, u, u2, eI, kI, tf, eqK, tR, r5, zV, zS, jD, jS, jc, jh, jW, je, jl, jd, jx, jU, jj, ji, jp, jR, jy, jw, Ts.fill, jX, jV, jf, jY, jo, jm, jg, ja, getAll, stepCall, jn, unI, Opd.get, jC, tag, jz, jb, jQ, rv, bin, jZ, Nat.reduceAdd, Nat.reduceSub, Nat.reduceMul, Nat.reduceDiv, Nat.reduceMod, Nat.reducePow, Nat.reduceLT, Nat.reduceLeDiff, Nat.reduceEqDiff, Nat.reduceBEq, Nat.reduceBNe, reduceIte, Int.reduceEq, Int.reduceLT, Int.reduceLE, Int.reduceNeg, Int.reduceToNat, Int.reduceMul, Int.reduceAdd, Int.reduceSub, Int.reduceBEq, Int.reduceBNe, reduceCtorEq]
 rw [j5 gw]
 exact ⟨_, rfl, jO gw⟩
end Go.Idl.Lx
namespace Go.Idl.Lx
open Go Go.Idl Go.Idl.En
variable {F : ko}
section
variable {σ : List IObj}
theorem QY (h : F 10 = some jbS) {c : Nat} (hc : c < 256) : cfw F (.f 10) [B c] σ = some ⟨false, .bool (isS 4 c), σ, []⟩ := by
 rw [cfw_of jbS h, jw, jdR c hc]
 by_cases h1 : 48 <= c
 . have d1 : decide ((c : Int) ≥ 48) = true := rB (by omega)
   by_cases h2 : c <= 57
   . have d2 : decide ((c : Int) <= 57) = true := rB (by omega)
     have e : decide (48 <= c /\ c <= 57) = true := rB (by omega)
     simp only [jbS, d1, d2, e, jl, jA, Option.toList, jq, nat, j6, jP, j0, jr, lc0, lc1, jE, jF, jG, jH, j7, j8, ju, jt, jv, zV, zS, jD, jS, jc, jh, jW, je, jd, jx, jU, jj, ji, jp, jR, jy, jw, Ts.fill, jX, jV, jf, jY, jo, jm, jg, ja, getAll, stepCall, jn, unI, Opd.get, jC, tag, jz, jb, jQ, rv, bin, jZ, Nat.reduceAdd, Nat.reduceSub, Nat.reduceMul, Nat.reduceDiv, Nat.reduceMod, Nat.reducePow, Nat.reduceLT, Nat.reduceLeDiff, Nat.reduceEqDiff, Nat.reduceBEq, Nat.reduceBNe, reduceIte, Int.reduceEq, Int.reduceLT, Int.reduceLE, Int.reduceNeg, Int.reduceToNat, Int.reduceMul, Int.reduceAdd, Int.reduceSub, Int.reduceBEq, Int.reduceBNe, reduceCtorEq]
   . have d2 : decide ((c : Int) <= 57) = false := rE (by omega)
     have e : decide (48 <= c /\ c <= 57) = false := rE (by omega)
     simp only [jbS, d1, d2, e, jl, jA, Option.toList, jq, nat, j6, jP, j0, jr, lc0, lc1, jE, jF, jG, jH, j7, j8, ju, jt, jv, zV, zS, jD, jS, jc, jh, jW, je, jd, jx, jU, jj, ji, jp, jR, jy, jw, Ts.fill, jX, jV, jf, jY, jo, jm, jg, ja, getAll, stepCall, jn, unI, Opd.get, jC, tag, jz, jb, jQ, rv, bin, jZ, Nat.reduceAdd, Nat.reduceSub, Nat.reduceMul, Nat.reduceDiv, Nat.reduceMod, Nat.reducePow, Nat.reduceLT, Nat.reduceLeDiff, Nat.reduceEqDiff, Nat.reduceBEq, Nat.reduceBNe, reduceIte, Int.reduceEq, Int.reduceLT, Int.reduceLE, Int.reduceNeg, Int.reduceToNat, Int.reduceMul, Int.reduceAdd, Int.reduceSub, Int.reduceBEq, Int.reduceBNe, reduceCtorEq]
 . have d1 : decide ((c : Int) ≥ 48) = false := rE (by omega)
   have e : decide (48 <= c /\ c <= 57) = false := rE (by omega)
   simp only [jbS, d1, e, jl, jA, Option.toList, jq, nat, j6, jP, j0, jr, lc0, lc1, jE, jF, jG, jH, j7, j8, ju, jt, jv, zV, zS, jD, jS, jc, jh, jW, je, jd, jx, jU, jj, ji, jp, jR, jy, jw, Ts.fill, jX, jV, jf, jY, jo, jm, jg, ja, getAll, stepCall, jn, unI, Opd.get, jC, tag, jz, jb, jQ, rv, bin, jZ, Nat.reduceAdd, Nat.reduceSub, Nat.reduceMul, Nat.reduceDiv, Nat.reduceMod, Nat.reducePow, Nat.reduceLT, Nat.reduceLeDiff, Nat.reduceEqDiff, Nat.reduceBEq, Nat.reduceBNe, reduceIte, Int.reduceEq, Int.reduceLT, Int.reduceLE, Int.reduceNeg, Int.reduceToNat, Int.reduceMul, Int.reduceAdd, Int.reduceSub, Int.reduceBEq, Int.reduceBNe, reduceCtorEq]
theorem KI (h : F 11 = some Z1) {c : Nat} (hc : c < 256) : cfw F (.f 11) [B c] σ = some ⟨false, .bool (isS 2 c), σ, []⟩ := by
 rw [cfw_of Z1 h, jw, je9 c hc]
 have e3 : ((c : Int) == 95) = (c == 95) := by
   rw [Bool.eq_iff_iff, beq_iff_eq, beq_iff_eq]; omega
 by_cases h1 : 97 <= c
 . have d1 : decide ((c : Int) ≥ 97) = true := rB (by omega)
   have d4 : decide ((c : Int) <= 90) = false := rE (by omega)
   have d3 : decide ((c : Int) ≥ 65) = true := rB (by omega)
   have f2 : decide (65 <= c /\ c <= 90) = false := rE (by omega)
   by_cases h2 : c <= 122
   . have d2 : decide ((c : Int) <= 122) = true := rB (by omega)
     have f1 : decide (97 <= c /\ c <= 122) = true := rB (by omega)
     simp only [Z1, d1, d2, f1, jl, jA, Option.toList, jq, nat, j6, jP, j0, jr, lc0, lc1, jE, jF, jG, jH, j7, j8, ju, jt, jv, zV, zS, jD, jS, jc, jh, jW, je, jd, jx, jU, jj, ji, jp, jR, jy, jw, Ts.fill, jX, jV, jf, jY, jo, jm, jg, ja, getAll, stepCall, jn, unI, Opd.get, jC, tag, jz, jb, jQ, rv, bin, jZ, Nat.reduceAdd, Nat.reduceSub, Nat.reduceMul, Nat.reduceDiv, Nat.reduceMod, Nat.reducePow, Nat.reduceLT, Nat.reduceLeDiff, Nat.reduceEqDiff, Nat.reduceBEq, Nat.reduceBNe, reduceIte, Int.reduceEq, Int.reduceLT, Int.reduceLE, Int.reduceNeg, Int.reduceToNat, Int.reduceMul, Int.reduceAdd, Int.reduceSub, Int.reduceBEq, Int.reduceBNe, reduceCtorEq]
   . have d2 : decide ((c : Int) <= 122) = false := rE (by omega)
     have f1 : decide (97 <= c /\ c <= 122) = false := rE (by omega)
     simp only [Z1, d1, d2, d3, d4, f1, f2, e3, jl, jA, Option.toList, jq, nat, j6, jP, j0, jr, lc0, lc1, jE, jF, jG, jH, j7, j8, ju, jt, jv, zV, zS, jD, jS, jc, jh, jW, je, jd, jx, jU, jj, ji, jp, jR, jy, jw, Ts.fill, jX, jV, jf, jY, jo, jm, jg, ja, getAll, stepCall, jn, unI, Opd.get, jC, tag, jz, jb, jQ, rv, bin, jZ, Nat.reduceAdd, Nat.reduceSub, Nat.reduceMul, Nat.reduceDiv, Nat.reduceMod, Nat.reducePow, Nat.reduceLT, Nat.reduceLeDiff, Nat.reduceEqDiff, Nat.reduceBEq, Nat.reduceBNe, reduceIte, Int.reduceEq, Int.reduceLT, Int.reduceLE, Int.reduceNeg, Int.reduceToNat, Int.reduceMul, Int.reduceAdd, Int.reduceSub, Int.reduceBEq, Int.reduceBNe, reduceCtorEq]
 . have d1 : decide ((c : Int) ≥ 97) = false := rE (by omega)
   have f1 : decide (97 <= c /\ c <= 122) = false := rE (by omega)
   by_cases h3 : 65 <= c
   . have d3 : decide ((c : Int) ≥ 65) = true := rB (by omega)
     by_cases h4 : c <= 90
     . have d4 : decide ((c : Int) <= 90) = true := rB (by omega)
       have f2 : decide (65 <= c /\ c <= 90) = true := rB (by omega)
       simp only [Z1, d1, d3, d4, f1, f2, jl, jA, Option.toList, jq, nat, j6, jP, j0, jr, lc0, lc1, jE, jF, jG, jH, j7, j8, ju, jt, jv, zV, zS, jD, jS, jc, jh, jW, je, jd, jx, jU, jj, ji, jp, jR, jy, jw, Ts.fill, jX, jV, jf, jY, jo, jm, jg, ja, getAll, stepCall, jn, unI, Opd.get, jC, tag, jz, jb, jQ, rv, bin, jZ, Nat.reduceAdd, Nat.reduceSub, Nat.reduceMul, Nat.reduceDiv, Nat.reduceMod, Nat.reducePow, Nat.reduceLT, Nat.reduceLeDiff, Nat.reduceEqDiff, Nat.reduceBEq, Nat.reduceBNe, reduceIte, Int.reduceEq, Int.reduceLT, Int.reduceLE, Int.reduceNeg, Int.reduceToNat, Int.reduceMul, Int.reduceAdd, Int.reduceSub, Int.reduceBEq, Int.reduceBNe, reduceCtorEq]
     . have d4 : decide ((c : Int) <= 90) = false := rE (by omega)
       have f2 : decide (65 <= c /\ c <= 90) = false := rE (by omega)
       simp only [Z1, d1, d3, d4, f1, f2, e3, jl, jA, Option.toList, jq, nat, j6, jP, j0, jr, lc0, lc1, jE, jF, jG, jH, j7, j8, ju, jt, jv, zV, zS, jD, jS, jc, jh, jW, je, jd, jx, jU, jj, ji, jp, jR, jy, jw, Ts.fill, jX, jV, jf, jY, jo, jm, jg, ja, getAll, stepCall, jn, unI, Opd.get, jC, tag, jz, jb, jQ, rv, bin, jZ, Nat.reduceAdd, Nat.reduceSub, Nat.reduceMul, Nat.reduceDiv, Nat.reduceMod, Nat.reducePow, Nat.reduceLT, Nat.reduceLeDiff, Nat.reduceEqDiff, Nat.reduceBEq, Nat.reduceBNe, reduceIte, Int.reduceEq, Int.reduceLT, Int.reduceLE, Int.reduceNeg, Int.reduceToNat, Int.reduceMul, Int.reduceAdd, Int.reduceSub, Int.reduceBEq, Int.reduceBNe, reduceCtorEq]
   . have d3 : decide ((c : Int) ≥ 65) = false := rE (by omega)
     have f2 : decide (65 <= c /\ c <= 90) = false := rE (by omega)
     simp only [Z1, d1, d3, f1, f2, e3, jl, jA, Option.toList, jq, nat, j6, jP, j0, jr, lc0, lc1, jE, jF, jG, jH, j7, j8, ju, jt, jv, zV, zS, jD, jS, jc, jh, jW, je, jd, jx, jU, jj, ji, jp, jR, jy, jw, Ts.fill, jX, jV, jf, jY, jo, jm, jg, ja, getAll, stepCall, jn, unI, Opd.get, jC, tag, jz, jb, jQ, rv, bin, jZ, Nat.reduceAdd, Nat.reduceSub, Nat.reduceMul, Nat.reduceDiv, Nat.reduceMod, Nat.reducePow, Nat.reduceLT, Nat.reduceLeDiff, Nat.reduceEqDiff, Nat.reduceBEq, Nat.reduceBNe, reduceIte, Int.reduceEq, Int.reduceLT, Int.reduceLE, Int.reduceNeg, Int.reduceToNat, Int.reduceMul, Int.reduceAdd, Int.reduceSub, Int.reduceBEq, Int.reduceBNe, reduceCtorEq]
end
def Zw (t : Tok) : Prop := (t.k = 1 \/ t.k = 2 -> ∃ c s, t.t = c :: s /\ (t.k = 1 -> isS 2 c.toNat = true) /\ (t.k = 2 -> isS 4 c.toNat = true)) /\ (t.k = 1 -> t.t.length <= 16 /\ ∀ c ∈ t.t, isS 6 c.toNat = true) /\ (t.k = 2 -> t.n < 4294967296)
theorem take_drop (tx : List UInt8) (a n : Nat) : (tx.take (a + n)).drop a = (tx.drop a).take n := by rw [List.drop_take, Nat.add_sub_cancel_left]
theorem jcO (k : Nat) (s : List UInt8) : ∀ c ∈ s.take (spn k s), isS k c.toNat = true := by
 induction s with
 | nil => intro c hc; simp at hc
 | cons b s ih =>
   rw [zt]
   cases h : isS k b.toNat with
   | false => intro c hc; simp at hc
   | true =>
     rw [if_pos rfl, Nat.add_comm, r5]
     intro c hc
     rcases List.mem_cons.1 hc with rfl | hc
     . exact h
     . exact ih c hc
theorem jed {tx : List UInt8} {a ba hd ed v : Nat} (h : XU tx a ba hd = .inr (ed, v)) : v < 4294967296 := by
 unfold XU at h
 simp only at h
 split at h
 . cases h
 . split at h
   . cases h
   . split at h
     . cases h
     . split at h
       . split at h
         . cases h
         . cases h; omega
       . cases h; omega
theorem jee {tx : List UInt8} {a k ed v ln : Nat} (h : KO tx a = .inr (k, ed, v)) : Zw ⟨k, a, ln, (tx.take ed).drop a, v⟩ := by
 have hle := jbl h
 unfold KO at h
 cases hg : tx[a]? with
 | none => rw [hg] at h; cases h
 | some c =>
   rw [hg] at h
   simp only at h
   have hd := qQ hg
   have he : (tx.take ed).drop a = (tx.drop a).take (ed - a) := by rw [List.drop_take]
   have he2 : (tx.take ed).drop a = c :: (tx.drop (a + 1)).take (ed - a - 1) := by
     rw [he, hd]
     obtain ⟨j, hj⟩ : ∃ j, ed - a = j + 1 := ⟨ed - a - 1, by omega⟩
     rw [hj, r5]; rfl
   split at h
   . rename_i h2
     split at h
     . cases h
     . rename_i h16
       cases h
       refine ⟨fun _ => ⟨c, _, he2, fun _ => h2, fun h => by cases h⟩, fun _ => ?_, fun h => by cases h⟩
       rw [take_drop]
       exact ⟨by simp only [tE]; omega, jcO 6 _⟩
   . split at h
     . rename_i h4
       split at h
       . cases h
       . rename_i e2
         cases h
         refine ⟨fun _ => ⟨c, _, he2, fun h => absurd h (by decide : ¬ (2 : Nat) = 1), fun _ => h4⟩, fun h => absurd h (by decide : ¬ (2 : Nat) = 1), fun _ => ?_⟩
         unfold Zu at e2
         split at e2 <;> exact jed e2
     . split at h
       . cases h
         exact ⟨fun h => absurd h (by decide : ¬ ((3 : Nat) = 1 \/ (3 : Nat) = 2)), fun h => absurd h (by decide : ¬ (3 : Nat) = 1), fun h => absurd h (by decide : ¬ (3 : Nat) = 2)⟩
       . cases h
theorem YD (tx : List UInt8) : ∀ m a, ∀ t ∈ (zY tx m a).1, Zw t
 | 0, a, t, h => by simp [zY] at h
 | m + 1, a, t, h => by
   rw [zY] at h
   split at h
   . split at h
     . simp at h
     . rename_i ho
       rcases List.mem_cons.1 h with rfl | h
       . exact jee ho
       . exact YD tx m _ t h
   . simp at h
end Go.Idl.Lx
namespace Go.Idl.Lx
open Go Go.Idl Go.Idl.En
variable {F : ko}
structure FWk (F : ko) : Prop extends FLex F where
 h7 : F 7 = some ir7
 h13 : F 13 = some jdv
 h22 : F 22 = some jdy
 h23 : F 23 = some jeB
 h27 : F 27 = some jc2
 h28 : F 28 = some jc3
 h47 : F 47 = some jbU
 h49 : F 49 = some jbW
 h153 : F 153 = some Qj
section
variable {σ : List IObj}
set_option maxRecDepth 20000 in
theorem jdW {T : List Tok} {ws : List (List UInt8)} {o1 o2 : Nat} {r1 r2 : Bool} (hw : ws = T.map (·.t)) (hl : T.length <= 1000) : ∀ (m i : Nat) (f0 : Nat -> Option (Nat × IVal)) (R : Option (IExit × St)), evw F (.loop yV) ⟨E 6 10 5 [] f0, σ, []⟩ = R -> i + m = T.length -> f0 0 = some (0, .sl o1 r1 (T.map Jh)) -> f0 1 = some (1, .sl o2 r2 (ws.map .str)) -> f0 5 = some (5, I i) ->
   ∃ f1, R = some (.exit 0, ⟨E 6 10 5 [] (base f1), σ, []⟩) := by
 intro m
 induction m with
 | zero =>
   intro i f0 R hE hm e0 e1 e5
   have d1 : decide ((i : Int) < (T.length : Nat)) = false := rE (by omega)
   change evw F (.loop yV) ⟨E 6 10 5 [] (base f0), σ, []⟩ = R at hE
   rw [ka] at hE
   simp only [yV, e0, e1, e5, d1, jl, jA, Option.toList, jq, nat, j6, jP, j0, jr, lc0, lc1, jE, jF, jG, jH, j7, j8, ju, jt, jv, zV, zS, jD, jS, jc, jh, jW, je, jd, jx, jU, jj, ji, jp, jR, jy, jw, Ts.fill, jX, jV, jf, jY, jo, jm, jg, ja, getAll, stepCall, jn, unI, Opd.get, jC, tag, jz, jb, jQ, rv, bin, jZ, Nat.reduceAdd, Nat.reduceSub, Nat.reduceMul, Nat.reduceDiv, Nat.reduceMod, Nat.reducePow, Nat.reduceLT, Nat.reduceLeDiff, Nat.reduceEqDiff, Nat.reduceBEq, Nat.reduceBNe, reduceIte, Int.reduceEq, Int.reduceLT, Int.reduceLE, Int.reduceNeg, Int.reduceToNat, Int.reduceMul, Int.reduceAdd, Int.reduceSub, Int.reduceBEq, Int.reduceBNe, reduceCtorEq] at hE
   exact ⟨_, hE.symm⟩
 | succ m ih =>
   intro i f0 R hE hm e0 e1 e5
   obtain ⟨t, hg⟩ := vk (l := T) (i := i) (by omega)
   have hg2 : ws[i]? = some t.t := by rw [hw, rJ, hg]; rfl
   have d1 : decide ((i : Int) < (T.length : Nat)) = true := rB (by omega)
   have d2 : (0 : Int) <= (i : Int) := by omega
   have w1 := JU (n := i) (by omega)
   have tc : (Jh t).cells = TC t.k t.a t.ln t.t t.n := rfl
   have nb : (!true) = false := rfl
   change evw F (.loop yV) ⟨E 6 10 5 [] (base f0), σ, []⟩ = R at hE
   rw [ka] at hE
   simp only [yV, e0, e1, e5, d1, d2, hg, hg2, tc, w1, nb, rI, jl, jA, Option.toList, jq, nat, j6, jP, j0, jr, lc0, lc1, jE, jF, jG, jH, j7, j8, ju, jt, jv, zV, zS, jD, jS, jc, jh, jW, je, jd, jx, jU, jj, ji, jp, jR, jy, jw, Ts.fill, jX, jV, jf, jY, jo, jm, jg, ja, getAll, stepCall, jn, unI, Opd.get, jC, tag, jz, jb, jQ, rv, bin, jZ, Nat.reduceAdd, Nat.reduceSub, Nat.reduceMul, Nat.reduceDiv, Nat.reduceMod, Nat.reducePow, Nat.reduceLT, Nat.reduceLeDiff, Nat.reduceEqDiff, Nat.reduceBEq, Nat.reduceBNe, reduceIte, Int.reduceEq, Int.reduceLT, Int.reduceLE, Int.reduceNeg, Int.reduceToNat, Int.reduceMul, Int.reduceAdd, Int.reduceSub, Int.reduceBEq, Int.reduceBNe, reduceCtorEq] at hE
   exact ih (i + 1) _ _ hE (by omega) (by first | exact e0 | rfl) (by first | exact e1 | rfl) (by rfl)
set_option maxRecDepth 20000 in
theorem Zi (h : F 22 = some jdy) {T : List Tok} {ws : List (List UInt8)} {o1 o2 : Nat} {r1 r2 : Bool} (hw : ws = T.map (·.t)) (hl : T.length <= 1000) : cfw F (.f 22) [.sl o1 r1 (T.map Jh), .sl o2 r2 (ws.map .str)] σ = some ⟨false, .bool true, σ, []⟩ := by
 rw [cfw_of jdy h, jw]
 have e : ws.length = T.length := by rw [hw, List.length_map]
 have b : ((T.length : Int) != (T.length : Int)) = false := by simp
 simp only [jdy, e, b, jA, Option.toList, jq, nat, j6, jP, j0, jr, lc0, lc1, jE, jF, jG, jH, j7, j8, ju, jt, jv, zV, zS, jD, jS, jc, jh, jW, je, jl, jd, jx, jU, jj, ji, jp, jR, jy, jw, Ts.fill, jX, jV, jf, jY, jo, jm, jg, ja, getAll, stepCall, jn, unI, Opd.get, jC, tag, jz, jb, jQ, rv, bin, jZ, Nat.reduceAdd, Nat.reduceSub, Nat.reduceMul, Nat.reduceDiv, Nat.reduceMod, Nat.reducePow, Nat.reduceLT, Nat.reduceLeDiff, Nat.reduceEqDiff, Nat.reduceBEq, Nat.reduceBNe, reduceIte, Int.reduceEq, Int.reduceLT, Int.reduceLE, Int.reduceNeg, Int.reduceToNat, Int.reduceMul, Int.reduceAdd, Int.reduceSub, Int.reduceBEq, Int.reduceBNe, reduceCtorEq]
 generalize hE : evw F (ICode.loop yV) _ = R
 obtain ⟨f1, rfl⟩ := jdW hw hl T.length 0 _ _ hE (tS _) (by rfl) (by rfl) (by rfl)
 simp only [jA, Option.toList, jq, nat, j6, jP, j0, jr, lc0, lc1, jE, jF, jG, jH, j7, j8, ju, jt, jv, zV, zS, jD, jS, jc, jh, jW, je, jl, jd, jx, jU, jj, ji, jp, jR, jy, jw, Ts.fill, jX, jV, jf, jY, jo, jm, jg, ja, getAll, stepCall, jn, unI, Opd.get, jC, tag, jz, jb, jQ, rv, bin, jZ, Nat.reduceAdd, Nat.reduceSub, Nat.reduceMul, Nat.reduceDiv, Nat.reduceMod, Nat.reducePow, Nat.reduceLT, Nat.reduceLeDiff, Nat.reduceEqDiff, Nat.reduceBEq, Nat.reduceBNe, reduceIte, Int.reduceEq, Int.reduceLT, Int.reduceLE, Int.reduceNeg, Int.reduceToNat, Int.reduceMul, Int.reduceAdd, Int.reduceSub, Int.reduceBEq, Int.reduceBNe, reduceCtorEq]
set_option maxRecDepth 20000 in
theorem KC (H : FWk F) {s : List UInt8} {f : Nat × Nat} (hs : s.length <= 20000) (hf : (zg s).2 = some f) (h0 : f.1 ≠ 0) : ∃ wr, cfw F (.f 23) [.str s, I f.1, I f.2] σ = some ⟨false, .bool true, σ, wr⟩ /\ Fl wr := by
 rw [cfw_of jeB H.h23, jw]
 obtain ⟨w8, u8, g8⟩ := jcY H.toFLex (tx := s) (σ := σ)
 rw [Z7, if_neg (by omega), hf] at u8
 obtain ⟨c, a⟩ := f
 obtain ⟨wt, ut, gt⟩ := jbu H.h13 H.h27 H.h28 H.h47 H.h49 H.h153 (f := (c, a)) h0 (σ := σ)
 have f2 : yT [.int .i64 0, .int .i64 0] [(0, 1, I c), (1, 1, I a)] = some [I c, I a] := rfl
 simp only [jeB, u8, ut, f2, tC, tM, jl, jA, Option.toList, jq, nat, j6, jP, j0, jr, lc0, lc1, jE, jF, jG, jH, j7, j8, ju, jt, jv, zV, zS, jD, jS, jc, jh, jW, je, jd, jx, jU, jj, ji, jp, jR, jy, jw, Ts.fill, jX, jV, jf, jY, jo, jm, jg, ja, getAll, stepCall, jn, unI, Opd.get, jC, tag, jz, jb, jQ, rv, bin, jZ, Nat.reduceAdd, Nat.reduceSub, Nat.reduceMul, Nat.reduceDiv, Nat.reduceMod, Nat.reducePow, Nat.reduceLT, Nat.reduceLeDiff, Nat.reduceEqDiff, Nat.reduceBEq, Nat.reduceBNe, reduceIte, Int.reduceEq, Int.reduceLT, Int.reduceLE, Int.reduceNeg, Int.reduceToNat, Int.reduceMul, Int.reduceAdd, Int.reduceSub, Int.reduceBEq, Int.reduceBNe, reduceCtorEq]
 rw [j5 (jN gt g8)]
 exact ⟨_, rfl, jO (jN gt g8)⟩
set_option maxRecDepth 100000 in
theorem x1 : zg [120, 49, 32, 61, 32, 48, 120, 49, 70, 59, 32, 47, 47, 32, 101, 110, 100] = ([⟨1, 0, 1, [120, 49], 0⟩, ⟨3, 3, 1, [61], 0⟩, ⟨2, 5, 1, [48, 120, 49, 70], 31⟩, ⟨3, 9, 1, [59], 0⟩], none) := by kernel_rfl
theorem x2 : zg [97, 60, 60, 61, 50] = ([⟨1, 0, 1, [97], 0⟩, ⟨3, 1, 1, [60, 60], 0⟩, ⟨3, 3, 1, [61], 0⟩, ⟨2, 4, 1, [50], 2⟩], none) := by kernel_rfl
theorem x3 : zg [] = ([], none) := by kernel_rfl
theorem x4 : (zg [49, 50, 97, 98]).2 = some (7, 2) := by kernel_rfl
theorem x5 : (zg [48, 120]).2 = some (7, 2) := by kernel_rfl
theorem x6 : (zg [52, 50, 57, 52, 57, 54, 55, 50, 57, 54]).2 = some (10, 0) := by kernel_rfl
theorem x7 : (zg [97, 36]).2 = some (7, 1) := by kernel_rfl
def T1 : List Tok := [⟨1, 0, 1, [120, 49], 0⟩, ⟨3, 3, 1, [61], 0⟩, ⟨2, 5, 1, [48, 120, 49, 70], 31⟩, ⟨3, 9, 1, [59], 0⟩, ⟨0, 17, 1, [], 0⟩]
def T2 : List Tok := [⟨1, 0, 1, [97], 0⟩, ⟨3, 1, 1, [60, 60], 0⟩, ⟨3, 3, 1, [61], 0⟩, ⟨2, 4, 1, [50], 2⟩, ⟨0, 5, 1, [], 0⟩]
def T3 : List Tok := [⟨0, 0, 1, [], 0⟩]
theorem Vc {s : List UInt8} {ts T : List Tok} (hs : s.length <= 20000) (h : zg s = (ts, none)) (hT : ts ++ [ZJ s] = T) : Z7 s = [.sl 0 false (T.map Jh), .prim .nilIface] := by
 rw [Z7, if_neg (by omega), h, hT]
set_option maxRecDepth 100000 in
theorem jex (H : FWk F) : ∃ wr, cfw F (.f 7) [] σ = some ⟨false, .bool true, σ, wr⟩ /\ Fl wr := by
 rw [cfw_of ir7 H.h7, jw]
 obtain ⟨w1, u1, g1⟩ := jcY H.toFLex (tx := [120, 49, 32, 61, 32, 48, 120, 49, 70, 59, 32, 47, 47, 32, 101, 110, 100]) (σ := σ)
 obtain ⟨w2, u2, g2⟩ := jcY H.toFLex (tx := [97, 60, 60, 61, 50]) (σ := σ)
 obtain ⟨w3, u3, g3⟩ := jcY H.toFLex (tx := []) (σ := σ)
 rw [Vc (T := T1) (by decide) x1 rfl] at u1
 rw [Vc (T := T2) (by decide) x2 rfl] at u2
 rw [Vc (T := T3) (by decide) x3 rfl] at u3
 have v1 := Zi H.h22 (T := T1) (ws := [[120, 49], [61], [48, 120, 49, 70], [59], []]) (o1 := 0) (o2 := 0) (r1 := false) (r2 := false) (σ := σ) rfl (by decide)
 have v2 := Zi H.h22 (T := T2) (ws := [[97], [60, 60], [61], [50], []]) (o1 := 0) (o2 := 0) (r1 := false) (r2 := false) (σ := σ) rfl (by decide)
 simp only [rR (f := IVal.str), List.map_nil (f := IVal.str)] at v1 v2
 obtain ⟨w4, u4, g4⟩ := KC H (f := (7, 2)) (σ := σ) (by decide) x4 (by decide)
 obtain ⟨w5, u5, g5⟩ := KC H (f := (7, 2)) (σ := σ) (by decide) x5 (by decide)
 obtain ⟨w6, u6, g6⟩ := KC H (f := (10, 0)) (σ := σ) (by decide) x6 (by decide)
 obtain ⟨w7, u7, g7⟩ := KC H (f := (7, 1)) (σ := σ) (by decide) x7 (by decide)
 have u4 : cfw F (.f 23) [.str [49, 50, 97, 98], .int .i64 7, .int .i64 2] σ = _ := u4
 have u5 : cfw F (.f 23) [.str [48, 120], .int .i64 7, .int .i64 2] σ = _ := u5
 have u6 : cfw F (.f 23) [.str [52, 50, 57, 52, 57, 54, 55, 50, 57, 54], .int .i64 10, .int .i64 0] σ = _ := u6
 have u7 : cfw F (.f 23) [.str [97, 36], .int .i64 7, .int .i64 1] σ = _ := u7
 have a2 : T1[2]? = some ⟨2, 5, 1, [48, 120, 49, 70], 31⟩ := rfl
 have a3 : T1[3]? = some ⟨3, 9, 1, [59], 0⟩ := rfl
 have a4 : T1[4]? = some ⟨0, 17, 1, [], 0⟩ := rfl
 have c0' : T3[0]? = some ⟨0, 0, 1, [], 0⟩ := rfl
 have l3 : T3.length = 1 := rfl
 have tf : (true != false) = true := rfl
 have tc : ∀ t : Tok, (Jh t).cells = TC t.k t.a t.ln t.t t.n := fun _ => rfl
 have nr : ∀ T : List Tok, nr2 (.sl 0 false (T.map Jh)) = true := fun _ => rfl
 have kI : ∀ n : Int, z6 0 (.int .i64 n) = true := fun n => rfl
 have kS : ∀ n, z6 1 (.str n) = true := fun n => rfl
 have eI : ∀ a b : Int, qh (.int .i64 a) (.int .i64 b) = some (a == b) := fun a b => by simp [qh]
 have eS : ∀ a b, qh (.str a) (.str b) = some (a == b) := fun a b => rfl
 have f5 : yT [.int .i64 0, .int .i64 0, .int .i64 0, .str [], .int .i64 0] [(2, 1, I 1)] = some [I 0, I 0, I 1, .str [], I 0] := rfl
 simp only [ir7, u1, u2, u3, u4, u5, u6, u7, v1, v2, a2, a3, a4, c0', l3, tf, tc, tk5, ext, eqK, kI, kS, eI, eS, f5, tC, tM, jl, jA, Option.toList, jq, nat, j6, jP, j0, jr, lc0, lc1, jE, jF, jG, jH, j7, j8, ju, jt, jv, zV, zS, jD, jS, jc, jh, jW, je, jd, jx, jU, jj, ji, jp, jR, jy, jw, Ts.fill, jX, jV, jf, jY, jo, jm, jg, ja, getAll, stepCall, jn, unI, Opd.get, jC, tag, jz, jb, jQ, rv, bin, jZ, Nat.reduceAdd, Nat.reduceSub, Nat.reduceMul, Nat.reduceDiv, Nat.reduceMod, Nat.reducePow, Nat.reduceLT, Nat.reduceLeDiff, Nat.reduceEqDiff, Nat.reduceBEq, Nat.reduceBNe, reduceIte, Int.reduceEq, Int.reduceLT, Int.reduceLE, Int.reduceNeg, Int.reduceToNat, Int.reduceMul, Int.reduceAdd, Int.reduceSub, Int.reduceBEq, Int.reduceBNe, reduceCtorEq]
 have gg := jN g7 (jN g6 (jN g5 (jN g4 (jN g3 (jN g2 g1)))))
 rw [j5 gg]
 exact ⟨_, rfl, jO gg⟩
end
end Go.Idl.Lx
namespace Go.Idl.Lx
open Go Go.Idl Go.Idl.En
variable {F : ko}
structure FSrt (F : ko) : Prop extends FWk F, FMade F where
 h3 : F 3 = some ir3
 h10 : F 10 = some jbS
 h11 : F 11 = some Z1
section
variable {a0 a1 : IVal} {S : List IObj} {p : Nat}
set_option maxRecDepth 20000 in
theorem jd0 (H : FSrt F) {t : Tok} (hp : S[p]? = some (.cells (TC t.k t.a t.ln t.t t.n))) (hk : t.k = 1) (hl : t.t.length <= 16) (hc : ∀ c ∈ t.t, isS 6 c.toNat = true) : ∀ (m i : Nat) (f0 : Nat -> Option (Nat × IVal)) (wr : List (Nat × Bool)) (R : Option (IExit × St)), evw F (.loop vm) ⟨E 13 38 6 [] f0, S, wr⟩ = R -> i + m = t.t.length -> f0 0 = some (0, a0) -> f0 1 = some (1, a1) -> f0 8 = some (8, .ptr p 0) -> f0 9 = some (9, I i) -> Fl wr ->
   ∃ f1 wr1, R = some (.exit 2, ⟨E 13 38 6 [] (base f1), S, wr1⟩) /\ Fl wr1 /\ f1 0 = some (0, a0) /\ f1 1 = some (1, a1) /\ f1 5 = f0 5 /\ f1 7 = f0 7 := by
 intro m
 have k1 : ((1 : Int) == 1) = true := rfl
 induction m with
 | zero =>
   intro i f0 wr R hE hm e0 e1 e8 e9 hw
   have d1 : decide ((i : Int) < (t.t.length : Nat)) = false := rE (by omega)
   change evw F (.loop vm) ⟨E 13 38 6 [] (base f0), S, wr⟩ = R at hE
   rw [ka] at hE
   simp only [vm, e0, e1, e8, e9, hp, d1, jl, jA, Option.toList, jq, nat, j6, jP, j0, jr, lc0, lc1, jE, jF, jG, jH, j7, j8, ju, jt, jv, zV, zS, jD, jS, jc, jh, jW, je, jd, jx, jU, jj, ji, jp, jR, jy, jw, Ts.fill, jX, jV, jf, jY, jo, jm, jg, ja, getAll, stepCall, jn, unI, Opd.get, jC, tag, jz, jb, jQ, rv, bin, jZ, Nat.reduceAdd, Nat.reduceSub, Nat.reduceMul, Nat.reduceDiv, Nat.reduceMod, Nat.reducePow, Nat.reduceLT, Nat.reduceLeDiff, Nat.reduceEqDiff, Nat.reduceBEq, Nat.reduceBNe, reduceIte, Int.reduceEq, Int.reduceLT, Int.reduceLE, Int.reduceNeg, Int.reduceToNat, Int.reduceMul, Int.reduceAdd, Int.reduceSub, Int.reduceBEq, Int.reduceBNe, reduceCtorEq] at hE
   exact ⟨_, _, hE.symm, hw, (by first | exact e0 | rfl), (by first | exact e1 | rfl), rfl, rfl⟩
 | succ m ih =>
   intro i f0 wr R hE hm e0 e1 e8 e9 hw
   obtain ⟨c, hg⟩ := vk (l := t.t) (i := i) (by omega)
   have hc6 := hc c (List.mem_of_getElem? hg)
   have hc256 : c.toNat < 256 := c.toNat_lt
   have d1 : decide ((i : Int) < (t.t.length : Nat)) = true := rB (by omega)
   have d2 : (0 : Int) <= (i : Int) := by omega
   have w1 := JU (n := i) (by omega)
   have ek : ((t.k : Nat) : Int) = 1 := by omega
   have u1 := KI H.h11 hc256 (σ := S)
   have u2 := QY H.h10 hc256 (σ := S)
   rw [jb6 _ hc256] at hc6
   change evw F (.loop vm) ⟨E 13 38 6 [] (base f0), S, wr⟩ = R at hE
   rw [ka] at hE
   cases hb : isS 2 c.toNat with
   | true =>
     rw [hb] at u1
     simp only [vm, e0, e1, e8, e9, hp, d1, d2, ek, hg, u1, w1, rI, jl, jA, Option.toList, jq, nat, j6, jP, j0, jr, lc0, lc1, jE, jF, jG, jH, j7, j8, ju, jt, jv, zV, zS, jD, jS, jc, jh, jW, je, jd, jx, jU, jj, ji, jp, jR, jy, jw, Ts.fill, jX, jV, jf, jY, jo, jm, jg, ja, getAll, stepCall, jn, unI, Opd.get, jC, tag, jz, jb, jQ, rv, bin, jZ, Nat.reduceAdd, Nat.reduceSub, Nat.reduceMul, Nat.reduceDiv, Nat.reduceMod, Nat.reducePow, Nat.reduceLT, Nat.reduceLeDiff, Nat.reduceEqDiff, Nat.reduceBEq, Nat.reduceBNe, reduceIte, Int.reduceEq, Int.reduceLT, Int.reduceLE, Int.reduceNeg, Int.reduceToNat, Int.reduceMul, Int.reduceAdd, Int.reduceSub, Int.reduceBEq, Int.reduceBNe, reduceCtorEq] at hE
     obtain ⟨f1, wr1, h1, h2, h3, h4, h5, h6⟩ := ih (i + 1) _ _ _ hE (by omega) (by first | exact e0 | rfl) (by first | exact e1 | rfl) (by first | exact e8 | rfl) (by rfl) hw
     exact ⟨f1, wr1, h1, h2, h3, h4, h5, h6⟩
   | false =>
     rw [hb, Bool.false_or] at hc6
     rw [hb] at u1
     rw [hc6] at u2
     simp only [vm, e0, e1, e8, e9, hp, d1, d2, ek, hg, u1, u2, w1, rI, jl, jA, Option.toList, jq, nat, j6, jP, j0, jr, lc0, lc1, jE, jF, jG, jH, j7, j8, ju, jt, jv, zV, zS, jD, jS, jc, jh, jW, je, jd, jx, jU, jj, ji, jp, jR, jy, jw, Ts.fill, jX, jV, jf, jY, jo, jm, jg, ja, getAll, stepCall, jn, unI, Opd.get, jC, tag, jz, jb, jQ, rv, bin, jZ, Nat.reduceAdd, Nat.reduceSub, Nat.reduceMul, Nat.reduceDiv, Nat.reduceMod, Nat.reducePow, Nat.reduceLT, Nat.reduceLeDiff, Nat.reduceEqDiff, Nat.reduceBEq, Nat.reduceBNe, reduceIte, Int.reduceEq, Int.reduceLT, Int.reduceLE, Int.reduceNeg, Int.reduceToNat, Int.reduceMul, Int.reduceAdd, Int.reduceSub, Int.reduceBEq, Int.reduceBNe, reduceCtorEq] at hE
     obtain ⟨f1, wr1, h1, h2, h3, h4, h5, h6⟩ := ih (i + 1) _ _ _ hE (by omega) (by first | exact e0 | rfl) (by first | exact e1 | rfl) (by first | exact e8 | rfl) (by rfl) hw
     exact ⟨f1, wr1, h1, h2, h3, h4, h5, h6⟩
set_option maxRecDepth 20000 in
theorem jba {t : Tok} (hp : S[p]? = some (.cells (TC t.k t.a t.ln t.t t.n))) (hk : t.k ≠ 1) (f0 : Nat -> Option (Nat × IVal)) (wr : List (Nat × Bool)) (R : Option (IExit × St)) (hE : evw F (.loop vm) ⟨E 13 38 6 [] f0, S, wr⟩ = R) (e0 : f0 0 = some (0, a0)) (e1 : f0 1 = some (1, a1)) (e8 : f0 8 = some (8, .ptr p 0)) (e9 : f0 9 = some (9, I 0)) (hw : Fl wr) :
   ∃ f1 wr1, R = some (.exit 2, ⟨E 13 38 6 [] (base f1), S, wr1⟩) /\ Fl wr1 /\ f1 0 = some (0, a0) /\ f1 1 = some (1, a1) /\ f1 5 = f0 5 /\ f1 7 = f0 7 := by
 have b1 : ((t.k : Int) == 1) = false := by rw [beq_eq_false_iff_ne]; omega
 change evw F (.loop vm) ⟨E 13 38 6 [] (base f0), S, wr⟩ = R at hE
 rw [ka] at hE
 cases d1 : decide ((0 : Int) < ((t.t.length : Nat) : Int)) with
 | false =>
   simp only [vm, e0, e1, e8, e9, hp, d1, jl, jA, Option.toList, jq, nat, j6, jP, j0, jr, lc0, lc1, jE, jF, jG, jH, j7, j8, ju, jt, jv, zV, zS, jD, jS, jc, jh, jW, je, jd, jx, jU, jj, ji, jp, jR, jy, jw, Ts.fill, jX, jV, jf, jY, jo, jm, jg, ja, getAll, stepCall, jn, unI, Opd.get, jC, tag, jz, jb, jQ, rv, bin, jZ, Nat.reduceAdd, Nat.reduceSub, Nat.reduceMul, Nat.reduceDiv, Nat.reduceMod, Nat.reducePow, Nat.reduceLT, Nat.reduceLeDiff, Nat.reduceEqDiff, Nat.reduceBEq, Nat.reduceBNe, reduceIte, Int.reduceEq, Int.reduceLT, Int.reduceLE, Int.reduceNeg, Int.reduceToNat, Int.reduceMul, Int.reduceAdd, Int.reduceSub, Int.reduceBEq, Int.reduceBNe, reduceCtorEq] at hE
   exact ⟨_, _, hE.symm, hw, (by first | exact e0 | rfl), (by first | exact e1 | rfl), rfl, rfl⟩
 | true =>
   simp only [vm, e0, e1, e8, e9, hp, d1, b1, jl, jA, Option.toList, jq, nat, j6, jP, j0, jr, lc0, lc1, jE, jF, jG, jH, j7, j8, ju, jt, jv, zV, zS, jD, jS, jc, jh, jW, je, jd, jx, jU, jj, ji, jp, jR, jy, jw, Ts.fill, jX, jV, jf, jY, jo, jm, jg, ja, getAll, stepCall, jn, unI, Opd.get, jC, tag, jz, jb, jQ, rv, bin, jZ, Nat.reduceAdd, Nat.reduceSub, Nat.reduceMul, Nat.reduceDiv, Nat.reduceMod, Nat.reducePow, Nat.reduceLT, Nat.reduceLeDiff, Nat.reduceEqDiff, Nat.reduceBEq, Nat.reduceBNe, reduceIte, Int.reduceEq, Int.reduceLT, Int.reduceLE, Int.reduceNeg, Int.reduceToNat, Int.reduceMul, Int.reduceAdd, Int.reduceSub, Int.reduceBEq, Int.reduceBNe, reduceCtorEq] at hE
   exact ⟨_, _, hE.symm, hw, (by first | exact e0 | rfl), (by first | exact e1 | rfl), rfl, rfl⟩
set_option maxRecDepth 20000 in
theorem jdZ (H : FSrt F) {T : List Tok} (hT : ∀ t ∈ T, Zw t) (hl : T.length <= 100000) {o : Nat} {r : Bool} : ∀ (m i : Nat) (f0 : Nat -> Option (Nat × IVal)) (S : List IObj) (wr : List (Nat × Bool)) (R : Option (IExit × St)), evw F (.loop vy) ⟨E 13 38 6 [] f0, S, wr⟩ = R -> i + m = T.length -> f0 0 = some (0, a0) -> f0 1 = some (1, a1) -> f0 5 = some (5, .sl o r (T.map Jh)) -> f0 7 = some (7, I i) -> Fl wr ->
   ∃ f1 wr1 g, R = some (.exit 0, ⟨E 13 38 6 [] (base f1), S ++ g, wr1⟩) /\ Fl wr1 /\ f1 0 = some (0, a0) /\ f1 1 = some (1, a1) := by
 intro m
 induction m with
 | zero =>
   intro i f0 S wr R hE hm e0 e1 e5 e7 hw
   have d1 : decide ((i : Int) < (T.length : Nat)) = false := rE (by omega)
   change evw F (.loop vy) ⟨E 13 38 6 [] (base f0), S, wr⟩ = R at hE
   rw [ka] at hE
   simp only [vy, e0, e1, e5, e7, d1, jl, jA, Option.toList, jq, nat, j6, jP, j0, jr, lc0, lc1, jE, jF, jG, jH, j7, j8, ju, jt, jv, zV, zS, jD, jS, jc, jh, jW, je, jd, jx, jU, jj, ji, jp, jR, jy, jw, Ts.fill, jX, jV, jf, jY, jo, jm, jg, ja, getAll, stepCall, jn, unI, Opd.get, jC, tag, jz, jb, jQ, rv, bin, jZ, Nat.reduceAdd, Nat.reduceSub, Nat.reduceMul, Nat.reduceDiv, Nat.reduceMod, Nat.reducePow, Nat.reduceLT, Nat.reduceLeDiff, Nat.reduceEqDiff, Nat.reduceBEq, Nat.reduceBNe, reduceIte, Int.reduceEq, Int.reduceLT, Int.reduceLE, Int.reduceNeg, Int.reduceToNat, Int.reduceMul, Int.reduceAdd, Int.reduceSub, Int.reduceBEq, Int.reduceBNe, reduceCtorEq] at hE
   exact ⟨_, _, [], by rw [rM]; exact hE.symm, hw, (by first | exact e0 | rfl), (by first | exact e1 | rfl)⟩
 | succ m ih =>
   intro i f0 S wr R hE hm e0 e1 e5 e7 hw
   obtain ⟨t, hg⟩ := vk (l := T) (i := i) (by omega)
   obtain ⟨ok1, ok2, ok3⟩ := hT t (List.mem_of_getElem? hg)
   have d1 : decide ((i : Int) < (T.length : Nat)) = true := rB (by omega)
   have d2 : (0 : Int) <= (i : Int) := by omega
   have w1 : IntKind.i64.wrap ((i : Int) + 1) = ((i + 1 : Nat) : Int) := JU (by omega)
   have tc : (Jh t).cells = TC t.k t.a t.ln t.t t.n := rfl
   have tcu : (TC t.k t.a t.ln t.t t.n).map un1 = TC t.k t.a t.ln t.t t.n := rfl
   have gp : ∀ l, (S ++ .cells (TC t.k t.a t.ln t.t t.n) :: l)[S.length]? = some (.cells (TC t.k t.a t.ln t.t t.n)) := fun l => by rw [get_app0]; rfl
   have dn : decide ((t.n : Int) < 0) = false := rE (by omega)
   change evw F (.loop vy) ⟨E 13 38 6 [] (base f0), S, wr⟩ = R at hE
   rw [ka] at hE
   have fin : ∀ (f2 : Nat -> Option (Nat × IVal)) (wr2 : List (Nat × Bool)) (o2 : Nat), evw F (.loop vy) ⟨E 13 38 6 [] f2, S ++ [.cells (TC t.k t.a t.ln t.t t.n)], wr2⟩ = R -> f2 0 = some (0, a0) -> f2 1 = some (1, a1) -> f2 5 = some (5, .sl o r (T.map Jh)) -> f2 7 = some (7, I (i + 1 : Nat)) -> Fl wr2 -> ∃ f1 wr1 g, R = some (.exit 0, ⟨E 13 38 6 [] (base f1), S ++ g, wr1⟩) /\ Fl wr1 /\ f1 0 = some (0, a0) /\ f1 1 = some (1, a1) := by
     intro f2 wr2 o2 h h0 h1 h5 h7 hw2
     obtain ⟨f1, wr1, g, hR, gw, a, b⟩ := ih (i + 1) f2 _ wr2 R h (by omega) h0 h1 h5 h7 hw2
     exact ⟨f1, wr1, _, by rw [hR, List.append_assoc], gw, a, b⟩
   have gpp := gp []
   by_cases hk2 : t.k = 2
   . obtain ⟨c, s, hts, _, h4⟩ := ok1 (Or.inr hk2)
     have h4 := h4 hk2
     have b2 : ((t.k : Int) == 2) = true := by rw [beq_iff_eq]; omega
     have b1 : ((t.k : Int) == 1) = false := by rw [beq_eq_false_iff_ne]; omega
     have d3 : decide ((t.n : Int) ≥ 4294967296) = false := rE (by have := ok3 hk2; omega)
     have hc256 : c.toNat < 256 := c.toNat_lt
     have u2 := fun S => QY H.h10 hc256 (σ := S)
     rw [h4] at u2
     have g0 : t.t[0]? = some c := by rw [hts]; rfl
     simp only [vy, e0, e1, e5, e7, d1, d2, hg, tc, tcu, tk5, gp, b1, b2, dn, d3, g0, u2, rI, jl, jA, Option.toList, jq, nat, j6, jP, j0, jr, lc0, lc1, jE, jF, jG, jH, j7, j8, ju, jt, jv, zV, zS, jD, jS, jc, jh, jW, je, jd, jx, jU, jj, ji, jp, jR, jy, jw, Ts.fill, jX, jV, jf, jY, jo, jm, jg, ja, getAll, stepCall, jn, unI, Opd.get, jC, tag, jz, jb, jQ, rv, bin, jZ, Nat.reduceAdd, Nat.reduceSub, Nat.reduceMul, Nat.reduceDiv, Nat.reduceMod, Nat.reducePow, Nat.reduceLT, Nat.reduceLeDiff, Nat.reduceEqDiff, Nat.reduceBEq, Nat.reduceBNe, reduceIte, Int.reduceEq, Int.reduceLT, Int.reduceLE, Int.reduceNeg, Int.reduceToNat, Int.reduceMul, Int.reduceAdd, Int.reduceSub, Int.reduceBEq, Int.reduceBNe, reduceCtorEq] at hE
     generalize hI : evw F (ICode.loop vm) _ = R2 at hE
     obtain ⟨f1, wr1, rfl, gw, i0, i1, i5, i7⟩ := jba (t := t) gpp (by omega) _ _ _ hI (by first | exact e0 | rfl) (by first | exact e1 | rfl) (by rfl) (by rfl) (by simpa using hw)
     have i5 : f1 5 = some (5, .sl o r (T.map Jh)) := i5.trans e5
     have i7 : f1 7 = some (7, I i) := i7.trans e7
     simp only [vy, i0, i1, i5, i7, w1, jA, Option.toList, jq, nat, j6, jP, j0, jr, lc0, lc1, jE, jF, jG, jH, j7, j8, ju, jt, jv, zV, zS, jD, jS, jc, jh, jW, je, jl, jd, jx, jU, jj, ji, jp, jR, jy, jw, Ts.fill, jX, jV, jf, jY, jo, jm, jg, ja, getAll, stepCall, jn, unI, Opd.get, jC, tag, jz, jb, jQ, rv, bin, jZ, Nat.reduceAdd, Nat.reduceSub, Nat.reduceMul, Nat.reduceDiv, Nat.reduceMod, Nat.reducePow, Nat.reduceLT, Nat.reduceLeDiff, Nat.reduceEqDiff, Nat.reduceBEq, Nat.reduceBNe, reduceIte, Int.reduceEq, Int.reduceLT, Int.reduceLE, Int.reduceNeg, Int.reduceToNat, Int.reduceMul, Int.reduceAdd, Int.reduceSub, Int.reduceBEq, Int.reduceBNe, reduceCtorEq] at hE
     exact fin _ _ 0 hE (by first | exact i0 | rfl) (by first | exact i1 | rfl) (by first | exact i5 | rfl) (by rfl) gw
   . have b2 : ((t.k : Int) == 2) = false := by rw [beq_eq_false_iff_ne]; omega
     by_cases hk1 : t.k = 1
     . obtain ⟨c, s, hts, h2, _⟩ := ok1 (Or.inl hk1)
       have h2 := h2 hk1
       have b1 : ((t.k : Int) == 1) = true := by rw [beq_iff_eq]; omega
       obtain ⟨h16, h6⟩ := ok2 hk1
       have hc256 : c.toNat < 256 := c.toNat_lt
       have u1 := fun S => KI H.h11 hc256 (σ := S)
       rw [h2] at u1
       have g0 : t.t[0]? = some c := by rw [hts]; rfl
       have d3 : decide (((t.t.length : Nat) : Int) > 16) = false := rE (by omega)
       simp only [vy, e0, e1, e5, e7, d1, d2, hg, tc, tcu, tk5, gp, b1, b2, d3, g0, u1, rI, jl, jA, Option.toList, jq, nat, j6, jP, j0, jr, lc0, lc1, jE, jF, jG, jH, j7, j8, ju, jt, jv, zV, zS, jD, jS, jc, jh, jW, je, jd, jx, jU, jj, ji, jp, jR, jy, jw, Ts.fill, jX, jV, jf, jY, jo, jm, jg, ja, getAll, stepCall, jn, unI, Opd.get, jC, tag, jz, jb, jQ, rv, bin, jZ, Nat.reduceAdd, Nat.reduceSub, Nat.reduceMul, Nat.reduceDiv, Nat.reduceMod, Nat.reducePow, Nat.reduceLT, Nat.reduceLeDiff, Nat.reduceEqDiff, Nat.reduceBEq, Nat.reduceBNe, reduceIte, Int.reduceEq, Int.reduceLT, Int.reduceLE, Int.reduceNeg, Int.reduceToNat, Int.reduceMul, Int.reduceAdd, Int.reduceSub, Int.reduceBEq, Int.reduceBNe, reduceCtorEq] at hE
       generalize hI : evw F (ICode.loop vm) _ = R2 at hE
       obtain ⟨f1, wr1, rfl, gw, i0, i1, i5, i7⟩ := jd0 (t := t) H gpp hk1 h16 h6 _ 0 _ _ _ hI (tS _) (by first | exact e0 | rfl) (by first | exact e1 | rfl) (by rfl) (by rfl) (by simpa using hw)
       have i5 : f1 5 = some (5, .sl o r (T.map Jh)) := i5.trans e5
       have i7 : f1 7 = some (7, I i) := i7.trans e7
       simp only [vy, i0, i1, i5, i7, w1, jA, Option.toList, jq, nat, j6, jP, j0, jr, lc0, lc1, jE, jF, jG, jH, j7, j8, ju, jt, jv, zV, zS, jD, jS, jc, jh, jW, je, jl, jd, jx, jU, jj, ji, jp, jR, jy, jw, Ts.fill, jX, jV, jf, jY, jo, jm, jg, ja, getAll, stepCall, jn, unI, Opd.get, jC, tag, jz, jb, jQ, rv, bin, jZ, Nat.reduceAdd, Nat.reduceSub, Nat.reduceMul, Nat.reduceDiv, Nat.reduceMod, Nat.reducePow, Nat.reduceLT, Nat.reduceLeDiff, Nat.reduceEqDiff, Nat.reduceBEq, Nat.reduceBNe, reduceIte, Int.reduceEq, Int.reduceLT, Int.reduceLE, Int.reduceNeg, Int.reduceToNat, Int.reduceMul, Int.reduceAdd, Int.reduceSub, Int.reduceBEq, Int.reduceBNe, reduceCtorEq] at hE
       exact fin _ _ 0 hE (by first | exact i0 | rfl) (by first | exact i1 | rfl) (by first | exact i5 | rfl) (by rfl) gw
     . have b1 : ((t.k : Int) == 1) = false := by rw [beq_eq_false_iff_ne]; omega
       simp only [vy, e0, e1, e5, e7, d1, d2, hg, tc, tcu, tk5, gp, b1, b2, rI, jl, jA, Option.toList, jq, nat, j6, jP, j0, jr, lc0, lc1, jE, jF, jG, jH, j7, j8, ju, jt, jv, zV, zS, jD, jS, jc, jh, jW, je, jd, jx, jU, jj, ji, jp, jR, jy, jw, Ts.fill, jX, jV, jf, jY, jo, jm, jg, ja, getAll, stepCall, jn, unI, Opd.get, jC, tag, jz, jb, jQ, rv, bin, jZ, Nat.reduceAdd, Nat.reduceSub, Nat.reduceMul, Nat.reduceDiv, Nat.reduceMod, Nat.reducePow, Nat.reduceLT, Nat.reduceLeDiff, Nat.reduceEqDiff, Nat.reduceBEq, Nat.reduceBNe, reduceIte, Int.reduceEq, Int.reduceLT, Int.reduceLE, Int.reduceNeg, Int.reduceToNat, Int.reduceMul, Int.reduceAdd, Int.reduceSub, Int.reduceBEq, Int.reduceBNe, reduceCtorEq] at hE
       generalize hI : evw F (ICode.loop vm) _ = R2 at hE
       obtain ⟨f1, wr1, rfl, gw, i0, i1, i5, i7⟩ := jba (t := t) gpp hk1 _ _ _ hI (by first | exact e0 | rfl) (by first | exact e1 | rfl) (by rfl) (by rfl) (by simpa using hw)
       have i5 : f1 5 = some (5, .sl o r (T.map Jh)) := i5.trans e5
       have i7 : f1 7 = some (7, I i) := i7.trans e7
       simp only [vy, i0, i1, i5, i7, w1, jA, Option.toList, jq, nat, j6, jP, j0, jr, lc0, lc1, jE, jF, jG, jH, j7, j8, ju, jt, jv, zV, zS, jD, jS, jc, jh, jW, je, jl, jd, jx, jU, jj, ji, jp, jR, jy, jw, Ts.fill, jX, jV, jf, jY, jo, jm, jg, ja, getAll, stepCall, jn, unI, Opd.get, jC, tag, jz, jb, jQ, rv, bin, jZ, Nat.reduceAdd, Nat.reduceSub, Nat.reduceMul, Nat.reduceDiv, Nat.reduceMod, Nat.reducePow, Nat.reduceLT, Nat.reduceLeDiff, Nat.reduceEqDiff, Nat.reduceBEq, Nat.reduceBNe, reduceIte, Int.reduceEq, Int.reduceLT, Int.reduceLE, Int.reduceNeg, Int.reduceToNat, Int.reduceMul, Int.reduceAdd, Int.reduceSub, Int.reduceBEq, Int.reduceBNe, reduceCtorEq] at hE
       exact fin _ _ 0 hE (by first | exact i0 | rfl) (by first | exact i1 | rfl) (by first | exact i5 | rfl) (by rfl) gw
end
end Go.Idl.Lx
namespace Go.Idl.Lx
open Go Go.Idl Go.Idl.En
variable {F : ko}
theorem jcc (c : UInt8) : (isS 1 c.toNat = true -> zg [c] = ([], none)) /\ (isS 1 c.toNat = false -> (isS 2 c.toNat = true \/ isS 4 c.toNat = true \/ isS 8 c.toNat = true -> ∃ k v, zg [c] = ([⟨k, 0, 1, [c], v⟩], none)) /\ (isS 2 c.toNat = false -> isS 4 c.toNat = false -> isS 8 c.toNat = false -> zg [c] = ([], some (7, 0)))) := by
 have hc : c.toNat < 256 := c.toNat_lt
 have h2 : [47, 47].isPrefixOf [c] = false := by simp [List.isPrefixOf]
 have hx : [48, 120].isPrefixOf [c] = false := by simp [List.isPrefixOf]
 have sk0 : skN false [] = 0 := rfl
 refine ⟨fun h => ?_, fun h => ⟨fun hk => ?_, fun e2 e4 e8 => ?_⟩⟩
 . show zY [c] 2 (skN false [c]) = _
   rw [skN, h, if_pos rfl]; rfl
 . have s0 : skN false [c] = 0 := by rw [skN, h, h2]; rfl
   have end1 : ∀ k v, KO [c] 0 = .inr (k, 1, v) -> zg [c] = ([⟨k, 0, 1, [c], v⟩], none) := by
     intro k v ho
     show zY [c] 2 (skN false [c]) = _
     rw [s0, zY, if_pos (by simp), ho]
     rfl
   cases e2 : isS 2 c.toNat with
   | true =>
     refine ⟨1, 0, end1 1 0 ?_⟩
     have h6 : isS 6 c.toNat = true := by rw [jb6 _ hc, e2]; rfl
     have hs : spn 6 [c] = 1 := by rw [zt, h6]; rfl
     unfold KO
     simp [e2, hs]
   | false =>
     cases e4 : isS 4 c.toNat with
     | true =>
       have hd : 48 <= c.toNat /\ c.toNat <= 57 := by rw [jdR _ hc] at e4; exact of_decide_eq_true e4
       have ho : oth 10 c.toNat = false := by rw [jeh _ hc, rB hd]; rfl
       have hdg : dgs 10 [c] = 1 := by rw [z9, ho]; rfl
       have hv := (KB _ hc (Vn _ hc ho).2 hd.2).2.2
       have hpz : pz 10 0 [c] = some (vdg c.toNat) := by
         have : ¬ T64 <= 0 * 10 + vdg c.toNat := by show ¬ 18446744073709551616 <= _; omega
         rw [pz, if_neg this, pz]; congr 1; omega
       refine ⟨2, vdg c.toNat, end1 2 _ ?_⟩
       have hn : Zu [c] 0 = .inr (1, vdg c.toNat) := by
         have nv : ¬ 4294967296 <= vdg c.toNat := by omega
         unfold Zu XU
         simp [hx, hdg, hpz, nv]
       unfold KO
       simp [e2, e4, hn]
     | false =>
       have e8 : isS 8 c.toNat = true := by rcases hk with h | h | h; rw [e2] at h; cases h; rw [e4] at h; cases h; exact h
       refine ⟨3, 0, end1 3 0 ?_⟩
       have hm : mkN [c] = 1 := by
         have : dbls.any (fun m => m.isPrefixOf [c]) = false := by simp [dbls, List.isPrefixOf]
         rw [mkN, this]; rfl
       unfold KO
       simp [e2, e4, e8, hm]
 . have s0 : skN false [c] = 0 := by rw [skN, h, h2]; rfl
   show zY [c] 2 (skN false [c]) = _
   have ho : KO [c] 0 = .inl (7, 0) := by
     unfold KO
     simp [e2, e4, e8]
   rw [s0, zY, if_pos (by simp), ho]
theorem Z0 : ∀ c : Nat, c < 256 -> decide (K2 c [32, 9, 10] 0 ≥ 0) = isS 1 c := by decide +kernel
theorem jdt : ∀ c : Nat, c < 256 -> decide (K2 c jaC 0 ≥ 0) = isS 8 c := by decide +kernel
section
variable {σ : List IObj}
set_option maxRecDepth 20000 in
theorem jfU (H : FSrt F) {l : List Nat} {o : Nat} {r : Bool} (hb : ∀ b ∈ l, b < 256) (c : UInt8) : ∃ wr S, cfw F (.f 3) [.sl o r (l.map B), B c.toNat] σ = some ⟨false, .bool true, S, wr⟩ := by
 rw [cfw_of ir3 H.h3, jw]
 have hc : c.toNat < 256 := c.toNat_lt
 obtain ⟨w7, u7, g7⟩ := jex H.toFWk (σ := σ)
 have u9 := jfe H.toFMade hb (o := 0) (r := r) σ
 obtain ⟨w8, u8, g8⟩ := jcY H.toFLex (tx := mdS l) (σ := σ)
 have hmd := jcf l
 obtain ⟨T, o2, r2, er, hv, hT, hTl, hn1, hn2, hn3, hn4⟩ : ∃ (T : List Tok) (o : Nat) (r : Bool) (er : IVal), Z7 (mdS l) = [.sl o r (T.map Jh), er] /\ (∀ t ∈ T, Zw t) /\ T.length <= 100000 /\ nt er = true /\ un2 er = er /\ un3 er = er /\ nr2 (.sl o r (T.map Jh)) = true := by
   have hok := YD (mdS l) ((mdS l).length + 1) (skN false (mdS l))
   have hlen := KJ (mdS l) ((mdS l).length + 1) (skN false (mdS l))
   rw [Z7, if_neg (by omega)]
   cases h2 : (zg (mdS l)).2 with
   | some f => exact ⟨[], 5, true, _, rfl, by simp, by simp, rfl, rfl, rfl, rfl⟩
   | none =>
     refine ⟨(zg (mdS l)).1 ++ [ZJ (mdS l)], 0, false, _, rfl, ?_, ?_, rfl, rfl, rfl, rfl⟩
     . intro t ht
       rcases List.mem_append.1 ht with h | h
       . exact hok t h
       . rw [List.mem_singleton.1 h]
         exact ⟨fun h => absurd h (by decide : ¬ ((0 : Nat) = 1 \/ (0 : Nat) = 2)), fun h => absurd h (by decide : ¬ (0 : Nat) = 1), fun h => absurd h (by decide : ¬ (0 : Nat) = 2)⟩
     . rw [rF]; simp only [tB, List.length_nil]; have : (zg (mdS l)).1.length <= _ := hlen; omega
 rw [hv] at u8
 simp only [ir3, u7, u9, u8, hn1, hn2, hn3, jA, Option.toList, jq, nat, j6, jP, j0, jr, lc0, lc1, jE, jF, jG, jH, j7, j8, ju, jt, jv, zV, zS, jD, jS, jc, jh, jW, je, jl, jd, jx, jU, jj, ji, jp, jR, jy, jw, Ts.fill, jX, jV, jf, jY, jo, jm, jg, ja, getAll, stepCall, jn, unI, Opd.get, jC, tag, jz, jb, jQ, rv, bin, jZ, Nat.reduceAdd, Nat.reduceSub, Nat.reduceMul, Nat.reduceDiv, Nat.reduceMod, Nat.reducePow, Nat.reduceLT, Nat.reduceLeDiff, Nat.reduceEqDiff, Nat.reduceBEq, Nat.reduceBNe, reduceIte, Int.reduceEq, Int.reduceLT, Int.reduceLE, Int.reduceNeg, Int.reduceToNat, Int.reduceMul, Int.reduceAdd, Int.reduceSub, Int.reduceBEq, Int.reduceBNe, reduceCtorEq]
 generalize hE : evw F (ICode.loop vy) _ = R
 obtain ⟨f1, wr1, g, rfl, gw, e0, e1'⟩ := jdZ H hT hTl T.length 0 _ _ _ _ hE (tS _) (by rfl) (by rfl) (by rfl) (by rfl) (by simpa using jN g8 g7)
 have tbc : qO [.int .u8 c.toNat] = some [c] := by simp [qO]
 obtain ⟨l1, l2⟩ := jcc c
 obtain ⟨wx, ux, gx⟩ := jcY H.toFLex (tx := [c]) (σ := σ ++ g)
 have lv : Z7 [c] = match (zg [c]).2 with | some f => [.sl 5 true [], flt f] | none => [.sl 0 false (((zg [c]).1 ++ [ZJ [c]]).map Jh), .prim .nilIface] := by rw [Z7, if_neg (by simp)] <;> rfl
 have tf : (true != false) = true := rfl
 have ft : (false == true) = false := rfl
 rw [lv] at ux
 have i1 := fun τ => jeA H.h12 H.h26 (σ := τ) (s := [32, 9, 10]) hc
 have d1 := Z0 c.toNat hc
 have i8 := fun τ => jeA H.h12 H.h26 (σ := τ) (s := jaC) hc
 simp only [jaC] at i8
 have d8 := jdt c.toNat hc
 rw [jaC] at d8
 have uL := fun τ => KI H.h11 hc (σ := τ)
 have uD := fun τ => QY H.h10 hc (σ := τ)
 cases e1 : isS 1 c.toNat with
 | true =>
   rw [l1 e1] at ux
   have n1 : nr1 (.int .u8 c.toNat) = true := rfl
   rw [e1] at d1
   simp only [ext, tbc, ux, i1, d1, e0, e1', tf, List.map_append, Jh, ZJ, jA, Option.toList, jq, nat, j6, jP, j0, jr, lc0, lc1, jE, jF, jG, jH, j7, j8, ju, jt, jv, zV, zS, jD, jS, jc, jh, jW, je, jl, jd, jx, jU, jj, ji, jp, jR, jy, jw, Ts.fill, jX, jV, jf, jY, jo, jm, jg, ja, getAll, stepCall, jn, unI, Opd.get, jC, tag, jz, jb, jQ, rv, bin, jZ, Nat.reduceAdd, Nat.reduceSub, Nat.reduceMul, Nat.reduceDiv, Nat.reduceMod, Nat.reducePow, Nat.reduceLT, Nat.reduceLeDiff, Nat.reduceEqDiff, Nat.reduceBEq, Nat.reduceBNe, reduceIte, Int.reduceEq, Int.reduceLT, Int.reduceLE, Int.reduceNeg, Int.reduceToNat, Int.reduceMul, Int.reduceAdd, Int.reduceSub, Int.reduceBEq, Int.reduceBNe, reduceCtorEq]
   rw [j5 (jN gx gw)]
   exact ⟨_, _, rfl⟩
 | false =>
   obtain ⟨l2a, l2b⟩ := l2 e1
   have n1 : nr1 (.int .u8 c.toNat) = true := rfl
   rw [e1] at d1
   have tcr : ∀ (a b d : Int) (t : List UInt8) (n : Int), (TC a 0 1 t n).length = 5 := fun _ _ _ _ _ => rfl
   have nok : ∀ (tk : isS 2 c.toNat = true \/ isS 4 c.toNat = true \/ isS 8 c.toNat = true), ∃ k v, cfw F (.f 8) [.str [c]] (σ ++ g) = some ⟨false, .tup [.sl 0 false [.agg (TC k 0 1 [c] v), .agg (TC 0 1 (1 + nl [c]) [] 0)], .prim .nilIface], σ ++ g, wx⟩ := by
     intro tk
     obtain ⟨k, v, hk⟩ := l2a tk
     rw [hk] at ux
     exact ⟨k, v, ux⟩
   cases e2 : isS 2 c.toNat with
   | true =>
     obtain ⟨k, v, ux⟩ := nok (Or.inl e2)
     rw [e2] at uL
     simp only [ext, tbc, ux, i1, d1, e0, e1', tf, ft, uL, jl, jA, Option.toList, jq, nat, j6, jP, j0, jr, lc0, lc1, jE, jF, jG, jH, j7, j8, ju, jt, jv, zV, zS, jD, jS, jc, jh, jW, je, jd, jx, jU, jj, ji, jp, jR, jy, jw, Ts.fill, jX, jV, jf, jY, jo, jm, jg, ja, getAll, stepCall, jn, unI, Opd.get, jC, tag, jz, jb, jQ, rv, bin, jZ, Nat.reduceAdd, Nat.reduceSub, Nat.reduceMul, Nat.reduceDiv, Nat.reduceMod, Nat.reducePow, Nat.reduceLT, Nat.reduceLeDiff, Nat.reduceEqDiff, Nat.reduceBEq, Nat.reduceBNe, reduceIte, Int.reduceEq, Int.reduceLT, Int.reduceLE, Int.reduceNeg, Int.reduceToNat, Int.reduceMul, Int.reduceAdd, Int.reduceSub, Int.reduceBEq, Int.reduceBNe, reduceCtorEq]
     rw [j5 (jN gx gw)]
     exact ⟨_, _, rfl⟩
   | false =>
     rw [e2] at uL
     cases e4 : isS 4 c.toNat with
     | true =>
       obtain ⟨k, v, ux⟩ := nok (Or.inr (Or.inl e4))
       rw [e4] at uD
       simp only [ext, tbc, ux, i1, d1, e0, e1', tf, ft, uL, uD, jl, jA, Option.toList, jq, nat, j6, jP, j0, jr, lc0, lc1, jE, jF, jG, jH, j7, j8, ju, jt, jv, zV, zS, jD, jS, jc, jh, jW, je, jd, jx, jU, jj, ji, jp, jR, jy, jw, Ts.fill, jX, jV, jf, jY, jo, jm, jg, ja, getAll, stepCall, jn, unI, Opd.get, jC, tag, jz, jb, jQ, rv, bin, jZ, Nat.reduceAdd, Nat.reduceSub, Nat.reduceMul, Nat.reduceDiv, Nat.reduceMod, Nat.reducePow, Nat.reduceLT, Nat.reduceLeDiff, Nat.reduceEqDiff, Nat.reduceBEq, Nat.reduceBNe, reduceIte, Int.reduceEq, Int.reduceLT, Int.reduceLE, Int.reduceNeg, Int.reduceToNat, Int.reduceMul, Int.reduceAdd, Int.reduceSub, Int.reduceBEq, Int.reduceBNe, reduceCtorEq]
       rw [j5 (jN gx gw)]
       exact ⟨_, _, rfl⟩
     | false =>
       rw [e4] at uD
       cases e8 : isS 8 c.toNat with
       | true =>
         obtain ⟨k, v, ux⟩ := nok (Or.inr (Or.inr e8))
         rw [e8] at d8
         simp only [ext, tbc, ux, i1, i8, d1, d8, e0, e1', tf, ft, uL, uD, jl, jA, Option.toList, jq, nat, j6, jP, j0, jr, lc0, lc1, jE, jF, jG, jH, j7, j8, ju, jt, jv, zV, zS, jD, jS, jc, jh, jW, je, jd, jx, jU, jj, ji, jp, jR, jy, jw, Ts.fill, jX, jV, jf, jY, jo, jm, jg, ja, getAll, stepCall, jn, unI, Opd.get, jC, tag, jz, jb, jQ, rv, bin, jZ, Nat.reduceAdd, Nat.reduceSub, Nat.reduceMul, Nat.reduceDiv, Nat.reduceMod, Nat.reducePow, Nat.reduceLT, Nat.reduceLeDiff, Nat.reduceEqDiff, Nat.reduceBEq, Nat.reduceBNe, reduceIte, Int.reduceEq, Int.reduceLT, Int.reduceLE, Int.reduceNeg, Int.reduceToNat, Int.reduceMul, Int.reduceAdd, Int.reduceSub, Int.reduceBEq, Int.reduceBNe, reduceCtorEq]
         rw [j5 (jN gx gw)]
         exact ⟨_, _, rfl⟩
       | false =>
         rw [l2b e2 e4 e8] at ux
         rw [e8] at d8
         have f2 : yT [.int .i64 0, .int .i64 0] [(0, 1, I 7)] = some [I 7, I 0] := rfl
         obtain ⟨wt, ut, gt⟩ := jbu H.h13 H.h27 H.h28 H.h47 H.h49 H.h153 (f := (7, 0)) (by decide) (σ := σ ++ g)
         have ut : cfw F (.f 13) [.iface 56 (.pv false [I 7, I 0] 0), .agg [I 7, I 0]] (σ ++ g) = _ := ut
         have ux : cfw F (.f 8) [.str [c]] (σ ++ g) = some ⟨false, .tup [.sl 5 true [], .iface 56 (.pv false [I 7, I 0] 0)], σ ++ g, wx⟩ := ux
         simp only [ext, tbc, ux, ut, f2, i1, i8, d1, d8, e0, e1', tf, ft, uL, uD, jl, tC, tM, jA, Option.toList, jq, nat, j6, jP, j0, jr, lc0, lc1, jE, jF, jG, jH, j7, j8, ju, jt, jv, zV, zS, jD, jS, jc, jh, jW, je, jd, jx, jU, jj, ji, jp, jR, jy, jw, Ts.fill, jX, jV, jf, jY, jo, jm, jg, ja, getAll, stepCall, jn, unI, Opd.get, jC, tag, jz, jb, jQ, rv, bin, jZ, Nat.reduceAdd, Nat.reduceSub, Nat.reduceMul, Nat.reduceDiv, Nat.reduceMod, Nat.reducePow, Nat.reduceLT, Nat.reduceLeDiff, Nat.reduceEqDiff, Nat.reduceBEq, Nat.reduceBNe, reduceIte, Int.reduceEq, Int.reduceLT, Int.reduceLE, Int.reduceNeg, Int.reduceToNat, Int.reduceMul, Int.reduceAdd, Int.reduceSub, Int.reduceBEq, Int.reduceBNe, reduceCtorEq]
         rw [j5 (jN gt (jN gx gw))]
         exact ⟨_, _, rfl⟩
end
end Go.Idl.Lx
