/- SnapBack: what the ideal machine makes of its functions, part E; no conditions. -/
import Derived.Test.YtbfjnoljjbaelaaDoorSbD
import Derived.OpenShut
set_option linter.unusedSectionVars false
set_option linter.unusedVariables false
set_option linter.unusedSimpArgs false
namespace Go.Idl.Sb
open Go Go.Idl Go.Idl.En
variable {F : jJ}
theorem kz {p : IVal -> Bool} (l : List IVal) (o : Nat) (v : IVal) (h1 : l.all p = true) (h2 : p v = true) : (l.set o v).all p = true := by
 rw [List.all_eq_true] at h1 ⊢
 intro u hu
 rcases List.mem_or_eq_of_mem_set hu with h | h
 . exact h1 u h
 . rw [h]; exact h2
theorem jeK {cs : List IVal} (hc : cs.all nr1 = true) : (cs.map un1).all nr1 = true := by
 rw [List.all_eq_true] at hc ⊢
 intro v hv
 obtain ⟨u, hu, rfl⟩ := List.mem_map.mp hv
 have := hc u hu
 cases u <;> exact this
theorem jbq {α β : Type} {r : Bool} {zs : List α} {k : Nat} (q : r = true -> zs = []) : V4 r 0 (min zs.length k) zs.length = true -> zs.take k = [] := by
 intro h
 rw [V4, Bool.and_eq_true] at h
 rw [q h.1, List.take_nil]
theorem Zi {α : Type} {f : α -> IVal} {o : Nat} {r : Bool} {zs : List α} (q : r = true -> zs = []) : nr1 (.sl o r (zs.map f)) = true := by
 rw [nr1_sl]
 cases r with
 | false => rfl
 | true => rw [q rfl]; rfl
theorem jaH (n : Nat) (k : Nat) : (if (k : Int) < (n : Int) then (k : Int) else (n : Int)) = ((min n k : Nat) : Int) := by split <;> omega
theorem jf4 (zs : List Int) : J5 1 (zs.map J) = true := by cases zs <;> rfl
theorem jf5 (zs : List (Int × Int × Bool)) : J5 3 (zs.map Ra) = true := by cases zs <;> rfl
theorem Q4 {α β : Type} (f : α -> β) (zs : List α) (k : Nat) : (zs.map f).take (min zs.length k) = (zs.take k).map f := by
 rw [<- List.map_take]
 congr 1
 rcases Nat.le_total zs.length k with h | h
 . rw [Nat.min_eq_left h, List.take_length, List.take_of_length_le h]
 . rw [Nat.min_eq_right h]
set_option maxHeartbeats 2000000 in
theorem jhd (h : F 16 = some jfo) {cs : List IVal} {σ : List IObj} (hn : cs.length = 55) (hc : cs.all IVal.isCell = true) (hnr : cs.all nr1 = true) {r1 r2 r3 : Bool} {z1 z2 : List Int} {z3 : List (Int × Int × Bool)}
   (c1 : cs[13]? = some (.sl 0 r1 (z1.map J))) (c2 : cs[14]? = some (.sl 0 r2 (z2.map J))) (c3 : cs[16]? = some (.sl 0 r3 (z3.map Ra))) (q1 : r1 = true -> z1 = []) (q2 : r2 = true -> z2 = []) (q3 : r3 = true -> z3 = []) :
   ∃ o1 r1' o2 r2' o3 r3', cfw F (.f 16) [.agg cs] σ = some ⟨false, .agg ((((cs.map un1).set 13 (.sl o1 r1' ((z1.take 40).map J))).set 14 (.sl o2 r2' ((z2.take 40).map J))).set 16 (.sl o3 r3' ((z3.take 9).map Ra))), σ, []⟩ /\ (r1' = true -> z1.take 40 = []) /\ (r2' = true -> z2.take 40 = []) /\ (r3' = true -> z3.take 9 = []) := by
 rw [jQ jfo h, jq]
 have lb : (cs.map un1).length = 55 := by simpa using hn
 have kb := vH hc
 have kn := jeK hnr
 have b1 : (cs.map un1)[13]? = some (.sl 0 r1 (z1.map J)) := by rw [List.getElem?_map, c1]; rfl
 have b2 : (cs.map un1)[14]? = some (.sl 0 r2 (z2.map J)) := by rw [List.getElem?_map, c2]; rfl
 have b3 : (cs.map un1)[16]? = some (.sl 0 r3 (z3.map Ra)) := by rw [List.getElem?_map, c3]; rfl
 have uu := vK cs
 generalize hB : cs.map un1 = bs at *
 have m1 := jaH z1.length 40
 have m2 := jaH z2.length 40
 have m3 := jaH z3.length 9
 have t1 := Q4 J z1 40
 have t2 := Q4 J z2 40
 have t3 := Q4 Ra z3 9
 have x1 := jf4 z1
 have x2 := jf4 z2
 have x3 := jf5 z3
 have n40 : ((40 : Nat) : Int) = 40 := rfl
 have n9 : ((9 : Nat) : Int) = 9 := rfl
 rw [n40] at m1 m2
 rw [n9] at m3
 have g1 : bs.set 13 (.sl 0 r1 (z1.map J)) = bs := yT b1
 have p1 := Nat.min_le_left z1.length 40
 have p2 := Nat.min_le_left z2.length 40
 have p3 := Nat.min_le_left z3.length 9
 have nn1 : ∀ k : Nat, (0 : Int) <= (k : Int) := fun k => by omega
 have k1 : ∀ v, (bs.set 13 v)[14]? = some (.sl 0 r2 (z2.map J)) := fun v => by rw [List.getElem?_set_ne (by decide), b2]
 have k2 : ∀ v, (bs.set 13 v).set 14 (.sl 0 r2 (z2.map J)) = bs.set 13 v := fun v => yT (k1 v)
 have k3 : ∀ v w, ((bs.set 13 v).set 14 w)[16]? = some (.sl 0 r3 (z3.map Ra)) := fun v w => by rw [List.getElem?_set_ne (by decide), List.getElem?_set_ne (by decide), b3]
 have k4 : ∀ v w, ((bs.set 13 v).set 14 w).set 16 (.sl 0 r3 (z3.map Ra)) = (bs.set 13 v).set 14 w := fun v w => yT (k3 v w)
 have k5 : ∀ o r xs o' r' xs' o'' r'' xs'', (((bs.set 13 (.sl o r xs)).set 14 (.sl o' r' xs')).set 16 (.sl o'' r'' xs'')).all IVal.isCell = true := fun _ _ _ _ _ _ _ _ _ => kz _ _ _ (kz _ _ _ (kz _ _ _ kb rfl) rfl) rfl
 have k6 : ∀ u v w, (((bs.set 13 u).set 14 v).set 16 w).take 55 = ((bs.set 13 u).set 14 v).set 16 w := fun u v w => List.take_of_length_le (by simp; omega)
 have k7 : ∀ u v w, jb Z55 0 (((bs.set 13 u).set 14 v).set 16 w) = ((bs.set 13 u).set 14 v).set 16 w := fun u v w => VH (by simp [lb]; rfl)
 have w1 := jbq (k := 40) (β := Nat) q1
 have w2 := jbq (k := 40) (β := Nat) q2
 have w3 := jbq (k := 9) (β := Nat) q3
 have k8 := fun o o' o'' => kz (p := nr1) _ 16 _ (kz (p := nr1) _ 14 _ (kz (p := nr1) bs 13 _ kn (Zi (f := J) (o := o) w1)) (Zi (f := J) (o := o') w2)) (Zi (f := Ra) (o := o'') w3)
 have z55 : Z55.length = 55 := rfl
 simp only [jfo, jG, cells_agg, hB, kb, lb, uu, b1, b2, b3, m1, m2, m3, t1, t2, t3, x1, x2, x3, p1, p2, p3, g1, k1, k2, k3, k4, k5, k6, k7, k8, z55, nn1, List.length_set, Option.toList_some, Option.toList_none, qA, nat, Int.toNat_natCast, zV, zS, jy, jM, jc, jk, jR, jg, jl, je, jr, jO, jf, jj, jp, jK, ju, jq, Ts.fill, jS, jP, jh, jT, jo, jm, ji, ja, getAll, stepCall, jn, unI, Opd.get, jx, tag, jv, jb, jI, rv, bin, jW, Nat.reduceAdd, Nat.reduceSub, Nat.reduceMul, Nat.reduceDiv, Nat.reduceMod, Nat.reducePow, Nat.reduceLT, Nat.reduceLeDiff, Nat.reduceEqDiff, Nat.reduceBEq, Nat.reduceBNe, reduceIte, Int.reduceEq, Int.reduceLT, Int.reduceLE, Int.reduceNeg, Int.reduceToNat, Int.reduceMul, Int.reduceAdd, Int.reduceSub, reduceCtorEq]
 exact ⟨_, _, _, _, _, _, rfl, w1, w2, w3⟩
end Go.Idl.Sb
namespace Go.Idl.Sb
open Go Go.Idl Go.Idl.En
variable {F : jJ}
def jfw : IVal -> IVal
 | .int k n => .int k (n.tmod 1152921504606846976)
 | v => v
def XA (cs : List IVal) : List Nat -> List IVal
 | [] => cs
 | o :: os => XA (cs.set o (jfw (kH cs o))) os
theorem Q5 {n m : Int} (hm : 0 < m) : -m < n.tmod m /\ n.tmod m < m := by
 refine ⟨Int.lt_tmod_of_pos n hm, Int.tmod_lt_of_pos n hm⟩
theorem jdw {v : IVal} (h : K.pl.ty v) : K.pl.ty (jfw v) := by
 obtain ⟨n, rfl, _⟩ := h
 have := Q5 (n := n) (m := 1152921504606846976) (by decide)
 exact ⟨_, rfl, by unfold i64; omega⟩
theorem jgj {a e b : Nat} {r : Bool} {σ : List IObj} {os : List Nat} (ha : a < σ.length) (hlen : os.length < 1000) : ∀ (d i : Nat) (f0 : Nat -> Option (Nat × IVal)) (cs : List IVal) (wr : List (Nat × Bool)) (R : Option (IExit × St)),
   evw F (.loop Vu) ⟨E 28 23 6 [] (base f0), σ.set a (.cells cs), wr⟩ = R -> i + d = os.length -> Ty (plL os) cs -> Fl wr ->
   f0 1 = some (1, .ptr a 0) -> f0 2 = some (2, .ptr b 0) -> f0 25 = some (25, .sl e r (Ps a os)) -> f0 26 = some (26, I os.length) -> f0 27 = some (27, I i) ->
   ∃ f1 wr', R = some (.exit 0, ⟨E 28 23 6 [] (base f1), σ.set a (.cells (XA cs (os.drop i))), wr'⟩) /\ Fl wr' /\ f1 1 = some (1, .ptr a 0) /\ f1 2 = some (2, .ptr b 0) := by
 intro d
 induction d with
 | zero =>
   intro i f0 cs wr R hE hi hT hw e1 e2 e25 e26 e27
   have l0 : decide ((i : Int) < (os.length : Int)) = false := decide_eq_false (by omega)
   rw [jH] at hE
   subst hE
   simp only [Vu, e25, e26, e27, l0, zV, zS, jy, jM, jc, jk, jR, jg, jl, je, jr, jO, jf, jj, jp, jK, ju, jq, Ts.fill, jS, jP, jh, jT, jo, jm, ji, ja, getAll, stepCall, jn, unI, Opd.get, jx, tag, jv, jb, jI, rv, bin, jW, Nat.reduceAdd, Nat.reduceSub, Nat.reduceMul, Nat.reduceDiv, Nat.reduceMod, Nat.reducePow, Nat.reduceLT, Nat.reduceLeDiff, Nat.reduceEqDiff, Nat.reduceBEq, Nat.reduceBNe, reduceIte, Int.reduceEq, Int.reduceLT, Int.reduceLE, Int.reduceNeg, Int.reduceToNat, Int.reduceMul, Int.reduceAdd, Int.reduceSub, reduceCtorEq]
   rw [List.drop_of_length_le (by omega)]
   exact ⟨_, _, rfl, hw, (by (try simp only [upd_get, base_get, Nat.reduceAdd, Nat.reduceSub, Nat.reduceMul, Nat.reduceDiv, Nat.reduceMod, Nat.reducePow, Nat.reduceLT, Nat.reduceLeDiff, Nat.reduceEqDiff, Nat.reduceBEq, Nat.reduceBNe, reduceIte, Int.reduceEq, Int.reduceLT, Int.reduceLE, Int.reduceNeg, Int.reduceToNat, Int.reduceMul, Int.reduceAdd, Int.reduceSub, Int.cast_ofNat_Int, reduceCtorEq, Nat.zero_add, Nat.add_zero, Nat.mul_one]) <;> first | exact e1 | rfl), (by (try simp only [upd_get, base_get, Nat.reduceAdd, Nat.reduceSub, Nat.reduceMul, Nat.reduceDiv, Nat.reduceMod, Nat.reducePow, Nat.reduceLT, Nat.reduceLeDiff, Nat.reduceEqDiff, Nat.reduceBEq, Nat.reduceBNe, reduceIte, Int.reduceEq, Int.reduceLT, Int.reduceLE, Int.reduceNeg, Int.reduceToNat, Int.reduceMul, Int.reduceAdd, Int.reduceSub, Int.cast_ofNat_Int, reduceCtorEq, Nat.zero_add, Nat.add_zero, Nat.mul_one]) <;> first | exact e2 | rfl)⟩
 | succ d ih =>
   intro i f0 cs wr R hE hi hT hw e1 e2 e25 e26 e27
   have l0 : decide ((i : Int) < (os.length : Int)) = true := decide_eq_true (by omega)
   have hi2 : i < os.length := by omega
   obtain ⟨v, hv, hk⟩ := hT (.pl, os[i]) (List.mem_map.2 ⟨_, List.getElem_mem hi2, rfl⟩)
   simp only [] at hv hk
   have hm := jdw hk
   have hc := jF hv
   obtain ⟨n, rfl, hn⟩ := hk
   have g1 : os[i]? = some os[i] := List.getElem?_eq_getElem hi2
   have d1 : (0 : Int) <= (i : Int) := by omega
   have w1 := yz (n := i) (by omega)
   have y2 := vd (σ := σ) (o := .cells cs) ha
   have o1 := kU hv
   have la := decide_eq_true ha
   rw [List.drop_eq_getElem_cons hi2, XA, hc]
   rw [jH] at hE
   simp only [Vu, jG, e1, e2, e25, e26, e27, l0, g1, d1, w1, y2, hv, o1, ha, List.set_set, List.length_set, Int.toNat_natCast, zV, zS, jy, jM, jc, jk, jR, jg, jl, je, jr, jO, jf, jj, jp, jK, ju, jq, Ts.fill, jS, jP, jh, jT, jo, jm, ji, ja, getAll, stepCall, jn, unI, Opd.get, jx, tag, jv, jb, jI, rv, bin, jW, Nat.reduceAdd, Nat.reduceSub, Nat.reduceMul, Nat.reduceDiv, Nat.reduceMod, Nat.reducePow, Nat.reduceLT, Nat.reduceLeDiff, Nat.reduceEqDiff, Nat.reduceBEq, Nat.reduceBNe, reduceIte, Int.reduceEq, Int.reduceLT, Int.reduceLE, Int.reduceNeg, Int.reduceToNat, Int.reduceMul, Int.reduceAdd, Int.reduceSub, reduceCtorEq] at hE
   exact ih (i + 1) _ _ _ R hE (by omega) (vB (k := .pl) hT hm (fun q hq _ => by obtain ⟨o, _, rfl⟩ := List.mem_map.1 hq; rfl)) (by rw [Fl] at hw ⊢; simp [hw]) (by (try simp only [upd_get, base_get, Nat.reduceAdd, Nat.reduceSub, Nat.reduceMul, Nat.reduceDiv, Nat.reduceMod, Nat.reducePow, Nat.reduceLT, Nat.reduceLeDiff, Nat.reduceEqDiff, Nat.reduceBEq, Nat.reduceBNe, reduceIte, Int.reduceEq, Int.reduceLT, Int.reduceLE, Int.reduceNeg, Int.reduceToNat, Int.reduceMul, Int.reduceAdd, Int.reduceSub, Int.cast_ofNat_Int, reduceCtorEq, Nat.zero_add, Nat.add_zero, Nat.mul_one]) <;> first | exact e1 | rfl) (by (try simp only [upd_get, base_get, Nat.reduceAdd, Nat.reduceSub, Nat.reduceMul, Nat.reduceDiv, Nat.reduceMod, Nat.reducePow, Nat.reduceLT, Nat.reduceLeDiff, Nat.reduceEqDiff, Nat.reduceBEq, Nat.reduceBNe, reduceIte, Int.reduceEq, Int.reduceLT, Int.reduceLE, Int.reduceNeg, Int.reduceToNat, Int.reduceMul, Int.reduceAdd, Int.reduceSub, Int.cast_ofNat_Int, reduceCtorEq, Nat.zero_add, Nat.add_zero, Nat.mul_one]) <;> first | exact e2 | rfl) (by (try simp only [upd_get, base_get, Nat.reduceAdd, Nat.reduceSub, Nat.reduceMul, Nat.reduceDiv, Nat.reduceMod, Nat.reducePow, Nat.reduceLT, Nat.reduceLeDiff, Nat.reduceEqDiff, Nat.reduceBEq, Nat.reduceBNe, reduceIte, Int.reduceEq, Int.reduceLT, Int.reduceLE, Int.reduceNeg, Int.reduceToNat, Int.reduceMul, Int.reduceAdd, Int.reduceSub, Int.cast_ofNat_Int, reduceCtorEq, Nat.zero_add, Nat.add_zero, Nat.mul_one]) <;> first | exact e25 | rfl) (by (try simp only [upd_get, base_get, Nat.reduceAdd, Nat.reduceSub, Nat.reduceMul, Nat.reduceDiv, Nat.reduceMod, Nat.reducePow, Nat.reduceLT, Nat.reduceLeDiff, Nat.reduceEqDiff, Nat.reduceBEq, Nat.reduceBNe, reduceIte, Int.reduceEq, Int.reduceLT, Int.reduceLE, Int.reduceNeg, Int.reduceToNat, Int.reduceMul, Int.reduceAdd, Int.reduceSub, Int.cast_ofNat_Int, reduceCtorEq, Nat.zero_add, Nat.add_zero, Nat.mul_one]) <;> first | exact e26 | rfl) (by (try simp only [upd_get, base_get, Nat.reduceAdd, Nat.reduceSub, Nat.reduceMul, Nat.reduceDiv, Nat.reduceMod, Nat.reducePow, Nat.reduceLT, Nat.reduceLeDiff, Nat.reduceEqDiff, Nat.reduceBEq, Nat.reduceBNe, reduceIte, Int.reduceEq, Int.reduceLT, Int.reduceLE, Int.reduceNeg, Int.reduceToNat, Int.reduceMul, Int.reduceAdd, Int.reduceSub, Int.cast_ofNat_Int, reduceCtorEq, Nat.zero_add, Nat.add_zero, Nat.mul_one]) <;> rfl)
def ZJ (z : Int × Int × Bool) : Int × Int × Bool := (z.1.tmod 100, z.2.1.tmod 100, z.2.2)
set_option maxHeartbeats 2000000 in
theorem jgk {a b o : Nat} {r : Bool} {σ : List IObj} {zs : List (Int × Int × Bool)} (ha : a < σ.length) (hlen : zs.length < 1000) : ∀ (d i : Nat) (f0 : Nat -> Option (Nat × IVal)) (cs : List IVal) (ys : List IVal) (rr : Bool) (wr : List (Nat × Bool)) (R : Option (IExit × St)),
   evw F (.loop Vv) ⟨E 28 23 6 [] (base f0), σ.set a (.cells (cs.set 16 (.sl 3 rr ys))), wr⟩ = R -> i + d = zs.length -> cs.length = 55 -> (!ys.isEmpty && rr) = false -> ys.length + d < 1000 -> Fl wr ->
   f0 1 = some (1, .ptr a 0) -> f0 2 = some (2, .ptr b 0) -> f0 5 = some (5, .sl o r (zs.map Ra)) -> f0 6 = some (6, I i) ->
   ∃ f1 rr' wr', R = some (.exit 2, ⟨E 28 23 6 [] (base f1), σ.set a (.cells (cs.set 16 (.sl 3 rr' (ys ++ (zs.drop i).map (fun z => Ra (ZJ z)))))), wr'⟩) /\ (!(ys ++ (zs.drop i).map (fun z => Ra (ZJ z))).isEmpty && rr') = false /\ Fl wr' /\ f1 1 = some (1, .ptr a 0) /\ f1 2 = some (2, .ptr b 0) := by
 intro d
 induction d with
 | zero =>
   intro i f0 cs ys rr wr R hE hi hl hr hy hw e1 e2 e5 e6
   have l0 : decide ((i : Int) < (zs.length : Int)) = false := decide_eq_false (by omega)
   rw [jH] at hE
   subst hE
   simp only [Vv, e5, e6, l0, zV, zS, jy, jM, jc, jk, jR, jg, jl, je, jr, jO, jf, jj, jp, jK, ju, jq, Ts.fill, jS, jP, jh, jT, jo, jm, ji, ja, getAll, stepCall, jn, unI, Opd.get, jx, tag, jv, jb, jI, rv, bin, jW, Nat.reduceAdd, Nat.reduceSub, Nat.reduceMul, Nat.reduceDiv, Nat.reduceMod, Nat.reducePow, Nat.reduceLT, Nat.reduceLeDiff, Nat.reduceEqDiff, Nat.reduceBEq, Nat.reduceBNe, reduceIte, Int.reduceEq, Int.reduceLT, Int.reduceLE, Int.reduceNeg, Int.reduceToNat, Int.reduceMul, Int.reduceAdd, Int.reduceSub, reduceCtorEq]
   rw [List.drop_of_length_le (by omega), List.map_nil, List.append_nil]
   exact ⟨_, rr, _, rfl, hr, hw, (by (try simp only [upd_get, base_get, Nat.reduceAdd, Nat.reduceSub, Nat.reduceMul, Nat.reduceDiv, Nat.reduceMod, Nat.reducePow, Nat.reduceLT, Nat.reduceLeDiff, Nat.reduceEqDiff, Nat.reduceBEq, Nat.reduceBNe, reduceIte, Int.reduceEq, Int.reduceLT, Int.reduceLE, Int.reduceNeg, Int.reduceToNat, Int.reduceMul, Int.reduceAdd, Int.reduceSub, Int.cast_ofNat_Int, reduceCtorEq, Nat.zero_add, Nat.add_zero, Nat.mul_one]) <;> first | exact e1 | rfl), (by (try simp only [upd_get, base_get, Nat.reduceAdd, Nat.reduceSub, Nat.reduceMul, Nat.reduceDiv, Nat.reduceMod, Nat.reducePow, Nat.reduceLT, Nat.reduceLeDiff, Nat.reduceEqDiff, Nat.reduceBEq, Nat.reduceBNe, reduceIte, Int.reduceEq, Int.reduceLT, Int.reduceLE, Int.reduceNeg, Int.reduceToNat, Int.reduceMul, Int.reduceAdd, Int.reduceSub, Int.cast_ofNat_Int, reduceCtorEq, Nat.zero_add, Nat.add_zero, Nat.mul_one]) <;> first | exact e2 | rfl)⟩
 | succ d ih =>
   intro i f0 cs ys rr wr R hE hi hl hr hy hw e1 e2 e5 e6
   have l0 : decide ((i : Int) < (zs.length : Int)) = true := decide_eq_true (by omega)
   have hi2 : i < zs.length := by omega
   have g1 : zs[i]? = some zs[i] := List.getElem?_eq_getElem hi2
   have d1 : (0 : Int) <= (i : Int) := by omega
   have w1 := yz (n := i) (by omega)
   have y2 := fun c => vd (σ := σ) (o := .cells c) ha
   have la := decide_eq_true ha
   have c16 : ∀ v, (cs.set 16 v)[16]? = some v := fun v => List.getElem?_set_self (by omega)
   have o1 : 17 <= cs.length := by omega
   have fl : ∀ x y : Int, ∀ b : Bool, yF [.int .i64 0, .int .i64 0, .bool false] [(0, 1, I x), (1, 1, I y), (2, 1, .bool b)] = some [I x, I y, .bool b] := fun _ _ _ => rfl
   have q1 : (ys.length + 1) * 24 <= 1099511627776 := by omega
   have q2 : ys.length + 1 <= 1099511627776 := by omega
   rw [jH] at hE
   simp only [Vv, jG, e1, e2, e5, e6, l0, g1, d1, w1, y2, c16, o1, hl, ha, la, fl, q1, q2, hr, List.zip_cons_cons, List.zip_nil_right, List.set_set, List.length_set, Int.toNat_natCast, zV, zS, jy, jM, jc, jk, jR, jg, jl, je, jr, jO, jf, jj, jp, jK, ju, jq, Ts.fill, jS, jP, jh, jT, jo, jm, ji, ja, getAll, stepCall, jn, unI, Opd.get, jx, tag, jv, jb, jI, rv, bin, jW, Nat.reduceAdd, Nat.reduceSub, Nat.reduceMul, Nat.reduceDiv, Nat.reduceMod, Nat.reducePow, Nat.reduceLT, Nat.reduceLeDiff, Nat.reduceEqDiff, Nat.reduceBEq, Nat.reduceBNe, reduceIte, Int.reduceEq, Int.reduceLT, Int.reduceLE, Int.reduceNeg, Int.reduceToNat, Int.reduceMul, Int.reduceAdd, Int.reduceSub, reduceCtorEq] at hE
   have e : (zs.drop i).map (fun z => Ra (ZJ z)) = Ra (ZJ zs[i]) :: (zs.drop (i + 1)).map (fun z => Ra (ZJ z)) := by rw [List.drop_eq_getElem_cons hi2, List.map_cons]
   have e' : ys ++ (zs.drop i).map (fun z => Ra (ZJ z)) = (ys ++ [Ra (ZJ zs[i])]) ++ (zs.drop (i + 1)).map (fun z => Ra (ZJ z)) := by rw [e, List.append_assoc]; rfl
   rw [e']
   exact ih (i + 1) _ cs (ys ++ [Ra (ZJ zs[i])]) false _ R hE (by omega) hl (Bool.and_false _) (by simp; omega) (by rw [Fl] at hw ⊢; simp [hw]) (by (try simp only [upd_get, base_get, Nat.reduceAdd, Nat.reduceSub, Nat.reduceMul, Nat.reduceDiv, Nat.reduceMod, Nat.reducePow, Nat.reduceLT, Nat.reduceLeDiff, Nat.reduceEqDiff, Nat.reduceBEq, Nat.reduceBNe, reduceIte, Int.reduceEq, Int.reduceLT, Int.reduceLE, Int.reduceNeg, Int.reduceToNat, Int.reduceMul, Int.reduceAdd, Int.reduceSub, Int.cast_ofNat_Int, reduceCtorEq, Nat.zero_add, Nat.add_zero, Nat.mul_one]) <;> first | exact e1 | rfl) (by (try simp only [upd_get, base_get, Nat.reduceAdd, Nat.reduceSub, Nat.reduceMul, Nat.reduceDiv, Nat.reduceMod, Nat.reducePow, Nat.reduceLT, Nat.reduceLeDiff, Nat.reduceEqDiff, Nat.reduceBEq, Nat.reduceBNe, reduceIte, Int.reduceEq, Int.reduceLT, Int.reduceLE, Int.reduceNeg, Int.reduceToNat, Int.reduceMul, Int.reduceAdd, Int.reduceSub, Int.cast_ofNat_Int, reduceCtorEq, Nat.zero_add, Nat.add_zero, Nat.mul_one]) <;> first | exact e2 | rfl) (by (try simp only [upd_get, base_get, Nat.reduceAdd, Nat.reduceSub, Nat.reduceMul, Nat.reduceDiv, Nat.reduceMod, Nat.reducePow, Nat.reduceLT, Nat.reduceLeDiff, Nat.reduceEqDiff, Nat.reduceBEq, Nat.reduceBNe, reduceIte, Int.reduceEq, Int.reduceLT, Int.reduceLE, Int.reduceNeg, Int.reduceToNat, Int.reduceMul, Int.reduceAdd, Int.reduceSub, Int.cast_ofNat_Int, reduceCtorEq, Nat.zero_add, Nat.add_zero, Nat.mul_one]) <;> first | exact e5 | rfl) (by (try simp only [upd_get, base_get, Nat.reduceAdd, Nat.reduceSub, Nat.reduceMul, Nat.reduceDiv, Nat.reduceMod, Nat.reducePow, Nat.reduceLT, Nat.reduceLeDiff, Nat.reduceEqDiff, Nat.reduceBEq, Nat.reduceBNe, reduceIte, Int.reduceEq, Int.reduceLT, Int.reduceLE, Int.reduceNeg, Int.reduceToNat, Int.reduceMul, Int.reduceAdd, Int.reduceSub, Int.cast_ofNat_Int, reduceCtorEq, Nat.zero_add, Nat.add_zero, Nat.mul_one]) <;> rfl)
end Go.Idl.Sb
namespace Go.Idl.Sb
open Go Go.Idl Go.Idl.En
variable {F : jJ}
abbrev vS : List Nat := [0, 1, 2, 3, 15, 52, 53, 54, 20, 29]
theorem Yu : ∀ (os : List Nat) (cs : List IVal), (XA cs os).length = cs.length
 | [], cs => rfl
 | o :: os, cs => by rw [XA, Yu os]; simp
theorem Ki : ∀ (os : List Nat) (cs : List IVal) (o : Nat), o ∉ os -> (XA cs os)[o]? = cs[o]?
 | [], cs, o, _ => rfl
 | p :: os, cs, o, h => by
   rw [XA, Ki os _ _ (fun h2 => h (List.mem_cons_of_mem _ h2)), List.getElem?_set_ne (fun e => h (by rw [<- e]; exact List.mem_cons_self))]
theorem jaI : ∀ (os : List Nat) (cs : List IVal) (o : Nat), os.Nodup -> o ∈ os -> o < cs.length -> (XA cs os)[o]? = some (jfw (kH cs o))
 | [], cs, o, _, h, _ => by cases h
 | p :: os, cs, o, hn, h, hl => by
   rw [List.nodup_cons] at hn
   rw [XA]
   rcases List.mem_cons.1 h with rfl | h
   . rw [Ki os _ _ hn.1, List.getElem?_set_self hl]
   . have hne : o ≠ p := fun e => hn.1 (e ▸ h)
     have e : kH (cs.set p (jfw (kH cs p))) o = kH cs o := by
       show (match (cs.set p (jfw (kH cs p)))[o]? with | some v => v | none => jl) = _
       rw [List.getElem?_set_ne (Ne.symm hne)]; rfl
     rw [jaI os _ o hn.2 h (by simpa using hl), e]
theorem jaJ : ∀ (os : List Nat) (cs : List IVal), Ty lAll cs -> (∀ o ∈ os, (K.pl, o) ∈ lAll) -> Ty lAll (XA cs os)
 | [], cs, h, _ => h
 | o :: os, cs, h, ho => by
   rw [XA]
   have hm := ho o List.mem_cons_self
   obtain ⟨v, hv, hk⟩ := h _ hm
   refine jaJ os _ (vB (k := .pl) h (by rw [jF hv]; exact jdw hk) (fun q hq e => jV q hq _ hm e)) (fun p hp => ho p (List.mem_cons_of_mem _ hp))
theorem QM {p : IVal -> Bool} (hp : ∀ v, p v = true -> p (jfw v) = true) : ∀ (os : List Nat) (cs : List IVal), cs.all p = true -> (∀ o ∈ os, o < cs.length) -> (XA cs os).all p = true
 | [], cs, h, _ => h
 | o :: os, cs, h, ho => by
   rw [XA]
   refine QM hp os _ (kz _ _ _ h (hp _ ?_)) (fun q hq => by simpa using ho q (List.mem_cons_of_mem _ hq))
   have hlt := ho o List.mem_cons_self
   have e : kH cs o = cs[o] := jF (List.getElem?_eq_getElem hlt)
   rw [e]
   rw [List.all_eq_true] at h
   exact h _ (List.getElem_mem hlt)
theorem jib {n : Nat} : ((n : Int).tmod 1152921504606846976) = ((n % 1152921504606846976 : Nat) : Int) := by rw [Int.tmod_eq_emod_of_nonneg (by omega)]; rfl
/-- A state whose numbers may be told. -/
structure Nr (cs : List IVal) : Prop where
 pl : ∀ o, (K.pl, o) ∈ lAll -> ∃ n : Int, cs[o]? = some (I n) /\ -1152921504606846976 <= n /\ n <= 1152921504606846976
 nm : ∀ o, (K.nm, o) ∈ lAll -> ∃ n : Nat, cs[o]? = some (Q n) /\ n <= 1152921504606846975
set_option maxRecDepth 100000 in
set_option maxHeartbeats 8000000 in
theorem jhm (h : F 5 = some ir5) (h16 : F 16 = some jfo) {cs : List IVal} {σ : List IObj} (hn : cs.length = 55) (hc : cs.all IVal.isCell = true) (hnr : cs.all nr1 = true) (hT : Ty lAll cs) {r1 r2 r3 : Bool} {z1 z2 : List Int} {z3 : List (Int × Int × Bool)}
   (c1 : cs[13]? = some (.sl 0 r1 (z1.map J))) (c2 : cs[14]? = some (.sl 0 r2 (z2.map J))) (c3 : cs[16]? = some (.sl 0 r3 (z3.map Ra))) (q1 : r1 = true -> z1 = []) (q2 : r2 = true -> z2 = []) (q3 : r3 = true -> z3 = []) :
   ∃ (wr : List (Nat × Bool)) (cs' : List IVal) (o1 : Nat) (r1' : Bool) (o2 : Nat) (r2' : Bool) (o3 : Nat) (r3' : Bool) (z3' : List (Int × Int × Bool)), cfw F (.f 5) [.agg cs] σ = some ⟨false, .agg cs', σ, wr⟩ /\ Fl wr /\ cs'.length = 55 /\ cs'.all IVal.isCell = true /\ cs'.all nr1 = true /\ Ty lAll cs' /\ Nr cs' /\ cs'[13]? = some (.sl o1 r1' ((z1.take 40).map J)) /\ cs'[14]? = some (.sl o2 r2' ((z2.take 40).map J)) /\ cs'[16]? = some (.sl o3 r3' (z3'.map Ra)) /\ z3'.length <= 8 /\ (∀ z ∈ z3', -100 < z.1 /\ z.1 < 100 /\ -100 < z.2.1 /\ z.2.1 < 100) := by
 rw [jQ ir5 h, jq]
 have lb : (cs.map un1).length = 55 := by simpa using hn
 have kb := vH hc
 have kn := jeK hnr
 have b1 : (cs.map un1)[13]? = some (.sl 0 r1 (z1.map J)) := by rw [List.getElem?_map, c1]; rfl
 have b2 : (cs.map un1)[14]? = some (.sl 0 r2 (z2.map J)) := by rw [List.getElem?_map, c2]; rfl
 have b3 : (cs.map un1)[16]? = some (.sl 0 r3 (z3.map Ra)) := by rw [List.getElem?_map, c3]; rfl
 have uu := vK cs
 have tb := Xh hT
 generalize hB : cs.map un1 = bs at *
 obtain ⟨o1, r1', o2, r2', o3, r3', f0, w1, w2, w3⟩ := jhd (σ := σ ++ [.cells bs, .cells Z55]) h16 lb kb kn b1 b2 b3 q1 q2 q3
 rw [uu] at f0
 have k5 : (((bs.set 13 (.sl o1 r1' ((z1.take 40).map J))).set 14 (.sl o2 r2' ((z2.take 40).map J))).set 16 (.sl o3 r3' ((z3.take 9).map Ra))).all IVal.isCell = true := kz _ _ _ (kz _ _ _ (kz _ _ _ kb rfl) rfl) rfl
 have k8 := kz (p := nr1) _ 16 _ (kz (p := nr1) _ 14 _ (kz (p := nr1) bs 13 _ kn (Zi (f := J) (o := o1) w1)) (Zi (f := J) (o := o2) w2)) (Zi (f := Ra) (o := o3) w3)
 have t8 : Ty lAll (((bs.set 13 (.sl o1 r1' ((z1.take 40).map J))).set 14 (.sl o2 r2' ((z2.take 40).map J))).set 16 (.sl o3 r3' ((z3.take 9).map Ra))) := yy (yy (yy tb (by decide)) (by decide)) (by decide)
 have l8 : (((bs.set 13 (.sl o1 r1' ((z1.take 40).map J))).set 14 (.sl o2 r2' ((z2.take 40).map J))).set 16 (.sl o3 r3' ((z3.take 9).map Ra))).length = 55 := by simpa using lb
 have g16 : (((bs.set 13 (.sl o1 r1' ((z1.take 40).map J))).set 14 (.sl o2 r2' ((z2.take 40).map J))).set 16 (.sl o3 r3' ((z3.take 9).map Ra)))[16]? = some (.sl o3 r3' ((z3.take 9).map Ra)) := by rw [List.getElem?_set_self (by simp; omega)]
 have g14 : (((bs.set 13 (.sl o1 r1' ((z1.take 40).map J))).set 14 (.sl o2 r2' ((z2.take 40).map J))).set 16 (.sl o3 r3' ((z3.take 9).map Ra)))[14]? = some (.sl o2 r2' ((z2.take 40).map J)) := by rw [List.getElem?_set_ne (by decide), List.getElem?_set_self (by simp; omega)]
 have g13 : (((bs.set 13 (.sl o1 r1' ((z1.take 40).map J))).set 14 (.sl o2 r2' ((z2.take 40).map J))).set 16 (.sl o3 r3' ((z3.take 9).map Ra)))[13]? = some (.sl o1 r1' ((z1.take 40).map J)) := by rw [List.getElem?_set_ne (by decide), List.getElem?_set_ne (by decide), List.getElem?_set_self (by omega)]
 generalize hb8 : ((bs.set 13 (.sl o1 r1' ((z1.take 40).map J))).set 14 (.sl o2 r2' ((z2.take 40).map J))).set 16 (.sl o3 r3' ((z3.take 9).map Ra)) = b8 at *
 generalize hy3 : z3.take 9 = y3 at *
 have k6 : b8.take 55 = b8 := List.take_of_length_le (by omega)
 have tk0 : bs.take 55 = bs := List.take_of_length_le (by omega)
 have k7 : jb bs 0 b8 = b8 := VH (by omega)
 have k7' : jb bs 0 bs = bs := VH rfl
 simp only [ir5, jG, cells_agg, hB, kb, lb, uu, f0, k5, k6, k7, k7', k8, l8, tk0, List.length_set, zV, zS, jy, jM, jc, jk, jR, jg, jl, je, jr, jO, jf, jj, jp, jK, ju, jq, Ts.fill, jS, jP, jh, jT, jo, jm, ji, ja, getAll, stepCall, jn, unI, Opd.get, jx, tag, jv, jb, jI, rv, bin, jW, Nat.reduceAdd, Nat.reduceSub, Nat.reduceMul, Nat.reduceDiv, Nat.reduceMod, Nat.reducePow, Nat.reduceLT, Nat.reduceLeDiff, Nat.reduceEqDiff, Nat.reduceBEq, Nat.reduceBNe, reduceIte, Int.reduceEq, Int.reduceLT, Int.reduceLE, Int.reduceNeg, Int.reduceToNat, Int.reduceMul, Int.reduceAdd, Int.reduceSub, reduceCtorEq]
 generalize hE : evw F (ICode.loop Vu) _ = R
 have sa : (σ ++ [IObj.cells b8, .cells Z55]).set σ.length (.cells b8) = σ ++ [.cells b8, .cells Z55] := set_app0 _
 rw [<- sa] at hE
 obtain ⟨f9, wr9, rfl, hw9, a1, a2⟩ := jgj (a := σ.length) (b := σ.length + 1) (σ := σ ++ [IObj.cells b8, .cells Z55]) (os := vS) (by simp) (by decide) 10 0 _ b8 _ R hE rfl (fun q hq => by
   obtain ⟨o, ho, rfl⟩ := List.mem_map.1 hq
   exact t8 _ ((by decide : ∀ o ∈ vS, (K.pl, o) ∈ lAll) o ho)) rfl (by (try simp only [upd_get, base_get, Nat.reduceAdd, Nat.reduceSub, Nat.reduceMul, Nat.reduceDiv, Nat.reduceMod, Nat.reducePow, Nat.reduceLT, Nat.reduceLeDiff, Nat.reduceEqDiff, Nat.reduceBEq, Nat.reduceBNe, reduceIte, Int.reduceEq, Int.reduceLT, Int.reduceLE, Int.reduceNeg, Int.reduceToNat, Int.reduceMul, Int.reduceAdd, Int.reduceSub, Int.cast_ofNat_Int, reduceCtorEq, Nat.zero_add, Nat.add_zero, Nat.mul_one]) <;> rfl) (by (try simp only [upd_get, base_get, Nat.reduceAdd, Nat.reduceSub, Nat.reduceMul, Nat.reduceDiv, Nat.reduceMod, Nat.reducePow, Nat.reduceLT, Nat.reduceLeDiff, Nat.reduceEqDiff, Nat.reduceBEq, Nat.reduceBNe, reduceIte, Int.reduceEq, Int.reduceLT, Int.reduceLE, Int.reduceNeg, Int.reduceToNat, Int.reduceMul, Int.reduceAdd, Int.reduceSub, Int.cast_ofNat_Int, reduceCtorEq, Nat.zero_add, Nat.add_zero, Nat.mul_one]) <;> rfl) (by (try simp only [upd_get, base_get, Nat.reduceAdd, Nat.reduceSub, Nat.reduceMul, Nat.reduceDiv, Nat.reduceMod, Nat.reducePow, Nat.reduceLT, Nat.reduceLeDiff, Nat.reduceEqDiff, Nat.reduceBEq, Nat.reduceBNe, reduceIte, Int.reduceEq, Int.reduceLT, Int.reduceLE, Int.reduceNeg, Int.reduceToNat, Int.reduceMul, Int.reduceAdd, Int.reduceSub, Int.cast_ofNat_Int, reduceCtorEq, Nat.zero_add, Nat.add_zero, Nat.mul_one]) <;> rfl) (by (try simp only [upd_get, base_get, Nat.reduceAdd, Nat.reduceSub, Nat.reduceMul, Nat.reduceDiv, Nat.reduceMod, Nat.reducePow, Nat.reduceLT, Nat.reduceLeDiff, Nat.reduceEqDiff, Nat.reduceBEq, Nat.reduceBNe, reduceIte, Int.reduceEq, Int.reduceLT, Int.reduceLE, Int.reduceNeg, Int.reduceToNat, Int.reduceMul, Int.reduceAdd, Int.reduceSub, Int.cast_ofNat_Int, reduceCtorEq, Nat.zero_add, Nat.add_zero, Nat.mul_one]) <;> rfl) (by (try simp only [upd_get, base_get, Nat.reduceAdd, Nat.reduceSub, Nat.reduceMul, Nat.reduceDiv, Nat.reduceMod, Nat.reducePow, Nat.reduceLT, Nat.reduceLeDiff, Nat.reduceEqDiff, Nat.reduceBEq, Nat.reduceBNe, reduceIte, Int.reduceEq, Int.reduceLT, Int.reduceLE, Int.reduceNeg, Int.reduceToNat, Int.reduceMul, Int.reduceAdd, Int.reduceSub, Int.cast_ofNat_Int, reduceCtorEq, Nat.zero_add, Nat.add_zero, Nat.mul_one]) <;> rfl)
 rw [List.drop_zero, set_app0]
 have ml := Yu vS b8
 have mt := jaJ vS b8 t8 (by decide)
 have mc := QM (p := IVal.isCell) (fun v h => by cases v <;> first | rfl | cases h) vS b8 k5 (fun o ho => by rw [l8]; exact (by decide : ∀ o ∈ vS, o < 55) o ho)
 have mn := QM (p := nr1) (fun v h => by cases v <;> first | rfl | exact h) vS b8 k8 (fun o ho => by rw [l8]; exact (by decide : ∀ o ∈ vS, o < 55) o ho)
 have m16 := (Ki vS b8 16 (by decide)).trans g16
 have m14 := (Ki vS b8 14 (by decide)).trans g14
 have m13 := (Ki vS b8 13 (by decide)).trans g13
 have mr : ∀ o ∈ vS, ∃ n : Int, (XA b8 vS)[o]? = some (I n) /\ -1152921504606846976 <= n /\ n <= 1152921504606846976 := by
   intro o ho
   have hm := jaI vS b8 o (by decide) ho (by rw [l8]; exact (by decide : ∀ o ∈ vS, o < 55) o ho)
   obtain ⟨v, hv, n, rfl, _⟩ := t8 _ ((by decide : ∀ o ∈ vS, (K.pl, o) ∈ lAll) o ho)
   simp only [] at hv
   rw [jF hv] at hm
   have := Q5 (n := n) (m := 1152921504606846976) (by decide)
   exact ⟨_, hm, by omega, by omega⟩
 rw [l8] at ml
 generalize hm : XA b8 vS = m at *
 obtain ⟨j50, i50⟩ := jgY mt (o := 50) (by decide)
 obtain ⟨j51, i51⟩ := jgY mt (o := 51) (by decide)
 have i51' : ∀ v, (m.set 50 v)[51]? = some (Q j51) := fun v => by rw [List.getElem?_set_ne (by decide), i51]
 have i16' : ∀ v w, ((m.set 50 v).set 51 w)[16]? = some (.sl o3 r3' (y3.map Ra)) := fun v w => by rw [List.getElem?_set_ne (by decide), List.getElem?_set_ne (by decide), m16]
 have mq := jaH y3.length 8
 have n8 : ((8 : Nat) : Int) = 8 := rfl
 rw [n8] at mq
 have t3 := Q4 Ra y3 8
 have x3 := jf5 y3
 have p3 := Nat.min_le_left y3.length 8
 have nn1 : ∀ k : Nat, (0 : Int) <= (k : Int) := fun k => by omega
 have b0 : ((σ ++ [IObj.cells m, .cells Z55]).length) = σ.length + 2 := by simp
 simp only [jG, a1, a2, i50, i51, i51', i16', ml, mq, t3, x3, p3, nn1, jib, List.length_set, Option.toList_some, Option.toList_none, qA, nat, Int.toNat_natCast, zV, zS, jy, jM, jc, jk, jR, jg, jl, je, jr, jO, jf, jj, jp, jK, ju, jq, Ts.fill, jS, jP, jh, jT, jo, jm, ji, ja, getAll, stepCall, jn, unI, Opd.get, jx, tag, jv, jb, jI, rv, bin, jW, Nat.reduceAdd, Nat.reduceSub, Nat.reduceMul, Nat.reduceDiv, Nat.reduceMod, Nat.reducePow, Nat.reduceLT, Nat.reduceLeDiff, Nat.reduceEqDiff, Nat.reduceBEq, Nat.reduceBNe, reduceIte, Int.reduceEq, Int.reduceLT, Int.reduceLE, Int.reduceNeg, Int.reduceToNat, Int.reduceMul, Int.reduceAdd, Int.reduceSub, reduceCtorEq]
 have M1 : Ty lAll ((m.set 50 (Q ((j50 % 1152921504606846976 : Nat) : Int))).set 51 (Q ((j51 % 1152921504606846976 : Nat) : Int))) :=
   vB (k := .nm) (vB (k := .nm) mt ⟨_, rfl, by omega⟩ (fun q hq e => jV q hq (.nm, 50) (by decide) e)) ⟨_, rfl, by omega⟩ (fun q hq e => jV q hq (.nm, 51) (by decide) e)
 have M2 : ((m.set 50 (Q ((j50 % 1152921504606846976 : Nat) : Int))).set 51 (Q ((j51 % 1152921504606846976 : Nat) : Int))).length = 55 := by simpa using ml
 have M3 : ((m.set 50 (Q ((j50 % 1152921504606846976 : Nat) : Int))).set 51 (Q ((j51 % 1152921504606846976 : Nat) : Int))).all IVal.isCell = true := kz _ _ _ (kz _ _ _ mc rfl) rfl
 have M4 : ((m.set 50 (Q ((j50 % 1152921504606846976 : Nat) : Int))).set 51 (Q ((j51 % 1152921504606846976 : Nat) : Int))).all nr1 = true := kz _ _ _ (kz _ _ _ mn rfl) rfl
 have M5 : ∀ o, o ≠ 50 -> o ≠ 51 -> ((m.set 50 (Q ((j50 % 1152921504606846976 : Nat) : Int))).set 51 (Q ((j51 % 1152921504606846976 : Nat) : Int)))[o]? = m[o]? := fun o h1 h2 => by rw [List.getElem?_set_ne (Ne.symm h2), List.getElem?_set_ne (Ne.symm h1)]
 have M6 : ((m.set 50 (Q ((j50 % 1152921504606846976 : Nat) : Int))).set 51 (Q ((j51 % 1152921504606846976 : Nat) : Int)))[50]? = some (Q ((j50 % 1152921504606846976 : Nat) : Int)) := by rw [List.getElem?_set_ne (by decide), List.getElem?_set_self (by omega)]
 have M7 : ((m.set 50 (Q ((j50 % 1152921504606846976 : Nat) : Int))).set 51 (Q ((j51 % 1152921504606846976 : Nat) : Int)))[51]? = some (Q ((j51 % 1152921504606846976 : Nat) : Int)) := by rw [List.getElem?_set_self (by simp; omega)]
 generalize hM : (m.set 50 (Q ((j50 % 1152921504606846976 : Nat) : Int))).set 51 (Q ((j51 % 1152921504606846976 : Nat) : Int)) = M at *
 generalize hE : evw F (ICode.loop Vv) _ = R
 have sb : (σ ++ [IObj.cells M, .cells Z55]).set σ.length (.cells (M.set 16 (.sl 3 true []))) = σ ++ [.cells (M.set 16 (.sl 3 true [])), .cells Z55] := set_app0 _
 rw [<- sb] at hE
 obtain ⟨f8, rr, wr8, rfl, hrr, hw8, a1', a2'⟩ := jgk (a := σ.length) (b := σ.length + 1) (σ := σ ++ [IObj.cells M, .cells Z55]) (zs := y3.take 8) (by simp) (by rw [List.length_take]; omega) (y3.take 8).length 0 _ M [] true _ R hE (by omega) M2 rfl (by rw [List.length_take]; simp; omega) (by rw [Fl] at hw9 ⊢; simp [hw9]) (by (try simp only [upd_get, base_get, Nat.reduceAdd, Nat.reduceSub, Nat.reduceMul, Nat.reduceDiv, Nat.reduceMod, Nat.reducePow, Nat.reduceLT, Nat.reduceLeDiff, Nat.reduceEqDiff, Nat.reduceBEq, Nat.reduceBNe, reduceIte, Int.reduceEq, Int.reduceLT, Int.reduceLE, Int.reduceNeg, Int.reduceToNat, Int.reduceMul, Int.reduceAdd, Int.reduceSub, Int.cast_ofNat_Int, reduceCtorEq, Nat.zero_add, Nat.add_zero, Nat.mul_one]) <;> first | exact a1 | rfl) (by (try simp only [upd_get, base_get, Nat.reduceAdd, Nat.reduceSub, Nat.reduceMul, Nat.reduceDiv, Nat.reduceMod, Nat.reducePow, Nat.reduceLT, Nat.reduceLeDiff, Nat.reduceEqDiff, Nat.reduceBEq, Nat.reduceBNe, reduceIte, Int.reduceEq, Int.reduceLT, Int.reduceLE, Int.reduceNeg, Int.reduceToNat, Int.reduceMul, Int.reduceAdd, Int.reduceSub, Int.cast_ofNat_Int, reduceCtorEq, Nat.zero_add, Nat.add_zero, Nat.mul_one]) <;> first | exact a2 | rfl) (by (try simp only [upd_get, base_get, Nat.reduceAdd, Nat.reduceSub, Nat.reduceMul, Nat.reduceDiv, Nat.reduceMod, Nat.reducePow, Nat.reduceLT, Nat.reduceLeDiff, Nat.reduceEqDiff, Nat.reduceBEq, Nat.reduceBNe, reduceIte, Int.reduceEq, Int.reduceLT, Int.reduceLE, Int.reduceNeg, Int.reduceToNat, Int.reduceMul, Int.reduceAdd, Int.reduceSub, Int.cast_ofNat_Int, reduceCtorEq, Nat.zero_add, Nat.add_zero, Nat.mul_one]) <;> rfl) (by (try simp only [upd_get, base_get, Nat.reduceAdd, Nat.reduceSub, Nat.reduceMul, Nat.reduceDiv, Nat.reduceMod, Nat.reducePow, Nat.reduceLT, Nat.reduceLeDiff, Nat.reduceEqDiff, Nat.reduceBEq, Nat.reduceBNe, reduceIte, Int.reduceEq, Int.reduceLT, Int.reduceLE, Int.reduceNeg, Int.reduceToNat, Int.reduceMul, Int.reduceAdd, Int.reduceSub, Int.cast_ofNat_Int, reduceCtorEq, Nat.zero_add, Nat.add_zero, Nat.mul_one]) <;> rfl)
 rw [List.drop_zero, List.nil_append] at hrr ⊢
 rw [set_app0]
 have ez : (y3.take 8).map (fun z => Ra (ZJ z)) = ((y3.take 8).map ZJ).map Ra := by rw [List.map_map]; rfl
 rw [ez] at hrr ⊢
 generalize hz : (y3.take 8).map ZJ = zz3 at *
 have nrr : nr1 (.sl 3 rr (zz3.map Ra)) = true := by
   rw [nr1_sl]
   cases hq : (zz3.map Ra).isEmpty
   . rw [hq] at hrr; have : rr = false := by simpa using hrr
     rw [this]; rfl
   . simp
 have N1 := yy (v := .sl 3 rr (zz3.map Ra)) M1 (o := 16) (by decide)
 have N2 : (M.set 16 (.sl 3 rr (zz3.map Ra))).length = 55 := by simpa using M2
 have N3 : (M.set 16 (.sl 3 rr (zz3.map Ra))).all IVal.isCell = true := kz _ _ _ M3 rfl
 have N4 : (M.set 16 (.sl 3 rr (zz3.map Ra))).all nr1 = true := kz _ _ _ M4 nrr
 have N5 : ∀ o, o ≠ 50 -> o ≠ 51 -> o ≠ 16 -> (M.set 16 (.sl 3 rr (zz3.map Ra)))[o]? = m[o]? := fun o h1 h2 h3 => by rw [List.getElem?_set_ne (Ne.symm h3), M5 o h1 h2]
 have N6 : (M.set 16 (.sl 3 rr (zz3.map Ra)))[50]? = some (Q ((j50 % 1152921504606846976 : Nat) : Int)) := by rw [List.getElem?_set_ne (by decide), M6]
 have N7 : (M.set 16 (.sl 3 rr (zz3.map Ra)))[51]? = some (Q ((j51 % 1152921504606846976 : Nat) : Int)) := by rw [List.getElem?_set_ne (by decide), M7]
 have N8 : (M.set 16 (.sl 3 rr (zz3.map Ra)))[16]? = some (.sl 3 rr (zz3.map Ra)) := by rw [List.getElem?_set_self (by omega)]
 generalize M.set 16 (.sl 3 rr (zz3.map Ra)) = N at *
 have P1 : N.take 55 = N := List.take_of_length_le (by omega)
 have P2 : jb Z55 0 N = N := VH (by rw [N2]; rfl)
 have z55 : Z55.length = 55 := rfl
 have fp : (wr8.all fun p => !p.2 || decide (σ.length <= p.1)) = true := yG hw8
 have ff : (wr8.filter fun p => decide (p.1 < σ.length)) = wr8.filter fun p => decide (p.1 < σ.length) := rfl
 simp only [jG, a1', a2', N2, N3, N4, P1, P2, z55, fp, zV, zS, jy, jM, jc, jk, jR, jg, jl, je, jr, jO, jf, jj, jp, jK, ju, jq, Ts.fill, jS, jP, jh, jT, jo, jm, ji, ja, getAll, stepCall, jn, unI, Opd.get, jx, tag, jv, jb, jI, rv, bin, jW, Nat.reduceAdd, Nat.reduceSub, Nat.reduceMul, Nat.reduceDiv, Nat.reduceMod, Nat.reducePow, Nat.reduceLT, Nat.reduceLeDiff, Nat.reduceEqDiff, Nat.reduceBEq, Nat.reduceBNe, reduceIte, Int.reduceEq, Int.reduceLT, Int.reduceLE, Int.reduceNeg, Int.reduceToNat, Int.reduceMul, Int.reduceAdd, Int.reduceSub, reduceCtorEq]
 have hNr : Nr N := by
   refine ⟨fun o ho => ?_, fun o ho => ?_⟩
   . have hin : o ∈ vS := by
       have : ∀ q ∈ lAll, q.1 = .pl -> q.2 ∈ vS := by decide
       exact this _ ho rfl
     have hne : ∀ o ∈ vS, o ≠ 50 /\ o ≠ 51 /\ o ≠ 16 := by decide
     obtain ⟨h1, h2, h3⟩ := hne o hin
     rw [N5 o h1 h2 h3]
     exact mr o hin
   . have hin : o = 50 \/ o = 51 := by
       have : ∀ q ∈ lAll, q.1 = .nm -> q.2 = 50 \/ q.2 = 51 := by decide
       exact this _ ho rfl
     rcases hin with rfl | rfl
     . exact ⟨_, N6, by omega⟩
     . exact ⟨_, N7, by omega⟩
 have hz8 : zz3.length <= 8 := by rw [<- hz, List.length_map, List.length_take]; omega
 have hzr : ∀ z ∈ zz3, -100 < z.1 /\ z.1 < 100 /\ -100 < z.2.1 /\ z.2.1 < 100 := by
   intro z hzm
   rw [<- hz] at hzm
   obtain ⟨y, _, rfl⟩ := List.mem_map.1 hzm
   have h1 := Q5 (n := y.1) (m := 100) (by decide)
   have h2 := Q5 (n := y.2.1) (m := 100) (by decide)
   exact ⟨h1.1, h1.2, h2.1, h2.2⟩
 exact ⟨_, N, o1, r1', o2, r2', 3, rr, zz3, rfl, qU hw8, N2, N3, N4, N1, hNr, (N5 13 (by decide) (by decide) (by decide)).trans m13, (N5 14 (by decide) (by decide) (by decide)).trans m14, N8, hz8, hzr⟩
end Go.Idl.Sb
namespace Go.Idl.Sb
open Go Go.Idl Go.Idl.En
variable {F : jJ}
/-- A cell that may be told. -/
def Nk : K -> IVal -> Prop
 | .pl, .int _ n => -1152921504606846976 <= n /\ n <= 1152921504606846976
 | .nm, .int _ n => n <= 1152921504606846975
 | _, _ => True
theorem jcY {x : Nat} {k : K} {l : (DL x).W} {v : IVal} (hv : k.ty v) (hn : Nk k v) (hf : La.far l = false) : La.far (kg (DL x) k l v).1 = false := by
 cases k with
 | pl =>
   obtain ⟨n, rfl, _⟩ := hv
   have hn : -1152921504606846976 <= n /\ n <= 1152921504606846976 := hn
   show (La.far l || (decide (n < -1152921504606846976) || decide (n > 1152921504606846976))) = false
   rw [hf, decide_eq_false (by omega), decide_eq_false (by omega)]; rfl
 | wd =>
   obtain ⟨n, rfl, h1, h2⟩ := hv
   show (La.far l || (decide (n < -2147483648) || decide (n > 2147483647))) = false
   rw [hf, decide_eq_false (by omega), decide_eq_false (by omega)]; rfl
 | byt => obtain ⟨n, rfl, _⟩ := hv; exact hf
 | tr => obtain ⟨b, rfl⟩ := hv; exact hf
 | hf =>
   obtain ⟨n, rfl, hn⟩ := hv
   show (La.far l || decide (((n : Int).toNat : Int) > ((65535 : Nat) : Int))) = false
   rw [hf, decide_eq_false (by omega)]; rfl
 | nm =>
   obtain ⟨n, rfl, _⟩ := hv
   have hn : (n : Int) <= 1152921504606846975 := hn
   show (La.far l || decide (((n : Int).toNat : Int) > ((1152921504606846975 : Nat) : Int))) = false
   rw [hf, decide_eq_false (by omega)]; rfl
theorem Kt {x : Nat} : ∀ (L : List (K × Nat)) (l : (DL x).W) (cs : List IVal), Ty L cs -> (∀ q ∈ L, ∀ v, cs[q.2]? = some v -> Nk q.1 v) -> La.far l = false -> La.far (jB (DL x) L l cs).1 = false
 | [], l, cs, _, _, hf => hf
 | (k, o) :: L, l, cs, hT, hN, hf => by
   obtain ⟨v, ho, hv⟩ := hT _ List.mem_cons_self
   simp only [] at ho hv
   have e1 := QG (x := x) (l := l) hv
   have u : jB (DL x) ((k, o) :: L) l cs = jB (DL x) L (kg (DL x) k l v).1 cs := by rw [jB, jF ho, e1, yT ho]
   rw [u]
   exact Kt L _ cs (fun q hq => hT q (List.mem_cons_of_mem _ hq)) (fun q hq => hN q (List.mem_cons_of_mem _ hq)) (jcY hv (hN _ List.mem_cons_self v ho) hf)
theorem QE : ∀ (zs : List Int) (l : La), (∀ z ∈ zs, w3i z) -> l.far = false -> (JJ l zs).far = false
 | [], l, _, hf => hf
 | z :: zs, l, h, hf => by
   refine QE zs _ (fun u hu => h u (List.mem_cons_of_mem _ hu)) ?_
   have hz : w3i z := h z List.mem_cons_self
   show (l.far || (decide (z < -2147483648) || decide (z > 2147483647))) = false
   rw [hf, decide_eq_false (by omega), decide_eq_false (by omega)]; rfl
theorem Yq {x : Nat} : ∀ (zs : List (Int × Int × Bool)) (l : (DL x).W), (∀ z ∈ zs, -100 < z.1 /\ z.1 < 100 /\ -100 < z.2.1 /\ z.2.1 < 100) -> La.far l = false -> La.far (Xy x l zs) = false
 | [], l, _, hf => hf
 | z :: zs, l, h, hf => by
   have hz := h z List.mem_cons_self
   refine Yq zs _ (fun u hu => h u (List.mem_cons_of_mem _ hu)) (Kt (vf 0) l (Rc z) (jdQ ⟨⟨by omega, by omega⟩, ⟨by omega, by omega⟩⟩) ?_ hf)
   intro q hq v hv
   simp at hq
   rcases hq with rfl | rfl | rfl
   . obtain rfl := Option.some.inj hv.symm
     show -1152921504606846976 <= z.1 /\ z.1 <= 1152921504606846976
     omega
   . obtain rfl := Option.some.inj hv.symm
     show -1152921504606846976 <= z.2.1 /\ z.2.1 <= 1152921504606846976
     omega
   . exact trivial
/-- A near state may be told. -/
theorem jbZ {x : Nat} {cs : List IVal} {z1 z2 : List Int} {z3 : List (Int × Int × Bool)} (h : StOK cs z1 z2 z3) (hN : Nr cs) (hz : ∀ z ∈ z3, -100 < z.1 /\ z.1 < 100 /\ -100 < z.2.1 /\ z.2.1 < 100) : (vM x cs z1 z2 z3).far = false := by
 have hq : ∀ q ∈ lAll, ∀ v, cs[q.2]? = some v -> Nk q.1 v := by
   intro q hq v hv
   obtain ⟨k, o⟩ := q
   cases k with
   | pl => obtain ⟨n, h1, h2⟩ := hN.pl o hq; rw [hv] at h1; cases h1; exact h2
   | nm => obtain ⟨n, h1, h2⟩ := hN.nm o hq; rw [hv] at h1; cases h1; show (n : Int) <= 1152921504606846975; omega
   | wd => exact trivial
   | byt => exact trivial
   | tr => exact trivial
   | hf => exact trivial
 rw [Qw h]
 have num : ∀ (l : La) (n m : Nat), l.far = false -> n <= m -> (l.number n m).far = false := fun l n m hf hn => by
   show (l.far || decide ((n : Int) > m)) = false
   rw [hf, decide_eq_false (by omega)]; rfl
 refine Kt lC _ cs (jU h.ty sC) (fun q hq' => hq q (sC q hq')) (Yq z3 _ hz (num _ _ _ (Kt lB _ cs (jU h.ty sB) (fun q hq' => hq q (sB q hq')) (QE z2 _ h.w2 (num _ _ _ (QE z1 _ h.w1 (num _ _ _ ?_ h.n1)) h.n2))) h.n3))
 exact Kt lA _ cs (jU h.ty sA) (fun q hq' => hq q (sA q hq')) rfl
/-- Read to its end, or not. -/
theorem Ym {s : List UInt8} {w : Re} (hp : w.pos <= s.length) (h : Re.fin s w = none) : w.er = none /\ w.pos = s.length := by
 rw [Re.fin] at h
 cases he : w.er with
 | some e => rw [he] at h; cases h
 | none =>
   rw [he] at h
   simp only [] at h
   refine ⟨rfl, ?_⟩
   split at h
   . cases h
   . omega
theorem full {s : List UInt8} {l : La} {w : Re} (R : Rel s l w) (hp : w.pos = s.length) : U8s l.bs = s := by
 obtain ⟨r, hr⟩ := R.pre
 have hl : (U8s l.bs).length = s.length := by rw [U8s, List.length_map, <- R.pos, hp]
 have : r = [] := by
   cases r with
   | nil => rfl
   | cons c r => rw [<- hr, List.length_append, List.length_cons] at hl; omega
 rw [<- hr, this, List.append_nil]
/-- A cut of a state's bytes is no state. -/
theorem jgw {x x' x2 : Nat} {s : List UInt8} {cs : List IVal} {z1 z2 : List Int} {z3 : List (Int × Int × Bool)} (h : StOK cs z1 z2 z3) (hf : (vM x cs z1 z2 z3).far = false) (hs : s <+: U8s (vM x cs z1 z2 z3).bs) (hlt : s.length < (vM x cs z1 z2 z3).bs.length)
   (W : Way F (DR s x')) {r : Rd (DR s x')} (hr : rdS (DR s x') ⟨0, none⟩ Z55 = r) (hp : Re.pos r.w <= s.length) : Re.fin s r.w ≠ none := by
 intro hfin
 obtain ⟨he, hpos⟩ := Ym hp hfin
 obtain ⟨y1, y2, y3, ok, _, _, _, _, _, _, R⟩ := jhw (x := x) W hr he
 have e1 := full R hpos
 -- both are read off the whole text
 generalize hb : U8s (vM x cs z1 z2 z3).bs = b at *
 obtain ⟨R1, _⟩ := jhc (x := x) (x' := x2) (s := b) h hf (by rw [hb]; exact List.prefix_refl _) rfl
 obtain ⟨R2, _⟩ := jhc (x := x) (x' := x2) (s := b) ok R.far (by rw [e1]; exact hs) rfl
 have p1 := R1.pos
 have p2 := R2.pos
 have l1 : (vM x r.cs y1 y2 y3).bs.length = s.length := by
   have := congrArg List.length e1
   rw [U8s, List.length_map] at this; exact this
 omega
end Go.Idl.Sb
namespace Go.Idl.Sb
open Go Go.Idl Go.Idl.En
variable {F : jJ}
theorem jgA {s : List UInt8} {x k : Nat} {w : (DR s x).W} (h : (DR s x).ok w k) : Re.pos w <= s.length := And.left h
theorem jba {s : List UInt8} {x : Nat} (W : Way F (DR s x)) (hs : s.length < 1000000) {r : Rd (DR s x)} (hr : rdS (DR s x) ⟨0, none⟩ Z55 = r) : Re.pos r.w <= s.length := by
 have ok0 : ∀ (w : (DR s x).W) (j k : Nat), (DR s x).ok w j -> (DR s x).ok w k := fun w j k h => h
 have TA := qw W lA (⟨0, none⟩ : Re) Z55 zH (jU zH sA) (fun q hq r hr => jV q hq r (sA r hr)) smA
 have o0 : (DR s x).ok (⟨0, none⟩ : Re) 1000000 := ⟨Nat.zero_le _, hs⟩
 have oA := kX W lA (⟨0, none⟩ : Re) Z55 100000 (jU zH sA) smA (ok0 _ _ _ o0)
 unfold rdS at hr
 simp only [] at hr
 generalize jB (DR s x) lA (⟨0, none⟩ : Re) Z55 = rA at *
 have o1 := JN W (cnt (DR s x) rA.1 512) ((DR s x).number rA.1 0 512).1 [] 0 (ok0 _ 0 _ (W.ok_number (k := 0) (ok0 _ _ _ oA)))
 generalize kT (DR s x) (cnt (DR s x) rA.1 512) ((DR s x).number rA.1 0 512).1 [] = g1 at *
 have o2 := JN W (cnt (DR s x) g1.1 8000) ((DR s x).number g1.1 0 8000).1 [] 0 (ok0 _ 0 _ (W.ok_number (k := 0) (ok0 _ _ _ o1)))
 generalize kT (DR s x) (cnt (DR s x) g1.1 8000) ((DR s x).number g1.1 0 8000).1 [] = g2 at *
 have TB := qw W lB g2.1 rA.2 TA (jU TA sB) (fun q hq r hr => jV q hq r (sB r hr)) smB
 have oB := kX W lB g2.1 rA.2 1000 (jU TA sB) smB (ok0 _ _ _ o2)
 generalize jB (DR s x) lB g2.1 rA.2 = rB at *
 have o3 := Yx W (cnt (DR s x) rB.1 8) ((DR s x).number rB.1 0 8).1 [] 0 (ok0 _ 0 _ (W.ok_number (k := 0) (ok0 _ _ _ oB)))
 generalize qf (DR s x) (cnt (DR s x) rB.1 8) ((DR s x).number rB.1 0 8).1 [] = g3 at *
 have oC := kX W lC g3.1 rB.2 1000 (jU TB sC) smC (ok0 _ _ _ o3)
 generalize jB (DR s x) lC g3.1 rB.2 = rC at *
 subst hr
 exact jgA oC
theorem jdd {zs : List Int} (h : ∀ z ∈ zs, w3i z) : Ty (wdL 0 zs.length) (zs.map J) := by
 intro q hq
 obtain ⟨i, hi, rfl⟩ := List.mem_map.1 hq
 have hi : i < zs.length := by simpa [List.mem_range'_1] using hi
 exact ⟨J zs[i], by rw [List.getElem?_map, List.getElem?_eq_getElem hi]; rfl, jg8 (h _ (List.getElem_mem hi))⟩
theorem jbJ : ∀ (zs : List (Int × Int × Bool)) (i : Nat) (hi : i < zs.length) (j : Nat), j < 3 -> (zs.flatMap Rc)[i * 3 + j]? = (Rc zs[i])[j]?
 | [], i, hi, _, _ => by cases hi
 | z :: zs, 0, _, j, hj => by rw [List.flatMap_cons, List.getElem?_append_left (by simpa using hj), Nat.zero_mul, Nat.zero_add]; rfl
 | z :: zs, i + 1, hi, j, hj => by
   rw [List.flatMap_cons, List.getElem?_append_right (by simp; omega)]
   have e : (i + 1) * 3 + j - (Rc z).length = i * 3 + j := by simp; omega
   rw [e]
   exact jbJ zs i (by simpa using hi) j hj
theorem jfF {zs : List (Int × Int × Bool)} (h : ∀ z ∈ zs, r64 z) : Ty (raL 0 zs.length) (zs.flatMap Rc) := by
 intro q hq
 obtain ⟨i, hi, hq⟩ := List.mem_flatMap.1 hq
 have hi : i < zs.length := by simpa [List.mem_range'_1] using hi
 have hz := h _ (List.getElem_mem hi)
 simp at hq
 rcases hq with rfl | rfl | rfl
 . exact ⟨_, (jbJ zs i hi 0 (by decide)).trans rfl, _, rfl, hz.1⟩
 . exact ⟨_, (jbJ zs i hi 1 (by decide)).trans rfl, _, rfl, hz.2⟩
 . exact ⟨_, (jbJ zs i hi 2 (by decide)).trans rfl, _, rfl⟩
theorem jac {x : Nat} {cs cs' : List IVal} {z1 z2 : List Int} {z3 : List (Int × Int × Bool)} (hT : Ty lAll cs) (he : ∀ q ∈ lAll, cs'[q.2]? = cs[q.2]?) : vM x cs' z1 z2 z3 = vM x cs z1 z2 z3 := by
 have a : (jB (DL x) lA (⟨[], false⟩ : La) cs').1 = (jB (DL x) lA (⟨[], false⟩ : La) cs).1 := vD (x := x) lA _ cs cs' (jU hT sA) (fun q hq => he q (sA q hq))
 have b : ∀ w : La, (jB (DL x) lB w cs').1 = (jB (DL x) lB w cs).1 := fun w => vD (x := x) lB w cs cs' (jU hT sB) (fun q hq => he q (sB q hq))
 have c : ∀ w : La, (jB (DL x) lC w cs').1 = (jB (DL x) lC w cs).1 := fun w => vD (x := x) lC w cs cs' (jU hT sC) (fun q hq => he q (sC q hq))
 rw [vM, vM, a, b]
 exact c _
theorem jc3 {cs : List IVal} (hT : Ty lAll cs) : ∀ q ∈ lAll, (cs.map un1)[q.2]? = cs[q.2]? := by
 intro q hq
 obtain ⟨v, hv, hk⟩ := hT q hq
 rw [List.getElem?_map, hv]; simp [ZL hk]
theorem jbI {n0 n : Nat} {lv : IVal} {zs : List Int} {σ : List IObj} (h : LC 1 n0 lv n (zs.map J) σ) (hn : n = zs.length) : LW σ lv zs := by
 subst hn
 rcases h with ⟨_, h2, e', rfl⟩ | ⟨id, h1, _, h3⟩
 . have : zs = [] := by simpa using h2
   subst this
   exact .inl ⟨e', true, rfl⟩
 . exact .inr ⟨id, h1, h3⟩
theorem jcc {zs : List (Int × Int × Bool)} (h : zs.flatMap Rc = []) : zs = [] := by
 cases zs with
 | nil => rfl
 | cons z zs => rw [List.flatMap_cons] at h; cases h
theorem jfy {n0 n : Nat} {lv : IVal} {zs : List (Int × Int × Bool)} {σ : List IObj} (h : LC 3 n0 lv n (zs.flatMap Rc) σ) (hn : n = zs.length) : LR σ lv zs := by
 subst hn
 rcases h with ⟨_, h2, e', rfl⟩ | ⟨id, h1, _, h3⟩
 . have := jcc h2
   subst this
   exact .inl ⟨e', true, rfl⟩
 . exact .inr ⟨id, h1, h3⟩
/-- What the code does, as far as it is asked here. -/
structure Fs (F : jJ) : Prop where
 f5 : F 5 = some ir5
 f6 : F 6 = some ir6
 f7 : F 7 = some ir7
 f8 : F 8 = some ir8
 f16 : F 16 = some jfo
 f17 : F 17 = some jef
 f18 : F 18 = some jbF
 f19 : F 19 = some jdq
 f20 : F 20 = some jbG
 f21 : F 21 = some jfp
 f22 : F 22 = some jfq
 f23 : F 23 = some jfr
 f31 : F 31 = some jap
 f32 : F 32 = some jaq
 f33 : F 33 = some KS
 f34 : F 34 = some QB
 f35 : F 35 = some Xt
 f36 : F 36 = some Xu
 f37 : F 37 = some Xv
 f38 : F 38 = some ZG
 f39 : F 39 = some ZH
 f40 : F 40 = some KM
 f41 : F 41 = some K9
 f42 : F 42 = some Yp
 f73 : F 73 = some jfs
 f74 : F 74 = some jft
 f75 : F 75 = some jfu
 f76 : F 76 = some jfv
 f77 : F 77 = some jce
 f78 : F 78 = some jen
 f79 : F 79 = some jeo
 f80 : F 80 = some Xc
 f81 : F 81 = some Va
 f82 : F 82 = some Zc
 f83 : F 83 = some jep
 f84 : F 84 = some jdr
 f85 : F 85 = some jeq
 f86 : F 86 = some jer
 f87 : F 87 = some QC
 f88 : F 88 = some jcf
 f89 : F 89 = some jar
 f90 : F 90 = some jas
 f91 : F 91 = some jat
 f92 : F 92 = some jds
 f93 : F 93 = some Zd
theorem Fs.L (f : Fs F) (x : Nat) : Way F (DL x) := jid f.f73 f.f74 f.f75 f.f76 f.f77 f.f78 f.f79 f.f80 f.f81 x
theorem Fs.R (f : Fs F) (s : List UInt8) (x : Nat) : Way F (DR s x) := jie f.f83 f.f84 f.f85 f.f86 f.f40 f.f41 f.f42 f.f80 f.f81 f.f82 f.f87 f.f88 f.f89 f.f90 f.f91 f.f92 f.f93 s x
/-- A state is told. -/
theorem jdh (f : Fs F) {cs : List IVal} {σ : List IObj} {v1 v2 v3 : IVal} {z1 z2 : List Int} {z3 : List (Int × Int × Bool)} (hn : cs.length = 55) (hc : cs.all IVal.isCell = true)
   (c1 : cs[13]? = some v1) (c2 : cs[14]? = some v2) (c3 : cs[16]? = some v3) (L1 : LW σ v1 z1) (L2 : LW σ v2 z2) (L3 : LR σ v3 z3) (ok : StOK cs z1 z2 z3) {x : Nat} (hx : x = σ.length + 1) (hf : (vM x cs z1 z2 z3).far = false) :
   ∃ wr, cfw F (.f 6) [.agg cs] σ = some ⟨false, .str (U8s (vM x cs z1 z2 z3).bs), σ, wr⟩ /\ Fl wr := by
 subst hx
 obtain ⟨wr, h1, h2⟩ := jd4 f.f6 f.f17 f.f31 f.f32 f.f18 f.f33 f.f34 f.f35 f.f36 f.f37 f.f38 f.f39 f.L hn hc c1 c2 c3 L1 L2 L3 ok.n1 ok.n2 ok.n3 ok.ty (jdd ok.w1) (jdd ok.w2) (jfF ok.w3)
 rw [hf] at h1
 exact ⟨wr, h1, h2⟩
/-- Bytes are read: no state, or a state that is told again just so. -/
theorem jfR (f : Fs F) {s : List UInt8} (hs : s.length < 1000000) (σ : List IObj) :
   (∃ wr er, cfw F (.f 7) [.str s] σ = some ⟨false, .tup [.agg Z55, erI (some er)], σ, wr⟩ /\ Fl wr) \/
   (∃ wr e cs, cfw F (.f 7) [.str s] σ = some ⟨false, .tup [.agg cs, .prim .nilIface], σ ++ e, wr⟩ /\ Fl wr /\ cs.length = 55 /\ cs.all IVal.isCell = true /\
     ∀ l, ∃ wr', cfw F (.f 6) [.agg (cs.map un1)] ((σ ++ e) ++ l) = some ⟨false, .str s, (σ ++ e) ++ l, wr'⟩ /\ Fl wr') := by
 have W := f.R s (σ.length + 1)
 have hp := jba W hs rfl
 generalize hr : rdS (DR s (σ.length + 1)) ⟨0, none⟩ Z55 = r at hp
 cases hfin : Re.fin s r.w with
 | some er =>
   obtain ⟨c, a⟩ := er
   obtain ⟨wr, h1, h2⟩ := Yg f.f7 f.f19 f.f20 f.f18 f.f33 f.f34 f.f35 f.f36 f.f37 f.f38 f.f39 f.f40 f.f41 f.f42 W hs hr hp hfin
   exact .inl ⟨wr, (c, a), h1, h2⟩
 | none =>
   obtain ⟨wr, v1, v2, v3, e, h1, h2, X1, X2, X3⟩ := Yh f.f7 f.f19 f.f20 f.f18 f.f33 f.f34 f.f35 f.f36 f.f37 f.f38 f.f39 f.f40 f.f41 f.f42 W hs hr hp hfin
   obtain ⟨he, hpos⟩ := Ym hp hfin
   have hl : r.cs.length = 55 := by rw [<- hr]; exact YC _
   have hcell : ∀ {e n0 n : Nat} {lv : IVal} {ys : List IVal} {σ : List IObj}, LC e n0 lv n ys σ -> lv.isCell = true := fun h => (yC h).2.1
   have hbc : (((r.cs.set 13 v1).set 14 v2).set 16 v3).all IVal.isCell = true := by
     have hty : Ty lAll r.cs := by rw [<- hr]; exact jbb W _
     exact JS hl hty (hcell X1) (hcell X2) (hcell X3)
   refine .inr ⟨wr, e, _, h1, h2, by simpa using hl, hbc, ?_⟩
   intro l
   obtain ⟨z1, z2, z3, ok, n1, y1, n2, y2, n3, y3, R⟩ := jhw (x := ((σ ++ e) ++ l).length + 1) W hr he
   rw [y1] at X1; rw [y2] at X2; rw [y3] at X3
   have L1 := zi (vN (e := l) (jbI X1 n1))
   have L2 := zi (vN (e := l) (jbI X2 n2))
   have L3 := Vc (JA (e := l) (jfy X3 n3))
   have hce : ∀ q ∈ lAll, ((((r.cs.set 13 v1).set 14 v2).set 16 v3).map un1)[q.2]? = r.cs[q.2]? := by
     intro q hq
     have n13 : q.2 ≠ 13 := (by decide : ∀ q ∈ lAll, q.2 ≠ 13) q hq
     have n14 : q.2 ≠ 14 := (by decide : ∀ q ∈ lAll, q.2 ≠ 14) q hq
     have n16 : q.2 ≠ 16 := (by decide : ∀ q ∈ lAll, q.2 ≠ 16) q hq
     rw [List.getElem?_map, List.getElem?_set_ne (Ne.symm n16), List.getElem?_set_ne (Ne.symm n14), List.getElem?_set_ne (Ne.symm n13), <- List.getElem?_map]
     exact jc3 ok.ty q hq
   have hT2 : Ty lAll ((((r.cs.set 13 v1).set 14 v2).set 16 v3).map un1) := fun q hq => by
     obtain ⟨v, hv, hk⟩ := ok.ty q hq
     exact ⟨v, by rw [hce q hq, hv], hk⟩
   have eE := jac (x := ((σ ++ e) ++ l).length + 1) (z1 := z1) (z2 := z2) (z3 := z3) ok.ty hce
   have g16 : (((r.cs.set 13 v1).set 14 v2).set 16 v3)[16]? = some v3 := by rw [List.getElem?_set_self (by simp; omega)]
   have g14 : (((r.cs.set 13 v1).set 14 v2).set 16 v3)[14]? = some v2 := by rw [List.getElem?_set_ne (by decide), List.getElem?_set_self (by simp; omega)]
   have g13 : (((r.cs.set 13 v1).set 14 v2).set 16 v3)[13]? = some v1 := by rw [List.getElem?_set_ne (by decide), List.getElem?_set_ne (by decide), List.getElem?_set_self (by omega)]
   obtain ⟨wr', h3, h4⟩ := jdh f (σ := (σ ++ e) ++ l) (cs := (((r.cs.set 13 v1).set 14 v2).set 16 v3).map un1) (by simpa using hl) (vH hbc) (by rw [List.getElem?_map, g13]; rfl) (by rw [List.getElem?_map, g14]; rfl) (by rw [List.getElem?_map, g16]; rfl) L1 L2 L3 ⟨hT2, ok.n1, ok.n2, ok.n3, ok.w1, ok.w2, ok.w3⟩ rfl (by rw [eE]; exact R.far)
   rw [eE, full R hpos] at h3
   exact ⟨wr', h3, h4⟩
end Go.Idl.Sb
namespace Go.Idl.Sb
open Go Go.Idl Go.Idl.En
variable {F : jJ}
theorem neS (s : List UInt8) : (s != s) = false := bne_self_eq_false s
set_option maxHeartbeats 4000000 in
theorem jhk (f : Fs F) {x0 x1 : List UInt8} (h0 : x0.length < 1000000) (h1 : x1.length < 1000000) : ∀ (d i : Nat) (f0 : Nat -> Option (Nat × IVal)) (σ : List IObj) (wr : List (Nat × Bool)) (R : Option (IExit × St)),
   evw F (.loop K8) ⟨E 70 8 7 [] (base f0), σ, wr⟩ = R -> i + d = 2 ->
   f0 68 = some (68, .agg [.str x0, .str x1]) -> f0 69 = some (69, I i) ->
   ∃ f1 σ' wr', R = some (.exit 0, ⟨E 70 8 7 [] (base f1), σ', wr'⟩) := by
 intro d
 induction d with
 | zero =>
   intro i f0 σ wr R hE hi e68 e69
   have : i = 2 := by omega
   subst this
   have n2 : ((2 : Nat) : Int) = 2 := rfl
   have l0 : decide ((2 : Int) < 2) = false := rfl
   rw [jH] at hE
   subst hE
   simp only [K8, e68, e69, n2, l0, zV, zS, jy, jM, jc, jk, jR, jg, jl, je, jr, jO, jf, jj, jp, jK, ju, jq, Ts.fill, jS, jP, jh, jT, jo, jm, ji, ja, getAll, stepCall, jn, unI, Opd.get, jx, tag, jv, jb, jI, rv, bin, jW, Nat.reduceAdd, Nat.reduceSub, Nat.reduceMul, Nat.reduceDiv, Nat.reduceMod, Nat.reducePow, Nat.reduceLT, Nat.reduceLeDiff, Nat.reduceEqDiff, Nat.reduceBEq, Nat.reduceBNe, reduceIte, Int.reduceEq, Int.reduceLT, Int.reduceLE, Int.reduceNeg, Int.reduceToNat, Int.reduceMul, Int.reduceAdd, Int.reduceSub, reduceCtorEq]
   exact ⟨_, _, _, rfl⟩
 | succ d ih =>
   intro i f0 σ wr R hE hi e68 e69
   have l0 : decide ((i : Int) < 2) = true := decide_eq_true (by omega)
   have d1 : (0 : Int) <= (i : Int) := by omega
   have d2 : (i : Int) < 2 := by omega
   have d3 : (i : Int) < ((2 : Nat) : Int) := by omega
   have w1 := yz (n := i) (by omega)
   obtain ⟨s, hs, gs⟩ : ∃ s, s.length < 1000000 /\ [IVal.str x0, .str x1][i]? = some (.str s) := by
     match i, hi with
     | 0, _ => exact ⟨x0, h0, rfl⟩
     | 1, _ => exact ⟨x1, h1, rfl⟩
   have r6 : jb Z55 0 Z55 = Z55 := VH rfl
   have r8 : Z55.all IVal.isCell = true := rfl
   have z55 : Z55.length = 55 := rfl
   rw [jH] at hE
   rcases jfR f hs σ with ⟨wr1, er, u0, hw1⟩ | ⟨wr1, e, cs, u0, hw1, hl, hc, henc⟩
   . have i2 : isNil 1 (erI (some er)) = some false := by obtain ⟨c, a⟩ := er; rfl
     have u3 : un3 (erI (some er)) = erI (some er) := by obtain ⟨c, a⟩ := er; rfl
     have u2 : un2 (erI (some er)) = erI (some er) := by obtain ⟨c, a⟩ := er; rfl
     have u4 : nt (erI (some er)) = true := by obtain ⟨c, a⟩ := er; rfl
     simp only [K8, jG, cells_agg, e68, e69, l0, d1, d2, d3, w1, gs, u0, i2, u2, u3, u4, r6, r8, z55, tne, Int.toNat_natCast, zV, zS, jy, jM, jc, jk, jR, jg, jl, je, jr, jO, jf, jj, jp, jK, ju, jq, Ts.fill, jS, jP, jh, jT, jo, jm, ji, ja, getAll, stepCall, jn, unI, Opd.get, jx, tag, jv, jb, jI, rv, bin, jW, Nat.reduceAdd, Nat.reduceSub, Nat.reduceMul, Nat.reduceDiv, Nat.reduceMod, Nat.reducePow, Nat.reduceLT, Nat.reduceLeDiff, Nat.reduceEqDiff, Nat.reduceBEq, Nat.reduceBNe, reduceIte, Int.reduceEq, Int.reduceLT, Int.reduceLE, Int.reduceNeg, Int.reduceToNat, Int.reduceMul, Int.reduceAdd, Int.reduceSub, reduceCtorEq] at hE
     exact ih (i + 1) _ _ _ R hE (by omega) (by (try simp only [upd_get, base_get, Nat.reduceAdd, Nat.reduceSub, Nat.reduceMul, Nat.reduceDiv, Nat.reduceMod, Nat.reducePow, Nat.reduceLT, Nat.reduceLeDiff, Nat.reduceEqDiff, Nat.reduceBEq, Nat.reduceBNe, reduceIte, Int.reduceEq, Int.reduceLT, Int.reduceLE, Int.reduceNeg, Int.reduceToNat, Int.reduceMul, Int.reduceAdd, Int.reduceSub, Int.cast_ofNat_Int, reduceCtorEq, Nat.zero_add, Nat.add_zero, Nat.mul_one]) <;> first | exact e68 | rfl) (by (try simp only [upd_get, base_get, Nat.reduceAdd, Nat.reduceSub, Nat.reduceMul, Nat.reduceDiv, Nat.reduceMod, Nat.reducePow, Nat.reduceLT, Nat.reduceLeDiff, Nat.reduceEqDiff, Nat.reduceBEq, Nat.reduceBNe, reduceIte, Int.reduceEq, Int.reduceLT, Int.reduceLE, Int.reduceNeg, Int.reduceToNat, Int.reduceMul, Int.reduceAdd, Int.reduceSub, Int.cast_ofNat_Int, reduceCtorEq, Nat.zero_add, Nat.add_zero, Nat.mul_one]) <;> rfl)
   . obtain ⟨wr2, u1, hw2⟩ := henc [.cells cs]
     rw [List.append_assoc] at u1
     have mm := vK cs
     have k1 : cs.take 55 = cs := List.take_of_length_le (by omega)
     have k2 : jb Z55 0 cs = cs := VH (by rw [hl]; rfl)
     have i2 : isNil 1 (.prim .nilIface) = some true := rfl
     simp only [K8, jG, cells_agg, e68, e69, l0, d1, d2, d3, w1, gs, u0, u1, i2, hl, hc, k1, k2, r6, r8, z55, neS, tne, mm, jgZ, Int.toNat_natCast, zV, zS, jy, jM, jc, jk, jR, jg, jl, je, jr, jO, jf, jj, jp, jK, ju, jq, Ts.fill, jS, jP, jh, jT, jo, jm, ji, ja, getAll, stepCall, jn, unI, Opd.get, jx, tag, jv, jb, jI, rv, bin, jW, Nat.reduceAdd, Nat.reduceSub, Nat.reduceMul, Nat.reduceDiv, Nat.reduceMod, Nat.reducePow, Nat.reduceLT, Nat.reduceLeDiff, Nat.reduceEqDiff, Nat.reduceBEq, Nat.reduceBNe, reduceIte, Int.reduceEq, Int.reduceLT, Int.reduceLE, Int.reduceNeg, Int.reduceToNat, Int.reduceMul, Int.reduceAdd, Int.reduceSub, reduceCtorEq] at hE
     exact ih (i + 1) _ _ _ R hE (by omega) (by (try simp only [upd_get, base_get, Nat.reduceAdd, Nat.reduceSub, Nat.reduceMul, Nat.reduceDiv, Nat.reduceMod, Nat.reducePow, Nat.reduceLT, Nat.reduceLeDiff, Nat.reduceEqDiff, Nat.reduceBEq, Nat.reduceBNe, reduceIte, Int.reduceEq, Int.reduceLT, Int.reduceLE, Int.reduceNeg, Int.reduceToNat, Int.reduceMul, Int.reduceAdd, Int.reduceSub, Int.cast_ofNat_Int, reduceCtorEq, Nat.zero_add, Nat.add_zero, Nat.mul_one]) <;> first | exact e68 | rfl) (by (try simp only [upd_get, base_get, Nat.reduceAdd, Nat.reduceSub, Nat.reduceMul, Nat.reduceDiv, Nat.reduceMod, Nat.reducePow, Nat.reduceLT, Nat.reduceLeDiff, Nat.reduceEqDiff, Nat.reduceBEq, Nat.reduceBNe, reduceIte, Int.reduceEq, Int.reduceLT, Int.reduceLE, Int.reduceNeg, Int.reduceToNat, Int.reduceMul, Int.reduceAdd, Int.reduceSub, Int.cast_ofNat_Int, reduceCtorEq, Nat.zero_add, Nat.add_zero, Nat.mul_one]) <;> rfl)
end Go.Idl.Sb
namespace Go.Idl.Sb
open Go Go.Idl Go.Idl.En
variable {F : jJ}
theorem jcZ {x : Nat} (k : K) (l : (DL x).W) (v : IVal) : (La.bs (kg (DL x) k l v).1).length <= (La.bs l).length + 8 := by
 have hn : ∀ n, (nb n).length <= 8 := jaM
 unfold kg
 split
 . show (La.bs l ++ nb _).length <= _
   rw [List.length_append]; have := hn (zz (by assumption) % 4611686018427387904); omega
 . show (La.bs l ++ nb _).length <= _
   rw [List.length_append]; have := hn (zz (by assumption) % 4611686018427387904); omega
 . show (La.bs l ++ [_]).length <= _
   rw [List.length_append, List.length_singleton]; omega
 . show (La.bs l ++ [_]).length <= _
   rw [List.length_append, List.length_singleton]; omega
 . rename_i n
   show (La.bs l ++ nb _).length <= _
   rw [List.length_append]; have := hn (n.toNat % 4611686018427387904); omega
 . rename_i n
   show (La.bs l ++ nb _).length <= _
   rw [List.length_append]; have := hn (n.toNat % 4611686018427387904); omega
 . show (La.bs l).length <= _
   omega
theorem z9 {x : Nat} : ∀ (L : List (K × Nat)) (l : (DL x).W) (cs : List IVal), (La.bs (jB (DL x) L l cs).1).length <= (La.bs l).length + 8 * L.length
 | [], l, cs => by show (La.bs l).length <= _; omega
 | (k, o) :: L, l, cs => by
   rw [jB]
   have h1 := z9 L (kg (DL x) k l (kH cs o)).1 (cs.set o (kg (DL x) k l (kH cs o)).2)
   have h2 := jcZ k l (kH cs o)
   rw [List.length_cons]; omega
theorem QF : ∀ (zs : List Int) (l : La), (JJ l zs).bs.length <= l.bs.length + 8 * zs.length
 | [], l => by show l.bs.length <= _; omega
 | z :: zs, l => by
   rw [JJ]
   have h1 := QF zs (l.whole z (-2147483648) 2147483647)
   have h2 : (l.whole z (-2147483648) 2147483647).bs.length <= l.bs.length + 8 := by
     show (l.bs ++ nb _).length <= _
     rw [List.length_append]; have := jaM (zz z % 4611686018427387904); omega
   rw [List.length_cons]; omega
theorem Yr {x : Nat} : ∀ (zs : List (Int × Int × Bool)) (l : (DL x).W), (La.bs (Xy x l zs)).length <= (La.bs l).length + 24 * zs.length
 | [], l => by show (La.bs l).length <= _; omega
 | z :: zs, l => by
   rw [Xy]
   have h1 := Yr zs (jB (DL x) (vf 0) l (Rc z)).1
   have h2 := z9 (x := x) (vf 0) l (Rc z)
   have h3 : (vf 0).length = 3 := rfl
   rw [List.length_cons]; omega
theorem Js (l : La) (n m : Nat) : (l.number n m).bs.length <= l.bs.length + 8 /\ 0 < (l.number n m).bs.length := by
 show (l.bs ++ nb _).length <= _ /\ 0 < (l.bs ++ nb _).length
 have h1 := jaM (n % 4611686018427387904)
 have h2 : 0 < (nb (n % 4611686018427387904)).length := by rw [VD]; exact Nat.pow_pos (by decide)
 rw [List.length_append]; omega
theorem Xn {x : Nat} {cs : List IVal} {z1 z2 : List Int} {z3 : List (Int × Int × Bool)} (h : StOK cs z1 z2 z3) : 0 < (vM x cs z1 z2 z3).bs.length /\ (vM x cs z1 z2 z3).bs.length < 100000 := by
 rw [Qw h]
 have a0 := z9 (x := x) lA (⟨[], false⟩ : La) cs
 generalize (jB (DL x) lA (⟨[], false⟩ : La) cs).1 = A at *
 have a1 := Js A z1.length 512
 have a2 := QF z1 (La.number A z1.length 512)
 generalize JJ (La.number A z1.length 512) z1 = A1 at *
 have a3 := Js A1 z2.length 8000
 have a4 := QF z2 (La.number A1 z2.length 8000)
 generalize JJ (La.number A1 z2.length 8000) z2 = A2 at *
 have a5 := z9 (x := x) lB A2 cs
 generalize (jB (DL x) lB A2 cs).1 = A3 at *
 have a6 := Js A3 z3.length 8
 have a7 := Yr (x := x) z3 (La.number A3 z3.length 8)
 have b7 := (QH (x := x) z3 (La.number A3 z3.length 8)).1.length_le
 generalize Xy x (La.number A3 z3.length 8) z3 = A4 at *
 have a8 := z9 (x := x) lC A4 cs
 have b8 := (Qa (x := x) lC A4 cs).1.length_le
 have e1 : lA.length = 13 := rfl
 have e2 : lB.length = 1 := rfl
 have e3 : lC.length = 38 := rfl
 have n1 := h.n1
 have n2 := h.n2
 have n3 := h.n3
 have a0 : A.bs.length <= 0 + 8 * lA.length := a0
 refine ⟨by omega, by omega⟩
/-- A state's bytes are read: it is the same. -/
theorem jd0 (f : Fs F) {cs : List IVal} {σ : List IObj} {v1 v2 v3 : IVal} {z1 z2 : List Int} {z3 : List (Int × Int × Bool)} (hn : cs.length = 55) (hc : cs.all IVal.isCell = true)
   (c1 : cs[13]? = some v1) (c2 : cs[14]? = some v2) (c3 : cs[16]? = some v3) (L1 : LW σ v1 z1) (L2 : LW σ v2 z2) (L3 : LR σ v3 z3) (ok : StOK cs z1 z2 z3) {x : Nat} (hf : (vM x cs z1 z2 z3).far = false) :
   ∃ wr e cs2, cfw F (.f 7) [.str (U8s (vM x cs z1 z2 z3).bs)] σ = some ⟨false, .tup [.agg cs2, .prim .nilIface], σ ++ e, wr⟩ /\ Fl wr /\ cs2.length = 55 /\ cs2.all IVal.isCell = true /\
     ∀ l, cfw F (.f 8) [.agg (cs2.map un1), .agg cs] ((σ ++ e) ++ l) = some ⟨false, .bool true, (σ ++ e) ++ l, []⟩ := by
 have hlen := Xn (x := x) ok
 generalize hb : U8s (vM x cs z1 z2 z3).bs = b
 have hbl : b.length = (vM x cs z1 z2 z3).bs.length := by rw [<- hb, U8s, List.length_map]
 have W := f.R b (σ.length + 1)
 have hp := jba W (by omega) rfl
 generalize hr : rdS (DR b (σ.length + 1)) ⟨0, none⟩ Z55 = r at hp
 obtain ⟨R, hce, n1, y1, n2, y2, n3, y3⟩ := jhc (x := x) ok hf (by rw [hb]; exact List.prefix_refl _) hr
 have hfin : Re.fin b r.w = none := by
   have h1 := R.er
   have h2 := R.pos
   have h3 : ¬ Re.pos r.w < b.length := by rw [h2, hbl]; omega
   unfold Re.fin
   split
   . rename_i e he; rw [h1] at he; cases he
   . exact if_neg h3
 obtain ⟨wr, w1, w2, w3, e, h1, h2, X1, X2, X3⟩ := Yh f.f7 f.f19 f.f20 f.f18 f.f33 f.f34 f.f35 f.f36 f.f37 f.f38 f.f39 f.f40 f.f41 f.f42 W (by omega) hr hp hfin
 have hl : r.cs.length = 55 := by rw [<- hr]; exact YC _
 have hty : Ty lAll r.cs := by rw [<- hr]; exact jbb W _
 have hcell : ∀ {e n0 n : Nat} {lv : IVal} {ys : List IVal} {σ : List IObj}, LC e n0 lv n ys σ -> lv.isCell = true := fun h => (yC h).2.1
 have hbc := JS hl hty (hcell X1) (hcell X2) (hcell X3)
 refine ⟨wr, e, _, h1, h2, by simpa using hl, hbc, ?_⟩
 intro l
 rw [y1] at X1; rw [y2] at X2; rw [y3] at X3
 have M1 := zi (vN (e := l) (jbI X1 n1))
 have M2 := zi (vN (e := l) (jbI X2 n2))
 have M3 := Vc (JA (e := l) (jfy X3 n3))
 have hce2 : ∀ q ∈ lAll, ((((r.cs.set 13 w1).set 14 w2).set 16 w3).map un1)[q.2]? = cs[q.2]? := by
   intro q hq
   have n13 : q.2 ≠ 13 := (by decide : ∀ q ∈ lAll, q.2 ≠ 13) q hq
   have n14 : q.2 ≠ 14 := (by decide : ∀ q ∈ lAll, q.2 ≠ 14) q hq
   have n16 : q.2 ≠ 16 := (by decide : ∀ q ∈ lAll, q.2 ≠ 16) q hq
   rw [List.getElem?_map, List.getElem?_set_ne (Ne.symm n16), List.getElem?_set_ne (Ne.symm n14), List.getElem?_set_ne (Ne.symm n13), <- List.getElem?_map, jc3 hty q hq]
   exact hce q hq
 have hT2 : Ty lAll ((((r.cs.set 13 w1).set 14 w2).set 16 w3).map un1) := fun q hq => by
   obtain ⟨v, hv, hk⟩ := ok.ty q hq
   exact ⟨v, by rw [hce2 q hq, hv], hk⟩
 have g16 : (((r.cs.set 13 w1).set 14 w2).set 16 w3)[16]? = some w3 := by rw [List.getElem?_set_self (by simp; omega)]
 have g14 : (((r.cs.set 13 w1).set 14 w2).set 16 w3)[14]? = some w2 := by rw [List.getElem?_set_ne (by decide), List.getElem?_set_self (by simp; omega)]
 have g13 : (((r.cs.set 13 w1).set 14 w2).set 16 w3)[13]? = some w1 := by rw [List.getElem?_set_ne (by decide), List.getElem?_set_ne (by decide), List.getElem?_set_self (by omega)]
 have b1 := ok.n1
 have b2 := ok.n2
 have b3 := ok.n3
 have L1' := vN (e := l) (vN (e := e) L1)
 have L2' := vN (e := l) (vN (e := e) L2)
 have L3' := JA (e := l) (JA (e := e) L3)
 exact jhq f.f8 f.f21 f.f22 f.f23 (by simpa using hl) hn (vH hbc) hc hT2 (fun q hq => (hce2 q hq).symm) (by rw [List.getElem?_map, g13]; rfl) (by rw [List.getElem?_map, g14]; rfl) (by rw [List.getElem?_map, g16]; rfl) c1 c2 c3 M1 M2 M3 L1' L2' L3' (by omega) (by omega) (by omega)
/-- Cut, they are none. -/
theorem jdZ (f : Fs F) {cs : List IVal} {z1 z2 : List Int} {z3 : List (Int × Int × Bool)} (ok : StOK cs z1 z2 z3) {x : Nat} (hf : (vM x cs z1 z2 z3).far = false) {j : Nat} (hj : j < (vM x cs z1 z2 z3).bs.length) (σ : List IObj) :
   ∃ wr er, cfw F (.f 7) [.str ((U8s (vM x cs z1 z2 z3).bs).take j)] σ = some ⟨false, .tup [.agg Z55, erI (some er)], σ, wr⟩ /\ Fl wr := by
 have hlen := Xn (x := x) ok
 have hbl : (U8s (vM x cs z1 z2 z3).bs).length = (vM x cs z1 z2 z3).bs.length := by rw [U8s, List.length_map]
 have hpre : (U8s (vM x cs z1 z2 z3).bs).take j <+: U8s (vM x cs z1 z2 z3).bs := List.take_prefix _ _
 have hsl : ((U8s (vM x cs z1 z2 z3).bs).take j).length = j := by rw [List.length_take]; omega
 generalize (U8s (vM x cs z1 z2 z3).bs).take j = s at *
 have W := f.R s (σ.length + 1)
 have hp := jba W (by omega) rfl
 generalize hr : rdS (DR s (σ.length + 1)) ⟨0, none⟩ Z55 = r at hp
 have hne := jgw (x2 := 0) ok hf hpre (by omega) W hr hp
 cases hfin : Re.fin s r.w with
 | none => exact absurd hfin hne
 | some er =>
   obtain ⟨c, a⟩ := er
   obtain ⟨wr, h1, h2⟩ := Yg f.f7 f.f19 f.f20 f.f18 f.f33 f.f34 f.f35 f.f36 f.f37 f.f38 f.f39 f.f40 f.f41 f.f42 W (by omega) hr hp hfin
   exact ⟨wr, (c, a), h1, h2⟩
end Go.Idl.Sb
namespace Go.Idl.Sb
open Go Go.Idl Go.Idl.En
variable {F : jJ}
set_option maxRecDepth 100000 in
set_option maxHeartbeats 8000000 in
theorem jci (f : Fs F) (h3 : F 3 = some ir3) (h4 : ∀ σ, cfw F (.f 4) [] σ = some ⟨false, .bool true, σ, []⟩) {cs : List IVal} (hn : cs.length = 55) (hc : cs.all IVal.isCell = true) (hnr : cs.all nr1 = true) (hT : Ty lAll cs) {r1 r2 r3 : Bool} {z1 z2 : List Int} {z3 : List (Int × Int × Bool)}
   (c1 : cs[13]? = some (.sl 0 r1 (z1.map J))) (c2 : cs[14]? = some (.sl 0 r2 (z2.map J))) (c3 : cs[16]? = some (.sl 0 r3 (z3.map Ra))) (q1 : r1 = true -> z1 = []) (q2 : r2 = true -> z2 = []) (q3 : r3 = true -> z3 = []) (w1 : ∀ z ∈ z1, w3i z) (w2 : ∀ z ∈ z2, w3i z)
   {c : Nat} (hcut : c < 65536) {raw : List UInt8} (σ : List IObj) :
   ∃ σ' wr, cfw F (.f 3) [.agg cs, .int .u16 c, .str raw] σ = some ⟨false, .bool true, σ', wr⟩ := by
 rw [jQ ir3 h3, jq]
 have lb : (cs.map un1).length = 55 := by simpa using hn
 have kb := vH hc
 have kn := jeK hnr
 have b1 : (cs.map un1)[13]? = some (.sl 0 r1 (z1.map J)) := by rw [List.getElem?_map, c1]; rfl
 have b2 : (cs.map un1)[14]? = some (.sl 0 r2 (z2.map J)) := by rw [List.getElem?_map, c2]; rfl
 have b3 : (cs.map un1)[16]? = some (.sl 0 r3 (z3.map Ra)) := by rw [List.getElem?_map, c3]; rfl
 have uu := vK cs
 have tb := Xh hT
 generalize hB : cs.map un1 = bs at *
 -- near
 obtain ⟨wr1, cs1, o1, r1', o2, r2', o3, r3', y3, n0, hw1, l1, k1, m1, t1, N1, g1, g2, g3, hy, hz⟩ := jhm (σ := σ ++ [.cells bs]) f.f5 f.f16 lb kb kn tb b1 b2 b3 q1 q2 q3
 have y1 : ∀ z ∈ z1.take 40, w3i z := fun z hz => w1 z (List.mem_of_mem_take hz)
 have y2 : ∀ z ∈ z2.take 40, w3i z := fun z hz => w2 z (List.mem_of_mem_take hz)
 have ok : StOK (cs1.map un1) (z1.take 40) (z2.take 40) y3 := by
   refine ⟨Xh t1, ?_, ?_, hy, y1, y2, fun z h => ?_⟩
   . rw [List.length_take]; omega
   . rw [List.length_take]; omega
   . have := hz z h; exact ⟨⟨by omega, by omega⟩, ⟨by omega, by omega⟩⟩
 have N2 : Nr (cs1.map un1) := ⟨fun o ho => by rw [jc3 t1 _ ho]; exact N1.pl o ho, fun o ho => by rw [jc3 t1 _ ho]; exact N1.nm o ho⟩
 have hfar := jbZ (x := (σ ++ [IObj.cells cs1]).length + 1) ok N2 hz
 have hlen := Xn (x := (σ ++ [IObj.cells cs1]).length + 1) ok
 have L1 : LW (σ ++ [IObj.cells cs1]) (.sl 0 r1' ((z1.take 40).map J)) (z1.take 40) := .inl ⟨_, _, rfl⟩
 have L2 : LW (σ ++ [IObj.cells cs1]) (.sl 0 r2' ((z2.take 40).map J)) (z2.take 40) := .inl ⟨_, _, rfl⟩
 have L3 : LR (σ ++ [IObj.cells cs1]) (.sl 0 r3' (y3.map Ra)) y3 := .inl ⟨_, _, rfl⟩
 have g1' : (cs1.map un1)[13]? = some (.sl 0 r1' ((z1.take 40).map J)) := by rw [List.getElem?_map, g1]; rfl
 have g2' : (cs1.map un1)[14]? = some (.sl 0 r2' ((z2.take 40).map J)) := by rw [List.getElem?_map, g2]; rfl
 have g3' : (cs1.map un1)[16]? = some (.sl 0 r3' (y3.map Ra)) := by rw [List.getElem?_map, g3]; rfl
 have ul1 : (cs1.map un1).length = 55 := by simpa using l1
 have uk1 := vH k1
 have uu1 := vK cs1
 obtain ⟨wr2, e0, hw2⟩ := jdh f ul1 uk1 g1' g2' g3' L1 L2 L3 ok rfl hfar
 obtain ⟨wr3, e, cs2, d0, hw3, l2, k2, s0⟩ := jd0 f ul1 uk1 g1' g2' g3' L1 L2 L3 ok hfar
 have s1 := s0 [.cells cs2]
 have uu2 := vK cs2
 have uk2 := vH k2
 have ul2 : (cs2.map un1).length = 55 := by simpa using l2
 have cut := fun j hj σ => jdZ f ok hfar (j := j) hj σ
 have hbl : (U8s (vM ((σ ++ [IObj.cells cs1]).length + 1) (cs1.map un1) (z1.take 40) (z2.take 40) y3).bs).length = (vM ((σ ++ [IObj.cells cs1]).length + 1) (cs1.map un1) (z1.take 40) (z2.take 40) y3).bs.length := by rw [U8s, List.length_map]
 rw [<- hbl] at hlen cut
 generalize U8s (vM ((σ ++ [IObj.cells cs1]).length + 1) (cs1.map un1) (z1.take 40) (z2.take 40) y3).bs = b at *
 clear hbl ok hfar N2 N1 L1 L2 L3 y1 y2 hz hy s0 g1 g2 g3 g1' g2' g3' b1 b2 b3 w1 w2 tb t1 hT c1 c2 c3
 -- the store behind
 have ga : ∀ l, ((σ ++ [IObj.cells cs1]) ++ e ++ l)[σ.length]? = some (.cells cs1) := fun l => by rw [List.append_assoc, List.append_assoc, get_app0]; try rfl
 have hlt : σ.length < ((σ ++ [IObj.cells cs1]) ++ e).length := by rw [List.length_append, List.length_append, List.length_singleton]; omega
 generalize (σ ++ [IObj.cells cs1]) ++ e = σ2 at *
 have ga0 : σ2[σ.length]? = some (.cells cs1) := by have := ga []; rwa [List.append_nil] at this
 have hj : c % b.length < b.length := Nat.mod_lt _ hlen.1
 obtain ⟨wr4, er, c0, hw4⟩ := cut (c % b.length) hj (σ2 ++ [.cells cs2])
 have i2 : isNil 1 (erI (some er)) = some false := by obtain ⟨c, a⟩ := er; rfl
 have i3 : isNil 1 (.prim .nilIface) = some true := rfl
 have u3 : un3 (erI (some er)) = erI (some er) := by obtain ⟨c, a⟩ := er; rfl
 have u2 : un2 (erI (some er)) = erI (some er) := by obtain ⟨c, a⟩ := er; rfl
 have u4 : nt (erI (some er)) = true := by obtain ⟨c, a⟩ := er; rfl
 have p1 : cs1.take 55 = cs1 := List.take_of_length_le (by omega)
 have p2 : cs2.take 55 = cs2 := List.take_of_length_le (by omega)
 have p0 : bs.take 55 = bs := List.take_of_length_le (by omega)
 have p3 : jb bs 0 bs = bs := VH rfl
 have p4 : jb bs 0 cs1 = cs1 := VH (by omega)
 have p5 : jb Z55 0 cs2 = cs2 := VH (by rw [l2]; rfl)
 have p6 : jb Z55 0 Z55 = Z55 := VH rfl
 have r8 : Z55.all IVal.isCell = true := rfl
 have z55 : Z55.length = 55 := rfl
 have v1 : ((b.length : Int) == 0) = false := by rw [beq_eq_false_iff_ne]; omega
 have v2 : IntKind.i64.wrap (c : Int) = (c : Int) := qW (by omega) (by omega)
 have v3 : ((b.length : Int) = 0) = False := eq_false (by omega)
 have v4 : (c : Int).tmod (b.length : Int) = ((c % b.length : Nat) : Int) := by rw [Int.tmod_eq_emod_of_nonneg (by omega)]; rfl
 have v5 : ∀ k : Nat, (0 : Int) <= (k : Int) := fun k => by omega
 have v6 : c % b.length <= b.length := Nat.le_of_lt hj
 have mq := jaH raw.length 200
 have v7 : (b.take (c % b.length)).length + (raw.take (min raw.length 200)).length <= 1099511627776 := by
   have h1 := List.length_take_le (c % b.length) b
   have h2 := List.length_take_le (min raw.length 200) raw
   omega
 have n200 : ((200 : Nat) : Int) = 200 := rfl
 rw [n200] at mq
 have pq := Nat.min_le_left raw.length 200
 have f2 : ∀ x y : List UInt8, yF [.str [], .str []] [(0, 1, .str x), (1, 1, .str y)] = some [.str x, .str y] := fun _ _ => rfl
 simp only [ir3, jG, cells_agg, hB, kb, lb, uu, n0, p0, p1, p2, p3, p4, p5, p6, l1, k1, m1, ul1, uk1, uu1, e0, d0, l2, k2, ul2, uk2, uu2, s1, c0, ga, ga0, h4, i2, i3, u2, u3, u4, r8, z55, v1, v2, v3, v4, v5, v6, v7, mq, pq, f2, tne, jgZ, List.zip_cons_cons, List.zip_nil_right, List.length_set, Option.toList_some, Option.toList_none, qA, nat, Int.toNat_natCast, zV, zS, jy, jM, jc, jk, jR, jg, jl, je, jr, jO, jf, jj, jp, jK, ju, jq, Ts.fill, jS, jP, jh, jT, jo, jm, ji, ja, getAll, stepCall, jn, unI, Opd.get, jx, tag, jv, jb, jI, rv, bin, jW, Nat.reduceAdd, Nat.reduceSub, Nat.reduceMul, Nat.reduceDiv, Nat.reduceMod, Nat.reducePow, Nat.reduceLT, Nat.reduceLeDiff, Nat.reduceEqDiff, Nat.reduceBEq, Nat.reduceBNe, reduceIte, Int.reduceEq, Int.reduceLT, Int.reduceLE, Int.reduceNeg, Int.reduceToNat, Int.reduceMul, Int.reduceAdd, Int.reduceSub, reduceCtorEq]
 generalize hE : evw F (ICode.loop K8) _ = R
 obtain ⟨f1, σ', wr', rfl⟩ := jhk f (x0 := raw.take (min raw.length 200)) (x1 := b.take (c % b.length) ++ raw.take (min raw.length 200)) (by rw [List.length_take]; omega) (by rw [List.length_append, List.length_take, List.length_take]; omega) 2 0 _ _ _ R hE rfl (by (try simp only [upd_get, base_get, Nat.reduceAdd, Nat.reduceSub, Nat.reduceMul, Nat.reduceDiv, Nat.reduceMod, Nat.reducePow, Nat.reduceLT, Nat.reduceLeDiff, Nat.reduceEqDiff, Nat.reduceBEq, Nat.reduceBNe, reduceIte, Int.reduceEq, Int.reduceLT, Int.reduceLE, Int.reduceNeg, Int.reduceToNat, Int.reduceMul, Int.reduceAdd, Int.reduceSub, Int.cast_ofNat_Int, reduceCtorEq, Nat.zero_add, Nat.add_zero, Nat.mul_one]) <;> rfl) (by (try simp only [upd_get, base_get, Nat.reduceAdd, Nat.reduceSub, Nat.reduceMul, Nat.reduceDiv, Nat.reduceMod, Nat.reducePow, Nat.reduceLT, Nat.reduceLeDiff, Nat.reduceEqDiff, Nat.reduceBEq, Nat.reduceBNe, reduceIte, Int.reduceEq, Int.reduceLT, Int.reduceLE, Int.reduceNeg, Int.reduceToNat, Int.reduceMul, Int.reduceAdd, Int.reduceSub, Int.cast_ofNat_Int, reduceCtorEq, Nat.zero_add, Nat.add_zero, Nat.mul_one]) <;> rfl)
 simp only [zV, zS, jy, jM, jc, jk, jR, jg, jl, je, jr, jO, jf, jj, jp, jK, ju, jq, Ts.fill, jS, jP, jh, jT, jo, jm, ji, ja, getAll, stepCall, jn, unI, Opd.get, jx, tag, jv, jb, jI, rv, bin, jW, Nat.reduceAdd, Nat.reduceSub, Nat.reduceMul, Nat.reduceDiv, Nat.reduceMod, Nat.reducePow, Nat.reduceLT, Nat.reduceLeDiff, Nat.reduceEqDiff, Nat.reduceBEq, Nat.reduceBNe, reduceIte, Int.reduceEq, Int.reduceLT, Int.reduceLE, Int.reduceNeg, Int.reduceToNat, Int.reduceMul, Int.reduceAdd, Int.reduceSub, reduceCtorEq]
 split
 . exact ⟨_, _, rfl⟩
 . exact ⟨_, _, rfl⟩
end Go.Idl.Sb
namespace Go.Idl
open Go.RowKit (Below)
open Go.ChangeShapes
section
variable {P : Program} {w : World}
inductive Lf where
 | int (k : IntKind)
 | bool
 | sl (t : TypeId)
/-- The sort of a cell of a type. -/
def Kh (P : Program) : Nat -> TypeId -> Nat -> Option Lf
 | 0, _, _ => none
 | n + 1, t, j => match P.underlying t with
   | some .bool => if j = 0 then some .bool else none
   | some (.int k) => if j = 0 then some (.int k) else none
   | some (.slice _) => if j = 0 then some (.sl t) else none
   | some (.struct fs) => match fs.toList.find? (fun f => decide (f.offset <= j) && decide (j < f.offset + P.cellsOf f.type)) with
     | some f => Kh P n f.type (j - f.offset)
     | none => none
   | some (.array m e) => if j / P.cellsOf e < m then Kh P n e (j % P.cellsOf e) else none
   | _ => none
/-- What such a cell holds. -/
def jh2 {H : Type} (enc : TypeId × Value -> H) (P : Program) (w : World) (base : Nat) (held : Bool) : Lf -> Value -> Prop
 | .int k, c => ∃ n, c = .int k n /\ (Lit.int k n).wf = true
 | .bool, c => ∃ b, c = .bool b
 | .sl t, c => ∃ m y, DataW.trod enc P w base (fun _ => true) held m t [c] = some y
theorem jbs {cs : List Value} {o s i : Nat} {c : Value} (h : ((cs.drop o).take s)[i]? = some c) : i < s /\ cs[o + i]? = some c := by
 have hi : i < s := by
   rcases Nat.lt_or_ge i s with h1 | h1
   . exact h1
   . rw [List.getElem?_eq_none (by rw [List.length_take]; omega)] at h; cases h
 rw [List.getElem?_take_of_lt hi, List.getElem?_drop] at h
 exact ⟨hi, h⟩
theorem zW {H : Type} {enc : TypeId × Value -> H} {base : Nat} {held : Bool} : ∀ (m n : Nat) (t : TypeId) (cs : List Value) (x : DataW H × List MemPlace) (j : Nat) (lf : Lf),
   Kh P m t j = some lf -> DataW.trod enc P w base (fun _ => true) held n t cs = some x -> ∃ c, cs[j]? = some c /\ jh2 enc P w base held lf c := by
 intro m
 induction m with
 | zero => intro n t cs x j lf h _; cases h
 | succ m ih =>
   intro n t cs x j lf h hx
   rw [Kh] at h
   split at h
   . rename_i ht
     split at h
     . rename_i hj; subst hj
       obtain rfl := Option.some.inj h
       obtain ⟨b, rfl, _⟩ := DataW.trod_bool ht hx
       exact ⟨_, rfl, b, rfl⟩
     . cases h
   . rename_i k ht
     split at h
     . rename_i hj; subst hj
       obtain rfl := Option.some.inj h
       obtain ⟨z, rfl, _, hz⟩ := DataW.trod_int ht hx
       exact ⟨_, rfl, z, rfl, hz⟩
     . cases h
   . rename_i e ht
     split at h
     . rename_i hj; subst hj
       obtain rfl := Option.some.inj h
       rcases Go.Deep.open_slice ht hx with ⟨rfl, _⟩ | ⟨a, len, cap, m', n', D, Pl, rfl, _⟩
       . exact ⟨_, rfl, n, x, hx⟩
       . exact ⟨_, rfl, n, x, hx⟩
     . cases h
   . rename_i fs ht
     split at h
     . rename_i f hf
       obtain ⟨xs, n', _, _, _, hl, hd⟩ := DataW.trod_struct ht hx
       have hp := List.find?_some hf
       have hm := List.mem_of_find?_eq_some hf
       rw [Bool.and_eq_true, decide_eq_true_eq, decide_eq_true_eq] at hp
       obtain ⟨i, hi⟩ := List.getElem?_of_mem hm
       have hi2 : fs[i]? = some f := by simpa using hi
       have hlt : i < fs.size := by
         rcases Nat.lt_or_ge i fs.size with h1 | h1
         . exact h1
         . rw [Array.getElem?_eq_none h1] at hi2; cases hi2
       have := hd i f hi2
       rw [List.getElem?_eq_getElem (by omega)] at this
       obtain ⟨c, hc, hok⟩ := ih n' f.type _ _ (j - f.offset) lf h this
       obtain ⟨h1, h2⟩ := jbs hc
       have e : f.offset + (j - f.offset) = j := by omega
       rw [e] at h2
       exact ⟨c, h2, hok⟩
     . cases h
   . rename_i k e ht
     split at h
     . rename_i hj
       obtain ⟨xs, n', _, _, _, hl, hd⟩ := DataW.trod_array ht hx
       have := hd _ hj
       rw [List.getElem?_eq_getElem (by omega)] at this
       obtain ⟨c, hc, hok⟩ := ih n' e _ _ (j % P.cellsOf e) lf h this
       obtain ⟨h1, h2⟩ := jbs hc
       rw [Nat.div_add_mod'] at h2
       exact ⟨c, h2, hok⟩
     . cases h
   . cases h
theorem ZC {H : Type} {enc : TypeId × Value -> H} {base n : Nat} {held : Bool} {t : TypeId} {fs : Array Field} {cs : List Value} {x : DataW H × List MemPlace} (ht : P.underlying t = some (.struct fs)) (hx : DataW.trod enc P w base (fun _ => true) held n t cs = some x) : cs.length = P.cellsOf t := by
 obtain ⟨xs, n', _, _, h, _⟩ := DataW.trod_struct ht hx
 exact h
end
end Go.Idl
namespace Go.Idl.Sb
open Go Go.Idl Go.Idl.En
section
variable [Globs] {P : Program} {w : World}
def i8 : Lf := .int .i64
def i4 : Lf := .int .i32
def b1 : Lf := .int .u8
def h2 : Lf := .int .u16
def q8 : Lf := .int .u64
/-- A state's cells: their sorts. -/
def stL (tw tr : TypeId) : List Lf := [i8, i8, i8, i8, i4, i4, i4, i4, i4, i4, i4, i4, i4, .sl tw, .sl tw, i8, .sl tr, b1, b1, b1, i8, b1, b1, b1, b1, b1, b1, b1, b1, i8, b1, b1, b1, b1, b1, b1, b1, b1, .bool, b1, b1, h2, h2, h2, h2, h2, h2, b1, b1, b1, q8, q8, i8, i8, i8]
def lfB : K -> Lf -> Bool
 | .pl, .int .i64 => true
 | .wd, .int .i32 => true
 | .byt, .int .u8 => true
 | .tr, .bool => true
 | .hf, .int .u16 => true
 | .nm, .int .u64 => true
 | _, _ => false
theorem jgM (tw tr : TypeId) : ∀ q ∈ lAll, ∃ l, (stL tw tr)[q.2]? = some l /\ lfB q.1 l = true := by
 intro q hq
 have h : ∀ q ∈ lAll, (match (stL 0 0)[q.2]? with | some l => lfB q.1 l | none => false) = true := by decide +kernel
 have e : (stL tw tr)[q.2]? = (stL 0 0)[q.2]? := by
   have n13 : q.2 ≠ 13 := (by decide : ∀ q ∈ lAll, q.2 ≠ 13) q hq
   have n14 : q.2 ≠ 14 := (by decide : ∀ q ∈ lAll, q.2 ≠ 14) q hq
   have n16 : q.2 ≠ 16 := (by decide : ∀ q ∈ lAll, q.2 ≠ 16) q hq
   have hl : stL tw tr = (((stL 0 0).set 13 (.sl tw)).set 14 (.sl tw)).set 16 (.sl tr) := rfl
   rw [hl, List.getElem?_set_ne (Ne.symm n16), List.getElem?_set_ne (Ne.symm n14), List.getElem?_set_ne (Ne.symm n13)]
 have := h q hq
 rw [e]
 cases hc : (stL 0 0)[q.2]? with
 | none => rw [hc] at this; cases this
 | some l => rw [hc] at this; exact ⟨l, rfl, this⟩
/-- A list's cell that reads so. -/
def YS {α : Type} (toI : α -> IVal) (Qp : α -> Prop) (x : IVal) : Prop := ∃ r zs, x = .sl 0 r (zs.map toI) /\ (r = true -> zs = []) /\ ∀ z ∈ zs, Qp z
/-- What a cell reads as. -/
def jc8 (tw tr : TypeId) : Lf -> IVal -> Prop
 | .int k, x => ∃ n, x = .int k n /\ (Lit.int k n).wf = true
 | .bool, x => ∃ b, x = .bool b
 | .sl t, x => (t = tw -> YS J w3i x) /\ (t = tr -> YS Ra r64 x)
theorem Q7 {k : IntKind} {n : Int} (h : (Lit.int k n).wf = true) : k.min <= n /\ n <= k.max := by
 simpa [Lit.wf] using h
theorem jhj {tw tr : TypeId} {k : K} {l : Lf} {x : IVal} (h : lfB k l = true) (hc : jc8 tw tr l x) : k.ty x := by
 unfold lfB at h
 split at h
 . obtain ⟨n, rfl, hn⟩ := hc
   have := Q7 hn; simp [IntKind.min, IntKind.max, IntKind.signed, IntKind.bits] at this
   exact ⟨n, rfl, by unfold i64; omega⟩
 . obtain ⟨n, rfl, hn⟩ := hc
   have := Q7 hn; simp [IntKind.min, IntKind.max, IntKind.signed, IntKind.bits] at this
   exact ⟨n, rfl, by omega, by omega⟩
 . obtain ⟨n, rfl, hn⟩ := hc
   have := Q7 hn; simp [IntKind.min, IntKind.max, IntKind.signed, IntKind.bits] at this
   exact ⟨n.toNat, by congr 1; omega, by omega⟩
 . obtain ⟨b, rfl⟩ := hc
   exact ⟨b, rfl⟩
 . obtain ⟨n, rfl, hn⟩ := hc
   have := Q7 hn; simp [IntKind.min, IntKind.max, IntKind.signed, IntKind.bits] at this
   exact ⟨n.toNat, by congr 1; omega, by omega⟩
 . obtain ⟨n, rfl, hn⟩ := hc
   have := Q7 hn; simp [IntKind.min, IntKind.max, IntKind.signed, IntKind.bits] at this
   exact ⟨n.toNat, by congr 1; omega, by omega⟩
 . cases h
def mkV : List Value -> Value
 | [c] => c
 | cs => .agg cs.toArray
instance : Inhabited (Int × Int × Bool) := ⟨(0, 0, false)⟩
theorem at3 {f : Nat -> Option Lf} {l : List (Option Lf)} (j : Nat) (hj : j < 3) (h : (List.range 3).map f = l) {x : Option Lf} (hx : l[j]? = some x := by rfl) : f j = x := by
 have e := congrArg (fun l => l[j]?) h
 simp only [List.getElem?_map, List.getElem?_range hj, Option.map_some] at e
 rw [hx] at e
 exact Option.some.inj e
/-- The cells of a state that reads so. -/
theorem X8 {H : Type} {enc : TypeId × Value -> H} {base n ts tw te tr ti : Nat} {held : Bool} {cs : List Value} {x : DataW H × List MemPlace}
   (hL : (List.range 55).map (Kh P 6 ts) = (stL tw tr).map some) (hw : P.underlying tw = some (.slice te)) (he : P.underlying te = some (.int .i32)) (hte : P.cellsOf te = 1) (hr : P.underlying tr = some (.slice ti)) (hti : P.cellsOf ti = 3)
   (hi : (List.range 3).map (Kh P 6 ti) = [some i8, some i8, some .bool]) (hlen : ∀ n cs (y : DataW H × List MemPlace), DataW.trod enc P w base (fun _ => true) held n ti cs = some y -> cs.length = 3) (hne : tw ≠ tr) (hcs : cs.length = 55)
   (h : DataW.trod enc P w base (fun _ => true) held n ts cs = some x) :
   ∃ xs : List IVal, xs.length = 55 /\ V (Qn P w) (.agg xs) (.agg cs.toArray) /\ vA (.agg xs) /\ xs.all IVal.isCell = true /\ xs.all nr1 = true /\ Ty lAll xs /\
     (∃ v, xs[13]? = some v /\ YS J w3i v) /\ (∃ v, xs[14]? = some v /\ YS J w3i v) /\ (∃ v, xs[16]? = some v /\ YS Ra r64 v) := by
 have hst : (stL tw tr).length = 55 := rfl
 have words : ∀ m (c : Value) (y : DataW H × List MemPlace), DataW.trod enc P w base (fun _ => true) held m tw [c] = some y -> ∃ x, V (Qn P w) x c /\ un1 x = x /\ x.isCell = true /\ nr1 x = true /\ YS J w3i x := by
   intro m c y hy
   obtain ⟨v, r, zs, hv, hQ, _, hV, _, hF, hN⟩ := KG (α := Int) (Q := w3i) (toI := J) (mk := mkV) (esz := 1) hw hte (by decide) (fun n cs y h => by
     obtain ⟨z, rfl, hz⟩ := V9 he h
     have := Q7 hz; simp [IntKind.min, IntKind.max, IntKind.signed, IntKind.bits] at this
     exact ⟨z, ⟨by omega, by omega⟩, .int _ _, ⟨rfl, rfl⟩, rfl, rfl, rfl⟩) hy
   obtain rfl : c = v := by simpa using hv
   refine ⟨_, hV, rfl, rfl, hN, r, zs, rfl, ?_, hQ⟩
   intro hr
   rw [hr, nr2_sl] at hN
   have : (zs.map J).isEmpty = true := by simpa using hN
   simpa using this
 have hands : ∀ m (c : Value) (y : DataW H × List MemPlace), DataW.trod enc P w base (fun _ => true) held m tr [c] = some y -> ∃ x, V (Qn P w) x c /\ un1 x = x /\ x.isCell = true /\ nr1 x = true /\ YS Ra r64 x := by
   intro m c y hy
   obtain ⟨v, r, zs, hv, hQ, _, hV, _, hF, hN⟩ := KG (α := Int × Int × Bool) (Q := r64) (toI := Ra) (mk := fun cs => .agg cs.toArray) (esz := 3) hr hti (by decide) (fun n cs y h => by
     have hl := hlen n cs y h
     have h0 := zW 6 n ti cs y 0 i8 (at3 0 (by decide) hi) h
     have h1 := zW 6 n ti cs y 1 i8 (at3 1 (by decide) hi) h
     have h2 := zW 6 n ti cs y 2 .bool (at3 2 (by decide) hi) h
     match cs, hl with
     | [a, b, c], _ =>
       obtain ⟨a', e0, z0, rfl, g0⟩ := h0
       obtain ⟨b', e1, z1, rfl, g1⟩ := h1
       obtain ⟨c', e2, z2, rfl⟩ := h2
       obtain rfl := Option.some.inj e0
       obtain rfl := Option.some.inj e1
       obtain rfl := Option.some.inj e2
       have k0 := Q7 g0; simp [IntKind.min, IntKind.max, IntKind.signed, IntKind.bits] at k0
       have k1 := Q7 g1; simp [IntKind.min, IntKind.max, IntKind.signed, IntKind.bits] at k1
       refine ⟨(z0, z1, z2), ⟨⟨by show _ <= z0; omega, by show z0 < _; omega⟩, ⟨by show _ <= z1; omega, by show z1 < _; omega⟩⟩, ?_, ⟨rfl, rfl⟩, rfl, rfl, rfl⟩
       refine .agg _ _ rfl (fun i x v hx hv => ?_) (fun x hx => ?_)
       . match i with
         | 0 => simp at hx hv; subst hx hv; exact .int _ _
         | 1 => simp at hx hv; subst hx hv; exact .int _ _
         | 2 => simp at hx hv; subst hx hv; exact .bool _
         | i + 3 => simp at hx
       . simp only [List.mem_cons, List.not_mem_nil, or_false] at hx
         rcases hx with rfl | rfl | rfl <;> rfl) hy
   obtain rfl : c = v := by simpa using hv
   refine ⟨_, hV, rfl, rfl, hN, r, zs, rfl, ?_, hQ⟩
   intro hr
   rw [hr, nr2_sl] at hN
   have : (zs.map Ra).isEmpty = true := by simpa using hN
   simpa using this
 have cell : ∀ j, j < 55 -> ∃ x : IVal, (∃ c l, cs[j]? = some c /\ (stL tw tr)[j]? = some l /\ V (Qn P w) x c /\ un1 x = x /\ x.isCell = true /\ nr1 x = true /\ jc8 tw tr l x) := by
   intro j hj
   have e := congrArg (fun l => l[j]?) hL
   simp only [List.getElem?_map, List.getElem?_range hj, Option.map_some] at e
   obtain ⟨l, hl⟩ : ∃ l, (stL tw tr)[j]? = some l := ⟨_, List.getElem?_eq_getElem (by rw [hst]; exact hj)⟩
   rw [hl] at e
   have e : Kh P 6 ts j = some l := Option.some.inj e
   obtain ⟨c, hc, ok⟩ := zW 6 n ts cs x j l e h
   cases l with
   | int k =>
     obtain ⟨z, rfl, hz⟩ := ok
     exact ⟨.int k z, _, _, hc, hl, .int _ _, rfl, rfl, rfl, z, rfl, hz⟩
   | bool =>
     obtain ⟨b, rfl⟩ := ok
     exact ⟨.bool b, _, _, hc, hl, .bool _, rfl, rfl, rfl, b, rfl⟩
   | sl t =>
     obtain ⟨m, y, hy⟩ := ok
     have ht : t = tw \/ t = tr := by
       have hm := List.mem_of_getElem? hl
       simp [stL, i8, i4, b1, h2, q8] at hm
       exact hm
     rcases ht with rfl | rfl
     . obtain ⟨x, a1, a2, a3, a4, a5⟩ := words m c y hy
       exact ⟨x, _, _, hc, hl, a1, a2, a3, a4, fun _ => a5, fun e => absurd e hne⟩
     . obtain ⟨x, a1, a2, a3, a4, a5⟩ := hands m c y hy
       exact ⟨x, _, _, hc, hl, a1, a2, a3, a4, fun e => absurd e.symm hne, fun _ => a5⟩
 obtain ⟨X, hX⟩ := Go.Deep.choose_lt cell
 have at_ : ∀ j, j < 55 -> ((List.range 55).map X)[j]? = some (X j) := fun j hj => by rw [List.getElem?_map, List.getElem?_range hj]; rfl
 have mem : ∀ v ∈ (List.range 55).map X, ∃ j, j < 55 /\ v = X j := fun v hv => by
   obtain ⟨j, hj, rfl⟩ := List.mem_map.1 hv
   exact ⟨j, List.mem_range.1 hj, rfl⟩
 refine ⟨(List.range 55).map X, by simp, ?_, ⟨?_, rfl⟩, ?_, ?_, ?_, ?_, ?_, ?_⟩
 . refine .agg _ _ (by simp [hcs]) (fun i x v hx hv => ?_) (fun x hx => ?_)
   . have hi : i < 55 := by
       rcases Nat.lt_or_ge i 55 with h | h
       . exact h
       . rw [List.getElem?_eq_none (by simpa using h)] at hx; cases hx
     rw [at_ i hi] at hx
     obtain rfl := Option.some.inj hx
     obtain ⟨c, l, h1, _, h2, _⟩ := hX i hi
     have hv : cs[i]? = some v := by simpa using hv
     rw [h1] at hv
     obtain rfl := Option.some.inj hv
     exact h2
   . obtain ⟨j, hj, rfl⟩ := mem x hx
     obtain ⟨c, l, _, _, _, _, h3, _⟩ := hX j hj
     exact h3
 . rw [un2_agg]
   congr 1
   conv => rhs; rw [<- List.map_id ((List.range 55).map X)]
   refine List.map_congr_left fun v hv => ?_
   obtain ⟨j, hj, rfl⟩ := mem v hv
   obtain ⟨c, l, _, _, _, h3, _⟩ := hX j hj
   exact h3
 . rw [List.all_eq_true]
   intro v hv
   obtain ⟨j, hj, rfl⟩ := mem v hv
   obtain ⟨c, l, _, _, _, _, h3, _⟩ := hX j hj
   exact h3
 . rw [List.all_eq_true]
   intro v hv
   obtain ⟨j, hj, rfl⟩ := mem v hv
   obtain ⟨c, l, _, _, _, _, _, h3, _⟩ := hX j hj
   exact h3
 . intro q hq
   have hq55 : q.2 < 55 := (by decide : ∀ q ∈ lAll, q.2 < 55) q hq
   obtain ⟨c, l, _, hl, _, _, _, _, hok⟩ := hX q.2 hq55
   obtain ⟨l', hl', hb⟩ := jgM tw tr q hq
   rw [hl] at hl'
   obtain rfl := Option.some.inj hl'
   exact ⟨_, at_ _ hq55, jhj hb hok⟩
 . obtain ⟨c, l, _, hl, _, _, _, _, hok⟩ := hX 13 (by decide)
   obtain rfl : Lf.sl tw = l := Option.some.inj hl
   exact ⟨_, at_ 13 (by decide), hok.1 rfl⟩
 . obtain ⟨c, l, _, hl, _, _, _, _, hok⟩ := hX 14 (by decide)
   obtain rfl : Lf.sl tw = l := Option.some.inj hl
   exact ⟨_, at_ 14 (by decide), hok.1 rfl⟩
 . obtain ⟨c, l, _, hl, _, _, _, _, hok⟩ := hX 16 (by decide)
   obtain rfl : Lf.sl tr = l := Option.some.inj hl
   exact ⟨_, at_ 16 (by decide), hok.2 rfl⟩
end
end Go.Idl.Sb
