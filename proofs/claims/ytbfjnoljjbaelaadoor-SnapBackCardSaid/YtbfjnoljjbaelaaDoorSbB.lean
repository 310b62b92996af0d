/- SnapBack: what the ideal machine makes of its functions, part B; no conditions. -/
import Derived.Test.YtbfjnoljjbaelaaDoorSbA
set_option linter.unusedSectionVars false
set_option linter.unusedVariables false
set_option linter.unusedSimpArgs false
namespace Go.Idl.Sb
open Go Go.Idl Go.Idl.En
variable {F : jJ}
/-- A way: its data. -/
structure WayD where
 W : Type
 ob : W -> IObj
 x : Nat
 ty : Nat
 rv : IVal
 f73 : Nat
 f74 : Nat
 f75 : Nat
 f76 : Nat
 ok : W -> Nat -> Prop
 whole : W -> Int -> Int -> Int -> W × Int
 number : W -> Nat -> Nat -> W × Nat
 truth : W -> Bool -> W × Bool
 byte : W -> Nat -> W × Nat
/-- What a cell of the state is. -/
inductive K where
 | pl
 | wd
 | byt
 | tr
 | hf
 | nm
 deriving DecidableEq
def far : Int := 1152921504606846976
def K.ty : K -> IVal -> Prop
 | .pl, v => ∃ n, v = I n /\ i64 n
 | .wd, v => ∃ n, v = J n /\ -2147483648 <= n /\ n <= 2147483647
 | .byt, v => ∃ n : Nat, v = B n /\ n < 256
 | .tr, v => ∃ b, v = .bool b
 | .hf, v => ∃ n : Nat, v = .int .u16 n /\ n < 65536
 | .nm, v => ∃ n : Nat, v = Q n /\ n < 18446744073709551616
def kg (D : WayD) (k : K) (w : D.W) (v : IVal) : D.W × IVal :=
 match k, v with
 | .pl, .int _ n => let r := D.whole w n (-1152921504606846976) 1152921504606846976; (r.1, I r.2)
 | .wd, .int _ n => let r := D.whole w n (-2147483648) 2147483647; (r.1, J (IntKind.i32.wrap r.2))
 | .byt, .int _ n => let r := D.byte w n.toNat; (r.1, B r.2)
 | .tr, .bool b => let r := D.truth w b; (r.1, .bool r.2)
 | .hf, .int _ n => let r := D.number w n.toNat 65535; (r.1, .int .u16 (IntKind.u16.wrap r.2))
 | .nm, .int _ n => let r := D.number w n.toNat 1152921504606846975; (r.1, Q r.2)
 | _, _ => (w, v)
def kH (cs : List IVal) (o : Nat) : IVal := match cs[o]? with | some v => v | none => jl
def jB (D : WayD) : List (K × Nat) -> D.W -> List IVal -> D.W × List IVal
 | [], w, cs => (w, cs)
 | (k, o) :: l, w, cs => let r := kg D k w (kH cs o); jB D l r.1 (cs.set o r.2)
/-- The cells are of those sorts. -/
def Ty (l : List (K × Nat)) (cs : List IVal) : Prop := ∀ q ∈ l, ∃ v, cs[q.2]? = some v /\ q.1.ty v
abbrev Fl (wr : List (Nat × Bool)) : Prop := wr.all (fun q => !q.2) = true
/-- A way: what its methods do. -/
structure Way (F : jJ) (D : WayD) : Prop where
 t73 : [(69, 73, RecvK.same), (78, 83, .same)].find? (fun p => p.1 == D.ty) = some (D.ty, D.f73, .same)
 t74 : [(69, 74, RecvK.same), (78, 84, .same)].find? (fun p => p.1 == D.ty) = some (D.ty, D.f74, .same)
 t75 : [(69, 75, RecvK.same), (78, 85, .same)].find? (fun p => p.1 == D.ty) = some (D.ty, D.f75, .same)
 t76 : [(69, 76, RecvK.same), (78, 86, .same)].find? (fun p => p.1 == D.ty) = some (D.ty, D.f76, .same)
 nil : ∀ n, XC [69, 78] n (.fn (.method n) [.iface D.ty D.rv] []) = some (.fn (.method n) [.iface D.ty D.rv] [])
 whole : ∀ {σ : List IObj} {p o : Nat} {cs : List IVal} {n lo hi : Int} {w : D.W} {k : Nat}, σ[D.x]? = some (D.ob w) -> σ[p]? = some (.cells cs) -> cs[o]? = some (I n) -> i64 n -> D.ok w (k + 1) -> p ≠ D.x ->
   ∃ wr, cfw F (.f D.f76) [D.rv, .ptr p o, I lo, I hi] σ = some ⟨false, .tup [], (σ.set D.x (D.ob (D.whole w n lo hi).1)).set p (.cells (cs.set o (I (D.whole w n lo hi).2))), wr⟩ /\ Fl wr
 number : ∀ {σ : List IObj} {p o : Nat} {cs : List IVal} {n most : Nat} {w : D.W} {k : Nat}, σ[D.x]? = some (D.ob w) -> σ[p]? = some (.cells cs) -> cs[o]? = some (Q n) -> D.ok w (k + 1) -> p ≠ D.x ->
   ∃ wr, cfw F (.f D.f74) [D.rv, .ptr p o, Q most] σ = some ⟨false, .tup [], (σ.set D.x (D.ob (D.number w n most).1)).set p (.cells (cs.set o (Q (D.number w n most).2))), wr⟩ /\ Fl wr
 truth : ∀ {σ : List IObj} {p o : Nat} {cs : List IVal} {b : Bool} {w : D.W} {k : Nat}, σ[D.x]? = some (D.ob w) -> σ[p]? = some (.cells cs) -> cs[o]? = some (.bool b) -> D.ok w (k + 1) -> p ≠ D.x ->
   ∃ wr, cfw F (.f D.f75) [D.rv, .ptr p o] σ = some ⟨false, .tup [], (σ.set D.x (D.ob (D.truth w b).1)).set p (.cells (cs.set o (.bool (D.truth w b).2))), wr⟩ /\ Fl wr
 bytes : ∀ {σ : List IObj} {p e : Nat} {cs : List IVal} {os : List Nat} {w : D.W} {k : Nat}, σ[D.x]? = some (D.ob w) -> σ[p]? = some (.cells cs) -> Ty (os.map fun o => (.byt, o)) cs -> os.length < 1000 -> D.ok w (k + os.length) -> p ≠ D.x ->
   ∃ wr, cfw F (.f D.f73) [D.rv, .sl e true (Ps p os)] σ = some ⟨false, .tup [], (σ.set D.x (D.ob (jB D (os.map fun o => (.byt, o)) w cs).1)).set p (.cells (jB D (os.map fun o => (.byt, o)) w cs).2), wr⟩ /\ Fl wr
 ok_whole : ∀ {w k n lo hi}, D.ok w (k + 1) -> D.ok (D.whole w n lo hi).1 k
 ok_number : ∀ {w k n most}, D.ok w (k + 1) -> D.ok (D.number w n most).1 k
 ok_truth : ∀ {w k b}, D.ok w (k + 1) -> D.ok (D.truth w b).1 k
 ok_byte : ∀ {w k n}, D.ok w (k + 1) -> D.ok (D.byte w n).1 k
 ok_mono : ∀ {w k}, D.ok w (k + 1) -> D.ok w k
 i_whole : ∀ {w n lo hi}, i64 n -> i64 (D.whole w n lo hi).2
 n_number : ∀ {w n most}, n < 18446744073709551616 -> (D.number w n most).2 < 18446744073709551616
 b_byte : ∀ {w n}, n < 256 -> (D.byte w n).2 < 256
variable {D : WayD}
theorem jbB {n : Int} (h : -2147483648 <= n) (h2 : n <= 2147483647) : IntKind.i32.wrap n = n := by
 simp only [IntKind.wrap, IntKind.bits, IntKind.signed]; simp; omega
theorem KK (n : Int) : -2147483648 <= IntKind.i32.wrap n /\ IntKind.i32.wrap n <= 2147483647 := by
 simp only [IntKind.wrap, IntKind.bits, IntKind.signed]; simp; omega
theorem Xb (n : Int) : IntKind.u16.wrap n = n % 65536 := by
 simp only [IntKind.wrap, IntKind.bits, IntKind.signed]; simp
/-- A cell keeps its sort. -/
theorem zd (hw : Way F D) {k : K} {w : D.W} {v : IVal} (h : k.ty v) : k.ty (kg D k w v).2 := by
 cases k with
 | pl => obtain ⟨n, rfl, hn⟩ := h; exact ⟨_, rfl, hw.i_whole hn⟩
 | wd => obtain ⟨n, rfl, hn⟩ := h; exact ⟨_, rfl, KK _⟩
 | byt => obtain ⟨n, rfl, hn⟩ := h; exact ⟨_, rfl, hw.b_byte hn⟩
 | tr => obtain ⟨b, rfl⟩ := h; exact ⟨_, rfl⟩
 | hf =>
   obtain ⟨n, rfl, hn⟩ := h
   refine ⟨(D.number w n 65535).2 % 65536, ?_, by omega⟩
   show IVal.int .u16 (IntKind.u16.wrap ((D.number w n 65535).2 : Int)) = _
   rw [Xb]; rfl
 | nm => obtain ⟨n, rfl, hn⟩ := h; exact ⟨_, rfl, hw.n_number hn⟩
theorem Je (hw : Way F D) {k : K} {w : D.W} {v : IVal} {j : Nat} (h : k.ty v) (ho : D.ok w (j + 1)) : D.ok (kg D k w v).1 j := by
 cases k with
 | pl => obtain ⟨n, rfl, hn⟩ := h; exact hw.ok_whole ho
 | wd => obtain ⟨n, rfl, hn⟩ := h; exact hw.ok_whole ho
 | byt => obtain ⟨n, rfl, hn⟩ := h; exact hw.ok_byte ho
 | tr => obtain ⟨b, rfl⟩ := h; exact hw.ok_truth ho
 | hf => obtain ⟨n, rfl, hn⟩ := h; exact hw.ok_number ho
 | nm => obtain ⟨n, rfl, hn⟩ := h; exact hw.ok_number ho
/-- The cells keep their sorts, where each is asked as one sort alone. -/
theorem vB {l : List (K × Nat)} {cs : List IVal} {k : K} {o : Nat} {v : IVal} (h : Ty l cs) (hv : k.ty v) (hd : ∀ q ∈ l, q.2 = o -> q.1 = k) : Ty l (cs.set o v) := by
 intro q hq
 obtain ⟨u, hu, hk⟩ := h q hq
 by_cases e : q.2 = o
 . have := hd q hq e
   refine ⟨v, ?_, by rw [this]; exact hv⟩
   rw [e]
   rw [e] at hu
   have := kU hu
   rw [List.getElem?_set_self (by omega)]
 . exact ⟨u, by rw [List.getElem?_set_ne (fun h => e h.symm)]; exact hu, hk⟩
theorem jF {cs : List IVal} {o : Nat} {v : IVal} (h : cs[o]? = some v) : kH cs o = v := by rw [kH, h]
theorem yG {n : Nat} {wr : List (Nat × Bool)} (h : Fl wr) : wr.all (fun p => !p.2 || decide (n <= p.1)) = true := by
 rw [Fl, List.all_eq_true] at h
 rw [List.all_eq_true]
 intro q hq; have := h q hq; simp at this; simp [this]
theorem qU {f : Nat × Bool -> Bool} {wr : List (Nat × Bool)} (h : Fl wr) : Fl (wr.filter f) := by
 rw [Fl, List.all_eq_true] at h ⊢
 intro q hq; exact h q (List.mem_filter.mp hq).1
theorem qD {σ : List IObj} {x p : Nat} {a b : IObj} {l : List IObj} : (((σ.set x a).set p b) ++ l).take σ.length = (σ.set x a).set p b := by
 have : ((σ.set x a).set p b).length = σ.length := by simp
 rw [<- this, take_app]
/-- A word. -/
theorem YR (h34 : F 34 = some QB) (hw : Way F D) {p o k : Nat} {cs : List IVal} {σ : List IObj} {w : D.W} {v : IVal} (hx : σ[D.x]? = some (D.ob w)) (hp : σ[p]? = some (.cells cs)) (ho : cs[o]? = some v) (hv : K.wd.ty v) (hk : D.ok w (k + 1)) (hne : p ≠ D.x) :
   ∃ wr, cfw F (.f 34) [.iface D.ty D.rv, .ptr p o] σ = some ⟨false, .tup [], (σ.set D.x (D.ob (kg D .wd w v).1)).set p (.cells (cs.set o (kg D .wd w v).2)), wr⟩ /\ Fl wr := by
 rw [jQ QB h34, jq]
 obtain ⟨n, rfl, h1, h2⟩ := hv
 have l0 := jd hx
 have lp := jd hp
 have w1 : IntKind.i64.wrap n = n := qW (by omega) (by omega)
 have g0 : (σ ++ [IObj.cells [I n]])[D.x]? = some (D.ob w) := jL hx _
 obtain ⟨wr1, u0, hw1⟩ := hw.whole (σ := σ ++ [.cells [I n]]) (p := σ.length) (o := 0) (cs := [I n]) (lo := -2147483648) (hi := 2147483647) g0 get_app0 rfl ⟨by omega, by omega⟩ hk (by omega)
 rw [kC l0] at u0
 have sl : (σ.set D.x (D.ob (D.whole w n (-2147483648) 2147483647).1)).length = σ.length := by simp
 have u1 : ∀ o : IObj, ((σ.set D.x (D.ob (D.whole w n (-2147483648) 2147483647).1)) ++ [IObj.cells [I n]]).set σ.length o = (σ.set D.x (D.ob (D.whole w n (-2147483648) 2147483647).1)) ++ [o] := fun o => by
   have := set_app0 (σ := σ.set D.x (D.ob (D.whole w n (-2147483648) 2147483647).1)) (l := [IObj.cells [I n]]) o
   rw [sl] at this; exact this
 rw [u1] at u0
 have u0 : cfw F (.f D.f76) [D.rv, .ptr σ.length 0, I (-2147483648), I 2147483647] (σ ++ [.cells [I n]]) = some ⟨false, .tup [], (σ.set D.x (D.ob (D.whole w n (-2147483648) 2147483647).1)) ++ [.cells [I (D.whole w n (-2147483648) 2147483647).2]], wr1⟩ := u0
 generalize hr : D.whole w n (-2147483648) 2147483647 = r at *
 have g2 : (σ.set D.x (D.ob r.1) ++ [IObj.cells [I r.2]])[σ.length]? = some (.cells [I r.2]) := by
   have := get_app0 (σ := σ.set D.x (D.ob r.1)) (l := [IObj.cells [I r.2]])
   rw [sl] at this; exact this
 have g3 : (σ.set D.x (D.ob r.1) ++ [IObj.cells [I r.2]])[p]? = some (.cells cs) := jL (get_set hp (Ne.symm hne)) _
 have s3 : ∀ o : IObj, ((σ.set D.x (D.ob r.1)) ++ [IObj.cells [I r.2]]).set p o = ((σ.set D.x (D.ob r.1)).set p o) ++ [IObj.cells [I r.2]] := fun o => kC (by simpa using lp)
 have t76 := hw.t76
 have o1 := kU ho
 have e1 : kg D .wd w (J n) = (r.1, J (IntKind.i32.wrap r.2)) := by rw [<- hr]; rfl
 rw [e1]
 have hlt : σ.length ≠ p := by omega
 simp only [QB, jG, hp, ho, w1, t76, u0, g2, g3, s3, o1, zk, jL hp, zV, zS, jy, jM, jc, jk, jR, jg, jl, je, jr, jO, jf, jj, jp, jK, ju, jq, Ts.fill, jS, jP, jh, jT, jo, jm, ji, ja, getAll, stepCall, jn, unI, Opd.get, jx, tag, jv, jb, jI, rv, bin, jW, Nat.reduceAdd, Nat.reduceSub, Nat.reduceMul, Nat.reduceDiv, Nat.reduceMod, Nat.reducePow, Nat.reduceLT, Nat.reduceLeDiff, Nat.reduceEqDiff, Nat.reduceBEq, Nat.reduceBNe, reduceIte, Int.reduceEq, Int.reduceLT, Int.reduceLE, Int.reduceNeg, Int.reduceToNat, Int.reduceMul, Int.reduceAdd, Int.reduceSub, reduceCtorEq]
 have f1 : Fl (wr1 ++ [(σ.length, false)]) := by rw [Fl, List.all_append, hw1]; rfl
 rw [if_pos (yG f1), qD, decide_eq_true lp, if_pos rfl]
 exact ⟨_, rfl, by rw [Fl, List.all_cons, qU f1]; rfl⟩
theorem jg3 {σ : List IObj} {x p : Nat} {a b : IObj} {l : List IObj} (hx : x < σ.length) (hp : p < σ.length) : ((σ ++ l).set x a).set p b = (σ.set x a).set p b ++ l := by
 rw [kC hx, kC (by simpa using hp)]
/-- Places: so many cells, one behind the other. -/
theorem jgg (hw : Way F D) {p e : Nat} {σ : List IObj} (hx : D.x < σ.length) (hp : p < σ.length) (hne : p ≠ D.x) {os : List Nat} (hlen : os.length < 1000) : ∀ (d i k : Nat) (f0 : Nat -> Option (Nat × IVal)) (w : D.W) (cs : List IVal) (l : List IObj) (wr : List (Nat × Bool)) (R : Option (IExit × St)),
   evw F (.loop J8) ⟨E 10 3 4 [] (base f0), (σ.set D.x (D.ob w)).set p (.cells cs) ++ l, wr⟩ = R -> i + d = os.length -> Ty (os.map fun o => (.pl, o)) cs -> D.ok w (k + d) -> Fl wr ->
   f0 0 = some (0, .iface D.ty D.rv) -> f0 7 = some (7, .sl e true (Ps p os)) -> f0 8 = some (8, I os.length) -> f0 9 = some (9, I i) ->
   ∃ f1 l' wr', R = some (.exit 0, ⟨E 10 3 4 [] (base f1), (σ.set D.x (D.ob (jB D ((os.drop i).map fun o => (.pl, o)) w cs).1)).set p (.cells (jB D ((os.drop i).map fun o => (.pl, o)) w cs).2) ++ l', wr'⟩) /\ Fl wr' := by
 intro d
 induction d with
 | zero =>
   intro i k f0 w cs l wr R hE hi hT hk hf e0 e7 e8 e9
   have l0 : decide ((i : Int) < (os.length : Int)) = false := decide_eq_false (by omega)
   rw [jH] at hE
   subst hE
   simp only [J8, e0, e7, e8, e9, l0, zV, zS, jy, jM, jc, jk, jR, jg, jl, je, jr, jO, jf, jj, jp, jK, ju, jq, Ts.fill, jS, jP, jh, jT, jo, jm, ji, ja, getAll, stepCall, jn, unI, Opd.get, jx, tag, jv, jb, jI, rv, bin, jW, Nat.reduceAdd, Nat.reduceSub, Nat.reduceMul, Nat.reduceDiv, Nat.reduceMod, Nat.reducePow, Nat.reduceLT, Nat.reduceLeDiff, Nat.reduceEqDiff, Nat.reduceBEq, Nat.reduceBNe, reduceIte, Int.reduceEq, Int.reduceLT, Int.reduceLE, Int.reduceNeg, Int.reduceToNat, Int.reduceMul, Int.reduceAdd, Int.reduceSub, reduceCtorEq]
   rw [List.drop_of_length_le (by omega)]
   exact ⟨_, l, _, rfl, hf⟩
 | succ d ih =>
   intro i k f0 w cs l wr R hE hi hT hk hf e0 e7 e8 e9
   have l0 : decide ((i : Int) < (os.length : Int)) = true := decide_eq_true (by omega)
   have hi2 : i < os.length := by omega
   have g1 : os[i]? = some os[i] := List.getElem?_eq_getElem hi2
   have d1 : (0 : Int) <= (i : Int) := by omega
   have w1 := yz (n := i) (by omega)
   obtain ⟨v, ho, n, rfl, hn⟩ := hT (.pl, os[i]) (List.mem_map.mpr ⟨_, List.getElem_mem hi2, rfl⟩)
   simp only [] at ho
   have o1 := kU ho
   generalize hσ : (σ.set D.x (D.ob w)).set p (.cells cs) ++ l = σ1 at *
   have lσ : σ1.length = σ.length + l.length := by rw [<- hσ]; simp
   have y0 : ((σ.set D.x (D.ob w)).set p (.cells cs))[D.x]? = some (D.ob w) := (Xr hx hp hne).1
   have y1 : ((σ.set D.x (D.ob w)).set p (.cells cs))[p]? = some (.cells cs) := (Xr hx hp hne).2
   have y2 : σ1[D.x]? = some (D.ob w) := by rw [<- hσ]; exact jL y0 _
   have y3 : σ1[p]? = some (.cells cs) := by rw [<- hσ]; exact jL y1 _
   obtain ⟨wr1, u0, hw1⟩ := hw.whole (σ := σ1 ++ [.cells [I n]]) (p := σ1.length) (o := 0) (cs := [I n]) (lo := -1152921504606846976) (hi := 1152921504606846976) (k := k + d) (jL y2 _) get_app0 rfl hn hk (by have := hne; omega)
   generalize hr : D.whole w n (-1152921504606846976) 1152921504606846976 = r at *
   have u1 : ((σ1 ++ [IObj.cells [I n]]).set D.x (D.ob r.1)).set σ1.length (.cells ([I n].set 0 (I r.2))) = σ1.set D.x (D.ob r.1) ++ [.cells [I r.2]] := by
     rw [kC (by omega)]
     have := set_app0 (σ := σ1.set D.x (D.ob r.1)) (l := [IObj.cells [I n]]) (.cells [I r.2])
     rw [List.length_set] at this; exact this
   rw [u1] at u0
   have g2 : (σ1.set D.x (D.ob r.1) ++ [IObj.cells [I r.2]])[σ1.length]? = some (.cells [I r.2]) := by
     have := get_app0 (σ := σ1.set D.x (D.ob r.1)) (l := [IObj.cells [I r.2]])
     rw [List.length_set] at this; exact this
   have g3 : (σ1.set D.x (D.ob r.1) ++ [IObj.cells [I r.2]])[p]? = some (.cells cs) := jL (get_set y3 (Ne.symm hne)) _
   have s3 : ∀ o : IObj, (σ1.set D.x (D.ob r.1) ++ [IObj.cells [I r.2]]).set p o = (σ.set D.x (D.ob r.1)).set p o ++ (l ++ [IObj.cells [I r.2]]) := fun o => by
     rw [kC (by simp; omega), <- hσ, kC (by simpa using hx), kC (by simpa using hp), jdD hne, List.append_assoc]
   have t76 := hw.t76
   rw [List.drop_eq_getElem_cons hi2, List.map_cons, jB, jF ho]
   have e1 : kg D .pl w (I n) = (r.1, I r.2) := by rw [<- hr]; rfl
   rw [e1]
   rw [jH] at hE
   simp only [J8, jG, e0, e7, e8, e9, l0, g1, d1, w1, y3, ho, t76, u0, g2, g3, s3, o1, zk, jL y3, Int.toNat_natCast, zV, zS, jy, jM, jc, jk, jR, jg, jl, je, jr, jO, jf, jj, jp, jK, ju, jq, Ts.fill, jS, jP, jh, jT, jo, jm, ji, ja, getAll, stepCall, jn, unI, Opd.get, jx, tag, jv, jb, jI, rv, bin, jW, Nat.reduceAdd, Nat.reduceSub, Nat.reduceMul, Nat.reduceDiv, Nat.reduceMod, Nat.reducePow, Nat.reduceLT, Nat.reduceLeDiff, Nat.reduceEqDiff, Nat.reduceBEq, Nat.reduceBNe, reduceIte, Int.reduceEq, Int.reduceLT, Int.reduceLE, Int.reduceNeg, Int.reduceToNat, Int.reduceMul, Int.reduceAdd, Int.reduceSub, reduceCtorEq] at hE
   have hT2 : Ty (os.map fun o => (.pl, o)) (cs.set os[i] (I r.2)) := by
     refine vB (k := .pl) hT ⟨_, rfl, ?_⟩ ?_
     . rw [<- hr]; exact hw.i_whole hn
     . intro q hq _
       obtain ⟨o, _, rfl⟩ := List.mem_map.mp hq
       rfl
   have hk2 : D.ok r.1 (k + d) := by rw [<- hr]; exact hw.ok_whole hk
   exact ih (i + 1) k _ r.1 _ _ _ R hE (by omega) hT2 hk2 (by rw [Fl] at hf hw1 ⊢; simp only [List.all_cons, List.all_append, hf, hw1]; rfl) (by (try simp only [upd_get, base_get, Nat.reduceAdd, Nat.reduceSub, Nat.reduceMul, Nat.reduceDiv, Nat.reduceMod, Nat.reducePow, Nat.reduceLT, Nat.reduceLeDiff, Nat.reduceEqDiff, Nat.reduceBEq, Nat.reduceBNe, reduceIte, Int.reduceEq, Int.reduceLT, Int.reduceLE, Int.reduceNeg, Int.reduceToNat, Int.reduceMul, Int.reduceAdd, Int.reduceSub, Int.cast_ofNat_Int, reduceCtorEq, Nat.zero_add, Nat.add_zero, Nat.mul_one]) <;> first | exact e0 | rfl) (by (try simp only [upd_get, base_get, Nat.reduceAdd, Nat.reduceSub, Nat.reduceMul, Nat.reduceDiv, Nat.reduceMod, Nat.reducePow, Nat.reduceLT, Nat.reduceLeDiff, Nat.reduceEqDiff, Nat.reduceBEq, Nat.reduceBNe, reduceIte, Int.reduceEq, Int.reduceLT, Int.reduceLE, Int.reduceNeg, Int.reduceToNat, Int.reduceMul, Int.reduceAdd, Int.reduceSub, Int.cast_ofNat_Int, reduceCtorEq, Nat.zero_add, Nat.add_zero, Nat.mul_one]) <;> first | exact e7 | rfl) (by (try simp only [upd_get, base_get, Nat.reduceAdd, Nat.reduceSub, Nat.reduceMul, Nat.reduceDiv, Nat.reduceMod, Nat.reducePow, Nat.reduceLT, Nat.reduceLeDiff, Nat.reduceEqDiff, Nat.reduceBEq, Nat.reduceBNe, reduceIte, Int.reduceEq, Int.reduceLT, Int.reduceLE, Int.reduceNeg, Int.reduceToNat, Int.reduceMul, Int.reduceAdd, Int.reduceSub, Int.cast_ofNat_Int, reduceCtorEq, Nat.zero_add, Nat.add_zero, Nat.mul_one]) <;> first | exact e8 | rfl) (by (try simp only [upd_get, base_get, Nat.reduceAdd, Nat.reduceSub, Nat.reduceMul, Nat.reduceDiv, Nat.reduceMod, Nat.reducePow, Nat.reduceLT, Nat.reduceLeDiff, Nat.reduceEqDiff, Nat.reduceBEq, Nat.reduceBNe, reduceIte, Int.reduceEq, Int.reduceLT, Int.reduceLE, Int.reduceNeg, Int.reduceToNat, Int.reduceMul, Int.reduceAdd, Int.reduceSub, Int.cast_ofNat_Int, reduceCtorEq, Nat.zero_add, Nat.add_zero, Nat.mul_one]) <;> rfl)
theorem QR (h33 : F 33 = some KS) (hw : Way F D) {p e k : Nat} {σ : List IObj} {w : D.W} {cs : List IVal} (hx : σ[D.x]? = some (D.ob w)) (hp : σ[p]? = some (.cells cs)) (hne : p ≠ D.x) {os : List Nat} (hlen : os.length < 1000) (hT : Ty (os.map fun o => (.pl, o)) cs) (hk : D.ok w (k + os.length)) :
   ∃ wr, cfw F (.f 33) [.iface D.ty D.rv, .sl e true (Ps p os)] σ = some ⟨false, .tup [], (σ.set D.x (D.ob (jB D (os.map fun o => (.pl, o)) w cs).1)).set p (.cells (jB D (os.map fun o => (.pl, o)) w cs).2), wr⟩ /\ Fl wr := by
 rw [jQ KS h33, jq]
 simp only [KS, zV, zS, jy, jM, jc, jk, jR, jg, jl, je, jr, jO, jf, jj, jp, jK, ju, jq, Ts.fill, jS, jP, jh, jT, jo, jm, ji, ja, getAll, stepCall, jn, unI, Opd.get, jx, tag, jv, jb, jI, rv, bin, jW, Nat.reduceAdd, Nat.reduceSub, Nat.reduceMul, Nat.reduceDiv, Nat.reduceMod, Nat.reducePow, Nat.reduceLT, Nat.reduceLeDiff, Nat.reduceEqDiff, Nat.reduceBEq, Nat.reduceBNe, reduceIte, Int.reduceEq, Int.reduceLT, Int.reduceLE, Int.reduceNeg, Int.reduceToNat, Int.reduceMul, Int.reduceAdd, Int.reduceSub, reduceCtorEq]
 generalize hE : evw F (ICode.loop J8) _ = R
 have l0 := jd hx
 have lp := jd hp
 have s0 : (σ.set D.x (D.ob w)).set p (.cells cs) ++ [] = σ := by rw [ko hx, ko hp, List.append_nil]
 rw [<- s0] at hE
 obtain ⟨f1, l', wr', rfl, hf⟩ := jgg hw l0 lp hne hlen os.length 0 k _ w cs [] _ R hE (by omega) hT hk (by rfl) (by (try simp only [upd_get, base_get, Nat.reduceAdd, Nat.reduceSub, Nat.reduceMul, Nat.reduceDiv, Nat.reduceMod, Nat.reducePow, Nat.reduceLT, Nat.reduceLeDiff, Nat.reduceEqDiff, Nat.reduceBEq, Nat.reduceBNe, reduceIte, Int.reduceEq, Int.reduceLT, Int.reduceLE, Int.reduceNeg, Int.reduceToNat, Int.reduceMul, Int.reduceAdd, Int.reduceSub, Int.cast_ofNat_Int, reduceCtorEq, Nat.zero_add, Nat.add_zero, Nat.mul_one]) <;> rfl) (by (try simp only [upd_get, base_get, Nat.reduceAdd, Nat.reduceSub, Nat.reduceMul, Nat.reduceDiv, Nat.reduceMod, Nat.reducePow, Nat.reduceLT, Nat.reduceLeDiff, Nat.reduceEqDiff, Nat.reduceBEq, Nat.reduceBNe, reduceIte, Int.reduceEq, Int.reduceLT, Int.reduceLE, Int.reduceNeg, Int.reduceToNat, Int.reduceMul, Int.reduceAdd, Int.reduceSub, Int.cast_ofNat_Int, reduceCtorEq, Nat.zero_add, Nat.add_zero, Nat.mul_one]) <;> rfl) (by (try simp only [upd_get, base_get, Nat.reduceAdd, Nat.reduceSub, Nat.reduceMul, Nat.reduceDiv, Nat.reduceMod, Nat.reducePow, Nat.reduceLT, Nat.reduceLeDiff, Nat.reduceEqDiff, Nat.reduceBEq, Nat.reduceBNe, reduceIte, Int.reduceEq, Int.reduceLT, Int.reduceLE, Int.reduceNeg, Int.reduceToNat, Int.reduceMul, Int.reduceAdd, Int.reduceSub, Int.cast_ofNat_Int, reduceCtorEq, Nat.zero_add, Nat.add_zero, Nat.mul_one]) <;> rfl) (by (try simp only [upd_get, base_get, Nat.reduceAdd, Nat.reduceSub, Nat.reduceMul, Nat.reduceDiv, Nat.reduceMod, Nat.reducePow, Nat.reduceLT, Nat.reduceLeDiff, Nat.reduceEqDiff, Nat.reduceBEq, Nat.reduceBNe, reduceIte, Int.reduceEq, Int.reduceLT, Int.reduceLE, Int.reduceNeg, Int.reduceToNat, Int.reduceMul, Int.reduceAdd, Int.reduceSub, Int.cast_ofNat_Int, reduceCtorEq, Nat.zero_add, Nat.add_zero, Nat.mul_one]) <;> rfl)
 simp only [yG hf, qD, zV, zS, jy, jM, jc, jk, jR, jg, jl, je, jr, jO, jf, jj, jp, jK, ju, jq, Ts.fill, jS, jP, jh, jT, jo, jm, ji, ja, getAll, stepCall, jn, unI, Opd.get, jx, tag, jv, jb, jI, rv, bin, jW, Nat.reduceAdd, Nat.reduceSub, Nat.reduceMul, Nat.reduceDiv, Nat.reduceMod, Nat.reducePow, Nat.reduceLT, Nat.reduceLeDiff, Nat.reduceEqDiff, Nat.reduceBEq, Nat.reduceBNe, reduceIte, Int.reduceEq, Int.reduceLT, Int.reduceLE, Int.reduceNeg, Int.reduceToNat, Int.reduceMul, Int.reduceAdd, Int.reduceSub, reduceCtorEq]
 exact ⟨_, rfl, qU hf⟩
end Go.Idl.Sb
namespace Go.Idl.Sb
open Go Go.Idl Go.Idl.En
variable {F : jJ} {D : WayD}
theorem kP (l1 l2 : List (K × Nat)) : ∀ (w : D.W) (cs : List IVal), jB D (l1 ++ l2) w cs = jB D l2 (jB D l1 w cs).1 (jB D l1 w cs).2 := by
 induction l1 with
 | nil => intro w cs; rfl
 | cons q l1 ih => intro w cs; obtain ⟨k, o⟩ := q; exact ih _ _
theorem JQ (l : List (K × Nat)) : ∀ (w : D.W) (cs : List IVal), (jB D l w cs).2.length = cs.length := by
 induction l with
 | nil => intro w cs; rfl
 | cons q l ih => intro w cs; obtain ⟨k, o⟩ := q; rw [jB, ih]; simp
theorem qw (hw : Way F D) {L : List (K × Nat)} : ∀ (l : List (K × Nat)) (w : D.W) (cs : List IVal), Ty L cs -> Ty l cs -> (∀ q ∈ L, ∀ r ∈ l, q.2 = r.2 -> q.1 = r.1) -> (∀ q ∈ l, ∀ r ∈ l, q.2 = r.2 -> q.1 = r.1) -> Ty L (jB D l w cs).2 := by
 intro l
 induction l with
 | nil => intro w cs h _ _ _; exact h
 | cons q l ih =>
   intro w cs h h2 h3 h4
   obtain ⟨k, o⟩ := q
   rw [jB]
   obtain ⟨v, ho, hv⟩ := h2 (k, o) List.mem_cons_self
   simp only [] at ho hv
   rw [jF ho]
   refine ih _ _ ?_ ?_ (fun q hq r hr => h3 q hq r (List.mem_cons_of_mem _ hr)) (fun q hq r hr => h4 q (List.mem_cons_of_mem _ hq) r (List.mem_cons_of_mem _ hr))
   . exact vB h (zd hw hv) (fun q hq e => h3 q hq (k, o) List.mem_cons_self e)
   . exact vB (fun q hq => h2 q (List.mem_cons_of_mem _ hq)) (zd hw hv) (fun q hq e => h4 q (List.mem_cons_of_mem _ hq) (k, o) List.mem_cons_self e)
theorem kX (hw : Way F D) : ∀ (l : List (K × Nat)) (w : D.W) (cs : List IVal) (k : Nat), Ty l cs -> (∀ q ∈ l, ∀ r ∈ l, q.2 = r.2 -> q.1 = r.1) -> D.ok w (k + l.length) -> D.ok (jB D l w cs).1 k := by
 intro l
 induction l with
 | nil => intro w cs k _ _ h; exact h
 | cons q l ih =>
   intro w cs k h2 h4 hk
   obtain ⟨kk, o⟩ := q
   rw [jB]
   obtain ⟨v, ho, hv⟩ := h2 (kk, o) List.mem_cons_self
   simp only [] at ho hv
   rw [jF ho]
   refine ih _ _ k ?_ (fun q hq r hr => h4 q (List.mem_cons_of_mem _ hq) r (List.mem_cons_of_mem _ hr)) (Je hw hv hk)
   exact vB (fun q hq => h2 q (List.mem_cons_of_mem _ hq)) (zd hw hv) (fun q hq e => h4 q (List.mem_cons_of_mem _ hq) (kk, o) List.mem_cons_self e)
theorem jU {L l : List (K × Nat)} {cs : List IVal} (h : Ty L cs) (hs : ∀ q ∈ l, q ∈ L) : Ty l cs := fun q hq => h q (hs q hq)
/-- A handler that runs. -/
abbrev vf (o : Nat) : List (K × Nat) := [(.pl, o), (.pl, o + 1), (.tr, o + 2)]
theorem jgE (h37 : F 37 = some Xv) (h33 : F 33 = some KS) (hw : Way F D) {p o k : Nat} {cs : List IVal} {σ : List IObj} {w : D.W} (hx : σ[D.x]? = some (D.ob w)) (hp : σ[p]? = some (.cells cs)) (hT : Ty (vf o) cs) (hk : D.ok w (k + 3)) (hne : p ≠ D.x) :
   ∃ wr, cfw F (.f 37) [.iface D.ty D.rv, .ptr p o] σ = some ⟨false, .tup [], (σ.set D.x (D.ob (jB D (vf o) w cs).1)).set p (.cells (jB D (vf o) w cs).2), wr⟩ /\ Fl wr := by
 rw [jQ Xv h37, jq]
 have l0 := jd hx
 have lp := jd hp
 have T1 : Ty ([o, o + 1].map fun o => (K.pl, o)) cs := jU hT (by simp)
 obtain ⟨wr1, u0, hw1⟩ := QR (e := 1) (k := k + 1) h33 hw hx hp hne (os := [o, o + 1]) (by simp) T1 hk
 have x1 : ext [.ptr p o, .ptr p (o + 1)] = true := rfl
 generalize hr : jB D ([o, o + 1].map fun o => (K.pl, o)) w cs = r at *
 have T2 : Ty (vf o) r.2 := by
   rw [<- hr]
   refine qw hw _ _ _ hT T1 ?_ ?_
   . intro q hq r hr e; simp at hq hr; rcases hq with rfl | rfl | rfl <;> rcases hr with rfl | rfl <;> simp at e <;> first | rfl | omega
   . intro q hq r hr e; simp at hq hr; rcases hq with rfl | rfl <;> rcases hr with rfl | rfl <;> rfl
 have k2 : D.ok r.1 (k + 1) := by
   rw [<- hr]
   refine kX hw _ _ _ (k + 1) T1 ?_ hk
   intro q hq r hr e; simp at hq hr; rcases hq with rfl | rfl <;> rcases hr with rfl | rfl <;> rfl
 obtain ⟨v, ho, b, rfl⟩ := T2 (.tr, o + 2) (by simp)
 obtain ⟨y1, y2⟩ := Xr (a := D.ob r.1) (b := .cells r.2) l0 lp hne
 obtain ⟨wr2, v0, hw2⟩ := hw.truth y1 y2 ho k2 hne
 rw [jdD hne] at v0
 have e1 : jB D (vf o) w cs = ((D.truth r.1 b).1, r.2.set (o + 2) (.bool (D.truth r.1 b).2)) := by
   have := kP (D := D) ([o, o + 1].map fun o => (K.pl, o)) [(K.tr, o + 2)] w cs
   rw [hr] at this
   refine Eq.trans this ?_
   rw [jB, jF ho]; rfl
 have t75 := hw.t75
 have n0 := hw.nil "plover/snap.truth"
 have f1 : Fl (wr2 ++ wr1) := by rw [Fl, List.all_append, hw1, hw2]; rfl
 rw [e1]
 have u0 : cfw F (Cal.f 33) [IVal.iface D.ty D.rv, IVal.sl 1 true [.ptr p o, .ptr p (o + 1)]] σ = some ⟨false, .tup [], (σ.set D.x (D.ob r.1)).set p (.cells r.2), wr1⟩ := u0
 simp only [Xv, jG, x1, u0, v0, t75, n0, zk, zV, zS, jy, jM, jc, jk, jR, jg, jl, je, jr, jO, jf, jj, jp, jK, ju, jq, Ts.fill, jS, jP, jh, jT, jo, jm, ji, ja, getAll, stepCall, jn, unI, Opd.get, jx, tag, jv, jb, jI, rv, bin, jW, Nat.reduceAdd, Nat.reduceSub, Nat.reduceMul, Nat.reduceDiv, Nat.reduceMod, Nat.reducePow, Nat.reduceLT, Nat.reduceLeDiff, Nat.reduceEqDiff, Nat.reduceBEq, Nat.reduceBNe, reduceIte, Int.reduceEq, Int.reduceLT, Int.reduceLE, Int.reduceNeg, Int.reduceToNat, Int.reduceMul, Int.reduceAdd, Int.reduceSub, reduceCtorEq]
 rw [if_pos (yG f1), v9]
 exact ⟨_, rfl, qU f1⟩
/-! ### a queue -/
abbrev YX (o i d : Nat) : List (K × Nat) := (List.range' i d).map fun i => (.byt, o + i)
theorem jfK {o i d : Nat} : ∀ q ∈ YX o i d, ∀ r ∈ YX o i d, q.2 = r.2 -> q.1 = r.1 := by
 intro q hq r hr _
 obtain ⟨a, _, rfl⟩ := List.mem_map.mp hq
 obtain ⟨b, _, rfl⟩ := List.mem_map.mp hr
 rfl
theorem Vf (o i d : Nat) : YX o i (d + 1) = (.byt, o + i) :: YX o (i + 1) d := by
 rw [YX, List.range'_succ]; rfl
theorem jgh (hw : Way F D) {p o : Nat} {σ : List IObj} (hx : D.x < σ.length) (hp : p < σ.length) (hne : p ≠ D.x) : ∀ (d i k : Nat) (f0 : Nat -> Option (Nat × IVal)) (w : D.W) (cs : List IVal) (wr : List (Nat × Bool)) (R : Option (IExit × St)),
   evw F (.loop J9) ⟨E 12 11 5 [] (base f0), (σ.set D.x (D.ob w)).set p (.cells cs), wr⟩ = R -> i + d = 8 -> Ty (YX (o + 1) i d) cs -> D.ok w (k + d) -> Fl wr ->
   f0 0 = some (0, .iface D.ty D.rv) -> f0 1 = some (1, .ptr p o) -> f0 11 = some (11, I i) ->
   ∃ f1 wr', R = some (.exit 0, ⟨E 12 11 5 [] (base f1), (σ.set D.x (D.ob (jB D (YX (o + 1) i d) w cs).1)).set p (.cells (jB D (YX (o + 1) i d) w cs).2), wr'⟩) /\ Fl wr' := by
 intro d
 induction d with
 | zero =>
   intro i k f0 w cs wr R hE hi hT hk hf e0 e1 e11
   have l0 : decide ((i : Int) < 8) = false := decide_eq_false (by omega)
   rw [jH] at hE
   subst hE
   simp only [J9, e0, e1, e11, l0, zV, zS, jy, jM, jc, jk, jR, jg, jl, je, jr, jO, jf, jj, jp, jK, ju, jq, Ts.fill, jS, jP, jh, jT, jo, jm, ji, ja, getAll, stepCall, jn, unI, Opd.get, jx, tag, jv, jb, jI, rv, bin, jW, Nat.reduceAdd, Nat.reduceSub, Nat.reduceMul, Nat.reduceDiv, Nat.reduceMod, Nat.reducePow, Nat.reduceLT, Nat.reduceLeDiff, Nat.reduceEqDiff, Nat.reduceBEq, Nat.reduceBNe, reduceIte, Int.reduceEq, Int.reduceLT, Int.reduceLE, Int.reduceNeg, Int.reduceToNat, Int.reduceMul, Int.reduceAdd, Int.reduceSub, reduceCtorEq]
   exact ⟨_, _, rfl, hf⟩
 | succ d ih =>
   intro i k f0 w cs wr R hE hi hT hk hf e0 e1 e11
   have l0 : decide ((i : Int) < 8) = true := decide_eq_true (by omega)
   have l1 : (i : Int) < 8 := by omega
   have d1 : (0 : Int) <= (i : Int) := by omega
   have w1 := yz (n := i) (by omega)
   rw [Vf] at hT
   obtain ⟨v, ho, n, rfl, hn⟩ := hT (.byt, o + 1 + i) List.mem_cons_self
   simp only [] at ho
   obtain ⟨y1, y2⟩ := Xr (a := D.ob w) (b := .cells cs) hx hp hne
   have T1 : Ty ([o + 1 + i].map fun o => (K.byt, o)) cs := jU hT (by intro q hq; simp at hq; subst hq; exact List.mem_cons_self)
   obtain ⟨wr1, u0, hw1⟩ := hw.bytes (e := 1) (k := k + d) y1 y2 T1 (by simp) hk hne
   rw [jdD hne] at u0
   have t73 := hw.t73
   have n0 := hw.nil "plover/snap.bytes"
   have x1 : ext [.ptr p (o + 1 + i)] = true := rfl
   have u0 : cfw F (Cal.f D.f73) [D.rv, IVal.sl 1 true [.ptr p (o + 1 + i)]] ((σ.set D.x (D.ob w)).set p (.cells cs)) = some ⟨false, .tup [], (σ.set D.x (D.ob (jB D [(.byt, o + 1 + i)] w cs).1)).set p (.cells (jB D [(.byt, o + 1 + i)] w cs).2), wr1⟩ := u0
   have n8 : ((8 : Nat) : Int) = 8 := rfl
   rw [jH] at hE
   simp only [J9, jG, e0, e1, e11, l0, l1, d1, w1, t73, n0, x1, n8, u0, zk, Int.toNat_natCast, zV, zS, jy, jM, jc, jk, jR, jg, jl, je, jr, jO, jf, jj, jp, jK, ju, jq, Ts.fill, jS, jP, jh, jT, jo, jm, ji, ja, getAll, stepCall, jn, unI, Opd.get, jx, tag, jv, jb, jI, rv, bin, jW, Nat.reduceAdd, Nat.reduceSub, Nat.reduceMul, Nat.reduceDiv, Nat.reduceMod, Nat.reducePow, Nat.reduceLT, Nat.reduceLeDiff, Nat.reduceEqDiff, Nat.reduceBEq, Nat.reduceBNe, reduceIte, Int.reduceEq, Int.reduceLT, Int.reduceLE, Int.reduceNeg, Int.reduceToNat, Int.reduceMul, Int.reduceAdd, Int.reduceSub, reduceCtorEq] at hE
   rw [Vf]
   have hS : ∀ q ∈ [(K.byt, o + 1 + i)], ∀ r ∈ [(K.byt, o + 1 + i)], q.2 = r.2 -> q.1 = r.1 := by
     intro q hq r hr _; simp at hq hr; rw [hq, hr]
   have T2 : Ty (YX (o + 1) (i + 1) d) (jB D [(.byt, o + 1 + i)] w cs).2 := by
     refine qw hw _ _ _ (fun q hq => hT q (List.mem_cons_of_mem _ hq)) T1 ?_ hS
     intro q hq r hr _
     obtain ⟨a, _, rfl⟩ := List.mem_map.mp hq
     simp at hr; rw [hr]
   exact ih (i + 1) k _ _ _ _ R hE (by omega) T2 (kX hw _ _ _ (k + d) T1 hS hk) (by rw [Fl] at hf hw1 ⊢; simp only [List.all_append, hf, hw1]; rfl) (by (try simp only [upd_get, base_get, Nat.reduceAdd, Nat.reduceSub, Nat.reduceMul, Nat.reduceDiv, Nat.reduceMod, Nat.reducePow, Nat.reduceLT, Nat.reduceLeDiff, Nat.reduceEqDiff, Nat.reduceBEq, Nat.reduceBNe, reduceIte, Int.reduceEq, Int.reduceLT, Int.reduceLE, Int.reduceNeg, Int.reduceToNat, Int.reduceMul, Int.reduceAdd, Int.reduceSub, Int.cast_ofNat_Int, reduceCtorEq, Nat.zero_add, Nat.add_zero, Nat.mul_one]) <;> first | exact e0 | rfl) (by (try simp only [upd_get, base_get, Nat.reduceAdd, Nat.reduceSub, Nat.reduceMul, Nat.reduceDiv, Nat.reduceMod, Nat.reducePow, Nat.reduceLT, Nat.reduceLeDiff, Nat.reduceEqDiff, Nat.reduceBEq, Nat.reduceBNe, reduceIte, Int.reduceEq, Int.reduceLT, Int.reduceLE, Int.reduceNeg, Int.reduceToNat, Int.reduceMul, Int.reduceAdd, Int.reduceSub, Int.cast_ofNat_Int, reduceCtorEq, Nat.zero_add, Nat.add_zero, Nat.mul_one]) <;> first | exact e1 | rfl) (by (try simp only [upd_get, base_get, Nat.reduceAdd, Nat.reduceSub, Nat.reduceMul, Nat.reduceDiv, Nat.reduceMod, Nat.reducePow, Nat.reduceLT, Nat.reduceLeDiff, Nat.reduceEqDiff, Nat.reduceBEq, Nat.reduceBNe, reduceIte, Int.reduceEq, Int.reduceLT, Int.reduceLE, Int.reduceNeg, Int.reduceToNat, Int.reduceMul, Int.reduceAdd, Int.reduceSub, Int.cast_ofNat_Int, reduceCtorEq, Nat.zero_add, Nat.add_zero, Nat.mul_one]) <;> rfl)
abbrev VJ (o : Nat) : List (K × Nat) := (.pl, o) :: YX (o + 1) 0 8
theorem jeY (h38 : F 38 = some ZG) (h33 : F 33 = some KS) (hw : Way F D) {p o k : Nat} {cs : List IVal} {σ : List IObj} {w : D.W} (hx : σ[D.x]? = some (D.ob w)) (hp : σ[p]? = some (.cells cs)) (hT : Ty (VJ o) cs) (hk : D.ok w (k + 9)) (hne : p ≠ D.x) :
   ∃ wr, cfw F (.f 38) [.iface D.ty D.rv, .ptr p o] σ = some ⟨false, .tup [], (σ.set D.x (D.ob (jB D (VJ o) w cs).1)).set p (.cells (jB D (VJ o) w cs).2), wr⟩ /\ Fl wr := by
 rw [jQ ZG h38, jq]
 have l0 := jd hx
 have lp := jd hp
 have T1 : Ty ([o].map fun o => (K.pl, o)) cs := jU hT (by intro q hq; simp at hq; subst hq; exact List.mem_cons_self)
 obtain ⟨wr1, u0, hw1⟩ := QR (e := 1) (k := k + 8) h33 hw hx hp hne (os := [o]) (by simp) T1 hk
 have x1 : ext [.ptr p o] = true := rfl
 have u0 : cfw F (Cal.f 33) [IVal.iface D.ty D.rv, IVal.sl 1 true [.ptr p o]] σ = some ⟨false, .tup [], (σ.set D.x (D.ob (jB D [(.pl, o)] w cs).1)).set p (.cells (jB D [(.pl, o)] w cs).2), wr1⟩ := u0
 have hS : ∀ q ∈ [(K.pl, o)], ∀ r ∈ [(K.pl, o)], q.2 = r.2 -> q.1 = r.1 := by
   intro q hq r hr _; simp at hq hr; rw [hq, hr]
 have T2 : Ty (YX (o + 1) 0 8) (jB D [(.pl, o)] w cs).2 := by
   refine qw hw _ _ _ (fun q hq => hT q (List.mem_cons_of_mem _ hq)) T1 ?_ hS
   intro q hq r hr e
   obtain ⟨a, _, rfl⟩ := List.mem_map.mp hq
   simp at hr; subst hr; simp only [] at e; omega
 have k2 := kX hw _ _ _ (k + 8) T1 hS hk
 simp only [ZG, x1, u0, zV, zS, jy, jM, jc, jk, jR, jg, jl, je, jr, jO, jf, jj, jp, jK, ju, jq, Ts.fill, jS, jP, jh, jT, jo, jm, ji, ja, getAll, stepCall, jn, unI, Opd.get, jx, tag, jv, jb, jI, rv, bin, jW, Nat.reduceAdd, Nat.reduceSub, Nat.reduceMul, Nat.reduceDiv, Nat.reduceMod, Nat.reducePow, Nat.reduceLT, Nat.reduceLeDiff, Nat.reduceEqDiff, Nat.reduceBEq, Nat.reduceBNe, reduceIte, Int.reduceEq, Int.reduceLT, Int.reduceLE, Int.reduceNeg, Int.reduceToNat, Int.reduceMul, Int.reduceAdd, Int.reduceSub, reduceCtorEq]
 generalize hE : evw F (ICode.loop J9) _ = R
 obtain ⟨f1, wr', rfl, hf⟩ := jgh (o := o) hw l0 lp hne 8 0 k _ _ _ _ R hE rfl T2 k2 (by rw [Fl] at hw1 ⊢; simp only [hw1, List.append_nil]) (by (try simp only [upd_get, base_get, Nat.reduceAdd, Nat.reduceSub, Nat.reduceMul, Nat.reduceDiv, Nat.reduceMod, Nat.reducePow, Nat.reduceLT, Nat.reduceLeDiff, Nat.reduceEqDiff, Nat.reduceBEq, Nat.reduceBNe, reduceIte, Int.reduceEq, Int.reduceLT, Int.reduceLE, Int.reduceNeg, Int.reduceToNat, Int.reduceMul, Int.reduceAdd, Int.reduceSub, Int.cast_ofNat_Int, reduceCtorEq, Nat.zero_add, Nat.add_zero, Nat.mul_one]) <;> rfl) (by (try simp only [upd_get, base_get, Nat.reduceAdd, Nat.reduceSub, Nat.reduceMul, Nat.reduceDiv, Nat.reduceMod, Nat.reducePow, Nat.reduceLT, Nat.reduceLeDiff, Nat.reduceEqDiff, Nat.reduceBEq, Nat.reduceBNe, reduceIte, Int.reduceEq, Int.reduceLT, Int.reduceLE, Int.reduceNeg, Int.reduceToNat, Int.reduceMul, Int.reduceAdd, Int.reduceSub, Int.cast_ofNat_Int, reduceCtorEq, Nat.zero_add, Nat.add_zero, Nat.mul_one]) <;> rfl) (by (try simp only [upd_get, base_get, Nat.reduceAdd, Nat.reduceSub, Nat.reduceMul, Nat.reduceDiv, Nat.reduceMod, Nat.reducePow, Nat.reduceLT, Nat.reduceLeDiff, Nat.reduceEqDiff, Nat.reduceBEq, Nat.reduceBNe, reduceIte, Int.reduceEq, Int.reduceLT, Int.reduceLE, Int.reduceNeg, Int.reduceToNat, Int.reduceMul, Int.reduceAdd, Int.reduceSub, Int.cast_ofNat_Int, reduceCtorEq, Nat.zero_add, Nat.add_zero, Nat.mul_one]) <;> rfl)
 have e1 := kP (D := D) [(K.pl, o)] (YX (o + 1) 0 8) w cs
 have e2 : [(K.pl, o)] ++ YX (o + 1) 0 8 = VJ o := rfl
 rw [e2] at e1
 rw [e1]
 simp only [yG hf, v9, zV, zS, jy, jM, jc, jk, jR, jg, jl, je, jr, jO, jf, jj, jp, jK, ju, jq, Ts.fill, jS, jP, jh, jT, jo, jm, ji, ja, getAll, stepCall, jn, unI, Opd.get, jx, tag, jv, jb, jI, rv, bin, jW, Nat.reduceAdd, Nat.reduceSub, Nat.reduceMul, Nat.reduceDiv, Nat.reduceMod, Nat.reducePow, Nat.reduceLT, Nat.reduceLeDiff, Nat.reduceEqDiff, Nat.reduceBEq, Nat.reduceBNe, reduceIte, Int.reduceEq, Int.reduceLT, Int.reduceLE, Int.reduceNeg, Int.reduceToNat, Int.reduceMul, Int.reduceAdd, Int.reduceSub, reduceCtorEq]
 exact ⟨_, rfl, qU hf⟩
end Go.Idl.Sb
namespace Go.Idl.Sb
open Go Go.Idl Go.Idl.En
variable {F : jJ} {D : WayD}
theorem jc7 {n : Nat} (h : n < 65536) : IntKind.u64.wrap (n : Int) = (n : Int) := kN (by omega) (by omega)
theorem jgi (hw : Way F D) {p e : Nat} {σ : List IObj} (hx : D.x < σ.length) (hp : p < σ.length) (hne : p ≠ D.x) {os : List Nat} (hlen : os.length < 1000) : ∀ (d i k : Nat) (f0 : Nat -> Option (Nat × IVal)) (w : D.W) (cs : List IVal) (l : List IObj) (wr : List (Nat × Bool)) (R : Option (IExit × St)),
   evw F (.loop Ka) ⟨E 19 4 5 [] (base f0), (σ.set D.x (D.ob w)).set p (.cells cs) ++ l, wr⟩ = R -> i + d = os.length -> Ty (os.map fun o => (.hf, o)) cs -> D.ok w (k + d) -> Fl wr ->
   f0 0 = some (0, .iface D.ty D.rv) -> f0 16 = some (16, .sl e true (Ps p os)) -> f0 17 = some (17, I os.length) -> f0 18 = some (18, I i) ->
   ∃ f1 l' wr', R = some (.exit 0, ⟨E 19 4 5 [] (base f1), (σ.set D.x (D.ob (jB D ((os.drop i).map fun o => (.hf, o)) w cs).1)).set p (.cells (jB D ((os.drop i).map fun o => (.hf, o)) w cs).2) ++ l', wr'⟩) /\ Fl wr' := by
 intro d
 induction d with
 | zero =>
   intro i k f0 w cs l wr R hE hi hT hk hf e0 e7 e8 e9
   have l0 : decide ((i : Int) < (os.length : Int)) = false := decide_eq_false (by omega)
   rw [jH] at hE
   subst hE
   simp only [Ka, e0, e7, e8, e9, l0, zV, zS, jy, jM, jc, jk, jR, jg, jl, je, jr, jO, jf, jj, jp, jK, ju, jq, Ts.fill, jS, jP, jh, jT, jo, jm, ji, ja, getAll, stepCall, jn, unI, Opd.get, jx, tag, jv, jb, jI, rv, bin, jW, Nat.reduceAdd, Nat.reduceSub, Nat.reduceMul, Nat.reduceDiv, Nat.reduceMod, Nat.reducePow, Nat.reduceLT, Nat.reduceLeDiff, Nat.reduceEqDiff, Nat.reduceBEq, Nat.reduceBNe, reduceIte, Int.reduceEq, Int.reduceLT, Int.reduceLE, Int.reduceNeg, Int.reduceToNat, Int.reduceMul, Int.reduceAdd, Int.reduceSub, reduceCtorEq]
   rw [List.drop_of_length_le (by omega)]
   exact ⟨_, l, _, rfl, hf⟩
 | succ d ih =>
   intro i k f0 w cs l wr R hE hi hT hk hf e0 e7 e8 e9
   have l0 : decide ((i : Int) < (os.length : Int)) = true := decide_eq_true (by omega)
   have hi2 : i < os.length := by omega
   have g1 : os[i]? = some os[i] := List.getElem?_eq_getElem hi2
   have d1 : (0 : Int) <= (i : Int) := by omega
   have w1 := yz (n := i) (by omega)
   obtain ⟨v, ho, n, rfl, hn⟩ := hT (.hf, os[i]) (List.mem_map.mpr ⟨_, List.getElem_mem hi2, rfl⟩)
   simp only [] at ho
   have o1 := kU ho
   have wn := jc7 hn
   generalize hσ : (σ.set D.x (D.ob w)).set p (.cells cs) ++ l = σ1 at *
   have lσ : σ1.length = σ.length + l.length := by rw [<- hσ]; simp
   have y0 : ((σ.set D.x (D.ob w)).set p (.cells cs))[D.x]? = some (D.ob w) := (Xr hx hp hne).1
   have y1 : ((σ.set D.x (D.ob w)).set p (.cells cs))[p]? = some (.cells cs) := (Xr hx hp hne).2
   have y2 : σ1[D.x]? = some (D.ob w) := by rw [<- hσ]; exact jL y0 _
   have y3 : σ1[p]? = some (.cells cs) := by rw [<- hσ]; exact jL y1 _
   obtain ⟨wr1, u0, hw1⟩ := hw.number (σ := σ1 ++ [.cells [Q n]]) (p := σ1.length) (o := 0) (cs := [Q n]) (most := 65535) (k := k + d) (jL y2 _) get_app0 rfl hk (by have := hne; omega)
   generalize hr : D.number w n 65535 = r at *
   have u1 : ((σ1 ++ [IObj.cells [Q n]]).set D.x (D.ob r.1)).set σ1.length (.cells ([Q n].set 0 (Q r.2))) = σ1.set D.x (D.ob r.1) ++ [.cells [Q r.2]] := by
     rw [kC (by omega)]
     have := set_app0 (σ := σ1.set D.x (D.ob r.1)) (l := [IObj.cells [Q n]]) (.cells [Q r.2])
     rw [List.length_set] at this; exact this
   rw [u1] at u0
   have u0 : cfw F (.f D.f74) [D.rv, .ptr σ1.length 0, Q 65535] (σ1 ++ [.cells [Q n]]) = some ⟨false, .tup [], σ1.set D.x (D.ob r.1) ++ [.cells [Q r.2]], wr1⟩ := u0
   have g2 : (σ1.set D.x (D.ob r.1) ++ [IObj.cells [Q r.2]])[σ1.length]? = some (.cells [Q r.2]) := by
     have := get_app0 (σ := σ1.set D.x (D.ob r.1)) (l := [IObj.cells [Q r.2]])
     rw [List.length_set] at this; exact this
   have g3 : (σ1.set D.x (D.ob r.1) ++ [IObj.cells [Q r.2]])[p]? = some (.cells cs) := jL (get_set y3 (Ne.symm hne)) _
   have s3 : ∀ o : IObj, (σ1.set D.x (D.ob r.1) ++ [IObj.cells [Q r.2]]).set p o = (σ.set D.x (D.ob r.1)).set p o ++ (l ++ [IObj.cells [Q r.2]]) := fun o => by
     rw [kC (by simp; omega), <- hσ, kC (by simpa using hx), kC (by simpa using hp), jdD hne, List.append_assoc]
   have t74 := hw.t74
   rw [List.drop_eq_getElem_cons hi2, List.map_cons, jB, jF ho]
   have e1 : kg D .hf w (.int .u16 n) = (r.1, .int .u16 (IntKind.u16.wrap r.2)) := by rw [<- hr]; rfl
   rw [e1]
   rw [jH] at hE
   simp only [Ka, jG, e0, e7, e8, e9, l0, g1, d1, w1, wn, y3, ho, t74, u0, g2, g3, s3, o1, zk, jL y3, Int.toNat_natCast, zV, zS, jy, jM, jc, jk, jR, jg, jl, je, jr, jO, jf, jj, jp, jK, ju, jq, Ts.fill, jS, jP, jh, jT, jo, jm, ji, ja, getAll, stepCall, jn, unI, Opd.get, jx, tag, jv, jb, jI, rv, bin, jW, Nat.reduceAdd, Nat.reduceSub, Nat.reduceMul, Nat.reduceDiv, Nat.reduceMod, Nat.reducePow, Nat.reduceLT, Nat.reduceLeDiff, Nat.reduceEqDiff, Nat.reduceBEq, Nat.reduceBNe, reduceIte, Int.reduceEq, Int.reduceLT, Int.reduceLE, Int.reduceNeg, Int.reduceToNat, Int.reduceMul, Int.reduceAdd, Int.reduceSub, reduceCtorEq] at hE
   have hT2 : Ty (os.map fun o => (.hf, o)) (cs.set os[i] (.int .u16 (IntKind.u16.wrap r.2))) := by
     refine vB (k := .hf) hT ?_ ?_
     . have := zd hw (k := .hf) (w := w) (v := .int .u16 n) ⟨n, rfl, hn⟩
       rw [e1] at this; exact this
     . intro q hq _
       obtain ⟨o, _, rfl⟩ := List.mem_map.mp hq
       rfl
   have hk2 : D.ok r.1 (k + d) := by rw [<- hr]; exact hw.ok_number hk
   exact ih (i + 1) k _ r.1 _ _ _ R hE (by omega) hT2 hk2 (by rw [Fl] at hf hw1 ⊢; simp only [List.all_cons, List.all_append, hf, hw1]; rfl) (by (try simp only [upd_get, base_get, Nat.reduceAdd, Nat.reduceSub, Nat.reduceMul, Nat.reduceDiv, Nat.reduceMod, Nat.reducePow, Nat.reduceLT, Nat.reduceLeDiff, Nat.reduceEqDiff, Nat.reduceBEq, Nat.reduceBNe, reduceIte, Int.reduceEq, Int.reduceLT, Int.reduceLE, Int.reduceNeg, Int.reduceToNat, Int.reduceMul, Int.reduceAdd, Int.reduceSub, Int.cast_ofNat_Int, reduceCtorEq, Nat.zero_add, Nat.add_zero, Nat.mul_one]) <;> first | exact e0 | rfl) (by (try simp only [upd_get, base_get, Nat.reduceAdd, Nat.reduceSub, Nat.reduceMul, Nat.reduceDiv, Nat.reduceMod, Nat.reducePow, Nat.reduceLT, Nat.reduceLeDiff, Nat.reduceEqDiff, Nat.reduceBEq, Nat.reduceBNe, reduceIte, Int.reduceEq, Int.reduceLT, Int.reduceLE, Int.reduceNeg, Int.reduceToNat, Int.reduceMul, Int.reduceAdd, Int.reduceSub, Int.cast_ofNat_Int, reduceCtorEq, Nat.zero_add, Nat.add_zero, Nat.mul_one]) <;> first | exact e7 | rfl) (by (try simp only [upd_get, base_get, Nat.reduceAdd, Nat.reduceSub, Nat.reduceMul, Nat.reduceDiv, Nat.reduceMod, Nat.reducePow, Nat.reduceLT, Nat.reduceLeDiff, Nat.reduceEqDiff, Nat.reduceBEq, Nat.reduceBNe, reduceIte, Int.reduceEq, Int.reduceLT, Int.reduceLE, Int.reduceNeg, Int.reduceToNat, Int.reduceMul, Int.reduceAdd, Int.reduceSub, Int.cast_ofNat_Int, reduceCtorEq, Nat.zero_add, Nat.add_zero, Nat.mul_one]) <;> first | exact e8 | rfl) (by (try simp only [upd_get, base_get, Nat.reduceAdd, Nat.reduceSub, Nat.reduceMul, Nat.reduceDiv, Nat.reduceMod, Nat.reducePow, Nat.reduceLT, Nat.reduceLeDiff, Nat.reduceEqDiff, Nat.reduceBEq, Nat.reduceBNe, reduceIte, Int.reduceEq, Int.reduceLT, Int.reduceLE, Int.reduceNeg, Int.reduceToNat, Int.reduceMul, Int.reduceAdd, Int.reduceSub, Int.cast_ofNat_Int, reduceCtorEq, Nat.zero_add, Nat.add_zero, Nat.mul_one]) <;> rfl)
abbrev Vh (o : Nat) : List (K × Nat) := [(.hf, o), (.hf, o + 1), (.hf, o + 2)]
theorem jdV (h39 : F 39 = some ZH) (hw : Way F D) {p o k : Nat} {cs : List IVal} {σ : List IObj} {w : D.W} (hx : σ[D.x]? = some (D.ob w)) (hp : σ[p]? = some (.cells cs)) (hT : Ty (Vh o) cs) (hk : D.ok w (k + 3)) (hne : p ≠ D.x) :
   ∃ wr, cfw F (.f 39) [.iface D.ty D.rv, .ptr p o] σ = some ⟨false, .tup [], (σ.set D.x (D.ob (jB D (Vh o) w cs).1)).set p (.cells (jB D (Vh o) w cs).2), wr⟩ /\ Fl wr := by
 rw [jQ ZH h39, jq]
 have x1 : ext [.ptr p o, .ptr p (o + 1), .ptr p (o + 2)] = true := rfl
 simp only [ZH, x1, zV, zS, jy, jM, jc, jk, jR, jg, jl, je, jr, jO, jf, jj, jp, jK, ju, jq, Ts.fill, jS, jP, jh, jT, jo, jm, ji, ja, getAll, stepCall, jn, unI, Opd.get, jx, tag, jv, jb, jI, rv, bin, jW, Nat.reduceAdd, Nat.reduceSub, Nat.reduceMul, Nat.reduceDiv, Nat.reduceMod, Nat.reducePow, Nat.reduceLT, Nat.reduceLeDiff, Nat.reduceEqDiff, Nat.reduceBEq, Nat.reduceBNe, reduceIte, Int.reduceEq, Int.reduceLT, Int.reduceLE, Int.reduceNeg, Int.reduceToNat, Int.reduceMul, Int.reduceAdd, Int.reduceSub, reduceCtorEq]
 generalize hE : evw F (ICode.loop Ka) _ = R
 have l0 := jd hx
 have lp := jd hp
 have s0 : (σ.set D.x (D.ob w)).set p (.cells cs) ++ [] = σ := by rw [ko hx, ko hp, List.append_nil]
 rw [<- s0] at hE
 obtain ⟨f1, l', wr', rfl, hf⟩ := jgi hw l0 lp hne (os := [o, o + 1, o + 2]) (by simp) 3 0 k _ w cs [] _ R hE (by simp) hT hk (by rfl) (by (try simp only [upd_get, base_get, Nat.reduceAdd, Nat.reduceSub, Nat.reduceMul, Nat.reduceDiv, Nat.reduceMod, Nat.reducePow, Nat.reduceLT, Nat.reduceLeDiff, Nat.reduceEqDiff, Nat.reduceBEq, Nat.reduceBNe, reduceIte, Int.reduceEq, Int.reduceLT, Int.reduceLE, Int.reduceNeg, Int.reduceToNat, Int.reduceMul, Int.reduceAdd, Int.reduceSub, Int.cast_ofNat_Int, reduceCtorEq, Nat.zero_add, Nat.add_zero, Nat.mul_one]) <;> rfl) (by (try simp only [upd_get, base_get, Nat.reduceAdd, Nat.reduceSub, Nat.reduceMul, Nat.reduceDiv, Nat.reduceMod, Nat.reducePow, Nat.reduceLT, Nat.reduceLeDiff, Nat.reduceEqDiff, Nat.reduceBEq, Nat.reduceBNe, reduceIte, Int.reduceEq, Int.reduceLT, Int.reduceLE, Int.reduceNeg, Int.reduceToNat, Int.reduceMul, Int.reduceAdd, Int.reduceSub, Int.cast_ofNat_Int, reduceCtorEq, Nat.zero_add, Nat.add_zero, Nat.mul_one]) <;> rfl) (by (try simp only [upd_get, base_get, Nat.reduceAdd, Nat.reduceSub, Nat.reduceMul, Nat.reduceDiv, Nat.reduceMod, Nat.reducePow, Nat.reduceLT, Nat.reduceLeDiff, Nat.reduceEqDiff, Nat.reduceBEq, Nat.reduceBNe, reduceIte, Int.reduceEq, Int.reduceLT, Int.reduceLE, Int.reduceNeg, Int.reduceToNat, Int.reduceMul, Int.reduceAdd, Int.reduceSub, Int.cast_ofNat_Int, reduceCtorEq, Nat.zero_add, Nat.add_zero, Nat.mul_one]) <;> rfl) (by (try simp only [upd_get, base_get, Nat.reduceAdd, Nat.reduceSub, Nat.reduceMul, Nat.reduceDiv, Nat.reduceMod, Nat.reducePow, Nat.reduceLT, Nat.reduceLeDiff, Nat.reduceEqDiff, Nat.reduceBEq, Nat.reduceBNe, reduceIte, Int.reduceEq, Int.reduceLT, Int.reduceLE, Int.reduceNeg, Int.reduceToNat, Int.reduceMul, Int.reduceAdd, Int.reduceSub, Int.cast_ofNat_Int, reduceCtorEq, Nat.zero_add, Nat.add_zero, Nat.mul_one]) <;> rfl)
 have e1 : (([o, o + 1, o + 2].drop 0).map fun o => (K.hf, o)) = Vh o := rfl
 rw [e1]
 simp only [yG hf, qD, zV, zS, jy, jM, jc, jk, jR, jg, jl, je, jr, jO, jf, jj, jp, jK, ju, jq, Ts.fill, jS, jP, jh, jT, jo, jm, ji, ja, getAll, stepCall, jn, unI, Opd.get, jx, tag, jv, jb, jI, rv, bin, jW, Nat.reduceAdd, Nat.reduceSub, Nat.reduceMul, Nat.reduceDiv, Nat.reduceMod, Nat.reducePow, Nat.reduceLT, Nat.reduceLeDiff, Nat.reduceEqDiff, Nat.reduceBEq, Nat.reduceBNe, reduceIte, Int.reduceEq, Int.reduceLT, Int.reduceLE, Int.reduceNeg, Int.reduceToNat, Int.reduceMul, Int.reduceAdd, Int.reduceSub, reduceCtorEq]
 exact ⟨_, rfl, qU hf⟩
end Go.Idl.Sb
namespace Go.Idl.Sb
open Go Go.Idl Go.Idl.En
variable {F : jJ} {D : WayD}
abbrev wdL (i d : Nat) : List (K × Nat) := (List.range' i d).map fun i => (.wd, i)
theorem Q6 (i d : Nat) : wdL i (d + 1) = (.wd, i) :: wdL (i + 1) d := by rw [wdL, List.range'_succ]; rfl
theorem YP {i d : Nat} : ∀ q ∈ wdL i d, ∀ r ∈ wdL i d, q.2 = r.2 -> q.1 = r.1 := by
 intro q hq r hr _
 obtain ⟨a, _, rfl⟩ := List.mem_map.mp hq
 obtain ⟨b, _, rfl⟩ := List.mem_map.mp hr
 rfl
theorem jhf {σ : List IObj} {x p a : Nat} {u v : IObj} {c : IObj} (ha : σ[a]? = some c) (h1 : a ≠ x) (h2 : a ≠ p) : ((σ.set x u).set p v)[a]? = some c := get_set (get_set ha (Ne.symm h1)) (Ne.symm h2)
theorem jeA (h34 : F 34 = some QB) (hw : Way F D) {a o id n : Nat} {acs : List IVal} {σ : List IObj} (ha : σ[a]? = some (.cells acs)) (ho : acs[o]? = some (.rs 1 id 0 n)) (hx : D.x < σ.length) (hp : id < σ.length) (hne : id ≠ D.x) (ha1 : a ≠ D.x) (ha2 : a ≠ id) (hn : n < 10000) : ∀ (d i k : Nat) (f0 : Nat -> Option (Nat × IVal)) (w : D.W) (cs : List IVal) (wr : List (Nat × Bool)) (R : Option (IExit × St)),
   evw F (.loop vp) ⟨E 26 8 6 [] (base f0), (σ.set D.x (D.ob w)).set id (.cells cs), wr⟩ = R -> i + d = n -> Ty (wdL i d) cs -> D.ok w (k + d) -> Fl wr ->
   f0 0 = some (0, .iface D.ty D.rv) -> f0 1 = some (1, .ptr a o) -> f0 3 = some (3, .fn (.func 34) [] []) -> f0 24 = some (24, I n) -> f0 25 = some (25, I i) ->
   ∃ f1 wr', R = some (.exit 0, ⟨E 26 8 6 [] (base f1), (σ.set D.x (D.ob (jB D (wdL i d) w cs).1)).set id (.cells (jB D (wdL i d) w cs).2), wr'⟩) /\ Fl wr' := by
 intro d
 induction d with
 | zero =>
   intro i k f0 w cs wr R hE hi hT hk hf e0 e1 e3 e24 e25
   have l0 : decide ((i : Int) < (n : Int)) = false := decide_eq_false (by omega)
   rw [jH] at hE
   subst hE
   simp only [vp, e0, e1, e3, e24, e25, l0, zV, zS, jy, jM, jc, jk, jR, jg, jl, je, jr, jO, jf, jj, jp, jK, ju, jq, Ts.fill, jS, jP, jh, jT, jo, jm, ji, ja, getAll, stepCall, jn, unI, Opd.get, jx, tag, jv, jb, jI, rv, bin, jW, Nat.reduceAdd, Nat.reduceSub, Nat.reduceMul, Nat.reduceDiv, Nat.reduceMod, Nat.reducePow, Nat.reduceLT, Nat.reduceLeDiff, Nat.reduceEqDiff, Nat.reduceBEq, Nat.reduceBNe, reduceIte, Int.reduceEq, Int.reduceLT, Int.reduceLE, Int.reduceNeg, Int.reduceToNat, Int.reduceMul, Int.reduceAdd, Int.reduceSub, reduceCtorEq]
   exact ⟨_, _, rfl, hf⟩
 | succ d ih =>
   intro i k f0 w cs wr R hE hi hT hk hf e0 e1 e3 e24 e25
   have l0 : decide ((i : Int) < (n : Int)) = true := decide_eq_true (by omega)
   have l1 : (i : Int) < (n : Int) := by omega
   have q0 : ((i : Int) == (n : Int)) = false := by simp; omega
   have d1 : (0 : Int) <= (i : Int) := by omega
   have w1 := yz (n := i) (by omega)
   rw [Q6] at hT
   obtain ⟨v, hv, hvt⟩ := hT (.wd, i) List.mem_cons_self
   simp only [] at hv hvt
   obtain ⟨y1, y2⟩ := Xr (a := D.ob w) (b := .cells cs) hx hp hne
   have y3 := jhf (u := D.ob w) (v := .cells cs) ha ha1 ha2
   obtain ⟨wr1, u0, hw1⟩ := YR (k := k + d) h34 hw y1 y2 hv hvt hk hne
   rw [jdD hne] at u0
   rw [jH] at hE
   simp only [vp, jG, e0, e1, e3, e24, e25, l0, l1, q0, d1, w1, y3, ho, u0, Int.toNat_natCast, zV, zS, jy, jM, jc, jk, jR, jg, jl, je, jr, jO, jf, jj, jp, jK, ju, jq, Ts.fill, jS, jP, jh, jT, jo, jm, ji, ja, getAll, stepCall, jn, unI, Opd.get, jx, tag, jv, jb, jI, rv, bin, jW, Nat.reduceAdd, Nat.reduceSub, Nat.reduceMul, Nat.reduceDiv, Nat.reduceMod, Nat.reducePow, Nat.reduceLT, Nat.reduceLeDiff, Nat.reduceEqDiff, Nat.reduceBEq, Nat.reduceBNe, reduceIte, Int.reduceEq, Int.reduceLT, Int.reduceLE, Int.reduceNeg, Int.reduceToNat, Int.reduceMul, Int.reduceAdd, Int.reduceSub, reduceCtorEq] at hE
   rw [Q6, jB, jF hv]
   have T2 : Ty (wdL (i + 1) d) (cs.set i (kg D .wd w v).2) := by
     refine vB (k := .wd) (fun q hq => hT q (List.mem_cons_of_mem _ hq)) (zd hw hvt) ?_
     intro q hq _
     obtain ⟨a, _, rfl⟩ := List.mem_map.mp hq
     rfl
   exact ih (i + 1) k _ _ _ _ R hE (by omega) T2 (Je hw hvt hk) (by rw [Fl] at hf hw1 ⊢; simp only [List.all_append, hf, hw1]; rfl) (by (try simp only [upd_get, base_get, Nat.reduceAdd, Nat.reduceSub, Nat.reduceMul, Nat.reduceDiv, Nat.reduceMod, Nat.reducePow, Nat.reduceLT, Nat.reduceLeDiff, Nat.reduceEqDiff, Nat.reduceBEq, Nat.reduceBNe, reduceIte, Int.reduceEq, Int.reduceLT, Int.reduceLE, Int.reduceNeg, Int.reduceToNat, Int.reduceMul, Int.reduceAdd, Int.reduceSub, Int.cast_ofNat_Int, reduceCtorEq, Nat.zero_add, Nat.add_zero, Nat.mul_one]) <;> first | exact e0 | rfl) (by (try simp only [upd_get, base_get, Nat.reduceAdd, Nat.reduceSub, Nat.reduceMul, Nat.reduceDiv, Nat.reduceMod, Nat.reducePow, Nat.reduceLT, Nat.reduceLeDiff, Nat.reduceEqDiff, Nat.reduceBEq, Nat.reduceBNe, reduceIte, Int.reduceEq, Int.reduceLT, Int.reduceLE, Int.reduceNeg, Int.reduceToNat, Int.reduceMul, Int.reduceAdd, Int.reduceSub, Int.cast_ofNat_Int, reduceCtorEq, Nat.zero_add, Nat.add_zero, Nat.mul_one]) <;> first | exact e1 | rfl) (by (try simp only [upd_get, base_get, Nat.reduceAdd, Nat.reduceSub, Nat.reduceMul, Nat.reduceDiv, Nat.reduceMod, Nat.reducePow, Nat.reduceLT, Nat.reduceLeDiff, Nat.reduceEqDiff, Nat.reduceBEq, Nat.reduceBNe, reduceIte, Int.reduceEq, Int.reduceLT, Int.reduceLE, Int.reduceNeg, Int.reduceToNat, Int.reduceMul, Int.reduceAdd, Int.reduceSub, Int.cast_ofNat_Int, reduceCtorEq, Nat.zero_add, Nat.add_zero, Nat.mul_one]) <;> first | exact e3 | rfl) (by (try simp only [upd_get, base_get, Nat.reduceAdd, Nat.reduceSub, Nat.reduceMul, Nat.reduceDiv, Nat.reduceMod, Nat.reducePow, Nat.reduceLT, Nat.reduceLeDiff, Nat.reduceEqDiff, Nat.reduceBEq, Nat.reduceBNe, reduceIte, Int.reduceEq, Int.reduceLT, Int.reduceLE, Int.reduceNeg, Int.reduceToNat, Int.reduceMul, Int.reduceAdd, Int.reduceSub, Int.cast_ofNat_Int, reduceCtorEq, Nat.zero_add, Nat.add_zero, Nat.mul_one]) <;> first | exact e24 | rfl) (by (try simp only [upd_get, base_get, Nat.reduceAdd, Nat.reduceSub, Nat.reduceMul, Nat.reduceDiv, Nat.reduceMod, Nat.reducePow, Nat.reduceLT, Nat.reduceLeDiff, Nat.reduceEqDiff, Nat.reduceBEq, Nat.reduceBNe, reduceIte, Int.reduceEq, Int.reduceLT, Int.reduceLE, Int.reduceNeg, Int.reduceToNat, Int.reduceMul, Int.reduceAdd, Int.reduceSub, Int.cast_ofNat_Int, reduceCtorEq, Nat.zero_add, Nat.add_zero, Nat.mul_one]) <;> rfl)
/-- A list of words that there is: the number, then each. -/
theorem jex (h35 : F 35 = some Xt) (h34 : F 34 = some QB) (hw : Way F D) {a o id n most k : Nat} {acs cs : List IVal} {σ : List IObj} {w : D.W} (hx : σ[D.x]? = some (D.ob w)) (ha : σ[a]? = some (.cells acs)) (ho : acs[o]? = some (.rs 1 id 0 n)) (hid : σ[id]? = some (.cells cs)) (hne : id ≠ D.x) (ha1 : a ≠ D.x) (ha2 : a ≠ id) (hn : n < 10000) (hm : n <= most) (hm2 : most < 10000) (hT : Ty (wdL 0 n) cs) (hk : D.ok w (k + n + 1)) (hnum : (D.number w n most).2 = n) :
   ∃ wr, cfw F (.f 35) [.iface D.ty D.rv, .ptr a o, I most, .fn (.func 34) [] []] σ = some ⟨false, .tup [], (σ.set D.x (D.ob (jB D (wdL 0 n) (D.number w n most).1 cs).1)).set id (.cells (jB D (wdL 0 n) (D.number w n most).1 cs).2), wr⟩ /\ Fl wr := by
 rw [jQ Xt h35, jq]
 have l0 := jd hx
 have lp := jd hid
 have w1 : IntKind.u64.wrap (n : Int) = (n : Int) := kN (by omega) (by omega)
 have w2 : IntKind.u64.wrap (most : Int) = (most : Int) := kN (by omega) (by omega)
 have w3 : IntKind.i64.wrap (n : Int) = (n : Int) := qW (by omega) (by omega)
 obtain ⟨wr1, u0, hw1⟩ := hw.number (σ := σ ++ [.cells [Q n]]) (p := σ.length) (o := 0) (cs := [Q n]) (most := most) (k := k + n) (jL hx _) get_app0 rfl hk (by omega)
 rw [hnum] at u0
 have hok := hw.ok_number (n := n) (most := most) hk
 generalize hr : (D.number w n most).1 = wy at *
 have u1 : ((σ ++ [IObj.cells [Q n]]).set D.x (D.ob wy)).set σ.length (.cells ([Q n].set 0 (Q n))) = σ.set D.x (D.ob wy) ++ [.cells [Q n]] := by
   rw [kC l0]
   have := set_app0 (σ := σ.set D.x (D.ob wy)) (l := [IObj.cells [Q n]]) (.cells [Q n])
   rw [List.length_set] at this; exact this
 rw [u1] at u0
 have g2 : (σ.set D.x (D.ob wy) ++ [IObj.cells [Q n]])[σ.length]? = some (.cells [Q n]) := by
   have := get_app0 (σ := σ.set D.x (D.ob wy)) (l := [IObj.cells [Q n]])
   rw [List.length_set] at this; exact this
 have t74 := hw.t74
 have mm : ((most : Int) < (n : Int)) = False := by rw [eq_iff_iff, iff_false]; omega
 simp only [Xt, jG, ha, ho, w1, w2, w3, t74, u0, g2, mm, zk, jL ha, zV, zS, jy, jM, jc, jk, jR, jg, jl, je, jr, jO, jf, jj, jp, jK, ju, jq, Ts.fill, jS, jP, jh, jT, jo, jm, ji, ja, getAll, stepCall, jn, unI, Opd.get, jx, tag, jv, jb, jI, rv, bin, jW, Nat.reduceAdd, Nat.reduceSub, Nat.reduceMul, Nat.reduceDiv, Nat.reduceMod, Nat.reducePow, Nat.reduceLT, Nat.reduceLeDiff, Nat.reduceEqDiff, Nat.reduceBEq, Nat.reduceBNe, reduceIte, Int.reduceEq, Int.reduceLT, Int.reduceLE, Int.reduceNeg, Int.reduceToNat, Int.reduceMul, Int.reduceAdd, Int.reduceSub, reduceCtorEq]
 generalize hE : evw F (ICode.loop vp) _ = R
 have base0 : σ.set D.x (D.ob wy) ++ [IObj.cells [Q n]] = ((σ ++ [IObj.cells [Q n]]).set D.x (D.ob wy)).set id (.cells cs) := by
   rw [jg3 l0 lp, ko (get_set hid (Ne.symm hne))]
 rw [base0] at hE
 have f1 : Fl (wr1 ++ [(σ.length, false)]) := by rw [Fl] at hw1 ⊢; rw [List.all_append, hw1]; rfl
 obtain ⟨f2, wr', rfl, hf⟩ := jeA h34 hw (jL ha _) ho (by simp; omega) (by simp; omega) hne ha1 ha2 hn n 0 k _ _ _ _ R hE (by omega) hT hok f1 (by (try simp only [upd_get, base_get, Nat.reduceAdd, Nat.reduceSub, Nat.reduceMul, Nat.reduceDiv, Nat.reduceMod, Nat.reducePow, Nat.reduceLT, Nat.reduceLeDiff, Nat.reduceEqDiff, Nat.reduceBEq, Nat.reduceBNe, reduceIte, Int.reduceEq, Int.reduceLT, Int.reduceLE, Int.reduceNeg, Int.reduceToNat, Int.reduceMul, Int.reduceAdd, Int.reduceSub, Int.cast_ofNat_Int, reduceCtorEq, Nat.zero_add, Nat.add_zero, Nat.mul_one]) <;> rfl) (by (try simp only [upd_get, base_get, Nat.reduceAdd, Nat.reduceSub, Nat.reduceMul, Nat.reduceDiv, Nat.reduceMod, Nat.reducePow, Nat.reduceLT, Nat.reduceLeDiff, Nat.reduceEqDiff, Nat.reduceBEq, Nat.reduceBNe, reduceIte, Int.reduceEq, Int.reduceLT, Int.reduceLE, Int.reduceNeg, Int.reduceToNat, Int.reduceMul, Int.reduceAdd, Int.reduceSub, Int.cast_ofNat_Int, reduceCtorEq, Nat.zero_add, Nat.add_zero, Nat.mul_one]) <;> rfl) (by (try simp only [upd_get, base_get, Nat.reduceAdd, Nat.reduceSub, Nat.reduceMul, Nat.reduceDiv, Nat.reduceMod, Nat.reducePow, Nat.reduceLT, Nat.reduceLeDiff, Nat.reduceEqDiff, Nat.reduceBEq, Nat.reduceBNe, reduceIte, Int.reduceEq, Int.reduceLT, Int.reduceLE, Int.reduceNeg, Int.reduceToNat, Int.reduceMul, Int.reduceAdd, Int.reduceSub, Int.cast_ofNat_Int, reduceCtorEq, Nat.zero_add, Nat.add_zero, Nat.mul_one]) <;> rfl) (by (try simp only [upd_get, base_get, Nat.reduceAdd, Nat.reduceSub, Nat.reduceMul, Nat.reduceDiv, Nat.reduceMod, Nat.reducePow, Nat.reduceLT, Nat.reduceLeDiff, Nat.reduceEqDiff, Nat.reduceBEq, Nat.reduceBNe, reduceIte, Int.reduceEq, Int.reduceLT, Int.reduceLE, Int.reduceNeg, Int.reduceToNat, Int.reduceMul, Int.reduceAdd, Int.reduceSub, Int.cast_ofNat_Int, reduceCtorEq, Nat.zero_add, Nat.add_zero, Nat.mul_one]) <;> rfl) (by (try simp only [upd_get, base_get, Nat.reduceAdd, Nat.reduceSub, Nat.reduceMul, Nat.reduceDiv, Nat.reduceMod, Nat.reducePow, Nat.reduceLT, Nat.reduceLeDiff, Nat.reduceEqDiff, Nat.reduceBEq, Nat.reduceBNe, reduceIte, Int.reduceEq, Int.reduceLT, Int.reduceLE, Int.reduceNeg, Int.reduceToNat, Int.reduceMul, Int.reduceAdd, Int.reduceSub, Int.cast_ofNat_Int, reduceCtorEq, Nat.zero_add, Nat.add_zero, Nat.mul_one]) <;> rfl)
 rw [jg3 l0 lp]
 simp only [yG hf, qD, zV, zS, jy, jM, jc, jk, jR, jg, jl, je, jr, jO, jf, jj, jp, jK, ju, jq, Ts.fill, jS, jP, jh, jT, jo, jm, ji, ja, getAll, stepCall, jn, unI, Opd.get, jx, tag, jv, jb, jI, rv, bin, jW, Nat.reduceAdd, Nat.reduceSub, Nat.reduceMul, Nat.reduceDiv, Nat.reduceMod, Nat.reducePow, Nat.reduceLT, Nat.reduceLeDiff, Nat.reduceEqDiff, Nat.reduceBEq, Nat.reduceBNe, reduceIte, Int.reduceEq, Int.reduceLT, Int.reduceLE, Int.reduceNeg, Int.reduceToNat, Int.reduceMul, Int.reduceAdd, Int.reduceSub, reduceCtorEq]
 exact ⟨_, rfl, qU hf⟩
end Go.Idl.Sb
namespace Go.Idl.Sb
open Go Go.Idl Go.Idl.En
variable {F : jJ} {D : WayD}
abbrev raL (i d : Nat) : List (K × Nat) := (List.range' i d).flatMap fun i => vf (i * 3)
theorem z7 (i d : Nat) : raL i (d + 1) = vf (i * 3) ++ raL (i + 1) d := by rw [raL, List.range'_succ]; rfl
def raK (o : Nat) : K := if o % 3 = 2 then .tr else .pl
theorem jcE {i d : Nat} : ∀ q ∈ raL i d, q.1 = raK q.2 := by
 intro q hq
 obtain ⟨a, _, h⟩ := List.mem_flatMap.mp hq
 simp at h
 rcases h with rfl | rfl | rfl
 . rw [raK, if_neg (by simp only []; omega)]
 . rw [raK, if_neg (by simp only []; omega)]
 . rw [raK, if_pos (by simp only []; omega)]
theorem Km {i : Nat} : ∀ q ∈ vf (i * 3), q.1 = raK q.2 := by
 intro q hq
 exact jcE (i := i) (d := 1) q (by rw [z7]; exact List.mem_append_left _ hq)
theorem Kx {f : Nat -> K} {L l : List (K × Nat)} (h : ∀ q ∈ L, q.1 = f q.2) (h2 : ∀ q ∈ l, q.1 = f q.2) : ∀ q ∈ L, ∀ r ∈ l, q.2 = r.2 -> q.1 = r.1 := by
 intro q hq r hr e; rw [h q hq, h2 r hr, e]
theorem jeC (h37 : F 37 = some Xv) (h33 : F 33 = some KS) (hw : Way F D) {a o id n : Nat} {acs : List IVal} {σ : List IObj} (ha : σ[a]? = some (.cells acs)) (ho : acs[o]? = some (.rs 3 id 0 n)) (hx : D.x < σ.length) (hp : id < σ.length) (hne : id ≠ D.x) (ha1 : a ≠ D.x) (ha2 : a ≠ id) (hn : n < 10000) : ∀ (d i k : Nat) (f0 : Nat -> Option (Nat × IVal)) (w : D.W) (cs : List IVal) (wr : List (Nat × Bool)) (R : Option (IExit × St)),
   evw F (.loop vq) ⟨E 26 8 6 [] (base f0), (σ.set D.x (D.ob w)).set id (.cells cs), wr⟩ = R -> i + d = n -> Ty (raL i d) cs -> D.ok w (k + 3 * d) -> Fl wr ->
   f0 0 = some (0, .iface D.ty D.rv) -> f0 1 = some (1, .ptr a o) -> f0 3 = some (3, .fn (.func 37) [] []) -> f0 24 = some (24, I n) -> f0 25 = some (25, I i) ->
   ∃ f1 wr', R = some (.exit 0, ⟨E 26 8 6 [] (base f1), (σ.set D.x (D.ob (jB D (raL i d) w cs).1)).set id (.cells (jB D (raL i d) w cs).2), wr'⟩) /\ Fl wr' := by
 intro d
 induction d with
 | zero =>
   intro i k f0 w cs wr R hE hi hT hk hf e0 e1 e3 e24 e25
   have l0 : decide ((i : Int) < (n : Int)) = false := decide_eq_false (by omega)
   rw [jH] at hE
   subst hE
   simp only [vq, e0, e1, e3, e24, e25, l0, zV, zS, jy, jM, jc, jk, jR, jg, jl, je, jr, jO, jf, jj, jp, jK, ju, jq, Ts.fill, jS, jP, jh, jT, jo, jm, ji, ja, getAll, stepCall, jn, unI, Opd.get, jx, tag, jv, jb, jI, rv, bin, jW, Nat.reduceAdd, Nat.reduceSub, Nat.reduceMul, Nat.reduceDiv, Nat.reduceMod, Nat.reducePow, Nat.reduceLT, Nat.reduceLeDiff, Nat.reduceEqDiff, Nat.reduceBEq, Nat.reduceBNe, reduceIte, Int.reduceEq, Int.reduceLT, Int.reduceLE, Int.reduceNeg, Int.reduceToNat, Int.reduceMul, Int.reduceAdd, Int.reduceSub, reduceCtorEq]
   exact ⟨_, _, rfl, hf⟩
 | succ d ih =>
   intro i k f0 w cs wr R hE hi hT hk hf e0 e1 e3 e24 e25
   have l0 : decide ((i : Int) < (n : Int)) = true := decide_eq_true (by omega)
   have l1 : (i : Int) < (n : Int) := by omega
   have q0 : ((i : Int) == (n : Int)) = false := by simp; omega
   have d1 : (0 : Int) <= (i : Int) := by omega
   have w1 := yz (n := i) (by omega)
   rw [z7] at hT
   have T1 : Ty (vf (i * 3)) cs := jU hT (fun q hq => List.mem_append_left _ hq)
   have T0 : Ty (raL (i + 1) d) cs := jU hT (fun q hq => List.mem_append_right _ hq)
   obtain ⟨y1, y2⟩ := Xr (a := D.ob w) (b := .cells cs) hx hp hne
   have y3 := jhf (u := D.ob w) (v := .cells cs) ha ha1 ha2
   have ek : k + 3 * (d + 1) = k + 3 * d + 3 := by omega
   rw [ek] at hk
   obtain ⟨wr1, u0, hw1⟩ := jgE (k := k + 3 * d) h37 h33 hw y1 y2 T1 hk hne
   rw [jdD hne] at u0
   rw [jH] at hE
   simp only [vq, jG, e0, e1, e3, e24, e25, l0, l1, q0, d1, w1, y3, ho, u0, Int.toNat_natCast, zV, zS, jy, jM, jc, jk, jR, jg, jl, je, jr, jO, jf, jj, jp, jK, ju, jq, Ts.fill, jS, jP, jh, jT, jo, jm, ji, ja, getAll, stepCall, jn, unI, Opd.get, jx, tag, jv, jb, jI, rv, bin, jW, Nat.reduceAdd, Nat.reduceSub, Nat.reduceMul, Nat.reduceDiv, Nat.reduceMod, Nat.reducePow, Nat.reduceLT, Nat.reduceLeDiff, Nat.reduceEqDiff, Nat.reduceBEq, Nat.reduceBNe, reduceIte, Int.reduceEq, Int.reduceLT, Int.reduceLE, Int.reduceNeg, Int.reduceToNat, Int.reduceMul, Int.reduceAdd, Int.reduceSub, reduceCtorEq] at hE
   rw [z7, kP]
   have T2 : Ty (raL (i + 1) d) (jB D (vf (i * 3)) w cs).2 := qw hw _ _ _ T0 T1 (Kx jcE Km) (Kx Km Km)
   exact ih (i + 1) k _ _ _ _ R hE (by omega) T2 (kX hw _ _ _ (k + 3 * d) T1 (Kx Km Km) hk) (by rw [Fl] at hf hw1 ⊢; simp only [List.all_append, hf, hw1]; rfl) (by (try simp only [upd_get, base_get, Nat.reduceAdd, Nat.reduceSub, Nat.reduceMul, Nat.reduceDiv, Nat.reduceMod, Nat.reducePow, Nat.reduceLT, Nat.reduceLeDiff, Nat.reduceEqDiff, Nat.reduceBEq, Nat.reduceBNe, reduceIte, Int.reduceEq, Int.reduceLT, Int.reduceLE, Int.reduceNeg, Int.reduceToNat, Int.reduceMul, Int.reduceAdd, Int.reduceSub, Int.cast_ofNat_Int, reduceCtorEq, Nat.zero_add, Nat.add_zero, Nat.mul_one]) <;> first | exact e0 | rfl) (by (try simp only [upd_get, base_get, Nat.reduceAdd, Nat.reduceSub, Nat.reduceMul, Nat.reduceDiv, Nat.reduceMod, Nat.reducePow, Nat.reduceLT, Nat.reduceLeDiff, Nat.reduceEqDiff, Nat.reduceBEq, Nat.reduceBNe, reduceIte, Int.reduceEq, Int.reduceLT, Int.reduceLE, Int.reduceNeg, Int.reduceToNat, Int.reduceMul, Int.reduceAdd, Int.reduceSub, Int.cast_ofNat_Int, reduceCtorEq, Nat.zero_add, Nat.add_zero, Nat.mul_one]) <;> first | exact e1 | rfl) (by (try simp only [upd_get, base_get, Nat.reduceAdd, Nat.reduceSub, Nat.reduceMul, Nat.reduceDiv, Nat.reduceMod, Nat.reducePow, Nat.reduceLT, Nat.reduceLeDiff, Nat.reduceEqDiff, Nat.reduceBEq, Nat.reduceBNe, reduceIte, Int.reduceEq, Int.reduceLT, Int.reduceLE, Int.reduceNeg, Int.reduceToNat, Int.reduceMul, Int.reduceAdd, Int.reduceSub, Int.cast_ofNat_Int, reduceCtorEq, Nat.zero_add, Nat.add_zero, Nat.mul_one]) <;> first | exact e3 | rfl) (by (try simp only [upd_get, base_get, Nat.reduceAdd, Nat.reduceSub, Nat.reduceMul, Nat.reduceDiv, Nat.reduceMod, Nat.reducePow, Nat.reduceLT, Nat.reduceLeDiff, Nat.reduceEqDiff, Nat.reduceBEq, Nat.reduceBNe, reduceIte, Int.reduceEq, Int.reduceLT, Int.reduceLE, Int.reduceNeg, Int.reduceToNat, Int.reduceMul, Int.reduceAdd, Int.reduceSub, Int.cast_ofNat_Int, reduceCtorEq, Nat.zero_add, Nat.add_zero, Nat.mul_one]) <;> first | exact e24 | rfl) (by (try simp only [upd_get, base_get, Nat.reduceAdd, Nat.reduceSub, Nat.reduceMul, Nat.reduceDiv, Nat.reduceMod, Nat.reducePow, Nat.reduceLT, Nat.reduceLeDiff, Nat.reduceEqDiff, Nat.reduceBEq, Nat.reduceBNe, reduceIte, Int.reduceEq, Int.reduceLT, Int.reduceLE, Int.reduceNeg, Int.reduceToNat, Int.reduceMul, Int.reduceAdd, Int.reduceSub, Int.cast_ofNat_Int, reduceCtorEq, Nat.zero_add, Nat.add_zero, Nat.mul_one]) <;> rfl)
/-- A list of handlers that there is: the number, then each. -/
theorem jey (h36 : F 36 = some Xu) (h37 : F 37 = some Xv) (h33 : F 33 = some KS) (hw : Way F D) {a o id n most k : Nat} {acs cs : List IVal} {σ : List IObj} {w : D.W} (hx : σ[D.x]? = some (D.ob w)) (ha : σ[a]? = some (.cells acs)) (ho : acs[o]? = some (.rs 3 id 0 n)) (hid : σ[id]? = some (.cells cs)) (hne : id ≠ D.x) (ha1 : a ≠ D.x) (ha2 : a ≠ id) (hn : n < 10000) (hm : n <= most) (hm2 : most < 10000) (hT : Ty (raL 0 n) cs) (hk : D.ok w (k + 3 * n + 1)) (hnum : (D.number w n most).2 = n) :
   ∃ wr, cfw F (.f 36) [.iface D.ty D.rv, .ptr a o, I most, .fn (.func 37) [] []] σ = some ⟨false, .tup [], (σ.set D.x (D.ob (jB D (raL 0 n) (D.number w n most).1 cs).1)).set id (.cells (jB D (raL 0 n) (D.number w n most).1 cs).2), wr⟩ /\ Fl wr := by
 rw [jQ Xu h36, jq]
 have l0 := jd hx
 have lp := jd hid
 have w1 : IntKind.u64.wrap (n : Int) = (n : Int) := kN (by omega) (by omega)
 have w2 : IntKind.u64.wrap (most : Int) = (most : Int) := kN (by omega) (by omega)
 have w3 : IntKind.i64.wrap (n : Int) = (n : Int) := qW (by omega) (by omega)
 obtain ⟨wr1, u0, hw1⟩ := hw.number (σ := σ ++ [.cells [Q n]]) (p := σ.length) (o := 0) (cs := [Q n]) (most := most) (k := k + 3 * n) (jL hx _) get_app0 rfl hk (by omega)
 rw [hnum] at u0
 have hok := hw.ok_number (n := n) (most := most) hk
 generalize hr : (D.number w n most).1 = wy at *
 have u1 : ((σ ++ [IObj.cells [Q n]]).set D.x (D.ob wy)).set σ.length (.cells ([Q n].set 0 (Q n))) = σ.set D.x (D.ob wy) ++ [.cells [Q n]] := by
   rw [kC l0]
   have := set_app0 (σ := σ.set D.x (D.ob wy)) (l := [IObj.cells [Q n]]) (.cells [Q n])
   rw [List.length_set] at this; exact this
 rw [u1] at u0
 have g2 : (σ.set D.x (D.ob wy) ++ [IObj.cells [Q n]])[σ.length]? = some (.cells [Q n]) := by
   have := get_app0 (σ := σ.set D.x (D.ob wy)) (l := [IObj.cells [Q n]])
   rw [List.length_set] at this; exact this
 have t74 := hw.t74
 have mm : ((most : Int) < (n : Int)) = False := by rw [eq_iff_iff, iff_false]; omega
 simp only [Xu, jG, ha, ho, w1, w2, w3, t74, u0, g2, mm, zk, jL ha, zV, zS, jy, jM, jc, jk, jR, jg, jl, je, jr, jO, jf, jj, jp, jK, ju, jq, Ts.fill, jS, jP, jh, jT, jo, jm, ji, ja, getAll, stepCall, jn, unI, Opd.get, jx, tag, jv, jb, jI, rv, bin, jW, Nat.reduceAdd, Nat.reduceSub, Nat.reduceMul, Nat.reduceDiv, Nat.reduceMod, Nat.reducePow, Nat.reduceLT, Nat.reduceLeDiff, Nat.reduceEqDiff, Nat.reduceBEq, Nat.reduceBNe, reduceIte, Int.reduceEq, Int.reduceLT, Int.reduceLE, Int.reduceNeg, Int.reduceToNat, Int.reduceMul, Int.reduceAdd, Int.reduceSub, reduceCtorEq]
 generalize hE : evw F (ICode.loop vq) _ = R
 have base0 : σ.set D.x (D.ob wy) ++ [IObj.cells [Q n]] = ((σ ++ [IObj.cells [Q n]]).set D.x (D.ob wy)).set id (.cells cs) := by
   rw [jg3 l0 lp, ko (get_set hid (Ne.symm hne))]
 rw [base0] at hE
 have f1 : Fl (wr1 ++ [(σ.length, false)]) := by rw [Fl] at hw1 ⊢; rw [List.all_append, hw1]; rfl
 obtain ⟨f2, wr', rfl, hf⟩ := jeC h37 h33 hw (jL ha _) ho (by simp; omega) (by simp; omega) hne ha1 ha2 hn n 0 k _ _ _ _ R hE (by omega) hT hok f1 (by (try simp only [upd_get, base_get, Nat.reduceAdd, Nat.reduceSub, Nat.reduceMul, Nat.reduceDiv, Nat.reduceMod, Nat.reducePow, Nat.reduceLT, Nat.reduceLeDiff, Nat.reduceEqDiff, Nat.reduceBEq, Nat.reduceBNe, reduceIte, Int.reduceEq, Int.reduceLT, Int.reduceLE, Int.reduceNeg, Int.reduceToNat, Int.reduceMul, Int.reduceAdd, Int.reduceSub, Int.cast_ofNat_Int, reduceCtorEq, Nat.zero_add, Nat.add_zero, Nat.mul_one]) <;> rfl) (by (try simp only [upd_get, base_get, Nat.reduceAdd, Nat.reduceSub, Nat.reduceMul, Nat.reduceDiv, Nat.reduceMod, Nat.reducePow, Nat.reduceLT, Nat.reduceLeDiff, Nat.reduceEqDiff, Nat.reduceBEq, Nat.reduceBNe, reduceIte, Int.reduceEq, Int.reduceLT, Int.reduceLE, Int.reduceNeg, Int.reduceToNat, Int.reduceMul, Int.reduceAdd, Int.reduceSub, Int.cast_ofNat_Int, reduceCtorEq, Nat.zero_add, Nat.add_zero, Nat.mul_one]) <;> rfl) (by (try simp only [upd_get, base_get, Nat.reduceAdd, Nat.reduceSub, Nat.reduceMul, Nat.reduceDiv, Nat.reduceMod, Nat.reducePow, Nat.reduceLT, Nat.reduceLeDiff, Nat.reduceEqDiff, Nat.reduceBEq, Nat.reduceBNe, reduceIte, Int.reduceEq, Int.reduceLT, Int.reduceLE, Int.reduceNeg, Int.reduceToNat, Int.reduceMul, Int.reduceAdd, Int.reduceSub, Int.cast_ofNat_Int, reduceCtorEq, Nat.zero_add, Nat.add_zero, Nat.mul_one]) <;> rfl) (by (try simp only [upd_get, base_get, Nat.reduceAdd, Nat.reduceSub, Nat.reduceMul, Nat.reduceDiv, Nat.reduceMod, Nat.reducePow, Nat.reduceLT, Nat.reduceLeDiff, Nat.reduceEqDiff, Nat.reduceBEq, Nat.reduceBNe, reduceIte, Int.reduceEq, Int.reduceLT, Int.reduceLE, Int.reduceNeg, Int.reduceToNat, Int.reduceMul, Int.reduceAdd, Int.reduceSub, Int.cast_ofNat_Int, reduceCtorEq, Nat.zero_add, Nat.add_zero, Nat.mul_one]) <;> rfl) (by (try simp only [upd_get, base_get, Nat.reduceAdd, Nat.reduceSub, Nat.reduceMul, Nat.reduceDiv, Nat.reduceMod, Nat.reducePow, Nat.reduceLT, Nat.reduceLeDiff, Nat.reduceEqDiff, Nat.reduceBEq, Nat.reduceBNe, reduceIte, Int.reduceEq, Int.reduceLT, Int.reduceLE, Int.reduceNeg, Int.reduceToNat, Int.reduceMul, Int.reduceAdd, Int.reduceSub, Int.cast_ofNat_Int, reduceCtorEq, Nat.zero_add, Nat.add_zero, Nat.mul_one]) <;> rfl)
 rw [jg3 l0 lp]
 simp only [yG hf, qD, zV, zS, jy, jM, jc, jk, jR, jg, jl, je, jr, jO, jf, jj, jp, jK, ju, jq, Ts.fill, jS, jP, jh, jT, jo, jm, ji, ja, getAll, stepCall, jn, unI, Opd.get, jx, tag, jv, jb, jI, rv, bin, jW, Nat.reduceAdd, Nat.reduceSub, Nat.reduceMul, Nat.reduceDiv, Nat.reduceMod, Nat.reducePow, Nat.reduceLT, Nat.reduceLeDiff, Nat.reduceEqDiff, Nat.reduceBEq, Nat.reduceBNe, reduceIte, Int.reduceEq, Int.reduceLT, Int.reduceLE, Int.reduceNeg, Int.reduceToNat, Int.reduceMul, Int.reduceAdd, Int.reduceSub, reduceCtorEq]
 exact ⟨_, rfl, qU hf⟩
end Go.Idl.Sb
namespace Go.Idl.Sb
open Go Go.Idl Go.Idl.En
variable {F : jJ} {D : WayD}
/-- References were written into that object alone. -/
abbrev Fa (a : Nat) (wr : List (Nat × Bool)) : Prop := wr.all (fun q => !q.2 || q.1 == a) = true
theorem vJ {a : Nat} {wr : List (Nat × Bool)} (h : Fl wr) : Fa a wr := by
 rw [Fl, List.all_eq_true] at h
 rw [Fa, List.all_eq_true]
 intro q hq; have := h q hq; simp at this; simp [this]
theorem qT {a : Nat} {f : Nat × Bool -> Bool} {wr : List (Nat × Bool)} (h : Fa a wr) : Fa a (wr.filter f) := by
 rw [Fa, List.all_eq_true] at h ⊢
 intro q hq; exact h q (List.mem_filter.mp hq).1
/-- What the list's cell bears: nothing, or so many elements of the store. -/
def LV (e : Nat) (σ : List IObj) (k : Nat) (lv : IVal) (i : Nat) (ys : List IVal) (σc : List IObj) : Prop :=
 (i = 0 /\ ys = [] /\ ∃ e', lv = .sl e' true []) \/ (0 < i /\ ∃ id, lv = .rs e id 0 i /\ σ.length <= id /\ σc[id]? = some (.cells ys) /\ ys.length = i * k)
/-- Words that are read into a list that grows. -/
def kT (D : WayD) : Nat -> D.W -> List IVal -> D.W × List IVal
 | 0, w, ys => (w, ys)
 | k + 1, w, ys => kT D k (kg D .wd w (J 0)).1 (ys ++ [(kg D .wd w (J 0)).2])
theorem J0 : K.wd.ty (J 0) := ⟨0, rfl, by decide, by decide⟩
theorem jhr {σ : List IObj} {x a : Nat} {u u' v : IObj} (hne : a ≠ x) : ((σ.set x u).set a v).set x u' = (σ.set x u').set a v := by
 rw [List.set_comm _ _ hne, List.set_set]
theorem jez (h34 : F 34 = some QB) (hw : Way F D) {a o n : Nat} {acs : List IVal} {σ : List IObj} (ha : a < σ.length) (ho : o + 1 <= acs.length) (hx : D.x < σ.length) (ha1 : a ≠ D.x) (hn : n < 10000) : ∀ (d i k : Nat) (f0 : Nat -> Option (Nat × IVal)) (w : D.W) (lv : IVal) (ys : List IVal) (l : List IObj) (wr : List (Nat × Bool)) (R : Option (IExit × St)),
   evw F (.loop vp) ⟨E 26 8 6 [] (base f0), (σ.set D.x (D.ob w)).set a (.cells (acs.set o lv)) ++ l, wr⟩ = R -> i + d = n -> LV 1 σ 1 lv i ys ((σ.set D.x (D.ob w)).set a (.cells (acs.set o lv)) ++ l) -> D.ok w (k + d) -> Fa a wr -> (0 < i -> (a, true) ∈ wr) ->
   f0 0 = some (0, .iface D.ty D.rv) -> f0 1 = some (1, .ptr a o) -> f0 3 = some (3, .fn (.func 34) [] []) -> f0 24 = some (24, I n) -> f0 25 = some (25, I i) ->
   ∃ f1 lv' l' wr', R = some (.exit 0, ⟨E 26 8 6 [] (base f1), (σ.set D.x (D.ob (kT D d w ys).1)).set a (.cells (acs.set o lv')) ++ l', wr'⟩) /\ Fa a wr' /\ (0 < n -> (a, true) ∈ wr') /\ LV 1 σ 1 lv' n (kT D d w ys).2 ((σ.set D.x (D.ob (kT D d w ys).1)).set a (.cells (acs.set o lv')) ++ l') := by
 intro d
 induction d with
 | zero =>
   intro i k f0 w lv ys l wr R hE hi hL hk hf hm e0 e1 e3 e24 e25
   have l0 : decide ((i : Int) < (n : Int)) = false := decide_eq_false (by omega)
   have hin : i = n := by omega
   subst hin
   rw [jH] at hE
   subst hE
   simp only [vp, e0, e1, e3, e24, e25, l0, zV, zS, jy, jM, jc, jk, jR, jg, jl, je, jr, jO, jf, jj, jp, jK, ju, jq, Ts.fill, jS, jP, jh, jT, jo, jm, ji, ja, getAll, stepCall, jn, unI, Opd.get, jx, tag, jv, jb, jI, rv, bin, jW, Nat.reduceAdd, Nat.reduceSub, Nat.reduceMul, Nat.reduceDiv, Nat.reduceMod, Nat.reducePow, Nat.reduceLT, Nat.reduceLeDiff, Nat.reduceEqDiff, Nat.reduceBEq, Nat.reduceBNe, reduceIte, Int.reduceEq, Int.reduceLT, Int.reduceLE, Int.reduceNeg, Int.reduceToNat, Int.reduceMul, Int.reduceAdd, Int.reduceSub, reduceCtorEq]
   exact ⟨_, lv, l, _, rfl, hf, hm, hL⟩
 | succ d ih =>
   intro i k f0 w lv ys l wr R hE hi hL hk hf hm e0 e1 e3 e24 e25
   have l0 : decide ((i : Int) < (n : Int)) = true := decide_eq_true (by omega)
   have l1 : (i : Int) < ((i + 1 : Nat) : Int) := by omega
   have q0 : ((i : Int) == (i : Int)) = true := by simp
   have d1 : (0 : Int) <= (i : Int) := by omega
   have w1 := yz (n := i) (by omega)
   generalize hB : (σ.set D.x (D.ob w)).set a (.cells (acs.set o lv)) = B0 at *
   have lB : B0.length = σ.length := by rw [<- hB]; simp
   have y1 : B0[D.x]? = some (D.ob w) := by rw [<- hB]; exact (Xr hx ha ha1).1
   have y2 : B0[a]? = some (.cells (acs.set o lv)) := by rw [<- hB]; exact (Xr hx ha ha1).2
   have ho2 : o + 1 <= (acs.set o lv).length := by simpa using ho
   have g0 : ∀ v, (acs.set o v)[o]? = some v := fun v => by rw [List.getElem?_set_self ho]
   have stp : ∀ (lv2 : IVal) (l2 : List IObj), l2.length = l.length -> ys.length = i -> ∃ wr1, cfw F (.f 34) [.iface D.ty D.rv, .ptr (B0.length + l.length) i] (B0.set a (.cells (acs.set o lv2)) ++ (l2 ++ [IObj.cells (ys ++ [J 0])])) = some ⟨false, .tup [], (σ.set D.x (D.ob (kg D .wd w (J 0)).1)).set a (.cells (acs.set o lv2)) ++ (l2 ++ [.cells (ys ++ [(kg D .wd w (J 0)).2])]), wr1⟩ /\ Fl wr1 := by
     intro lv2 l2 hl2 hy
     have z1 : (B0.set a (.cells (acs.set o lv2)) ++ (l2 ++ [IObj.cells (ys ++ [J 0])]))[D.x]? = some (D.ob w) := jL (get_set y1 ha1) _
     have z2 : (B0.set a (.cells (acs.set o lv2)) ++ (l2 ++ [IObj.cells (ys ++ [J 0])]))[B0.length + l.length]? = some (.cells (ys ++ [J 0])) := by
       rw [List.getElem?_append_right (by simp)]
       simp only [List.length_set, Nat.add_sub_cancel_left]
       rw [List.getElem?_append_right (by omega), hl2, Nat.sub_self]; rfl
     have z3 : (ys ++ [J 0])[i]? = some (J 0) := by rw [List.getElem?_append_right (by omega), hy, Nat.sub_self]; rfl
     obtain ⟨wr1, u0, hw1⟩ := YR (k := k + d) h34 hw z1 z2 z3 J0 hk (by omega)
     refine ⟨wr1, ?_, hw1⟩
     rw [u0]
     have s1 : ((B0.set a (.cells (acs.set o lv2)) ++ (l2 ++ [IObj.cells (ys ++ [J 0])])).set D.x (D.ob (kg D .wd w (J 0)).1)).set (B0.length + l.length) (.cells ((ys ++ [J 0]).set i (kg D .wd w (J 0)).2)) = (σ.set D.x (D.ob (kg D .wd w (J 0)).1)).set a (.cells (acs.set o lv2)) ++ (l2 ++ [.cells (ys ++ [(kg D .wd w (J 0)).2])]) := by
       rw [kC (by simp; omega), List.set_append_right _ _ (by simp)]
       simp only [List.length_set, Nat.add_sub_cancel_left]
       rw [List.set_append_right _ _ (by omega), hl2, Nat.sub_self, List.set_append_right _ _ (by omega), hy, Nat.sub_self]
       congr 1
       rw [<- hB, List.set_set, jhr ha1]
     rw [s1]
   have okk := Je hw J0 hk
   have cons := fun (R' : Option (IExit × St)) (f0' : Nat -> Option (Nat × IVal)) (id : Nat) (l2 : List IObj) (wr' : List (Nat × Bool)) (hid : id = B0.length + l.length) (hl2 : l2.length = l.length) (hy : ys.length = i) (hE' : evw F (.loop vp) ⟨E 26 8 6 [] (base f0'), (σ.set D.x (D.ob (kg D .wd w (J 0)).1)).set a (.cells (acs.set o (.rs 1 id 0 (i + 1)))) ++ (l2 ++ [.cells (ys ++ [(kg D .wd w (J 0)).2])]), wr'⟩ = R') (hf' : Fa a wr') (hm' : (a, true) ∈ wr') => ih (i + 1) k f0' (kg D .wd w (J 0)).1 (.rs 1 id 0 (i + 1)) (ys ++ [(kg D .wd w (J 0)).2]) (l2 ++ [.cells (ys ++ [(kg D .wd w (J 0)).2])]) wr' R' hE' (by omega) (.inr ⟨by omega, id, rfl, by omega, by
       rw [List.getElem?_append_right (by simp; omega)]
       simp only [List.length_set]
       rw [List.getElem?_append_right (by omega), hid, hl2, lB]
       have : σ.length + l.length - σ.length - l.length = 0 := by omega
       rw [this]; rfl, by simp [hy]⟩) okk hf' (fun _ => hm')
   have sA : ∀ (l : List IObj) (o : IObj), (B0 ++ l).set a o = B0.set a o ++ l := fun l o => kC (by omega)
   have gA : ∀ (l : List IObj), (B0 ++ l)[a]? = some (.cells (acs.set o lv)) := fun l => jL y2 _
   have gB : ∀ (v : IObj) (l : List IObj), (B0.set a v ++ l)[a]? = some v := fun v l => jL (vd (by omega)) _
   have lA : ∀ v : IVal, o + 1 <= (acs.set o v).length := fun v => by simpa using ho
   rcases hL with ⟨hi0, rfl, e', rfl⟩ | ⟨hi0, id, rfl, hid, hc, hy⟩
   . obtain ⟨wr1, u0, hw1⟩ := stp (.rs 1 (B0.length + l.length) 0 1) l rfl hi0.symm
     rw [List.nil_append] at u0
     have l1 : (i : Int) < 1 := by omega
     have q1 : ((i : Int) == 0) = true := by simp [hi0]
     have n0 : ((0 : Nat) : Int) = 0 := rfl
     have n1 : ((1 : Nat) : Int) = 1 := rfl
     have nn : nilOwn 1 (.sl 0 true []) = .sl 1 true [] := rfl
     have nn2 : nilOwn 1 (.sl e' true []) = .sl 1 true [] := rfl
     rw [jH] at hE
     simp only [vp, jG, e0, e1, e3, e24, e25, l0, sA, gA, gB, g0, lA, l1, q1, n0, n1, nn, nn2, d1, w1, u0, List.set_set, List.flatMap_cons, un2_int, Int.toNat_natCast, zV, zS, jy, jM, jc, jk, jR, jg, jl, je, jr, jO, jf, jj, jp, jK, ju, jq, Ts.fill, jS, jP, jh, jT, jo, jm, ji, ja, getAll, stepCall, jn, unI, Opd.get, jx, tag, jv, jb, jI, rv, bin, jW, Nat.reduceAdd, Nat.reduceSub, Nat.reduceMul, Nat.reduceDiv, Nat.reduceMod, Nat.reducePow, Nat.reduceLT, Nat.reduceLeDiff, Nat.reduceEqDiff, Nat.reduceBEq, Nat.reduceBNe, reduceIte, Int.reduceEq, Int.reduceLT, Int.reduceLE, Int.reduceNeg, Int.reduceToNat, Int.reduceMul, Int.reduceAdd, Int.reduceSub, reduceCtorEq] at hE
     have ei : (IVal.rs 1 (B0.length + l.length) 0 1) = .rs 1 (B0.length + l.length) 0 (i + 1) := by rw [hi0]
     rw [ei] at hE
     obtain ⟨f1, lv', l', wr', h1, h2, h3, h4⟩ := cons R _ (B0.length + l.length) l _ rfl rfl hi0.symm hE (by
       have h1 := vJ (a := a) hw1
       rw [Fa] at h1 hf ⊢
       simp only [List.all_append, List.all_cons, h1, hf]; simp) (by simp) (by (try simp only [upd_get, base_get, Nat.reduceAdd, Nat.reduceSub, Nat.reduceMul, Nat.reduceDiv, Nat.reduceMod, Nat.reducePow, Nat.reduceLT, Nat.reduceLeDiff, Nat.reduceEqDiff, Nat.reduceBEq, Nat.reduceBNe, reduceIte, Int.reduceEq, Int.reduceLT, Int.reduceLE, Int.reduceNeg, Int.reduceToNat, Int.reduceMul, Int.reduceAdd, Int.reduceSub, Int.cast_ofNat_Int, reduceCtorEq, Nat.zero_add, Nat.add_zero, Nat.mul_one]) <;> first | exact e0 | rfl) (by (try simp only [upd_get, base_get, Nat.reduceAdd, Nat.reduceSub, Nat.reduceMul, Nat.reduceDiv, Nat.reduceMod, Nat.reducePow, Nat.reduceLT, Nat.reduceLeDiff, Nat.reduceEqDiff, Nat.reduceBEq, Nat.reduceBNe, reduceIte, Int.reduceEq, Int.reduceLT, Int.reduceLE, Int.reduceNeg, Int.reduceToNat, Int.reduceMul, Int.reduceAdd, Int.reduceSub, Int.cast_ofNat_Int, reduceCtorEq, Nat.zero_add, Nat.add_zero, Nat.mul_one]) <;> first | exact e1 | rfl) (by (try simp only [upd_get, base_get, Nat.reduceAdd, Nat.reduceSub, Nat.reduceMul, Nat.reduceDiv, Nat.reduceMod, Nat.reducePow, Nat.reduceLT, Nat.reduceLeDiff, Nat.reduceEqDiff, Nat.reduceBEq, Nat.reduceBNe, reduceIte, Int.reduceEq, Int.reduceLT, Int.reduceLE, Int.reduceNeg, Int.reduceToNat, Int.reduceMul, Int.reduceAdd, Int.reduceSub, Int.cast_ofNat_Int, reduceCtorEq, Nat.zero_add, Nat.add_zero, Nat.mul_one]) <;> first | exact e3 | rfl) (by (try simp only [upd_get, base_get, Nat.reduceAdd, Nat.reduceSub, Nat.reduceMul, Nat.reduceDiv, Nat.reduceMod, Nat.reducePow, Nat.reduceLT, Nat.reduceLeDiff, Nat.reduceEqDiff, Nat.reduceBEq, Nat.reduceBNe, reduceIte, Int.reduceEq, Int.reduceLT, Int.reduceLE, Int.reduceNeg, Int.reduceToNat, Int.reduceMul, Int.reduceAdd, Int.reduceSub, Int.cast_ofNat_Int, reduceCtorEq, Nat.zero_add, Nat.add_zero, Nat.mul_one]) <;> first | exact e24 | rfl) (by (try simp only [upd_get, base_get, Nat.reduceAdd, Nat.reduceSub, Nat.reduceMul, Nat.reduceDiv, Nat.reduceMod, Nat.reducePow, Nat.reduceLT, Nat.reduceLeDiff, Nat.reduceEqDiff, Nat.reduceBEq, Nat.reduceBNe, reduceIte, Int.reduceEq, Int.reduceLT, Int.reduceLE, Int.reduceNeg, Int.reduceToNat, Int.reduceMul, Int.reduceAdd, Int.reduceSub, Int.cast_ofNat_Int, reduceCtorEq, Nat.zero_add, Nat.add_zero, Nat.mul_one]) <;> rfl)
     exact ⟨f1, lv', l', wr', h1, h2, fun h => h3 h, h4⟩
   . have hy1 : ys.length = i := by omega
     obtain ⟨wr1, u0, hw1⟩ := stp (.rs 1 (B0.length + l.length) 0 (i + 1)) (l.set (id - B0.length) .dead) (by simp) hy1
     have qn : ((i : Int) == (i : Int)) = true := by simp
     have qa : (i + 1) * 4 <= 1099511627776 := by omega
     have qb : i + 1 <= 1099511627776 := by omega
     have qc : i <= ys.length := by omega
     have qd : ys.take i = ys := by rw [List.take_of_length_le (by omega)]
     have sD : (B0 ++ l).set id .dead = B0 ++ l.set (id - B0.length) .dead := List.set_append_right _ _ (by omega)
     have l2 : (i : Int) < ((i + 1 : Nat) : Int) := by omega
     rw [jH] at hE
     simp only [vp, jG, e0, e1, e3, e24, e25, l0, sA, sD, gA, gB, g0, lA, hc, qn, qa, qb, qc, qd, l2, d1, w1, u0, List.set_set, List.flatMap_cons, un2_int, Int.toNat_natCast, zV, zS, jy, jM, jc, jk, jR, jg, jl, je, jr, jO, jf, jj, jp, jK, ju, jq, Ts.fill, jS, jP, jh, jT, jo, jm, ji, ja, getAll, stepCall, jn, unI, Opd.get, jx, tag, jv, jb, jI, rv, bin, jW, Nat.reduceAdd, Nat.reduceSub, Nat.reduceMul, Nat.reduceDiv, Nat.reduceMod, Nat.reducePow, Nat.reduceLT, Nat.reduceLeDiff, Nat.reduceEqDiff, Nat.reduceBEq, Nat.reduceBNe, reduceIte, Int.reduceEq, Int.reduceLT, Int.reduceLE, Int.reduceNeg, Int.reduceToNat, Int.reduceMul, Int.reduceAdd, Int.reduceSub, reduceCtorEq] at hE
     obtain ⟨f1, lv', l', wr', h1, h2, h3, h4⟩ := cons R _ (B0.length + l.length) (l.set (id - B0.length) .dead) _ rfl (by simp) hy1 hE (by
       have h1 := vJ (a := a) hw1
       rw [Fa] at h1 hf ⊢
       simp only [List.all_append, List.all_cons, h1, hf]; simp) (by simp) (by (try simp only [upd_get, base_get, Nat.reduceAdd, Nat.reduceSub, Nat.reduceMul, Nat.reduceDiv, Nat.reduceMod, Nat.reducePow, Nat.reduceLT, Nat.reduceLeDiff, Nat.reduceEqDiff, Nat.reduceBEq, Nat.reduceBNe, reduceIte, Int.reduceEq, Int.reduceLT, Int.reduceLE, Int.reduceNeg, Int.reduceToNat, Int.reduceMul, Int.reduceAdd, Int.reduceSub, Int.cast_ofNat_Int, reduceCtorEq, Nat.zero_add, Nat.add_zero, Nat.mul_one]) <;> first | exact e0 | rfl) (by (try simp only [upd_get, base_get, Nat.reduceAdd, Nat.reduceSub, Nat.reduceMul, Nat.reduceDiv, Nat.reduceMod, Nat.reducePow, Nat.reduceLT, Nat.reduceLeDiff, Nat.reduceEqDiff, Nat.reduceBEq, Nat.reduceBNe, reduceIte, Int.reduceEq, Int.reduceLT, Int.reduceLE, Int.reduceNeg, Int.reduceToNat, Int.reduceMul, Int.reduceAdd, Int.reduceSub, Int.cast_ofNat_Int, reduceCtorEq, Nat.zero_add, Nat.add_zero, Nat.mul_one]) <;> first | exact e1 | rfl) (by (try simp only [upd_get, base_get, Nat.reduceAdd, Nat.reduceSub, Nat.reduceMul, Nat.reduceDiv, Nat.reduceMod, Nat.reducePow, Nat.reduceLT, Nat.reduceLeDiff, Nat.reduceEqDiff, Nat.reduceBEq, Nat.reduceBNe, reduceIte, Int.reduceEq, Int.reduceLT, Int.reduceLE, Int.reduceNeg, Int.reduceToNat, Int.reduceMul, Int.reduceAdd, Int.reduceSub, Int.cast_ofNat_Int, reduceCtorEq, Nat.zero_add, Nat.add_zero, Nat.mul_one]) <;> first | exact e3 | rfl) (by (try simp only [upd_get, base_get, Nat.reduceAdd, Nat.reduceSub, Nat.reduceMul, Nat.reduceDiv, Nat.reduceMod, Nat.reducePow, Nat.reduceLT, Nat.reduceLeDiff, Nat.reduceEqDiff, Nat.reduceBEq, Nat.reduceBNe, reduceIte, Int.reduceEq, Int.reduceLT, Int.reduceLE, Int.reduceNeg, Int.reduceToNat, Int.reduceMul, Int.reduceAdd, Int.reduceSub, Int.cast_ofNat_Int, reduceCtorEq, Nat.zero_add, Nat.add_zero, Nat.mul_one]) <;> first | exact e24 | rfl) (by (try simp only [upd_get, base_get, Nat.reduceAdd, Nat.reduceSub, Nat.reduceMul, Nat.reduceDiv, Nat.reduceMod, Nat.reducePow, Nat.reduceLT, Nat.reduceLeDiff, Nat.reduceEqDiff, Nat.reduceBEq, Nat.reduceBNe, reduceIte, Int.reduceEq, Int.reduceLT, Int.reduceLE, Int.reduceNeg, Int.reduceToNat, Int.reduceMul, Int.reduceAdd, Int.reduceSub, Int.cast_ofNat_Int, reduceCtorEq, Nat.zero_add, Nat.add_zero, Nat.mul_one]) <;> rfl)
     exact ⟨f1, lv', l', wr', h1, h2, fun h => h3 h, h4⟩
/-- How many are read. -/
def cnt (D : WayD) (w : D.W) (most : Nat) : Nat := min (D.number w 0 most).2 most
theorem jaB (h35 : F 35 = some Xt) (h34 : F 34 = some QB) (hw : Way F D) {a o e' most k : Nat} {acs : List IVal} {σ : List IObj} {w : D.W} (hx : σ[D.x]? = some (D.ob w)) (ha : σ[a]? = some (.cells acs)) (ho : acs[o]? = some (.sl e' true [])) (ha1 : a ≠ D.x) (hm2 : most < 10000) (hk : D.ok w (k + most + 1)) :
   ∃ wr lv' l', cfw F (.f 35) [.iface D.ty D.rv, .ptr a o, I most, .fn (.func 34) [] []] σ = some ⟨false, .tup [], (σ.set D.x (D.ob (kT D (cnt D w most) (D.number w 0 most).1 []).1)).set a (.cells (acs.set o lv')) ++ l', wr⟩ /\ Fa a wr /\ (0 < cnt D w most -> (a, true) ∈ wr) /\ LV 1 σ 1 lv' (cnt D w most) (kT D (cnt D w most) (D.number w 0 most).1 []).2 ((σ.set D.x (D.ob (kT D (cnt D w most) (D.number w 0 most).1 []).1)).set a (.cells (acs.set o lv')) ++ l') := by
 rw [jQ Xt h35, jq]
 have l0 := jd hx
 have la := jd ha
 have w2 : IntKind.u64.wrap (most : Int) = (most : Int) := kN (by omega) (by omega)
 have w1 : IntKind.u64.wrap (0 : Int) = 0 := rfl
 obtain ⟨wr1, u0, hw1⟩ := hw.number (σ := σ ++ [.cells [Q 0]]) (p := σ.length) (o := 0) (cs := [Q 0]) (n := 0) (most := most) (k := k + most) (jL hx _) get_app0 rfl hk (by omega)
 have hok := hw.ok_number (n := 0) (most := most) hk
 have hcn : ∃ d, cnt D w most = d /\ d <= most /\ d = min (D.number w 0 most).2 most := ⟨_, rfl, by unfold cnt; omega, rfl⟩
 obtain ⟨d, hd, hd2, hd3⟩ := hcn
 rw [hd]
 generalize hr : D.number w 0 most = r at *
 have hnl : r.2 < 18446744073709551616 := by rw [<- hr]; exact hw.n_number (by decide)
 have u1 : ((σ ++ [IObj.cells [Q 0]]).set D.x (D.ob r.1)).set σ.length (.cells ([Q 0].set 0 (Q r.2))) = σ.set D.x (D.ob r.1) ++ [.cells [Q r.2]] := by
   rw [kC l0]
   have := set_app0 (σ := σ.set D.x (D.ob r.1)) (l := [IObj.cells [Q 0]]) (.cells [Q r.2])
   rw [List.length_set] at this; exact this
 have u0 : cfw F (Cal.f D.f74) [D.rv, IVal.ptr σ.length 0, Q (most : Int)] (σ ++ [IObj.cells [Q 0]]) = some ⟨false, .tup [], σ.set D.x (D.ob r.1) ++ [.cells [Q r.2]], wr1⟩ := by rw [<- u1]; exact u0
 have g2 : (σ.set D.x (D.ob r.1) ++ [IObj.cells [Q r.2]])[σ.length]? = some (.cells [Q r.2]) := by
   have := get_app0 (σ := σ.set D.x (D.ob r.1)) (l := [IObj.cells [Q r.2]])
   rw [List.length_set] at this; exact this
 have t74 := hw.t74
 have mm : IntKind.i64.wrap (if (most : Int) < (r.2 : Int) then (most : Int) else (r.2 : Int)) = (d : Int) := by
   split <;> rw [qW (by omega) (by omega)] <;> omega
 have n0 : ((0 : Nat) : Int) = 0 := rfl
 simp only [Xt, jG, ha, ho, w1, w2, t74, u0, g2, mm, n0, zk, jL ha, zV, zS, jy, jM, jc, jk, jR, jg, jl, je, jr, jO, jf, jj, jp, jK, ju, jq, Ts.fill, jS, jP, jh, jT, jo, jm, ji, ja, getAll, stepCall, jn, unI, Opd.get, jx, tag, jv, jb, jI, rv, bin, jW, Nat.reduceAdd, Nat.reduceSub, Nat.reduceMul, Nat.reduceDiv, Nat.reduceMod, Nat.reducePow, Nat.reduceLT, Nat.reduceLeDiff, Nat.reduceEqDiff, Nat.reduceBEq, Nat.reduceBNe, reduceIte, Int.reduceEq, Int.reduceLT, Int.reduceLE, Int.reduceNeg, Int.reduceToNat, Int.reduceMul, Int.reduceAdd, Int.reduceSub, reduceCtorEq]
 generalize hE : evw F (ICode.loop vp) _ = R
 have base0 : σ.set D.x (D.ob r.1) ++ [IObj.cells [Q r.2]] = (σ.set D.x (D.ob r.1)).set a (.cells (acs.set o (.sl e' true []))) ++ [IObj.cells [Q r.2]] := by
   rw [vl (get_set ha (Ne.symm ha1)) ho]
 rw [base0] at hE
 have f1 : Fl (wr1 ++ [(σ.length, false)]) := by rw [Fl] at hw1 ⊢; rw [List.all_append, hw1]; rfl
 have hkd : k + most = k + (most - d) + d := by omega
 obtain ⟨f2, lv', l', wr', rfl, hf, hm, hL⟩ := jez h34 hw la (kU ho) l0 ha1 (n := d) (by omega) d 0 (k + (most - d)) _ r.1 _ [] _ _ R hE (by omega) (.inl ⟨rfl, rfl, e', rfl⟩) (hkd ▸ hok) (vJ f1) (fun h => absurd h (Nat.lt_irrefl _)) (by (try simp only [upd_get, base_get, Nat.reduceAdd, Nat.reduceSub, Nat.reduceMul, Nat.reduceDiv, Nat.reduceMod, Nat.reducePow, Nat.reduceLT, Nat.reduceLeDiff, Nat.reduceEqDiff, Nat.reduceBEq, Nat.reduceBNe, reduceIte, Int.reduceEq, Int.reduceLT, Int.reduceLE, Int.reduceNeg, Int.reduceToNat, Int.reduceMul, Int.reduceAdd, Int.reduceSub, Int.cast_ofNat_Int, reduceCtorEq, Nat.zero_add, Nat.add_zero, Nat.mul_one]) <;> rfl) (by (try simp only [upd_get, base_get, Nat.reduceAdd, Nat.reduceSub, Nat.reduceMul, Nat.reduceDiv, Nat.reduceMod, Nat.reducePow, Nat.reduceLT, Nat.reduceLeDiff, Nat.reduceEqDiff, Nat.reduceBEq, Nat.reduceBNe, reduceIte, Int.reduceEq, Int.reduceLT, Int.reduceLE, Int.reduceNeg, Int.reduceToNat, Int.reduceMul, Int.reduceAdd, Int.reduceSub, Int.cast_ofNat_Int, reduceCtorEq, Nat.zero_add, Nat.add_zero, Nat.mul_one]) <;> rfl) (by (try simp only [upd_get, base_get, Nat.reduceAdd, Nat.reduceSub, Nat.reduceMul, Nat.reduceDiv, Nat.reduceMod, Nat.reducePow, Nat.reduceLT, Nat.reduceLeDiff, Nat.reduceEqDiff, Nat.reduceBEq, Nat.reduceBNe, reduceIte, Int.reduceEq, Int.reduceLT, Int.reduceLE, Int.reduceNeg, Int.reduceToNat, Int.reduceMul, Int.reduceAdd, Int.reduceSub, Int.cast_ofNat_Int, reduceCtorEq, Nat.zero_add, Nat.add_zero, Nat.mul_one]) <;> rfl) (by (try simp only [upd_get, base_get, Nat.reduceAdd, Nat.reduceSub, Nat.reduceMul, Nat.reduceDiv, Nat.reduceMod, Nat.reducePow, Nat.reduceLT, Nat.reduceLeDiff, Nat.reduceEqDiff, Nat.reduceBEq, Nat.reduceBNe, reduceIte, Int.reduceEq, Int.reduceLT, Int.reduceLE, Int.reduceNeg, Int.reduceToNat, Int.reduceMul, Int.reduceAdd, Int.reduceSub, Int.cast_ofNat_Int, reduceCtorEq, Nat.zero_add, Nat.add_zero, Nat.mul_one]) <;> rfl) (by (try simp only [upd_get, base_get, Nat.reduceAdd, Nat.reduceSub, Nat.reduceMul, Nat.reduceDiv, Nat.reduceMod, Nat.reducePow, Nat.reduceLT, Nat.reduceLeDiff, Nat.reduceEqDiff, Nat.reduceBEq, Nat.reduceBNe, reduceIte, Int.reduceEq, Int.reduceLT, Int.reduceLE, Int.reduceNeg, Int.reduceToNat, Int.reduceMul, Int.reduceAdd, Int.reduceSub, Int.cast_ofNat_Int, reduceCtorEq, Nat.zero_add, Nat.add_zero, Nat.mul_one]) <;> rfl)
 simp only [zV, zS, jy, jM, jc, jk, jR, jg, jl, je, jr, jO, jf, jj, jp, jK, ju, jq, Ts.fill, jS, jP, jh, jT, jo, jm, ji, ja, getAll, stepCall, jn, unI, Opd.get, jx, tag, jv, jb, jI, rv, bin, jW, Nat.reduceAdd, Nat.reduceSub, Nat.reduceMul, Nat.reduceDiv, Nat.reduceMod, Nat.reducePow, Nat.reduceLT, Nat.reduceLeDiff, Nat.reduceEqDiff, Nat.reduceBEq, Nat.reduceBNe, reduceIte, Int.reduceEq, Int.reduceLT, Int.reduceLE, Int.reduceNeg, Int.reduceToNat, Int.reduceMul, Int.reduceAdd, Int.reduceSub, reduceCtorEq]
 have hmf : 0 < d -> (a, true) ∈ wr'.filter fun p => decide (p.1 < σ.length) := fun h => List.mem_filter.mpr ⟨hm h, by simpa using la⟩
 split
 . rename_i hc
   have hd0 : d = 0 := by
     rcases Nat.eq_zero_or_pos d with h | h
     . exact h
     . rw [List.all_eq_true] at hc
       have := hc _ (hm h); simp at this; omega
   subst hd0
   refine ⟨_, lv', [], by rw [qD, List.append_nil], qT hf, hmf, ?_⟩
   rcases hL with ⟨h1, h2, h3⟩ | ⟨h1, _⟩
   . exact .inl ⟨h1, h2, h3⟩
   . exact absurd h1 (Nat.lt_irrefl _)
 . exact ⟨_, lv', l', rfl, qT hf, hmf, hL⟩
end Go.Idl.Sb
namespace Go.Idl.Sb
open Go Go.Idl Go.Idl.En
variable {F : jJ} {D : WayD}
abbrev Z3 : List IVal := [I 0, I 0, .bool false]
theorem Qd (ys : List IVal) : ∀ (l : List (K × Nat)) (w : D.W) (zs : List IVal), jB D (l.map fun q => (q.1, ys.length + q.2)) w (ys ++ zs) = ((jB D l w zs).1, ys ++ (jB D l w zs).2) := by
 intro l
 induction l with
 | nil => intro w zs; rfl
 | cons q l ih =>
   intro w zs
   obtain ⟨k, o⟩ := q
   rw [List.map_cons, jB, jB]
   have e1 : kH (ys ++ zs) (ys.length + o) = kH zs o := by rw [kH, kH, List.getElem?_append_right (by omega), Nat.add_sub_cancel_left]
   simp only [e1]
   rw [List.set_append_right _ _ (by omega), Nat.add_sub_cancel_left]
   exact ih _ _
/-- Handlers that are read into a list that grows. -/
def qf (D : WayD) : Nat -> D.W -> List IVal -> D.W × List IVal
 | 0, w, ys => (w, ys)
 | k + 1, w, ys => qf D k (jB D (vf 0) w Z3).1 (ys ++ (jB D (vf 0) w Z3).2)
theorem YU : Ty (vf 0) Z3 := by
 intro q hq
 simp at hq
 rcases hq with rfl | rfl | rfl
 . exact ⟨I 0, rfl, 0, rfl, by unfold i64; omega⟩
 . exact ⟨I 0, rfl, 0, rfl, by unfold i64; omega⟩
 . exact ⟨.bool false, rfl, false, rfl⟩
theorem vX : ∀ q ∈ vf 0, ∀ r ∈ vf 0, q.2 = r.2 -> q.1 = r.1 := Kx (f := raK) (Km (i := 0)) (Km (i := 0))
theorem jha (ys : List IVal) : Ty (vf ys.length) (ys ++ Z3) := by
 intro q hq
 simp at hq
 rcases hq with rfl | rfl | rfl
 . exact ⟨I 0, by rw [List.getElem?_append_right (by simp)]; simp, 0, rfl, by unfold i64; omega⟩
 . exact ⟨I 0, by rw [List.getElem?_append_right (by simp)]; simp, 0, rfl, by unfold i64; omega⟩
 . exact ⟨.bool false, by rw [List.getElem?_append_right (by simp)]; simp, false, rfl⟩
theorem jeB (h37 : F 37 = some Xv) (h33 : F 33 = some KS) (hw : Way F D) {a o n : Nat} {acs : List IVal} {σ : List IObj} (ha : a < σ.length) (ho : o + 1 <= acs.length) (hx : D.x < σ.length) (ha1 : a ≠ D.x) (hn : n < 10000) : ∀ (d i k : Nat) (f0 : Nat -> Option (Nat × IVal)) (w : D.W) (lv : IVal) (ys : List IVal) (l : List IObj) (wr : List (Nat × Bool)) (R : Option (IExit × St)),
   evw F (.loop vq) ⟨E 26 8 6 [] (base f0), (σ.set D.x (D.ob w)).set a (.cells (acs.set o lv)) ++ l, wr⟩ = R -> i + d = n -> LV 3 σ 3 lv i ys ((σ.set D.x (D.ob w)).set a (.cells (acs.set o lv)) ++ l) -> D.ok w (k + 3 * d) -> Fa a wr -> (0 < i -> (a, true) ∈ wr) ->
   f0 0 = some (0, .iface D.ty D.rv) -> f0 1 = some (1, .ptr a o) -> f0 3 = some (3, .fn (.func 37) [] []) -> f0 24 = some (24, I n) -> f0 25 = some (25, I i) ->
   ∃ f1 lv' l' wr', R = some (.exit 0, ⟨E 26 8 6 [] (base f1), (σ.set D.x (D.ob (qf D d w ys).1)).set a (.cells (acs.set o lv')) ++ l', wr'⟩) /\ Fa a wr' /\ (0 < n -> (a, true) ∈ wr') /\ LV 3 σ 3 lv' n (qf D d w ys).2 ((σ.set D.x (D.ob (qf D d w ys).1)).set a (.cells (acs.set o lv')) ++ l') := by
 intro d
 induction d with
 | zero =>
   intro i k f0 w lv ys l wr R hE hi hL hk hf hm e0 e1 e3 e24 e25
   have l0 : decide ((i : Int) < (n : Int)) = false := decide_eq_false (by omega)
   have hin : i = n := by omega
   subst hin
   rw [jH] at hE
   subst hE
   simp only [vq, e0, e1, e3, e24, e25, l0, zV, zS, jy, jM, jc, jk, jR, jg, jl, je, jr, jO, jf, jj, jp, jK, ju, jq, Ts.fill, jS, jP, jh, jT, jo, jm, ji, ja, getAll, stepCall, jn, unI, Opd.get, jx, tag, jv, jb, jI, rv, bin, jW, Nat.reduceAdd, Nat.reduceSub, Nat.reduceMul, Nat.reduceDiv, Nat.reduceMod, Nat.reducePow, Nat.reduceLT, Nat.reduceLeDiff, Nat.reduceEqDiff, Nat.reduceBEq, Nat.reduceBNe, reduceIte, Int.reduceEq, Int.reduceLT, Int.reduceLE, Int.reduceNeg, Int.reduceToNat, Int.reduceMul, Int.reduceAdd, Int.reduceSub, reduceCtorEq]
   exact ⟨_, lv, l, _, rfl, hf, hm, hL⟩
 | succ d ih =>
   intro i k f0 w lv ys l wr R hE hi hL hk hf hm e0 e1 e3 e24 e25
   have l0 : decide ((i : Int) < (n : Int)) = true := decide_eq_true (by omega)
   have l1 : (i : Int) < ((i + 1 : Nat) : Int) := by omega
   have q0 : ((i : Int) == (i : Int)) = true := by simp
   have d1 : (0 : Int) <= (i : Int) := by omega
   have w1 := yz (n := i) (by omega)
   generalize hB : (σ.set D.x (D.ob w)).set a (.cells (acs.set o lv)) = B0 at *
   have lB : B0.length = σ.length := by rw [<- hB]; simp
   have y1 : B0[D.x]? = some (D.ob w) := by rw [<- hB]; exact (Xr hx ha ha1).1
   have y2 : B0[a]? = some (.cells (acs.set o lv)) := by rw [<- hB]; exact (Xr hx ha ha1).2
   have ho2 : o + 1 <= (acs.set o lv).length := by simpa using ho
   have g0 : ∀ v, (acs.set o v)[o]? = some v := fun v => by rw [List.getElem?_set_self ho]
   generalize hR : jB D (vf 0) w Z3 = R3 at *
   have ek : k + 3 * (d + 1) = k + 3 * d + 3 := by omega
   rw [ek] at hk
   have stp : ∀ (lv2 : IVal) (l2 : List IObj), l2.length = l.length + 1 -> ys.length = i * 3 -> ∃ wr1, cfw F (.f 37) [.iface D.ty D.rv, .ptr (B0.length + (l.length + 1)) (i * 3)] (B0.set a (.cells (acs.set o lv2)) ++ (l2 ++ [IObj.cells (ys ++ Z3)])) = some ⟨false, .tup [], (σ.set D.x (D.ob R3.1)).set a (.cells (acs.set o lv2)) ++ (l2 ++ [.cells (ys ++ R3.2)]), wr1⟩ /\ Fl wr1 := by
     intro lv2 l2 hl2 hy
     have z1 : (B0.set a (.cells (acs.set o lv2)) ++ (l2 ++ [IObj.cells (ys ++ Z3)]))[D.x]? = some (D.ob w) := jL (get_set y1 ha1) _
     have z2 : (B0.set a (.cells (acs.set o lv2)) ++ (l2 ++ [IObj.cells (ys ++ Z3)]))[B0.length + (l.length + 1)]? = some (.cells (ys ++ Z3)) := by
       rw [List.getElem?_append_right (by simp)]
       simp only [List.length_set, Nat.add_sub_cancel_left]
       rw [List.getElem?_append_right (by omega), hl2, Nat.sub_self]; rfl
     have z3 : Ty (vf (i * 3)) (ys ++ Z3) := by rw [<- hy]; exact jha ys
     obtain ⟨wr1, u0, hw1⟩ := jgE (k := k + 3 * d) h37 h33 hw z1 z2 z3 hk (by omega)
     refine ⟨wr1, ?_, hw1⟩
     have sh := Qd ys (vf 0) w Z3
     rw [hR, hy] at sh
     have sh : jB D (vf (i * 3)) w (ys ++ Z3) = (R3.1, ys ++ R3.2) := sh
     rw [u0, sh]
     have s1 : ((B0.set a (.cells (acs.set o lv2)) ++ (l2 ++ [IObj.cells (ys ++ Z3)])).set D.x (D.ob R3.1)).set (B0.length + (l.length + 1)) (.cells (ys ++ R3.2)) = (σ.set D.x (D.ob R3.1)).set a (.cells (acs.set o lv2)) ++ (l2 ++ [.cells (ys ++ R3.2)]) := by
       rw [kC (by simp; omega), List.set_append_right _ _ (by simp)]
       simp only [List.length_set, Nat.add_sub_cancel_left]
       rw [List.set_append_right _ _ (by omega), hl2, Nat.sub_self]
       congr 1
       rw [<- hB, List.set_set, jhr ha1]
     rw [s1]
   have okk : D.ok R3.1 (k + 3 * d) := by rw [<- hR]; exact kX hw _ _ _ _ YU vX hk
   have l3 : R3.2.length = 3 := by rw [<- hR, JQ]; rfl
   have gR : qf D (d + 1) w ys = qf D d R3.1 (ys ++ R3.2) := by rw [qf, hR]
   rw [gR]
   have cons := fun (R' : Option (IExit × St)) (f0' : Nat -> Option (Nat × IVal)) (id : Nat) (l2 : List IObj) (wr' : List (Nat × Bool)) (hid : id = B0.length + (l.length + 1)) (hl2 : l2.length = l.length + 1) (hy : ys.length = i * 3) (hE' : evw F (.loop vq) ⟨E 26 8 6 [] (base f0'), (σ.set D.x (D.ob R3.1)).set a (.cells (acs.set o (.rs 3 id 0 (i + 1)))) ++ (l2 ++ [.cells (ys ++ R3.2)]), wr'⟩ = R') (hf' : Fa a wr') (hm' : (a, true) ∈ wr') => ih (i + 1) k f0' R3.1 (.rs 3 id 0 (i + 1)) (ys ++ R3.2) (l2 ++ [.cells (ys ++ R3.2)]) wr' R' hE' (by omega) (.inr ⟨by omega, id, rfl, by omega, by
       rw [List.getElem?_append_right (by simp; omega)]
       simp only [List.length_set]
       rw [List.getElem?_append_right (by omega), hid, hl2, lB]
       have : σ.length + (l.length + 1) - σ.length - (l.length + 1) = 0 := by omega
       rw [this]; rfl, by simp [hy, l3]; omega⟩) okk hf' (fun _ => hm')
   have sA : ∀ (l : List IObj) (o : IObj), (B0 ++ l).set a o = B0.set a o ++ l := fun l o => kC (by omega)
   have gA : ∀ (l : List IObj), (B0 ++ l)[a]? = some (.cells (acs.set o lv)) := fun l => jL y2 _
   have gB : ∀ (v : IObj) (l : List IObj), (B0.set a v ++ l)[a]? = some v := fun v l => jL (vd (by omega)) _
   have lA : ∀ v : IVal, o + 1 <= (acs.set o v).length := fun v => by simpa using ho
   have t3 : [IVal.int .i64 0, .int .i64 0, .bool false].take 3 = [.int .i64 0, .int .i64 0, .bool false] := rfl
   rcases hL with ⟨hi0, rfl, e', rfl⟩ | ⟨hi0, id, rfl, hid, hc, hy⟩
   . obtain ⟨wr1, u0, hw1⟩ := stp (.rs 3 (B0.length + (l.length + 1)) 0 1) (l ++ [.cells Z3]) (by simp) (by rw [hi0]; rfl)
     simp only [List.nil_append, List.append_assoc, List.cons_append] at u0
     have l1 : (i : Int) < 1 := by omega
     have q1 : ((i : Int) == 0) = true := by simp [hi0]
     have n0 : ((0 : Nat) : Int) = 0 := rfl
     have n1 : ((1 : Nat) : Int) = 1 := rfl
     have nn : nilOwn 3 (.sl 0 true []) = .sl 3 true [] := rfl
     have nn2 : nilOwn 3 (.sl e' true []) = .sl 3 true [] := rfl
     rw [jH] at hE
     simp only [vq, jG, e0, e1, e3, e24, e25, l0, sA, gA, gB, g0, lA, l1, q1, n0, n1, nn, nn2, d1, w1, u0, t3, List.set_set, List.flatMap_cons, un2_int, Int.toNat_natCast, zV, zS, jy, jM, jc, jk, jR, jg, jl, je, jr, jO, jf, jj, jp, jK, ju, jq, Ts.fill, jS, jP, jh, jT, jo, jm, ji, ja, getAll, stepCall, jn, unI, Opd.get, jx, tag, jv, jb, jI, rv, bin, jW, Nat.reduceAdd, Nat.reduceSub, Nat.reduceMul, Nat.reduceDiv, Nat.reduceMod, Nat.reducePow, Nat.reduceLT, Nat.reduceLeDiff, Nat.reduceEqDiff, Nat.reduceBEq, Nat.reduceBNe, reduceIte, Int.reduceEq, Int.reduceLT, Int.reduceLE, Int.reduceNeg, Int.reduceToNat, Int.reduceMul, Int.reduceAdd, Int.reduceSub, reduceCtorEq] at hE
     have ei : (IVal.rs 3 (B0.length + (l.length + 1)) 0 1) = .rs 3 (B0.length + (l.length + 1)) 0 (i + 1) := by rw [hi0]
     rw [ei] at hE
     obtain ⟨f1, lv', l', wr', h1, h2, h3, h4⟩ := cons R _ (B0.length + (l.length + 1)) (l ++ [.cells Z3]) _ rfl (by simp) (by rw [hi0]; rfl) (by rw [List.append_assoc]; exact hE) (by
       have h1 := vJ (a := a) hw1
       rw [Fa] at h1 hf ⊢
       simp only [List.all_append, List.all_cons, h1, hf]; simp) (by simp) (by (try simp only [upd_get, base_get, Nat.reduceAdd, Nat.reduceSub, Nat.reduceMul, Nat.reduceDiv, Nat.reduceMod, Nat.reducePow, Nat.reduceLT, Nat.reduceLeDiff, Nat.reduceEqDiff, Nat.reduceBEq, Nat.reduceBNe, reduceIte, Int.reduceEq, Int.reduceLT, Int.reduceLE, Int.reduceNeg, Int.reduceToNat, Int.reduceMul, Int.reduceAdd, Int.reduceSub, Int.cast_ofNat_Int, reduceCtorEq, Nat.zero_add, Nat.add_zero, Nat.mul_one]) <;> first | exact e0 | rfl) (by (try simp only [upd_get, base_get, Nat.reduceAdd, Nat.reduceSub, Nat.reduceMul, Nat.reduceDiv, Nat.reduceMod, Nat.reducePow, Nat.reduceLT, Nat.reduceLeDiff, Nat.reduceEqDiff, Nat.reduceBEq, Nat.reduceBNe, reduceIte, Int.reduceEq, Int.reduceLT, Int.reduceLE, Int.reduceNeg, Int.reduceToNat, Int.reduceMul, Int.reduceAdd, Int.reduceSub, Int.cast_ofNat_Int, reduceCtorEq, Nat.zero_add, Nat.add_zero, Nat.mul_one]) <;> first | exact e1 | rfl) (by (try simp only [upd_get, base_get, Nat.reduceAdd, Nat.reduceSub, Nat.reduceMul, Nat.reduceDiv, Nat.reduceMod, Nat.reducePow, Nat.reduceLT, Nat.reduceLeDiff, Nat.reduceEqDiff, Nat.reduceBEq, Nat.reduceBNe, reduceIte, Int.reduceEq, Int.reduceLT, Int.reduceLE, Int.reduceNeg, Int.reduceToNat, Int.reduceMul, Int.reduceAdd, Int.reduceSub, Int.cast_ofNat_Int, reduceCtorEq, Nat.zero_add, Nat.add_zero, Nat.mul_one]) <;> first | exact e3 | rfl) (by (try simp only [upd_get, base_get, Nat.reduceAdd, Nat.reduceSub, Nat.reduceMul, Nat.reduceDiv, Nat.reduceMod, Nat.reducePow, Nat.reduceLT, Nat.reduceLeDiff, Nat.reduceEqDiff, Nat.reduceBEq, Nat.reduceBNe, reduceIte, Int.reduceEq, Int.reduceLT, Int.reduceLE, Int.reduceNeg, Int.reduceToNat, Int.reduceMul, Int.reduceAdd, Int.reduceSub, Int.cast_ofNat_Int, reduceCtorEq, Nat.zero_add, Nat.add_zero, Nat.mul_one]) <;> first | exact e24 | rfl) (by (try simp only [upd_get, base_get, Nat.reduceAdd, Nat.reduceSub, Nat.reduceMul, Nat.reduceDiv, Nat.reduceMod, Nat.reducePow, Nat.reduceLT, Nat.reduceLeDiff, Nat.reduceEqDiff, Nat.reduceBEq, Nat.reduceBNe, reduceIte, Int.reduceEq, Int.reduceLT, Int.reduceLE, Int.reduceNeg, Int.reduceToNat, Int.reduceMul, Int.reduceAdd, Int.reduceSub, Int.cast_ofNat_Int, reduceCtorEq, Nat.zero_add, Nat.add_zero, Nat.mul_one]) <;> rfl)
     exact ⟨f1, lv', l', wr', h1, h2, fun h => h3 h, h4⟩
   . have hy1 : ys.length = i * 3 := by omega
     obtain ⟨wr1, u0, hw1⟩ := stp (.rs 3 (B0.length + (l.length + 1)) 0 (i + 1)) (l.set (id - B0.length) .dead ++ [.cells Z3]) (by simp) hy1
     simp only [List.append_assoc, List.cons_append, List.nil_append] at u0
     have qn : ((i : Int) == (i : Int)) = true := by simp
     have qa : (i + 1) * 24 <= 1099511627776 := by omega
     have qb : i + 1 <= 1099511627776 := by omega
     have qc : i * 3 <= ys.length := by omega
     have qd : ys.take (i * 3) = ys := by rw [List.take_of_length_le (by omega)]
     have hidl : id < B0.length + l.length := by have := jd hc; rw [List.length_append] at this; exact this
     have sD : ∀ x : IObj, (B0 ++ (l ++ [x])).set id .dead = B0 ++ (l.set (id - B0.length) .dead ++ [x]) := fun x => by
       rw [List.set_append_right _ _ (by omega), List.set_append_left _ _ (by omega)]
     have hc2 : ∀ x : IObj, (B0 ++ (l ++ [x]))[id]? = some (.cells ys) := fun x => by
       rw [<- List.append_assoc]; exact jL hc _
     have l2 : (i : Int) < ((i + 1 : Nat) : Int) := by omega
     rw [jH] at hE
     simp only [vq, jG, e0, e1, e3, e24, e25, l0, sA, sD, gA, gB, g0, lA, hc, hc2, qn, qa, qb, qc, qd, l2, d1, w1, u0, t3, List.set_set, List.flatMap_cons, un2_int, Int.toNat_natCast, zV, zS, jy, jM, jc, jk, jR, jg, jl, je, jr, jO, jf, jj, jp, jK, ju, jq, Ts.fill, jS, jP, jh, jT, jo, jm, ji, ja, getAll, stepCall, jn, unI, Opd.get, jx, tag, jv, jb, jI, rv, bin, jW, Nat.reduceAdd, Nat.reduceSub, Nat.reduceMul, Nat.reduceDiv, Nat.reduceMod, Nat.reducePow, Nat.reduceLT, Nat.reduceLeDiff, Nat.reduceEqDiff, Nat.reduceBEq, Nat.reduceBNe, reduceIte, Int.reduceEq, Int.reduceLT, Int.reduceLE, Int.reduceNeg, Int.reduceToNat, Int.reduceMul, Int.reduceAdd, Int.reduceSub, reduceCtorEq] at hE
     obtain ⟨f1, lv', l', wr', h1, h2, h3, h4⟩ := cons R _ (B0.length + (l.length + 1)) (l.set (id - B0.length) .dead ++ [.cells Z3]) _ rfl (by simp) hy1 (by rw [List.append_assoc]; exact hE) (by
       have h1 := vJ (a := a) hw1
       rw [Fa] at h1 hf ⊢
       simp only [List.all_append, List.all_cons, h1, hf]; simp) (by simp) (by (try simp only [upd_get, base_get, Nat.reduceAdd, Nat.reduceSub, Nat.reduceMul, Nat.reduceDiv, Nat.reduceMod, Nat.reducePow, Nat.reduceLT, Nat.reduceLeDiff, Nat.reduceEqDiff, Nat.reduceBEq, Nat.reduceBNe, reduceIte, Int.reduceEq, Int.reduceLT, Int.reduceLE, Int.reduceNeg, Int.reduceToNat, Int.reduceMul, Int.reduceAdd, Int.reduceSub, Int.cast_ofNat_Int, reduceCtorEq, Nat.zero_add, Nat.add_zero, Nat.mul_one]) <;> first | exact e0 | rfl) (by (try simp only [upd_get, base_get, Nat.reduceAdd, Nat.reduceSub, Nat.reduceMul, Nat.reduceDiv, Nat.reduceMod, Nat.reducePow, Nat.reduceLT, Nat.reduceLeDiff, Nat.reduceEqDiff, Nat.reduceBEq, Nat.reduceBNe, reduceIte, Int.reduceEq, Int.reduceLT, Int.reduceLE, Int.reduceNeg, Int.reduceToNat, Int.reduceMul, Int.reduceAdd, Int.reduceSub, Int.cast_ofNat_Int, reduceCtorEq, Nat.zero_add, Nat.add_zero, Nat.mul_one]) <;> first | exact e1 | rfl) (by (try simp only [upd_get, base_get, Nat.reduceAdd, Nat.reduceSub, Nat.reduceMul, Nat.reduceDiv, Nat.reduceMod, Nat.reducePow, Nat.reduceLT, Nat.reduceLeDiff, Nat.reduceEqDiff, Nat.reduceBEq, Nat.reduceBNe, reduceIte, Int.reduceEq, Int.reduceLT, Int.reduceLE, Int.reduceNeg, Int.reduceToNat, Int.reduceMul, Int.reduceAdd, Int.reduceSub, Int.cast_ofNat_Int, reduceCtorEq, Nat.zero_add, Nat.add_zero, Nat.mul_one]) <;> first | exact e3 | rfl) (by (try simp only [upd_get, base_get, Nat.reduceAdd, Nat.reduceSub, Nat.reduceMul, Nat.reduceDiv, Nat.reduceMod, Nat.reducePow, Nat.reduceLT, Nat.reduceLeDiff, Nat.reduceEqDiff, Nat.reduceBEq, Nat.reduceBNe, reduceIte, Int.reduceEq, Int.reduceLT, Int.reduceLE, Int.reduceNeg, Int.reduceToNat, Int.reduceMul, Int.reduceAdd, Int.reduceSub, Int.cast_ofNat_Int, reduceCtorEq, Nat.zero_add, Nat.add_zero, Nat.mul_one]) <;> first | exact e24 | rfl) (by (try simp only [upd_get, base_get, Nat.reduceAdd, Nat.reduceSub, Nat.reduceMul, Nat.reduceDiv, Nat.reduceMod, Nat.reducePow, Nat.reduceLT, Nat.reduceLeDiff, Nat.reduceEqDiff, Nat.reduceBEq, Nat.reduceBNe, reduceIte, Int.reduceEq, Int.reduceLT, Int.reduceLE, Int.reduceNeg, Int.reduceToNat, Int.reduceMul, Int.reduceAdd, Int.reduceSub, Int.cast_ofNat_Int, reduceCtorEq, Nat.zero_add, Nat.add_zero, Nat.mul_one]) <;> rfl)
     exact ⟨f1, lv', l', wr', h1, h2, fun h => h3 h, h4⟩
theorem jaC (h36 : F 36 = some Xu) (h37 : F 37 = some Xv) (h33 : F 33 = some KS) (hw : Way F D) {a o e' most k : Nat} {acs : List IVal} {σ : List IObj} {w : D.W} (hx : σ[D.x]? = some (D.ob w)) (ha : σ[a]? = some (.cells acs)) (ho : acs[o]? = some (.sl e' true [])) (ha1 : a ≠ D.x) (hm2 : most < 10000) (hk : D.ok w (k + 3 * most + 1)) :
   ∃ wr lv' l', cfw F (.f 36) [.iface D.ty D.rv, .ptr a o, I most, .fn (.func 37) [] []] σ = some ⟨false, .tup [], (σ.set D.x (D.ob (qf D (cnt D w most) (D.number w 0 most).1 []).1)).set a (.cells (acs.set o lv')) ++ l', wr⟩ /\ Fa a wr /\ (0 < cnt D w most -> (a, true) ∈ wr) /\ LV 3 σ 3 lv' (cnt D w most) (qf D (cnt D w most) (D.number w 0 most).1 []).2 ((σ.set D.x (D.ob (qf D (cnt D w most) (D.number w 0 most).1 []).1)).set a (.cells (acs.set o lv')) ++ l') := by
 rw [jQ Xu h36, jq]
 have l0 := jd hx
 have la := jd ha
 have w2 : IntKind.u64.wrap (most : Int) = (most : Int) := kN (by omega) (by omega)
 have w1 : IntKind.u64.wrap (0 : Int) = 0 := rfl
 obtain ⟨wr1, u0, hw1⟩ := hw.number (σ := σ ++ [.cells [Q 0]]) (p := σ.length) (o := 0) (cs := [Q 0]) (n := 0) (most := most) (k := k + 3 * most) (jL hx _) get_app0 rfl hk (by omega)
 have hok := hw.ok_number (n := 0) (most := most) hk
 have hcn : ∃ d, cnt D w most = d /\ d <= most /\ d = min (D.number w 0 most).2 most := ⟨_, rfl, by unfold cnt; omega, rfl⟩
 obtain ⟨d, hd, hd2, hd3⟩ := hcn
 rw [hd]
 generalize hr : D.number w 0 most = r at *
 have hnl : r.2 < 18446744073709551616 := by rw [<- hr]; exact hw.n_number (by decide)
 have u1 : ((σ ++ [IObj.cells [Q 0]]).set D.x (D.ob r.1)).set σ.length (.cells ([Q 0].set 0 (Q r.2))) = σ.set D.x (D.ob r.1) ++ [.cells [Q r.2]] := by
   rw [kC l0]
   have := set_app0 (σ := σ.set D.x (D.ob r.1)) (l := [IObj.cells [Q 0]]) (.cells [Q r.2])
   rw [List.length_set] at this; exact this
 have u0 : cfw F (Cal.f D.f74) [D.rv, IVal.ptr σ.length 0, Q (most : Int)] (σ ++ [IObj.cells [Q 0]]) = some ⟨false, .tup [], σ.set D.x (D.ob r.1) ++ [.cells [Q r.2]], wr1⟩ := by rw [<- u1]; exact u0
 have g2 : (σ.set D.x (D.ob r.1) ++ [IObj.cells [Q r.2]])[σ.length]? = some (.cells [Q r.2]) := by
   have := get_app0 (σ := σ.set D.x (D.ob r.1)) (l := [IObj.cells [Q r.2]])
   rw [List.length_set] at this; exact this
 have t74 := hw.t74
 have mm : IntKind.i64.wrap (if (most : Int) < (r.2 : Int) then (most : Int) else (r.2 : Int)) = (d : Int) := by
   split <;> rw [qW (by omega) (by omega)] <;> omega
 have n0 : ((0 : Nat) : Int) = 0 := rfl
 simp only [Xu, jG, ha, ho, w1, w2, t74, u0, g2, mm, n0, zk, jL ha, zV, zS, jy, jM, jc, jk, jR, jg, jl, je, jr, jO, jf, jj, jp, jK, ju, jq, Ts.fill, jS, jP, jh, jT, jo, jm, ji, ja, getAll, stepCall, jn, unI, Opd.get, jx, tag, jv, jb, jI, rv, bin, jW, Nat.reduceAdd, Nat.reduceSub, Nat.reduceMul, Nat.reduceDiv, Nat.reduceMod, Nat.reducePow, Nat.reduceLT, Nat.reduceLeDiff, Nat.reduceEqDiff, Nat.reduceBEq, Nat.reduceBNe, reduceIte, Int.reduceEq, Int.reduceLT, Int.reduceLE, Int.reduceNeg, Int.reduceToNat, Int.reduceMul, Int.reduceAdd, Int.reduceSub, reduceCtorEq]
 generalize hE : evw F (ICode.loop vq) _ = R
 have base0 : σ.set D.x (D.ob r.1) ++ [IObj.cells [Q r.2]] = (σ.set D.x (D.ob r.1)).set a (.cells (acs.set o (.sl e' true []))) ++ [IObj.cells [Q r.2]] := by
   rw [vl (get_set ha (Ne.symm ha1)) ho]
 rw [base0] at hE
 have f1 : Fl (wr1 ++ [(σ.length, false)]) := by rw [Fl] at hw1 ⊢; rw [List.all_append, hw1]; rfl
 have hkd : k + 3 * most = k + 3 * (most - d) + 3 * d := by omega
 obtain ⟨f2, lv', l', wr', rfl, hf, hm, hL⟩ := jeB h37 h33 hw la (kU ho) l0 ha1 (n := d) (by omega) d 0 (k + 3 * (most - d)) _ r.1 _ [] _ _ R hE (by omega) (.inl ⟨rfl, rfl, e', rfl⟩) (hkd ▸ hok) (vJ f1) (fun h => absurd h (Nat.lt_irrefl _)) (by (try simp only [upd_get, base_get, Nat.reduceAdd, Nat.reduceSub, Nat.reduceMul, Nat.reduceDiv, Nat.reduceMod, Nat.reducePow, Nat.reduceLT, Nat.reduceLeDiff, Nat.reduceEqDiff, Nat.reduceBEq, Nat.reduceBNe, reduceIte, Int.reduceEq, Int.reduceLT, Int.reduceLE, Int.reduceNeg, Int.reduceToNat, Int.reduceMul, Int.reduceAdd, Int.reduceSub, Int.cast_ofNat_Int, reduceCtorEq, Nat.zero_add, Nat.add_zero, Nat.mul_one]) <;> rfl) (by (try simp only [upd_get, base_get, Nat.reduceAdd, Nat.reduceSub, Nat.reduceMul, Nat.reduceDiv, Nat.reduceMod, Nat.reducePow, Nat.reduceLT, Nat.reduceLeDiff, Nat.reduceEqDiff, Nat.reduceBEq, Nat.reduceBNe, reduceIte, Int.reduceEq, Int.reduceLT, Int.reduceLE, Int.reduceNeg, Int.reduceToNat, Int.reduceMul, Int.reduceAdd, Int.reduceSub, Int.cast_ofNat_Int, reduceCtorEq, Nat.zero_add, Nat.add_zero, Nat.mul_one]) <;> rfl) (by (try simp only [upd_get, base_get, Nat.reduceAdd, Nat.reduceSub, Nat.reduceMul, Nat.reduceDiv, Nat.reduceMod, Nat.reducePow, Nat.reduceLT, Nat.reduceLeDiff, Nat.reduceEqDiff, Nat.reduceBEq, Nat.reduceBNe, reduceIte, Int.reduceEq, Int.reduceLT, Int.reduceLE, Int.reduceNeg, Int.reduceToNat, Int.reduceMul, Int.reduceAdd, Int.reduceSub, Int.cast_ofNat_Int, reduceCtorEq, Nat.zero_add, Nat.add_zero, Nat.mul_one]) <;> rfl) (by (try simp only [upd_get, base_get, Nat.reduceAdd, Nat.reduceSub, Nat.reduceMul, Nat.reduceDiv, Nat.reduceMod, Nat.reducePow, Nat.reduceLT, Nat.reduceLeDiff, Nat.reduceEqDiff, Nat.reduceBEq, Nat.reduceBNe, reduceIte, Int.reduceEq, Int.reduceLT, Int.reduceLE, Int.reduceNeg, Int.reduceToNat, Int.reduceMul, Int.reduceAdd, Int.reduceSub, Int.cast_ofNat_Int, reduceCtorEq, Nat.zero_add, Nat.add_zero, Nat.mul_one]) <;> rfl) (by (try simp only [upd_get, base_get, Nat.reduceAdd, Nat.reduceSub, Nat.reduceMul, Nat.reduceDiv, Nat.reduceMod, Nat.reducePow, Nat.reduceLT, Nat.reduceLeDiff, Nat.reduceEqDiff, Nat.reduceBEq, Nat.reduceBNe, reduceIte, Int.reduceEq, Int.reduceLT, Int.reduceLE, Int.reduceNeg, Int.reduceToNat, Int.reduceMul, Int.reduceAdd, Int.reduceSub, Int.cast_ofNat_Int, reduceCtorEq, Nat.zero_add, Nat.add_zero, Nat.mul_one]) <;> rfl)
 simp only [zV, zS, jy, jM, jc, jk, jR, jg, jl, je, jr, jO, jf, jj, jp, jK, ju, jq, Ts.fill, jS, jP, jh, jT, jo, jm, ji, ja, getAll, stepCall, jn, unI, Opd.get, jx, tag, jv, jb, jI, rv, bin, jW, Nat.reduceAdd, Nat.reduceSub, Nat.reduceMul, Nat.reduceDiv, Nat.reduceMod, Nat.reducePow, Nat.reduceLT, Nat.reduceLeDiff, Nat.reduceEqDiff, Nat.reduceBEq, Nat.reduceBNe, reduceIte, Int.reduceEq, Int.reduceLT, Int.reduceLE, Int.reduceNeg, Int.reduceToNat, Int.reduceMul, Int.reduceAdd, Int.reduceSub, reduceCtorEq]
 have hmf : 0 < d -> (a, true) ∈ wr'.filter fun p => decide (p.1 < σ.length) := fun h => List.mem_filter.mpr ⟨hm h, by simpa using la⟩
 split
 . rename_i hc
   have hd0 : d = 0 := by
     rcases Nat.eq_zero_or_pos d with h | h
     . exact h
     . rw [List.all_eq_true] at hc
       have := hc _ (hm h); simp at this; omega
   subst hd0
   refine ⟨_, lv', [], by rw [qD, List.append_nil], qT hf, hmf, ?_⟩
   rcases hL with ⟨h1, h2, h3⟩ | ⟨h1, _⟩
   . exact .inl ⟨h1, h2, h3⟩
   . exact absurd h1 (Nat.lt_irrefl _)
 . exact ⟨_, lv', l', rfl, qT hf, hmf, hL⟩
end Go.Idl.Sb
