/- SnapBack: what the ideal machine makes of its functions, part C; no conditions. -/
import Derived.Test.YtbfjnoljjbaelaaDoorSbB
set_option linter.unusedSectionVars false
set_option linter.unusedVariables false
set_option linter.unusedSimpArgs false
namespace Go.Idl.Sb
open Go Go.Idl Go.Idl.En
variable {F : jJ} {D : WayD}
/-- The store with a way and a state, and what came on. -/
def S (D : WayD) (σ : List IObj) (a : Nat) (w : D.W) (cs : List IVal) (l : List IObj) : List IObj := (σ.set D.x (D.ob w)).set a (.cells cs) ++ l
section
variable {σ : List IObj} {a : Nat} {w w' : D.W} {cs cs' : List IVal} {l : List IObj}
theorem S_x (hx : D.x < σ.length) (ha : a < σ.length) (hne : a ≠ D.x) : (S D σ a w cs l)[D.x]? = some (D.ob w) := jL (Xr hx ha hne).1 _
theorem S_a (hx : D.x < σ.length) (ha : a < σ.length) (hne : a ≠ D.x) : (S D σ a w cs l)[a]? = some (.cells cs) := jL (Xr hx ha hne).2 _
theorem JH (hx : D.x < σ.length) (ha : a < σ.length) (hne : a ≠ D.x) : ((S D σ a w cs l).set D.x (D.ob w')).set a (.cells cs') = S D σ a w' cs' l := by
 rw [S, kC (by simpa using hx), kC (by simpa using ha), jdD hne]; rfl
theorem jfC (hx : σ[D.x]? = some (D.ob w)) (ha : σ[a]? = some (.cells cs)) : S D σ a w cs [] = σ := by rw [S, ko hx, ko ha, List.append_nil]
end
abbrev plL (l : List Nat) : List (K × Nat) := l.map fun o => (.pl, o)
abbrev byL (l : List Nat) : List (K × Nat) := l.map fun o => (.byt, o)
/-- A state's parts ahead of its lists; the one between; those behind. -/
abbrev lA : List (K × Nat) := plL [0, 1, 2, 3] ++ (.wd, 4) :: (List.range' 0 8).map fun i => (.wd, 5 + i)
abbrev lB : List (K × Nat) := plL [15]
abbrev lC : List (K × Nat) := byL [17, 18, 19] ++ (VJ 20 ++ (VJ 29 ++ ((.tr, 38) :: (byL [39, 40] ++ (Vh 41 ++ (Vh 44 ++ (byL [47, 48, 49] ++ ((.nm, 50) :: (.nm, 51) :: plL [52, 53, 54]))))))))
abbrev lAll : List (K × Nat) := lA ++ (lB ++ lC)
theorem jd8 (a b : Nat) (l : List IVal) : ext (.ptr a b :: l) = true := rfl
/-- Eight registers. -/
theorem jgd (h34 : F 34 = some QB) (hw : Way F D) {a : Nat} {σ : List IObj} {l : List IObj} (hx : D.x < σ.length) (ha : a < σ.length) (hne : a ≠ D.x) : ∀ (d i k : Nat) (f0 : Nat -> Option (Nat × IVal)) (w : D.W) (cs : List IVal) (wr : List (Nat × Bool)) (R : Option (IExit × St)),
   evw F (.loop J7) ⟨E 27 18 6 [] (base f0), S D σ a w cs l, wr⟩ = R -> i + d = 8 -> Ty ((List.range' i d).map fun i => (.wd, 5 + i)) cs -> D.ok w (k + d) -> Fl wr ->
   f0 0 = some (0, .iface D.ty D.rv) -> f0 1 = some (1, .ptr a 0) -> f0 26 = some (26, I i) ->
   ∃ f1 wr', R = some (.exit 0, ⟨E 27 18 6 [] (base f1), S D σ a (jB D ((List.range' i d).map fun i => (.wd, 5 + i)) w cs).1 (jB D ((List.range' i d).map fun i => (.wd, 5 + i)) w cs).2 l, wr'⟩) /\ Fl wr' /\ f1 0 = some (0, .iface D.ty D.rv) /\ f1 1 = some (1, .ptr a 0) := by
 intro d
 induction d with
 | zero =>
   intro i k f0 w cs wr R hE hi hT hk hf e0 e1 e26
   have l0 : decide ((i : Int) < 8) = false := decide_eq_false (by omega)
   rw [jH] at hE
   subst hE
   simp only [J7, e0, e1, e26, l0, zV, zS, jy, jM, jc, jk, jR, jg, jl, je, jr, jO, jf, jj, jp, jK, ju, jq, Ts.fill, jS, jP, jh, jT, jo, jm, ji, ja, getAll, stepCall, jn, unI, Opd.get, jx, tag, jv, jb, jI, rv, bin, jW, Nat.reduceAdd, Nat.reduceSub, Nat.reduceMul, Nat.reduceDiv, Nat.reduceMod, Nat.reducePow, Nat.reduceLT, Nat.reduceLeDiff, Nat.reduceEqDiff, Nat.reduceBEq, Nat.reduceBNe, reduceIte, Int.reduceEq, Int.reduceLT, Int.reduceLE, Int.reduceNeg, Int.reduceToNat, Int.reduceMul, Int.reduceAdd, Int.reduceSub, reduceCtorEq]
   exact ⟨_, _, rfl, hf, (by (try simp only [upd_get, base_get, Nat.reduceAdd, Nat.reduceSub, Nat.reduceMul, Nat.reduceDiv, Nat.reduceMod, Nat.reducePow, Nat.reduceLT, Nat.reduceLeDiff, Nat.reduceEqDiff, Nat.reduceBEq, Nat.reduceBNe, reduceIte, Int.reduceEq, Int.reduceLT, Int.reduceLE, Int.reduceNeg, Int.reduceToNat, Int.reduceMul, Int.reduceAdd, Int.reduceSub, Int.cast_ofNat_Int, reduceCtorEq, Nat.zero_add, Nat.add_zero, Nat.mul_one]) <;> first | exact e0 | rfl), (by (try simp only [upd_get, base_get, Nat.reduceAdd, Nat.reduceSub, Nat.reduceMul, Nat.reduceDiv, Nat.reduceMod, Nat.reducePow, Nat.reduceLT, Nat.reduceLeDiff, Nat.reduceEqDiff, Nat.reduceBEq, Nat.reduceBNe, reduceIte, Int.reduceEq, Int.reduceLT, Int.reduceLE, Int.reduceNeg, Int.reduceToNat, Int.reduceMul, Int.reduceAdd, Int.reduceSub, Int.cast_ofNat_Int, reduceCtorEq, Nat.zero_add, Nat.add_zero, Nat.mul_one]) <;> first | exact e1 | rfl)⟩
 | succ d ih =>
   intro i k f0 w cs wr R hE hi hT hk hf e0 e1 e26
   have l0 : decide ((i : Int) < 8) = true := decide_eq_true (by omega)
   have l1 : (i : Int) < 8 := by omega
   have n8 : ((8 : Nat) : Int) = 8 := rfl
   have d1 : (0 : Int) <= (i : Int) := by omega
   have w1 := yz (n := i) (by omega)
   rw [List.range'_succ, List.map_cons] at hT ⊢
   obtain ⟨v, hv, hvt⟩ := hT (.wd, 5 + i) List.mem_cons_self
   simp only [] at hv hvt
   obtain ⟨wr1, u0, hw1⟩ := YR (k := k + d) h34 hw (S_x (w := w) (cs := cs) (l := l) hx ha hne) (S_a hx ha hne) hv hvt hk hne
   rw [JH hx ha hne] at u0
   rw [jH] at hE
   simp only [J7, jG, e0, e1, e26, l0, l1, n8, d1, w1, u0, Int.toNat_natCast, zV, zS, jy, jM, jc, jk, jR, jg, jl, je, jr, jO, jf, jj, jp, jK, ju, jq, Ts.fill, jS, jP, jh, jT, jo, jm, ji, ja, getAll, stepCall, jn, unI, Opd.get, jx, tag, jv, jb, jI, rv, bin, jW, Nat.reduceAdd, Nat.reduceSub, Nat.reduceMul, Nat.reduceDiv, Nat.reduceMod, Nat.reducePow, Nat.reduceLT, Nat.reduceLeDiff, Nat.reduceEqDiff, Nat.reduceBEq, Nat.reduceBNe, reduceIte, Int.reduceEq, Int.reduceLT, Int.reduceLE, Int.reduceNeg, Int.reduceToNat, Int.reduceMul, Int.reduceAdd, Int.reduceSub, reduceCtorEq] at hE
   rw [jB, jF hv]
   have T2 : Ty ((List.range' (i + 1) d).map fun i => (.wd, 5 + i)) (cs.set (5 + i) (kg D .wd w v).2) := by
     refine vB (k := .wd) (fun q hq => hT q (List.mem_cons_of_mem _ hq)) (zd hw hvt) ?_
     intro q hq _
     obtain ⟨a, _, rfl⟩ := List.mem_map.mp hq
     rfl
   exact ih (i + 1) k _ _ _ _ R hE (by omega) T2 (Je hw hvt hk) (by rw [Fl] at hf hw1 ⊢; simp only [List.all_append, hf, hw1]; rfl) (by (try simp only [upd_get, base_get, Nat.reduceAdd, Nat.reduceSub, Nat.reduceMul, Nat.reduceDiv, Nat.reduceMod, Nat.reducePow, Nat.reduceLT, Nat.reduceLeDiff, Nat.reduceEqDiff, Nat.reduceBEq, Nat.reduceBNe, reduceIte, Int.reduceEq, Int.reduceLT, Int.reduceLE, Int.reduceNeg, Int.reduceToNat, Int.reduceMul, Int.reduceAdd, Int.reduceSub, Int.cast_ofNat_Int, reduceCtorEq, Nat.zero_add, Nat.add_zero, Nat.mul_one]) <;> first | exact e0 | rfl) (by (try simp only [upd_get, base_get, Nat.reduceAdd, Nat.reduceSub, Nat.reduceMul, Nat.reduceDiv, Nat.reduceMod, Nat.reducePow, Nat.reduceLT, Nat.reduceLeDiff, Nat.reduceEqDiff, Nat.reduceBEq, Nat.reduceBNe, reduceIte, Int.reduceEq, Int.reduceLT, Int.reduceLE, Int.reduceNeg, Int.reduceToNat, Int.reduceMul, Int.reduceAdd, Int.reduceSub, Int.cast_ofNat_Int, reduceCtorEq, Nat.zero_add, Nat.add_zero, Nat.mul_one]) <;> first | exact e1 | rfl) (by (try simp only [upd_get, base_get, Nat.reduceAdd, Nat.reduceSub, Nat.reduceMul, Nat.reduceDiv, Nat.reduceMod, Nat.reducePow, Nat.reduceLT, Nat.reduceLeDiff, Nat.reduceEqDiff, Nat.reduceBEq, Nat.reduceBNe, reduceIte, Int.reduceEq, Int.reduceLT, Int.reduceLE, Int.reduceNeg, Int.reduceToNat, Int.reduceMul, Int.reduceAdd, Int.reduceSub, Int.cast_ofNat_Int, reduceCtorEq, Nat.zero_add, Nat.add_zero, Nat.mul_one]) <;> rfl)
end Go.Idl.Sb
namespace Go.Idl.Sb
open Go Go.Idl Go.Idl.En
variable {F : jJ} {D : WayD}
section
variable {σ : List IObj} {a k : Nat} {w : D.W} {cs : List IVal} {l : List IObj}
theorem pS (h33 : F 33 = some KS) (hw : Way F D) (hx : D.x < σ.length) (ha : a < σ.length) (hne : a ≠ D.x) (os : List Nat) (hlen : os.length < 1000) (hT : Ty (plL os) cs) (hk : D.ok w (k + os.length)) :
   ∃ wr, cfw F (.f 33) [.iface D.ty D.rv, .sl 1 true (Ps a os)] (S D σ a w cs l) = some ⟨false, .tup [], S D σ a (jB D (plL os) w cs).1 (jB D (plL os) w cs).2 l, wr⟩ /\ Fl wr := by
 obtain ⟨wr, h1, h2⟩ := QR (e := 1) h33 hw (S_x (w := w) (cs := cs) (l := l) hx ha hne) (S_a hx ha hne) hne hlen hT hk
 rw [JH hx ha hne] at h1
 exact ⟨wr, h1, h2⟩
theorem yS (hw : Way F D) (hx : D.x < σ.length) (ha : a < σ.length) (hne : a ≠ D.x) (os : List Nat) (hlen : os.length < 1000) (hT : Ty (byL os) cs) (hk : D.ok w (k + os.length)) :
   ∃ wr, cfw F (.f D.f73) [D.rv, .sl 1 true (Ps a os)] (S D σ a w cs l) = some ⟨false, .tup [], S D σ a (jB D (byL os) w cs).1 (jB D (byL os) w cs).2 l, wr⟩ /\ Fl wr := by
 obtain ⟨wr, h1, h2⟩ := hw.bytes (e := 1) (S_x (w := w) (cs := cs) (l := l) hx ha hne) (S_a hx ha hne) hT hlen hk hne
 rw [JH hx ha hne] at h1
 exact ⟨wr, h1, h2⟩
theorem wS (h34 : F 34 = some QB) (hw : Way F D) (hx : D.x < σ.length) (ha : a < σ.length) (hne : a ≠ D.x) (o : Nat) (hT : Ty [(.wd, o)] cs) (hk : D.ok w (k + 1)) :
   ∃ wr, cfw F (.f 34) [.iface D.ty D.rv, .ptr a o] (S D σ a w cs l) = some ⟨false, .tup [], S D σ a (jB D [(.wd, o)] w cs).1 (jB D [(.wd, o)] w cs).2 l, wr⟩ /\ Fl wr := by
 obtain ⟨v, ho, hv⟩ := hT _ List.mem_cons_self
 obtain ⟨wr, h1, h2⟩ := YR h34 hw (S_x (w := w) (cs := cs) (l := l) hx ha hne) (S_a hx ha hne) ho hv hk hne
 rw [JH hx ha hne] at h1
 rw [jB, jF ho]
 exact ⟨wr, h1, h2⟩
theorem qS (h38 : F 38 = some ZG) (h33 : F 33 = some KS) (hw : Way F D) (hx : D.x < σ.length) (ha : a < σ.length) (hne : a ≠ D.x) (o : Nat) (hT : Ty (VJ o) cs) (hk : D.ok w (k + 9)) :
   ∃ wr, cfw F (.f 38) [.iface D.ty D.rv, .ptr a o] (S D σ a w cs l) = some ⟨false, .tup [], S D σ a (jB D (VJ o) w cs).1 (jB D (VJ o) w cs).2 l, wr⟩ /\ Fl wr := by
 obtain ⟨wr, h1, h2⟩ := jeY h38 h33 hw (S_x (w := w) (cs := cs) (l := l) hx ha hne) (S_a hx ha hne) hT hk hne
 rw [JH hx ha hne] at h1
 exact ⟨wr, h1, h2⟩
theorem cS (h39 : F 39 = some ZH) (hw : Way F D) (hx : D.x < σ.length) (ha : a < σ.length) (hne : a ≠ D.x) (o : Nat) (hT : Ty (Vh o) cs) (hk : D.ok w (k + 3)) :
   ∃ wr, cfw F (.f 39) [.iface D.ty D.rv, .ptr a o] (S D σ a w cs l) = some ⟨false, .tup [], S D σ a (jB D (Vh o) w cs).1 (jB D (Vh o) w cs).2 l, wr⟩ /\ Fl wr := by
 obtain ⟨wr, h1, h2⟩ := jdV h39 hw (S_x (w := w) (cs := cs) (l := l) hx ha hne) (S_a hx ha hne) hT hk hne
 rw [JH hx ha hne] at h1
 exact ⟨wr, h1, h2⟩
theorem tS (hw : Way F D) (hx : D.x < σ.length) (ha : a < σ.length) (hne : a ≠ D.x) (o : Nat) (hT : Ty [(.tr, o)] cs) (hk : D.ok w (k + 1)) :
   ∃ wr, cfw F (.f D.f75) [D.rv, .ptr a o] (S D σ a w cs l) = some ⟨false, .tup [], S D σ a (jB D [(.tr, o)] w cs).1 (jB D [(.tr, o)] w cs).2 l, wr⟩ /\ Fl wr := by
 obtain ⟨v, ho, b, rfl⟩ := hT _ List.mem_cons_self
 obtain ⟨wr, h1, h2⟩ := hw.truth (S_x (w := w) (cs := cs) (l := l) hx ha hne) (S_a hx ha hne) ho hk hne
 rw [JH hx ha hne] at h1
 rw [jB, jF ho]
 exact ⟨wr, h1, h2⟩
theorem nS (hw : Way F D) (hx : D.x < σ.length) (ha : a < σ.length) (hne : a ≠ D.x) (o : Nat) (hT : Ty [(.nm, o)] cs) (hk : D.ok w (k + 1)) :
   ∃ wr, cfw F (.f D.f74) [D.rv, .ptr a o, .int .u64 1152921504606846975] (S D σ a w cs l) = some ⟨false, .tup [], S D σ a (jB D [(.nm, o)] w cs).1 (jB D [(.nm, o)] w cs).2 l, wr⟩ /\ Fl wr := by
 obtain ⟨v, ho, n, rfl, hn⟩ := hT _ List.mem_cons_self
 obtain ⟨wr, h1, h2⟩ := hw.number (most := 1152921504606846975) (S_x (w := w) (cs := cs) (l := l) hx ha hne) (S_a hx ha hne) ho hk hne
 rw [JH hx ha hne] at h1
 rw [jB, jF ho]
 exact ⟨wr, h1, h2⟩
/-- One part, then the rest. -/
theorem zx (hw : Way F D) {l1 l2 L : List (K × Nat)} (h : Ty L cs) (h1 : ∀ q ∈ l1, q ∈ L) (h2 : ∀ q ∈ l2, q ∈ L) (hs : ∀ q ∈ L, ∀ r ∈ L, q.2 = r.2 -> q.1 = r.1) (hk : D.ok w (k + l1.length)) : Ty l1 cs /\ Ty L (jB D l1 w cs).2 /\ D.ok (jB D l1 w cs).1 k :=
 ⟨jU h h1, qw hw _ _ _ h (jU h h1) (fun q hq r hr => hs q hq r (h1 r hr)) (fun q hq r hr => hs q (h1 q hq) r (h1 r hr)), kX hw _ _ _ k (jU h h1) (fun q hq r hr => hs q (h1 q hq) r (h1 r hr)) hk⟩
end
theorem jV : ∀ q ∈ lAll, ∀ r ∈ lAll, q.2 = r.2 -> q.1 = r.1 := by decide
end Go.Idl.Sb
namespace Go.Idl.Sb
open Go Go.Idl Go.Idl.En
variable {F : jJ} {D : WayD}
theorem yy {L : List (K × Nat)} {cs : List IVal} {o : Nat} {v : IVal} (h : Ty L cs) (hd : ∀ q ∈ L, q.2 ≠ o) : Ty L (cs.set o v) := by
 intro q hq
 obtain ⟨u, hu, hk⟩ := h q hq
 exact ⟨u, by rw [List.getElem?_set_ne (fun e => hd q hq e.symm)]; exact hu, hk⟩
theorem vb {a : Nat} {x y : List (Nat × Bool)} (hx : Fa a x) (hy : Fa a y) : Fa a (x ++ y) := by rw [Fa] at hx hy ⊢; rw [List.all_append, hx, hy]; rfl
set_option maxHeartbeats 2000000 in
theorem jbp (h18 : F 18 = some jbF) (h33 : F 33 = some KS) (h34 : F 34 = some QB) (h38 : F 38 = some ZG) (h39 : F 39 = some ZH) (hw : Way F D) {σ : List IObj} {a k : Nat} {w w1 w2 w3 : D.W} {cs : List IVal} {v1 v2 v3 : IVal} {l1 l2 l3 : List IObj} {wr1 wr2 wr3 : List (Nat × Bool)} {wf : D.W} {cf : List IVal}
   (hx : σ[D.x]? = some (D.ob w)) (ha : σ[a]? = some (.cells cs)) (hne : a ≠ D.x) (hT : Ty lAll cs) (k0 : D.ok w (k + 13))
   (h13 : cfw F (.f 35) [.iface D.ty D.rv, .ptr a 13, I 512, .fn (.func 34) [] []] (S D σ a (jB D lA w cs).1 (jB D lA w cs).2 []) = some ⟨false, .tup [], S D σ a w1 ((jB D lA w cs).2.set 13 v1) l1, wr1⟩) (f1 : Fa a wr1)
   (h14 : cfw F (.f 35) [.iface D.ty D.rv, .ptr a 14, I 8000, .fn (.func 34) [] []] (S D σ a w1 ((jB D lA w cs).2.set 13 v1) l1) = some ⟨false, .tup [], S D σ a w2 (((jB D lA w cs).2.set 13 v1).set 14 v2) l2, wr2⟩) (f2 : Fa a wr2) (k2 : D.ok w2 (k + 1))
   (h16 : cfw F (.f 36) [.iface D.ty D.rv, .ptr a 16, I 8, .fn (.func 37) [] []] (S D σ a (jB D lB w2 (((jB D lA w cs).2.set 13 v1).set 14 v2)).1 (jB D lB w2 (((jB D lA w cs).2.set 13 v1).set 14 v2)).2 l2) = some ⟨false, .tup [], S D σ a w3 ((jB D lB w2 (((jB D lA w cs).2.set 13 v1).set 14 v2)).2.set 16 v3) l3, wr3⟩) (f3 : Fa a wr3) (k3 : D.ok w3 (k + 38)) (hfin : jB D lC w3 ((jB D lB w2 (((jB D lA w cs).2.set 13 v1).set 14 v2)).2.set 16 v3) = (wf, cf)) :
   ∃ wr, (∀ q, (q ∈ wr1 \/ q ∈ wr2 \/ q ∈ wr3) -> q ∈ wr) /\ Fa a wr /\ cfw F (.f 18) [.iface D.ty D.rv, .ptr a 0] σ = some (if wr.all (fun p => !p.2 || decide (σ.length <= p.1)) = true then ⟨false, .tup [], (S D σ a wf cf l3).take σ.length, wr.filter fun p => decide (p.1 < σ.length)⟩ else ⟨false, .tup [], S D σ a wf cf l3, wr.filter fun p => decide (p.1 < σ.length)⟩) := by
 rw [jQ jbF h18, jq]
 have lx := jd hx
 have la := jd ha
 have hs := jV
 have s0 : S D σ a w cs [] = σ := jfC hx ha
 obtain ⟨T1, L1, k1⟩ := zx hw (k := k + 9) (l1 := plL [0, 1, 2, 3]) (l2 := []) hT (by decide) (by decide) hs k0
 obtain ⟨u1, e1, g1⟩ := pS (l := []) (k := k + 9) h33 hw lx la hne [0, 1, 2, 3] (by decide) T1 k0
 rw [s0] at e1
 have e1 : cfw F (.f 33) [.iface D.ty D.rv, .sl 1 true [.ptr a 0, .ptr a 1, .ptr a 2, .ptr a 3]] σ = _ := e1
 have eA : jB D lA w cs = jB D ((List.range' 0 8).map fun i => (.wd, 5 + i)) (jB D [(.wd, 4)] (jB D (plL [0, 1, 2, 3]) w cs).1 (jB D (plL [0, 1, 2, 3]) w cs).2).1 (jB D [(.wd, 4)] (jB D (plL [0, 1, 2, 3]) w cs).1 (jB D (plL [0, 1, 2, 3]) w cs).2).2 := by
   rw [lA, kP]; rfl
 generalize hr1 : jB D (plL [0, 1, 2, 3]) w cs = r1 at *
 obtain ⟨T2, L2, k2'⟩ := zx hw (k := k + 8) (l1 := [(.wd, 4)]) (l2 := []) L1 (by decide) (by decide) hs k1
 obtain ⟨u2, e2, g2⟩ := wS (l := []) (k := k + 8) h34 hw lx la hne 4 T2 k1
 generalize hr2 : jB D [(.wd, 4)] r1.1 r1.2 = r2 at *
 obtain ⟨T3, L3, k3'⟩ := zx hw (k := k) (l1 := (List.range' 0 8).map fun i => (.wd, 5 + i)) (l2 := []) L2 (by decide) (by decide) hs k2'
 have x1 : ∀ (b : Nat) (l : List IVal), ext (.ptr a b :: l) = true := fun b l => jd8 a b l
 simp only [jbF, x1, e1, e2, zV, zS, jy, jM, jc, jk, jR, jg, jl, je, jr, jO, jf, jj, jp, jK, ju, jq, Ts.fill, jS, jP, jh, jT, jo, jm, ji, ja, getAll, stepCall, jn, unI, Opd.get, jx, tag, jv, jb, jI, rv, bin, jW, Nat.reduceAdd, Nat.reduceSub, Nat.reduceMul, Nat.reduceDiv, Nat.reduceMod, Nat.reducePow, Nat.reduceLT, Nat.reduceLeDiff, Nat.reduceEqDiff, Nat.reduceBEq, Nat.reduceBNe, reduceIte, Int.reduceEq, Int.reduceLT, Int.reduceLE, Int.reduceNeg, Int.reduceToNat, Int.reduceMul, Int.reduceAdd, Int.reduceSub, reduceCtorEq]
 generalize hE : evw F (ICode.loop J7) _ = R
 obtain ⟨f9, wr9, rfl, g9, z0, z1⟩ := jgd h34 hw lx la hne 8 0 k _ _ _ _ R hE rfl T3 k2' (by rw [Fl] at g1 g2 ⊢; simp only [List.all_append, g1, g2]; rfl) (by (try simp only [upd_get, base_get, Nat.reduceAdd, Nat.reduceSub, Nat.reduceMul, Nat.reduceDiv, Nat.reduceMod, Nat.reducePow, Nat.reduceLT, Nat.reduceLeDiff, Nat.reduceEqDiff, Nat.reduceBEq, Nat.reduceBNe, reduceIte, Int.reduceEq, Int.reduceLT, Int.reduceLE, Int.reduceNeg, Int.reduceToNat, Int.reduceMul, Int.reduceAdd, Int.reduceSub, Int.cast_ofNat_Int, reduceCtorEq, Nat.zero_add, Nat.add_zero, Nat.mul_one]) <;> rfl) (by (try simp only [upd_get, base_get, Nat.reduceAdd, Nat.reduceSub, Nat.reduceMul, Nat.reduceDiv, Nat.reduceMod, Nat.reducePow, Nat.reduceLT, Nat.reduceLeDiff, Nat.reduceEqDiff, Nat.reduceBEq, Nat.reduceBNe, reduceIte, Int.reduceEq, Int.reduceLT, Int.reduceLE, Int.reduceNeg, Int.reduceToNat, Int.reduceMul, Int.reduceAdd, Int.reduceSub, Int.cast_ofNat_Int, reduceCtorEq, Nat.zero_add, Nat.add_zero, Nat.mul_one]) <;> rfl) (by (try simp only [upd_get, base_get, Nat.reduceAdd, Nat.reduceSub, Nat.reduceMul, Nat.reduceDiv, Nat.reduceMod, Nat.reducePow, Nat.reduceLT, Nat.reduceLeDiff, Nat.reduceEqDiff, Nat.reduceBEq, Nat.reduceBNe, reduceIte, Int.reduceEq, Int.reduceLT, Int.reduceLE, Int.reduceNeg, Int.reduceToNat, Int.reduceMul, Int.reduceAdd, Int.reduceSub, Int.cast_ofNat_Int, reduceCtorEq, Nat.zero_add, Nat.add_zero, Nat.mul_one]) <;> rfl)
 rw [<- eA] at L3 ⊢
 generalize hrA : jB D lA w cs = rA at *
 have M1 : Ty lAll ((rA.2.set 13 v1).set 14 v2) := yy (yy L3 (by decide)) (by decide)
 obtain ⟨T4, L4, k4⟩ := zx hw (k := k) (l1 := plL [15]) (l2 := []) M1 (by decide) (by decide) hs k2
 obtain ⟨u4, e4, g4⟩ := pS (l := l2) (k := k) h33 hw lx la hne [15] (by decide) T4 k2
 have e4 : cfw F (.f 33) [.iface D.ty D.rv, .sl 1 true [.ptr a 15]] (S D σ a w2 ((rA.2.set 13 v1).set 14 v2) l2) = _ := e4
 generalize hr4 : jB D (plL [15]) w2 ((rA.2.set 13 v1).set 14 v2) = r4 at *
 have M2 : Ty lAll (r4.2.set 16 v3) := yy L4 (by decide)
 generalize r4.2.set 16 v3 = c3 at *
 obtain ⟨T5, L5, k5⟩ := zx hw (k := k + 35) (l1 := byL [17, 18, 19]) (l2 := []) M2 (by decide) (by decide) hs k3
 obtain ⟨u5, e5, g5⟩ := yS (l := l3) (k := k + 35) hw lx la hne [17, 18, 19] (by decide) T5 k3
 have e5 : cfw F (.f D.f73) [D.rv, .sl 1 true [.ptr a 17, .ptr a 18, .ptr a 19]] (S D σ a w3 c3 l3) = _ := e5
 have eC1 : jB D lC w3 c3 = jB D (VJ 20 ++ (VJ 29 ++ ((.tr, 38) :: (byL [39, 40] ++ (Vh 41 ++ (Vh 44 ++ (byL [47, 48, 49] ++ ((.nm, 50) :: (.nm, 51) :: plL [52, 53, 54])))))))) (jB D (byL [17, 18, 19]) w3 c3).1 (jB D (byL [17, 18, 19]) w3 c3).2 := kP _ _ _ _
 rw [eC1] at hfin
 generalize hr5 : jB D (byL [17, 18, 19]) w3 c3 = r5 at *
 obtain ⟨T6, L6, k6⟩ := zx hw (k := k + 26) (l1 := VJ 20) (l2 := []) L5 (by decide) (by decide) hs k5
 obtain ⟨u6, e6, g6⟩ := qS (l := l3) (k := k + 26) h38 h33 hw lx la hne 20 T6 k5
 rw [kP (VJ 20)] at hfin
 generalize hr6 : jB D (VJ 20) r5.1 r5.2 = r6 at *
 obtain ⟨T7, L7, k7⟩ := zx hw (k := k + 17) (l1 := VJ 29) (l2 := []) L6 (by decide) (by decide) hs k6
 obtain ⟨u7, e7, g7⟩ := qS (l := l3) (k := k + 17) h38 h33 hw lx la hne 29 T7 k6
 rw [kP (VJ 29)] at hfin
 generalize hr7 : jB D (VJ 29) r6.1 r6.2 = r7 at *
 obtain ⟨T8, L8, k8⟩ := zx hw (k := k + 16) (l1 := [(.tr, 38)]) (l2 := []) L7 (by decide) (by decide) hs k7
 obtain ⟨u8, e8, g8⟩ := tS (l := l3) (k := k + 16) hw lx la hne 38 T8 k7
 have eC2 : ∀ (r : List (K × Nat)), jB D ((.tr, 38) :: r) r7.1 r7.2 = jB D r (jB D [(.tr, 38)] r7.1 r7.2).1 (jB D [(.tr, 38)] r7.1 r7.2).2 := fun r => kP [(.tr, 38)] r _ _
 rw [eC2] at hfin
 generalize hr8 : jB D [(.tr, 38)] r7.1 r7.2 = r8 at *
 obtain ⟨T9, L9, k9⟩ := zx hw (k := k + 14) (l1 := byL [39, 40]) (l2 := []) L8 (by decide) (by decide) hs k8
 obtain ⟨u9, e9, g9'⟩ := yS (l := l3) (k := k + 14) hw lx la hne [39, 40] (by decide) T9 k8
 have e9 : cfw F (.f D.f73) [D.rv, .sl 1 true [.ptr a 39, .ptr a 40]] (S D σ a r8.1 r8.2 l3) = _ := e9
 rw [kP (byL [39, 40])] at hfin
 generalize hr9 : jB D (byL [39, 40]) r8.1 r8.2 = r9 at *
 obtain ⟨T10, L10, k10⟩ := zx hw (k := k + 11) (l1 := Vh 41) (l2 := []) L9 (by decide) (by decide) hs k9
 obtain ⟨u10, e10, g10⟩ := cS (l := l3) (k := k + 11) h39 hw lx la hne 41 T10 k9
 rw [kP (Vh 41)] at hfin
 generalize hr10 : jB D (Vh 41) r9.1 r9.2 = r10 at *
 obtain ⟨T11, L11, k11⟩ := zx hw (k := k + 8) (l1 := Vh 44) (l2 := []) L10 (by decide) (by decide) hs k10
 obtain ⟨u11, e11, g11⟩ := cS (l := l3) (k := k + 8) h39 hw lx la hne 44 T11 k10
 rw [kP (Vh 44)] at hfin
 generalize hr11 : jB D (Vh 44) r10.1 r10.2 = r11 at *
 obtain ⟨T12, L12, k12⟩ := zx hw (k := k + 5) (l1 := byL [47, 48, 49]) (l2 := []) L11 (by decide) (by decide) hs k11
 obtain ⟨u12, e12, g12⟩ := yS (l := l3) (k := k + 5) hw lx la hne [47, 48, 49] (by decide) T12 k11
 have e12 : cfw F (.f D.f73) [D.rv, .sl 1 true [.ptr a 47, .ptr a 48, .ptr a 49]] (S D σ a r11.1 r11.2 l3) = _ := e12
 rw [kP (byL [47, 48, 49])] at hfin
 generalize hr12 : jB D (byL [47, 48, 49]) r11.1 r11.2 = r12 at *
 obtain ⟨T13, L13, k13⟩ := zx hw (k := k + 4) (l1 := [(.nm, 50)]) (l2 := []) L12 (by decide) (by decide) hs k12
 obtain ⟨u13, e13, g13⟩ := nS (l := l3) (k := k + 4) hw lx la hne 50 T13 k12
 have eC3 : ∀ (r : List (K × Nat)), jB D ((.nm, 50) :: r) r12.1 r12.2 = jB D r (jB D [(.nm, 50)] r12.1 r12.2).1 (jB D [(.nm, 50)] r12.1 r12.2).2 := fun r => kP [(.nm, 50)] r _ _
 rw [eC3] at hfin
 generalize hr13 : jB D [(.nm, 50)] r12.1 r12.2 = r13 at *
 obtain ⟨T14, L14, k14⟩ := zx hw (k := k + 3) (l1 := [(.nm, 51)]) (l2 := []) L13 (by decide) (by decide) hs k13
 obtain ⟨u14, e14, g14⟩ := nS (l := l3) (k := k + 3) hw lx la hne 51 T14 k13
 have eC4 : ∀ (r : List (K × Nat)), jB D ((.nm, 51) :: r) r13.1 r13.2 = jB D r (jB D [(.nm, 51)] r13.1 r13.2).1 (jB D [(.nm, 51)] r13.1 r13.2).2 := fun r => kP [(.nm, 51)] r _ _
 rw [eC4] at hfin
 generalize hr14 : jB D [(.nm, 51)] r13.1 r13.2 = r14 at *
 obtain ⟨T15, L15, k15⟩ := zx hw (k := k) (l1 := plL [52, 53, 54]) (l2 := []) L14 (by decide) (by decide) hs k14
 obtain ⟨u15, e15, g15⟩ := pS (l := l3) (k := k) h33 hw lx la hne [52, 53, 54] (by decide) T15 k14
 have e15 : cfw F (.f 33) [.iface D.ty D.rv, .sl 1 true [.ptr a 52, .ptr a 53, .ptr a 54]] (S D σ a r14.1 r14.2 l3) = _ := e15
 generalize hr15 : jB D (plL [52, 53, 54]) r14.1 r14.2 = r15 at *
 have t73 := hw.t73
 have t74 := hw.t74
 have t75 := hw.t75
 have n0 := hw.nil
 have dd : decide ((0 : Int) < 2) = true := rfl
 simp only [x1, z0, z1, h13, h14, h16, e4, e5, e6, e7, e8, e9, e10, e11, e12, e13, e14, e15, t73, t74, t75, n0, zk, zV, zS, jy, jM, jc, jk, jR, jg, jl, je, jr, jO, jf, jj, jp, jK, ju, jq, Ts.fill, jS, jP, jh, jT, jo, jm, ji, ja, getAll, stepCall, jn, unI, Opd.get, jx, tag, jv, jb, jI, rv, bin, jW, Nat.reduceAdd, Nat.reduceSub, Nat.reduceMul, Nat.reduceDiv, Nat.reduceMod, Nat.reducePow, Nat.reduceLT, Nat.reduceLeDiff, Nat.reduceEqDiff, Nat.reduceBEq, Nat.reduceBNe, reduceIte, Int.reduceEq, Int.reduceLT, Int.reduceLE, Int.reduceNeg, Int.reduceToNat, Int.reduceMul, Int.reduceAdd, Int.reduceSub, reduceCtorEq]
 have e1 : r15.1 = wf := by rw [hfin]
 have e2 : r15.2 = cf := by rw [hfin]
 rw [e1, e2]
 refine ⟨_, ?_, ?_, rfl⟩
 . intro q hq
   simp only [List.mem_append]
   rcases hq with h | h | h <;> simp [h]
 . exact vb (vJ g15) (vb (vJ g14) (vb (vJ g13) (vb (vJ g12) (vb (vJ g11) (vb (vJ g10) (vb (vJ g9') (vb (vJ g8) (vb (vJ g7) (vb (vJ g6) (vb (vJ g5) (vb f3 (vb (vJ g4) (vb f2 (vb f1 (vJ g9)))))))))))))))
end Go.Idl.Sb
namespace Go.Idl.Sb
open Go Go.Idl Go.Idl.En
variable {F : jJ}
/-- What a cell may be set to without change. -/
theorem yT {cs : List IVal} {o : Nat} {v : IVal} (ho : cs[o]? = some v) : cs.set o v = cs := by
 have h2 := kU ho
 rw [List.getElem?_eq_getElem (by omega)] at ho; cases ho
 exact List.set_getElem_self _
/-- Laying. -/
def DL (x : Nat) : WayD where
 W := La
 ob := La.ob
 x := x
 ty := 69
 rv := .ptr x 0
 f73 := 73
 f74 := 74
 f75 := 75
 f76 := 76
 ok := fun w k => w.bs.length + 8 * k < 880000
 whole := fun w n lo hi => (w.whole n lo hi, n)
 number := fun w n most => (w.number n most, n)
 truth := fun w b => (w.truth b, b)
 byte := fun w n => (w.byte n, n)
theorem jaM (n : Nat) : (nb n).length <= 8 := by
 rw [VD]; rcases KB n with e | e | e | e <;> rw [e] <;> decide
theorem vg {x : Nat} : ∀ (l : List (K × Nat)) (w : (DL x).W) (cs : List IVal), Ty l cs -> (jB (DL x) l w cs).2 = cs := by
 intro l
 induction l with
 | nil => intro w cs _; rfl
 | cons q l ih =>
   intro w cs hT
   obtain ⟨k, o⟩ := q
   obtain ⟨v, ho, hv⟩ := hT _ List.mem_cons_self
   simp only [] at ho hv
   rw [jB, jF ho]
   have e : (kg (DL x) k w v).2 = v := by
     cases k with
     | pl => obtain ⟨n, rfl, _⟩ := hv; rfl
     | wd => obtain ⟨n, rfl, h1, h2⟩ := hv; show IVal.int .i32 (IntKind.i32.wrap n) = _; rw [jbB h1 h2]
     | byt => obtain ⟨n, rfl, _⟩ := hv; rfl
     | tr => obtain ⟨b, rfl⟩ := hv; rfl
     | hf => obtain ⟨n, rfl, hn⟩ := hv; show IVal.int .u16 (IntKind.u16.wrap (n : Int)) = _; rw [Xb]; congr 1; omega
     | nm => obtain ⟨n, rfl, _⟩ := hv; rfl
   simp only [e]
   rw [yT ho]
   exact ih _ _ (fun q hq => hT q (List.mem_cons_of_mem _ hq))
theorem ZX {x : Nat} : ∀ (os : List Nat) (w : (DL x).W) (cs : List IVal), Ty (os.map fun o => (.byt, o)) cs -> (jB (DL x) (os.map fun o => (.byt, o)) w cs).1 = La.bytes w cs os := by
 intro os
 induction os with
 | nil => intro w cs _; rfl
 | cons o os ih =>
   intro w cs hT
   obtain ⟨v, ho, n, rfl, hn⟩ := hT (.byt, o) (by simp)
   simp only [] at ho
   rw [List.map_cons, jB, jF ho]
   have e2 : ∀ w : La, La.bytes w cs (o :: os) = La.bytes (La.byte w n) cs os := fun w => by rw [La.bytes, ho]; rfl
   refine Eq.trans ?_ (e2 w).symm
   have e : (kg (DL x) .byt w (B n)) = (La.byte w n, B n) := rfl
   rw [e]
   simp only []
   rw [yT ho]
   exact ih _ _ (fun q hq => hT q (by rw [List.map_cons]; exact List.mem_cons_of_mem _ hq))
theorem jid (h73 : F 73 = some jfs) (h74 : F 74 = some jft) (h75 : F 75 = some jfu) (h76 : F 76 = some jfv) (h77 : F 77 = some jce) (h78 : F 78 = some jen) (h79 : F 79 = some jeo) (h80 : F 80 = some Xc) (h81 : F 81 = some Va) (x : Nat) : Way F (DL x) where
 t73 := rfl
 t74 := rfl
 t75 := rfl
 t76 := rfl
 nil := fun n => by
   show XC [69, 78] n (.fn (.method n) [.iface 69 (.ptr x 0)] []) = _
   rw [XC, if_pos ⟨rfl, rfl, rfl⟩]; rfl
 whole := fun {σ p o cs n lo hi w k} hx hp ho hn hk hne => by
   have hk : w.bs.length + 8 * (k + 1) < 880000 := hk
   obtain ⟨wr, h1, h2⟩ := jay (lo := lo) (hi := hi) h76 h79 h77 h80 h81 hx hp ho hn (by omega) hne
   refine ⟨wr, ?_, zQ h2⟩
   have : (σ.set x (w.whole n lo hi).ob).set p (.cells (cs.set o (I n))) = σ.set x (w.whole n lo hi).ob := vl (get_set hp (Ne.symm hne)) ho
   show _ = some (Out.mk false (.tup []) ((σ.set x (w.whole n lo hi).ob).set p (.cells (cs.set o (I n)))) wr)
   rw [this]; exact h1
 number := fun {σ p o cs n most w k} hx hp ho hk hne => by
   have hk : w.bs.length + 8 * (k + 1) < 880000 := hk
   obtain ⟨wr, h1, h2⟩ := Zh (most := most) h74 h77 h80 h81 hx hp ho (by omega) hne
   refine ⟨wr, ?_, zQ h2⟩
   have : (σ.set x (w.number n most).ob).set p (.cells (cs.set o (Q n))) = σ.set x (w.number n most).ob := vl (get_set hp (Ne.symm hne)) ho
   show _ = some (Out.mk false (.tup []) ((σ.set x (w.number n most).ob).set p (.cells (cs.set o (Q n)))) wr)
   rw [this]; exact h1
 truth := fun {σ p o cs b w k} hx hp ho hk hne => by
   have hk : w.bs.length + 8 * (k + 1) < 880000 := hk
   obtain ⟨wr, h1, h2⟩ := jax h75 h78 hx hp ho (by omega) hne
   refine ⟨wr, ?_, zQ h2⟩
   have : (σ.set x (w.truth b).ob).set p (.cells (cs.set o (.bool b))) = σ.set x (w.truth b).ob := vl (get_set hp (Ne.symm hne)) ho
   show _ = some (Out.mk false (.tup []) ((σ.set x (w.truth b).ob).set p (.cells (cs.set o (.bool b)))) wr)
   rw [this]; exact h1
 bytes := fun {σ p e cs os w k} hx hp hT hl hk hne => by
   have hk : w.bs.length + 8 * (k + os.length) < 880000 := hk
   have hos : ∀ o ∈ os, ∃ v, cs[o]? = some v /\ isB v := fun o ho => hT (.byt, o) (List.mem_map.mpr ⟨o, ho, rfl⟩)
   obtain ⟨wr, h1, h2⟩ := jaw (e := e) h73 hp hx hne hos hl (by omega)
   refine ⟨wr, ?_, zQ h2⟩
   have r1 := vg (x := x) _ w _ hT
   have r2 := ZX (x := x) os w _ hT
   rw [r1, r2]
   have : (σ.set x (w.bytes cs os).ob).set p (.cells cs) = σ.set x (w.bytes cs os).ob := ko (get_set hp (Ne.symm hne))
   show _ = some (Out.mk false (.tup []) ((σ.set x (w.bytes cs os).ob).set p (.cells cs)) wr)
   rw [this]; exact h1
 ok_whole := fun {w k n lo hi} h => by
   have h : w.bs.length + 8 * (k + 1) < 880000 := h
   show (w.bs ++ nb _).length + 8 * k < 880000
   rw [List.length_append]; have := jaM (zz n % 4611686018427387904); omega
 ok_number := fun {w k n most} h => by
   have h : w.bs.length + 8 * (k + 1) < 880000 := h
   show (w.bs ++ nb _).length + 8 * k < 880000
   rw [List.length_append]; have := jaM (n % 4611686018427387904); omega
 ok_truth := fun {w k b} h => by
   have h : w.bs.length + 8 * (k + 1) < 880000 := h
   show (w.bs ++ [_]).length + 8 * k < 880000
   rw [List.length_append, List.length_singleton]; omega
 ok_byte := fun {w k n} h => by
   have h : w.bs.length + 8 * (k + 1) < 880000 := h
   show (w.bs ++ [_]).length + 8 * k < 880000
   rw [List.length_append, List.length_singleton]; omega
 ok_mono := fun {w k} h => by
   have h : w.bs.length + 8 * (k + 1) < 880000 := h
   show w.bs.length + 8 * k < 880000
   omega
 i_whole := fun h => h
 n_number := fun h => h
 b_byte := fun h => h
/-- Reading. -/
def DR (s : List UInt8) (x : Nat) : WayD where
 W := Re
 ob := Re.ob s
 x := x
 ty := 78
 rv := .agg [.ptr x 0]
 f73 := 83
 f74 := 84
 f75 := 85
 f76 := 86
 ok := fun w _ => w.pos <= s.length /\ s.length < 1000000
 whole := fun w n lo hi => w.whole s n lo hi
 number := fun w n most => w.number s n most
 truth := fun w _ => w.t s
 byte := fun w _ => w.b s
theorem jhs {s : List UInt8} {w : Re} (hp : w.pos <= s.length) : (w.t s).1.pos <= s.length := by
 rw [Re.t]
 split
 . exact hp
 . split
   . exact hp
   . rename_i c hc
     have h1 : w.pos < s.length := by
       rcases Nat.lt_or_ge w.pos s.length with h | h
       . exact h
       . rw [List.getElem?_eq_none h] at hc; cases hc
     split
     . exact hp
     . exact h1
theorem jhb (s : List UInt8) (w : Re) : (w.b s).2 < 256 := by
 rw [Re.b]; split
 . show 0 < 256; decide
 . split
   . show 0 < 256; decide
   . exact UInt8.toNat_lt _
theorem YN {m : Nat} (h : m < 4611686018427387904) : i64 (KY m) := by
 unfold KY
 split
 . exact ⟨by omega, by omega⟩
 . exact ⟨by omega, by omega⟩
theorem YY {s : List UInt8} {x : Nat} : ∀ (os : List Nat) (w : (DR s x).W) (cs : List IVal), Ty (os.map fun o => (.byt, o)) cs -> jB (DR s x) (os.map fun o => (.byt, o)) w cs = Re.bytes s w cs os := by
 intro os
 induction os with
 | nil => intro w cs _; rfl
 | cons o os ih =>
   intro w cs hT
   obtain ⟨v, ho, n, rfl, hn⟩ := hT (.byt, o) (by simp)
   simp only [] at ho
   rw [List.map_cons, jB, jF ho]
   have e2 : ∀ w : Re, Re.bytes s w cs (o :: os) = Re.bytes s (Re.b s w).1 (cs.set o (B (Re.b s w).2)) os := fun w => rfl
   refine Eq.trans ?_ (e2 w).symm
   have e : (kg (DR s x) .byt w (B n)) = ((Re.b s w).1, B (Re.b s w).2) := rfl
   rw [e]
   refine ih _ _ ?_
   have hT2 : Ty (os.map fun o => (.byt, o)) cs := fun q hq => hT q (by rw [List.map_cons]; exact List.mem_cons_of_mem _ hq)
   refine vB (k := .byt) hT2 ⟨_, rfl, jhb s w⟩ ?_
   . intro q hq _
     obtain ⟨a, _, rfl⟩ := List.mem_map.mp hq; rfl
theorem jie (h83 : F 83 = some jep) (h84 : F 84 = some jdr) (h85 : F 85 = some jeq) (h86 : F 86 = some jer) (h40 : F 40 = some KM) (h41 : F 41 = some K9) (h42 : F 42 = some Yp) (h80 : F 80 = some Xc) (h81 : F 81 = some Va) (h82 : F 82 = some Zc) (h87 : F 87 = some QC) (h88 : F 88 = some jcf) (h89 : F 89 = some jar) (h90 : F 90 = some jas) (h91 : F 91 = some jat) (h92 : F 92 = some jds) (h93 : F 93 = some Zd) (s : List UInt8) (x : Nat) : Way F (DR s x) where
 t73 := rfl
 t74 := rfl
 t75 := rfl
 t76 := rfl
 nil := fun n => by
   show XC [69, 78] n (.fn (.method n) [.iface 78 (.agg [.ptr x 0])] []) = _
   rw [XC, if_pos ⟨rfl, rfl, rfl⟩]; rfl
 whole := fun {σ p o cs n lo hi w k} hx hp ho hn hk hne => Zq (lo := lo) (hi := hi) h86 h92 h88 h90 h42 h89 h87 h40 h93 h41 h80 h81 hx hp ho hk.2 hk.1 hne
 number := fun {σ p o cs n most w k} hx hp ho hk hne => XM (most := most) h84 h88 h90 h42 h89 h87 h40 h93 h41 h80 h81 hx hp ho hk.2 hk.1 hne
 truth := fun {σ p o cs b w k} hx hp ho hk hne => Zp h85 h91 h82 h87 h40 h41 hx hp ho hk.2 hk.1 hne
 bytes := fun {σ p e cs os w k} hx hp hT hl hk hne => by
   have hos : ∀ o ∈ os, o < cs.length := fun o ho => by
     obtain ⟨v, h, _⟩ := hT (.byt, o) (List.mem_map.mpr ⟨o, ho, rfl⟩)
     exact kU h
   obtain ⟨wr, h1, h2⟩ := Zo (e := e) h83 h82 h87 h40 h41 hx hp hk.2 hk.1 hne hos hl
   refine ⟨wr, ?_, h2⟩
   have r1 := YY (s := s) (x := x) os w _ hT
   rw [r1]; exact h1
 ok_whole := fun {w k n lo hi} h => ⟨by show ((w.u s).1.within _ _).pos <= _; rw [Qo]; exact jgV h.1, h.2⟩
 ok_number := fun {w k n most} h => ⟨by show ((w.u s).1.within _ _).pos <= _; rw [Qo]; exact jgV h.1, h.2⟩
 ok_truth := fun {w k b} h => ⟨jhs h.1, h.2⟩
 ok_byte := fun {w k n} h => ⟨jfJ h.1, h.2⟩
 ok_mono := fun h => h
 i_whole := fun {w n lo hi} h => by
   show i64 (if _ then n else KY (Re.u s w).2)
   have h2 := jgU s w
   generalize (Re.u s w).2 = m at *
   split
   . exact h
   . exact YN h2
 n_number := fun {w n most} h => by
   show (if _ then n else (Re.u s w).2) < _
   have h2 := jgU s w
   generalize (Re.u s w).2 = m at *
   split
   . exact h
   . omega
 b_byte := fun {w n} h => jhb s w
end Go.Idl.Sb
namespace Go.Idl.Sb
open Go Go.Idl Go.Idl.En
variable {F : jJ}
/-- A list of words: by value, or in the store. -/
def LW (σ : List IObj) (v : IVal) (zs : List Int) : Prop := (∃ o r, v = .sl o r (zs.map J)) \/ (∃ id, v = .rs 1 id 0 zs.length /\ σ[id]? = some (.cells (zs.map J)))
/-- A copy: nothing, or elements of the store, further on than those. -/
def LC (esz n0 : Nat) (lv : IVal) (n : Nat) (ys : List IVal) (σ : List IObj) : Prop := (n = 0 /\ ys = [] /\ ∃ e', lv = .sl e' true []) \/ (∃ id, lv = .rs esz id 0 n /\ n0 <= id /\ σ[id]? = some (.cells ys))
theorem jdl (zs : List Int) : ((zs.map J).flatMap fun v => (un2 v).cells) = zs.map J := by
 induction zs with
 | nil => rfl
 | cons z zs ih => rw [List.map_cons, List.flatMap_cons, ih]; rfl
theorem jfH (zs : List Int) : (zs.map J).all (fun v => v.cells.length == 1) = true := by simp [cells_int]
theorem Z1 (h : F 31 = some jap) {v : IVal} {zs : List Int} {σ : List IObj} (hL : LW σ v zs) (hz : zs.length < 100000) :
   ∃ lv e, cfw F (.f 31) [v] σ = some ⟨false, lv, σ ++ e, []⟩ /\ LC 1 σ.length lv zs.length (zs.map J) (σ ++ e) := by
 rw [jQ jap h, jq]
 have q1 : zs.length * 4 <= 1099511627776 := by omega
 have q2 : zs.length <= 1099511627776 := by omega
 rcases hL with ⟨o, r, rfl⟩ | ⟨id, rfl, hid⟩
 . cases zs with
   | nil =>
     cases r with
     | true =>
       simp only [jap, List.map_nil, tne, zV, zS, jy, jM, jc, jk, jR, jg, jl, je, jr, jO, jf, jj, jp, jK, ju, jq, Ts.fill, jS, jP, jh, jT, jo, jm, ji, ja, getAll, stepCall, jn, unI, Opd.get, jx, tag, jv, jb, jI, rv, bin, jW, Nat.reduceAdd, Nat.reduceSub, Nat.reduceMul, Nat.reduceDiv, Nat.reduceMod, Nat.reducePow, Nat.reduceLT, Nat.reduceLeDiff, Nat.reduceEqDiff, Nat.reduceBEq, Nat.reduceBNe, reduceIte, Int.reduceEq, Int.reduceLT, Int.reduceLE, Int.reduceNeg, Int.reduceToNat, Int.reduceMul, Int.reduceAdd, Int.reduceSub, reduceCtorEq]
       exact ⟨_, [], by rw [List.append_nil], .inl ⟨rfl, rfl, 1, rfl⟩⟩
     | false =>
       simp only [jap, List.map_nil, tne, zV, zS, jy, jM, jc, jk, jR, jg, jl, je, jr, jO, jf, jj, jp, jK, ju, jq, Ts.fill, jS, jP, jh, jT, jo, jm, ji, ja, getAll, stepCall, jn, unI, Opd.get, jx, tag, jv, jb, jI, rv, bin, jW, Nat.reduceAdd, Nat.reduceSub, Nat.reduceMul, Nat.reduceDiv, Nat.reduceMod, Nat.reducePow, Nat.reduceLT, Nat.reduceLeDiff, Nat.reduceEqDiff, Nat.reduceBEq, Nat.reduceBNe, reduceIte, Int.reduceEq, Int.reduceLT, Int.reduceLE, Int.reduceNeg, Int.reduceToNat, Int.reduceMul, Int.reduceAdd, Int.reduceSub, reduceCtorEq]
       exact ⟨_, _, rfl, .inr ⟨_, rfl, by omega, by rw [List.getElem?_append_right (by omega)]; simp⟩⟩
   | cons z zs =>
     have f1 := jdl (z :: zs)
     have a1 := jfH (z :: zs)
     rw [List.map_cons] at f1 a1
     rw [List.length_cons] at q1 q2
     simp only [jap, tne, f1, a1, q1, q2, zV, zS, jy, jM, jc, jk, jR, jg, jl, je, jr, jO, jf, jj, jp, jK, ju, jq, Ts.fill, jS, jP, jh, jT, jo, jm, ji, ja, getAll, stepCall, jn, unI, Opd.get, jx, tag, jv, jb, jI, rv, bin, jW, Nat.reduceAdd, Nat.reduceSub, Nat.reduceMul, Nat.reduceDiv, Nat.reduceMod, Nat.reducePow, Nat.reduceLT, Nat.reduceLeDiff, Nat.reduceEqDiff, Nat.reduceBEq, Nat.reduceBNe, reduceIte, Int.reduceEq, Int.reduceLT, Int.reduceLE, Int.reduceNeg, Int.reduceToNat, Int.reduceMul, Int.reduceAdd, Int.reduceSub, reduceCtorEq]
     exact ⟨_, _, rfl, .inr ⟨_, rfl, by omega, by rw [List.getElem?_append_right (by omega)]; simp⟩⟩
 . have t1 : (zs.map J).take zs.length = zs.map J := by rw [List.take_of_length_le]; simp
   have f1 := jdl zs
   have g1 := jL hid [IObj.cells []]
   simp only [jap, tne, f1, q1, q2, g1, t1, zV, zS, jy, jM, jc, jk, jR, jg, jl, je, jr, jO, jf, jj, jp, jK, ju, jq, Ts.fill, jS, jP, jh, jT, jo, jm, ji, ja, getAll, stepCall, jn, unI, Opd.get, jx, tag, jv, jb, jI, rv, bin, jW, Nat.reduceAdd, Nat.reduceSub, Nat.reduceMul, Nat.reduceDiv, Nat.reduceMod, Nat.reducePow, Nat.reduceLT, Nat.reduceLeDiff, Nat.reduceEqDiff, Nat.reduceBEq, Nat.reduceBNe, reduceIte, Int.reduceEq, Int.reduceLT, Int.reduceLE, Int.reduceNeg, Int.reduceToNat, Int.reduceMul, Int.reduceAdd, Int.reduceSub, reduceCtorEq]
   exact ⟨_, _, rfl, .inr ⟨_, rfl, by omega, by rw [List.getElem?_append_right (by omega)]; simp⟩⟩
/-! ### handlers -/
abbrev Rc (z : Int × Int × Bool) : List IVal := [I z.1, I z.2.1, .bool z.2.2]
abbrev Ra (z : Int × Int × Bool) : IVal := .agg (Rc z)
def LR (σ : List IObj) (v : IVal) (zs : List (Int × Int × Bool)) : Prop := (∃ o r, v = .sl o r (zs.map Ra)) \/ (∃ id, v = .rs 3 id 0 zs.length /\ σ[id]? = some (.cells (zs.flatMap Rc)))
theorem jdm (zs : List (Int × Int × Bool)) : ((zs.map Ra).flatMap fun v => (un2 v).cells) = zs.flatMap Rc := by
 induction zs with
 | nil => rfl
 | cons z zs ih => rw [List.map_cons, List.flatMap_cons, List.flatMap_cons, ih]; rfl
theorem jfI (zs : List (Int × Int × Bool)) : (zs.map Ra).all (fun v => v.cells.length == 3) = true := by simp [cells_agg]
theorem jaA (zs : List (Int × Int × Bool)) : (zs.flatMap Rc).length = zs.length * 3 := by
 induction zs with
 | nil => rfl
 | cons z zs ih => rw [List.flatMap_cons, List.length_append, ih, List.length_cons]; simp; omega
theorem Ye (zs : List (Int × Int × Bool)) : vo 3 zs.length (zs.flatMap Rc) = zs.map Ra := by
 induction zs with
 | nil => rfl
 | cons z zs ih =>
   rw [vo, List.length_cons, List.range_succ_eq_map, List.map_cons, List.map_map, List.map_cons, <- ih, vo]
   congr 1
   apply List.map_congr_left
   intro i _
   show IVal.agg (((Rc z ++ zs.flatMap Rc).drop ((i + 1) * 3)).take 3) = .agg (((zs.flatMap Rc).drop (i * 3)).take 3)
   rw [List.drop_append]
   have e1 : (Rc z).drop ((i + 1) * 3) = [] := List.drop_of_length_le (by simp; omega)
   have e2 : (i + 1) * 3 - (Rc z).length = i * 3 := by simp; omega
   rw [e1, e2, List.nil_append]
theorem jdW (h : F 32 = some jaq) {v : IVal} {zs : List (Int × Int × Bool)} {σ : List IObj} (hL : LR σ v zs) (hz : zs.length < 100000) :
   ∃ lv e, cfw F (.f 32) [v] σ = some ⟨false, lv, σ ++ e, []⟩ /\ LC 3 σ.length lv zs.length (zs.flatMap Rc) (σ ++ e) := by
 rw [jQ jaq h, jq]
 have q1 : zs.length * 24 <= 1099511627776 := by omega
 have q2 : zs.length <= 1099511627776 := by omega
 rcases hL with ⟨o, r, rfl⟩ | ⟨id, rfl, hid⟩
 . cases zs with
   | nil =>
     cases r with
     | true =>
       simp only [jaq, List.map_nil, tne, zV, zS, jy, jM, jc, jk, jR, jg, jl, je, jr, jO, jf, jj, jp, jK, ju, jq, Ts.fill, jS, jP, jh, jT, jo, jm, ji, ja, getAll, stepCall, jn, unI, Opd.get, jx, tag, jv, jb, jI, rv, bin, jW, Nat.reduceAdd, Nat.reduceSub, Nat.reduceMul, Nat.reduceDiv, Nat.reduceMod, Nat.reducePow, Nat.reduceLT, Nat.reduceLeDiff, Nat.reduceEqDiff, Nat.reduceBEq, Nat.reduceBNe, reduceIte, Int.reduceEq, Int.reduceLT, Int.reduceLE, Int.reduceNeg, Int.reduceToNat, Int.reduceMul, Int.reduceAdd, Int.reduceSub, reduceCtorEq]
       exact ⟨_, [], by rw [List.append_nil], .inl ⟨rfl, rfl, 3, rfl⟩⟩
     | false =>
       simp only [jaq, List.map_nil, tne, zV, zS, jy, jM, jc, jk, jR, jg, jl, je, jr, jO, jf, jj, jp, jK, ju, jq, Ts.fill, jS, jP, jh, jT, jo, jm, ji, ja, getAll, stepCall, jn, unI, Opd.get, jx, tag, jv, jb, jI, rv, bin, jW, Nat.reduceAdd, Nat.reduceSub, Nat.reduceMul, Nat.reduceDiv, Nat.reduceMod, Nat.reducePow, Nat.reduceLT, Nat.reduceLeDiff, Nat.reduceEqDiff, Nat.reduceBEq, Nat.reduceBNe, reduceIte, Int.reduceEq, Int.reduceLT, Int.reduceLE, Int.reduceNeg, Int.reduceToNat, Int.reduceMul, Int.reduceAdd, Int.reduceSub, reduceCtorEq]
       exact ⟨_, _, rfl, .inr ⟨_, rfl, by omega, by rw [List.getElem?_append_right (by omega)]; simp⟩⟩
   | cons z zs =>
     have f1 := jdm (z :: zs)
     have a1 := jfI (z :: zs)
     rw [List.map_cons] at f1 a1
     rw [List.length_cons] at q1 q2
     simp only [jaq, tne, f1, a1, q1, q2, zV, zS, jy, jM, jc, jk, jR, jg, jl, je, jr, jO, jf, jj, jp, jK, ju, jq, Ts.fill, jS, jP, jh, jT, jo, jm, ji, ja, getAll, stepCall, jn, unI, Opd.get, jx, tag, jv, jb, jI, rv, bin, jW, Nat.reduceAdd, Nat.reduceSub, Nat.reduceMul, Nat.reduceDiv, Nat.reduceMod, Nat.reducePow, Nat.reduceLT, Nat.reduceLeDiff, Nat.reduceEqDiff, Nat.reduceBEq, Nat.reduceBNe, reduceIte, Int.reduceEq, Int.reduceLT, Int.reduceLE, Int.reduceNeg, Int.reduceToNat, Int.reduceMul, Int.reduceAdd, Int.reduceSub, reduceCtorEq]
     exact ⟨_, _, rfl, .inr ⟨_, rfl, by omega, by rw [List.getElem?_append_right (by omega)]; simp⟩⟩
 . have t1 : zs.length * 3 <= (zs.flatMap Rc).length := by rw [jaA]; omega
   have c1 := Ye zs
   have f1 := jdm zs
   have g1 := jL hid [IObj.cells []]
   simp only [jaq, tne, f1, q1, q2, g1, t1, c1, zV, zS, jy, jM, jc, jk, jR, jg, jl, je, jr, jO, jf, jj, jp, jK, ju, jq, Ts.fill, jS, jP, jh, jT, jo, jm, ji, ja, getAll, stepCall, jn, unI, Opd.get, jx, tag, jv, jb, jI, rv, bin, jW, Nat.reduceAdd, Nat.reduceSub, Nat.reduceMul, Nat.reduceDiv, Nat.reduceMod, Nat.reducePow, Nat.reduceLT, Nat.reduceLeDiff, Nat.reduceEqDiff, Nat.reduceBEq, Nat.reduceBNe, reduceIte, Int.reduceEq, Int.reduceLT, Int.reduceLE, Int.reduceNeg, Int.reduceToNat, Int.reduceMul, Int.reduceAdd, Int.reduceSub, reduceCtorEq]
   exact ⟨_, _, rfl, .inr ⟨_, rfl, by omega, by rw [List.getElem?_append_right (by omega)]; simp⟩⟩
end Go.Idl.Sb
namespace Go.Idl.Sb
open Go Go.Idl Go.Idl.En
variable {F : jJ}
theorem jeX : ∀ (vs pre cs : List IVal), cs.length = vs.length -> jb (pre ++ cs) pre.length vs = pre ++ vs := by
 intro vs
 induction vs with
 | nil => intro pre cs h; rw [jb]; cases cs with | nil => rfl | cons c cs => cases h
 | cons v vs ih =>
   intro pre cs h
   cases cs with
   | nil => cases h
   | cons c cs =>
     rw [jb, List.set_append_right _ _ (by omega), Nat.sub_self, List.set_cons_zero]
     have := ih (pre ++ [v]) cs (by simpa using h)
     rw [List.length_append, List.length_singleton] at this
     rw [List.append_assoc, List.append_assoc] at this
     exact this
theorem VH {cs vs : List IVal} (h : cs.length = vs.length) : jb cs 0 vs = vs := jeX vs [] cs h
theorem jdH {cs : List IVal} (h : cs.length = 55) : jG (some 55) cs 0 = some (.agg cs) := by
 show (if 0 + 55 <= cs.length then some (IVal.agg ((cs.drop 0).take 55)) else none) = _
 rw [if_pos (by omega), List.drop_zero, List.take_of_length_le (by omega)]
theorem zi {σ : List IObj} {v : IVal} {zs : List Int} (h : LW σ v zs) : LW σ (un1 v) zs := by
 rcases h with ⟨o, r, rfl⟩ | ⟨id, rfl, h⟩
 . exact .inl ⟨0, r, rfl⟩
 . exact .inr ⟨id, rfl, h⟩
theorem Vc {σ : List IObj} {v : IVal} {zs : List (Int × Int × Bool)} (h : LR σ v zs) : LR σ (un1 v) zs := by
 rcases h with ⟨o, r, rfl⟩ | ⟨id, rfl, h⟩
 . exact .inl ⟨0, r, rfl⟩
 . exact .inr ⟨id, rfl, h⟩
theorem vN {σ e : List IObj} {v : IVal} {zs : List Int} (h : LW σ v zs) : LW (σ ++ e) v zs := by
 rcases h with ⟨o, r, rfl⟩ | ⟨id, rfl, h⟩
 . exact .inl ⟨o, r, rfl⟩
 . exact .inr ⟨id, rfl, jL h _⟩
theorem JA {σ e : List IObj} {v : IVal} {zs : List (Int × Int × Bool)} (h : LR σ v zs) : LR (σ ++ e) v zs := by
 rcases h with ⟨o, r, rfl⟩ | ⟨id, rfl, h⟩
 . exact .inl ⟨o, r, rfl⟩
 . exact .inr ⟨id, rfl, jL h _⟩
theorem vL (v : IVal) : un1 (un1 v) = un1 v := by cases v <;> rfl
theorem yu (v : IVal) (h : v.isCell = true) : un2 (un1 v) = un1 v := by cases v <;> first | rfl | cases h
theorem qu {σ : List IObj} {v : IVal} {zs : List Int} (h : LW σ v zs) : v.isCell = true := by
 rcases h with ⟨o, r, rfl⟩ | ⟨id, rfl, h⟩ <;> rfl
theorem zr {σ : List IObj} {v : IVal} {zs : List (Int × Int × Bool)} (h : LR σ v zs) : v.isCell = true := by
 rcases h with ⟨o, r, rfl⟩ | ⟨id, rfl, h⟩ <;> rfl
theorem yC {e n0 n : Nat} {lv : IVal} {ys : List IVal} {σ : List IObj} (h : LC e n0 lv n ys σ) : lv.cells = [lv] /\ lv.isCell = true /\ nt lv = true := by
 rcases h with ⟨_, _, e', rfl⟩ | ⟨id, rfl, _⟩ <;> exact ⟨rfl, rfl, rfl⟩
theorem jdN {esz n0 n0' n : Nat} {lv : IVal} {ys : List IVal} {σ σ' : List IObj} (h : LC esz n0 lv n ys σ) (hn : nr1 lv = true) : LC esz n0' lv n ys σ' := by
 rcases h with h | ⟨id, rfl, _⟩
 . exact .inl h
 . cases hn
theorem jda {esz n0 n0' n : Nat} {lv : IVal} {ys : List IVal} {σ : List IObj} (h : LC esz n0 lv n ys σ) (hl : n0' <= n0) : LC esz n0' lv n ys σ := by
 rcases h with h | ⟨id, h1, h2, h3⟩
 . exact .inl h
 . exact .inr ⟨id, h1, by omega, h3⟩
theorem Xg {esz n : Nat} {lv : IVal} {ys : List IVal} {σ e f : List IObj} {a b c d : IObj} (h : LC esz (σ ++ [a, b]).length lv n ys ((σ ++ [a, b]) ++ e)) : LC esz σ.length lv n ys (σ ++ c :: d :: (e ++ f)) := by
 rcases h with h | ⟨id, h1, h2, h3⟩
 . exact .inl h
 . rw [List.length_append] at h2
   simp only [List.length_cons, List.length_nil] at h2
   refine .inr ⟨id, h1, by omega, ?_⟩
   obtain ⟨j, rfl⟩ : ∃ j, id = σ.length + (j + 2) := ⟨id - σ.length - 2, by omega⟩
   rw [List.append_assoc, get_app] at h3
   rw [get_app]
   simp only [List.cons_append, List.nil_append, List.getElem?_cons_succ] at h3 ⊢
   exact jL h3 _
theorem jho (h17 : F 17 = some jef) (h31 : F 31 = some jap) (h32 : F 32 = some jaq) {cs : List IVal} {σ : List IObj} {v1 v2 v3 : IVal} {z1 z2 : List Int} {z3 : List (Int × Int × Bool)} (hn : cs.length = 55) (hc : cs.all IVal.isCell = true)
   (c1 : cs[13]? = some v1) (c2 : cs[14]? = some v2) (c3 : cs[16]? = some v3) (L1 : LW σ v1 z1) (L2 : LW σ v2 z2) (L3 : LR σ v3 z3) (n1 : z1.length < 100000) (n2 : z2.length < 100000) (n3 : z3.length < 100000) :
   ∃ w1 w2 w3 e, cfw F (.f 17) [.agg cs] σ = some ⟨false, .agg ((((cs.map un1).set 13 w1).set 14 w2).set 16 w3), σ ++ e, []⟩ /\ LC 1 σ.length w1 z1.length (z1.map J) (σ ++ e) /\ LC 1 σ.length w2 z2.length (z2.map J) (σ ++ e) /\ LC 3 σ.length w3 z3.length (z3.flatMap Rc) (σ ++ e) := by
 rw [jQ jef h17, jq]
 have hn2 : (cs.map un1).length = 55 := by simpa using hn
 have hc2 : (cs.map un1).all IVal.isCell = true := by
   rw [List.all_eq_true] at hc ⊢
   intro v hv
   obtain ⟨u, hu, rfl⟩ := List.mem_map.mp hv
   have := hc u hu
   cases u <;> first | rfl | cases this
 have d1 : (cs.map un1)[13]? = some (un1 v1) := by rw [List.getElem?_map, c1]; rfl
 have d2 : (cs.map un1)[14]? = some (un1 v2) := by rw [List.getElem?_map, c2]; rfl
 have d3 : (cs.map un1)[16]? = some (un1 v3) := by rw [List.getElem?_map, c3]; rfl
 have u1 := yu v1 (qu L1)
 have u2 := yu v2 (qu L2)
 have u3 := yu v3 (zr L3)
 generalize hB : cs.map un1 = bs at *
 obtain ⟨w1, e1, p1, q1⟩ := Z1 (σ := σ ++ [.cells bs, .cells Z55]) h31 (vN (zi L1)) n1
 obtain ⟨w2, e2, p2, q2⟩ := Z1 (σ := (σ ++ [.cells bs, .cells Z55]) ++ e1) h31 (vN (vN (zi L2))) n2
 obtain ⟨w3, e3, p3, q3⟩ := jdW (σ := (σ ++ [.cells bs, .cells Z55]) ++ e1 ++ e2) h32 (JA (JA (JA (Vc L3)))) n3
 simp only [List.append_assoc, List.cons_append, List.nil_append] at p1 p2 p3
 obtain ⟨m1, m2, m3⟩ := yC q1
 obtain ⟨m4, m5, m6⟩ := yC q2
 obtain ⟨m7, m8, m9⟩ := yC q3
 have set_all : ∀ (l : List IVal) (o : Nat) (v : IVal), l.all IVal.isCell = true -> v.isCell = true -> (l.set o v).all IVal.isCell = true := by
   intro l o v h1 h2
   rw [List.all_eq_true] at h1 ⊢
   intro u hu
   rcases List.mem_or_eq_of_mem_set hu with h | h
   . exact h1 u h
   . rw [h]; exact h2
 generalize hb3 : ((bs.set 13 w1).set 14 w2).set 16 w3 = b3
 have r1 : b3.length = 55 := by rw [<- hb3]; simpa using hn2
 have r2 : b3.all IVal.isCell = true := by rw [<- hb3]; exact set_all _ _ _ (set_all _ _ _ (set_all _ _ _ hc2 m2) m5) m8
 have r3 : b3.take 55 = b3 := List.take_of_length_le (by omega)
 have r4 : jb Z55 0 b3 = b3 := VH (by rw [r1]; rfl)
 have r5 : Z55.length = 55 := rfl
 have dl : ∀ n : Nat, decide (σ.length < σ.length + (n + 1 + 1)) = true := fun n => decide_eq_true (by omega)
 have dl2 : decide (σ.length + 1 < σ.length) = false := decide_eq_false (by omega)
 simp only [jef, jG, cells_agg, hB, hc2, d1, d2, d3, u1, u2, u3, p1, p2, p3, m1, m2, m3, m4, m5, m6, m7, m8, m9, hn2, hb3, r1, r2, r3, r4, r5, dl, dl2, List.length_set, zV, zS, jy, jM, jc, jk, jR, jg, jl, je, jr, jO, jf, jj, jp, jK, ju, jq, Ts.fill, jS, jP, jh, jT, jo, jm, ji, ja, getAll, stepCall, jn, unI, Opd.get, jx, tag, jv, jb, jI, rv, bin, jW, Nat.reduceAdd, Nat.reduceSub, Nat.reduceMul, Nat.reduceDiv, Nat.reduceMod, Nat.reducePow, Nat.reduceLT, Nat.reduceLeDiff, Nat.reduceEqDiff, Nat.reduceBEq, Nat.reduceBNe, reduceIte, Int.reduceEq, Int.reduceLT, Int.reduceLE, Int.reduceNeg, Int.reduceToNat, Int.reduceMul, Int.reduceAdd, Int.reduceSub, reduceCtorEq]
 have mem : ∀ {o : Nat} {v : IVal}, b3[o]? = some v -> v ∈ b3 := fun h => List.mem_of_getElem? h
 have g16 : b3[16]? = some w3 := by rw [<- hb3, List.getElem?_set_self (by simp; omega)]
 have g14 : b3[14]? = some w2 := by rw [<- hb3, List.getElem?_set_ne (by decide), List.getElem?_set_self (by simp; omega)]
 have g13 : b3[13]? = some w1 := by rw [<- hb3, List.getElem?_set_ne (by decide), List.getElem?_set_ne (by decide), List.getElem?_set_self (by omega)]
 split
 . rename_i hall
   rw [List.all_eq_true] at hall
   refine ⟨w1, w2, w3, [], by rw [hb3, List.append_nil], ?_, ?_, ?_⟩
   . exact jdN q1 (hall _ (mem g13))
   . exact jdN q2 (hall _ (mem g14))
   . exact jdN q3 (hall _ (mem g16))
 . refine ⟨w1, w2, w3, _, by rw [hb3], ?_, ?_, ?_⟩
   . exact Xg (f := e2 ++ e3) q1
   . have q2' : LC 1 (σ ++ [IObj.cells bs, .cells Z55]).length w2 z2.length (z2.map J) (σ ++ [IObj.cells bs, .cells Z55] ++ (e1 ++ e2)) := by
       rw [<- List.append_assoc]; exact jda q2 (by simp)
     have := Xg (c := IObj.cells (jb b3 0 (List.map un1 b3))) (d := IObj.cells (jb b3 0 (List.map un1 b3))) (f := e3) q2'
     rw [List.append_assoc] at this; exact this
   . have q3' : LC 3 (σ ++ [IObj.cells bs, .cells Z55]).length w3 z3.length (z3.flatMap Rc) (σ ++ [IObj.cells bs, .cells Z55] ++ (e1 ++ (e2 ++ e3))) := by
       rw [<- List.append_assoc, <- List.append_assoc]; exact jda q3 (by simp)
     have := Xg (c := IObj.cells (jb b3 0 (List.map un1 b3))) (d := IObj.cells (jb b3 0 (List.map un1 b3))) (f := []) q3'
     rw [List.append_nil] at this; exact this
end Go.Idl.Sb
namespace Go.Idl.Sb
open Go Go.Idl Go.Idl.En
variable {F : jJ}
section
variable {D : WayD} {σ : List IObj} {a : Nat} {w w' : D.W} {cs cs' : List IVal} {l l' : List IObj}
theorem jdc (hx : D.x < σ.length) (hne : a ≠ D.x) : (S D σ a w cs l).set D.x (D.ob w') = S D σ a w' cs l := by
 rw [S, kC (by simpa using hx), jhr hne]; rfl
theorem jbK : S D σ a w cs l ++ l' = S D σ a w cs (l ++ l') := by rw [S, S, List.append_assoc]
theorem jbL {id : Nat} {c : IObj} (h : σ[id]? = some c) (h1 : id ≠ D.x) (h2 : id ≠ a) : (S D σ a w cs l)[id]? = some c := jL (jhf h h1 h2) _
end
/-- A list of words that was laid. -/
def jbE (x : Nat) (w : La) (n most : Nat) (ys : List IVal) : La := (jB (DL x) (wdL 0 n) (La.number w n most) ys).1
def jfl (x : Nat) (w : La) (n most : Nat) (ys : List IVal) : La := (jB (DL x) (raL 0 n) (La.number w n most) ys).1
theorem jgb (h35 : F 35 = some Xt) (h34 : F 34 = some QB) {x : Nat} (hw : Way F (DL x)) {a o n most k n0 : Nat} {acs ys : List IVal} {σ l : List IObj} {w : La} {lv : IVal} (hx : x < σ.length) (ha : a < σ.length) (hne : a ≠ x) (ho : acs[o]? = some lv) (hL : LC 1 n0 lv n ys σ) (hx0 : x < n0) (ha0 : a < n0) (hm : n <= most) (hm2 : most < 10000) (hT : Ty (wdL 0 n) ys) (hk : w.bs.length + 8 * (k + most + 1) < 880000) :
   ∃ wr lv' l', cfw F (.f 35) [.iface 69 (.ptr x 0), .ptr a o, I most, .fn (.func 34) [] []] (S (DL x) σ a w acs l) = some ⟨false, .tup [], S (DL x) σ a (jbE x w n most ys) (acs.set o lv') l', wr⟩ /\ Fa a wr := by
 rcases hL with ⟨rfl, rfl, e', rfl⟩ | ⟨id, rfl, hid, hc⟩
 . obtain ⟨wr, lv', l', h1, h2, h3, h4⟩ := jaB (D := DL x) (k := k) h35 h34 hw (S_x (D := DL x) (w := w) (cs := acs) (l := l) hx ha hne) (S_a (D := DL x) hx ha hne) ho hne hm2 hk
   refine ⟨wr, lv', l ++ l', ?_, h2⟩
   have c0 : cnt (DL x) w most = 0 := Nat.zero_min most
   rw [c0] at h1
   have e2 := JH (D := DL x) (w := w) (w' := (kT (DL x) 0 ((DL x).number w 0 most).1 []).1) (cs := acs) (cs' := acs.set o lv') (l := l) hx ha hne
   rw [e2, jbK] at h1
   exact h1
 . obtain ⟨wr, h1, h2⟩ := jex (D := DL x) (k := k) (most := most) h35 h34 hw (S_x (D := DL x) (w := w) (cs := acs) (l := l) hx ha hne) (S_a (D := DL x) hx ha hne) ho (jbL (D := DL x) hc (by show id ≠ x; omega) (by omega)) (by show id ≠ x; omega) hne (by omega) (by omega) hm hm2 hT (by show w.bs.length + 8 * (k + n + 1) < 880000; omega) rfl
   refine ⟨wr, .rs 1 id 0 n, l, ?_, vJ h2⟩
   have r1 := vg (x := x) (wdL 0 n) ((DL x).number w n most).1 ys hT
   rw [r1] at h1
   have e2 := jdc (D := DL x) (a := a) (w := w) (w' := (jB (DL x) (wdL 0 n) ((DL x).number w n most).1 ys).1) (cs := acs) (l := l) hx hne
   rw [e2, ko (jbL (D := DL x) hc (by show id ≠ x; omega) (by omega))] at h1
   rw [yT ho]
   exact h1
theorem jhi (h36 : F 36 = some Xu) (h37 : F 37 = some Xv) (h33 : F 33 = some KS) {x : Nat} (hw : Way F (DL x)) {a o n most k n0 : Nat} {acs ys : List IVal} {σ l : List IObj} {w : La} {lv : IVal} (hx : x < σ.length) (ha : a < σ.length) (hne : a ≠ x) (ho : acs[o]? = some lv) (hL : LC 3 n0 lv n ys σ) (hx0 : x < n0) (ha0 : a < n0) (hm : n <= most) (hm2 : most < 10000) (hT : Ty (raL 0 n) ys) (hk : w.bs.length + 8 * (k + 3 * most + 1) < 880000) :
   ∃ wr lv' l', cfw F (.f 36) [.iface 69 (.ptr x 0), .ptr a o, I most, .fn (.func 37) [] []] (S (DL x) σ a w acs l) = some ⟨false, .tup [], S (DL x) σ a (jfl x w n most ys) (acs.set o lv') l', wr⟩ /\ Fa a wr := by
 rcases hL with ⟨rfl, rfl, e', rfl⟩ | ⟨id, rfl, hid, hc⟩
 . obtain ⟨wr, lv', l', h1, h2, h3, h4⟩ := jaC (D := DL x) (k := k) h36 h37 h33 hw (S_x (D := DL x) (w := w) (cs := acs) (l := l) hx ha hne) (S_a (D := DL x) hx ha hne) ho hne hm2 hk
   refine ⟨wr, lv', l ++ l', ?_, h2⟩
   have c0 : cnt (DL x) w most = 0 := Nat.zero_min most
   rw [c0] at h1
   have e2 := JH (D := DL x) (w := w) (w' := (qf (DL x) 0 ((DL x).number w 0 most).1 []).1) (cs := acs) (cs' := acs.set o lv') (l := l) hx ha hne
   rw [e2, jbK] at h1
   exact h1
 . obtain ⟨wr, h1, h2⟩ := jey (D := DL x) (k := k) (most := most) h36 h37 h33 hw (S_x (D := DL x) (w := w) (cs := acs) (l := l) hx ha hne) (S_a (D := DL x) hx ha hne) ho (jbL (D := DL x) hc (by show id ≠ x; omega) (by omega)) (by show id ≠ x; omega) hne (by omega) (by omega) hm hm2 hT (by show w.bs.length + 8 * (k + 3 * n + 1) < 880000; omega) rfl
   refine ⟨wr, .rs 3 id 0 n, l, ?_, vJ h2⟩
   have r1 := vg (x := x) (raL 0 n) ((DL x).number w n most).1 ys hT
   rw [r1] at h1
   have e2 := jdc (D := DL x) (a := a) (w := w) (w' := (jB (DL x) (raL 0 n) ((DL x).number w n most).1 ys).1) (cs := acs) (l := l) hx hne
   rw [e2, ko (jbL (D := DL x) hc (by show id ≠ x; omega) (by omega))] at h1
   rw [yT ho]
   exact h1
end Go.Idl.Sb
namespace Go.Idl.Sb
open Go Go.Idl Go.Idl.En
variable {F : jJ}
/-- What is laid hangs on the cells that are asked alone. -/
theorem vD {x : Nat} : ∀ (l : List (K × Nat)) (w : (DL x).W) (cs cs' : List IVal), Ty l cs -> (∀ q ∈ l, cs'[q.2]? = cs[q.2]?) -> (jB (DL x) l w cs').1 = (jB (DL x) l w cs).1 := by
 intro l
 induction l with
 | nil => intro w cs cs' _ _; rfl
 | cons q l ih =>
   intro w cs cs' hT he
   obtain ⟨k, o⟩ := q
   have hT' : Ty ((k, o) :: l) cs' := fun q hq => by rw [he q hq]; exact hT q hq
   obtain ⟨v, ho, hv⟩ := hT _ List.mem_cons_self
   have ho' := he (k, o) List.mem_cons_self
   simp only [] at ho hv ho'
   rw [ho] at ho'
   have e1 := vg (x := x) [(k, o)] w cs (jU hT (by simp))
   have e2 := vg (x := x) [(k, o)] w cs' (jU hT' (by simp))
   rw [jB, jF ho] at e1
   rw [jB, jF ho'] at e2
   have e1 : cs.set o (kg (DL x) k w v).2 = cs := e1
   have e2 : cs'.set o (kg (DL x) k w v).2 = cs' := e2
   rw [jB, jB, jF ho, jF ho']
   simp only [e1, e2]
   exact ih _ _ _ (fun q hq => hT q (List.mem_cons_of_mem _ hq)) (fun q hq => he q (List.mem_cons_of_mem _ hq))
/-- A state's bytes. -/
def vM (x : Nat) (cs : List IVal) (z1 z2 : List Int) (z3 : List (Int × Int × Bool)) : La :=
 (jB (DL x) lC (jfl x (jB (DL x) lB (jbE x (jbE x (jB (DL x) lA ⟨[], false⟩ cs).1 z1.length 512 (z1.map J)) z2.length 8000 (z2.map J)) cs).1 z3.length 8 (z3.flatMap Rc)) cs).1
theorem ZL {k : K} {v : IVal} (h : k.ty v) : un1 v = v := by
 cases k with
 | pl => obtain ⟨n, rfl, _⟩ := h; rfl
 | wd => obtain ⟨n, rfl, _⟩ := h; rfl
 | byt => obtain ⟨n, rfl, _⟩ := h; rfl
 | tr => obtain ⟨b, rfl⟩ := h; rfl
 | hf => obtain ⟨n, rfl, _⟩ := h; rfl
 | nm => obtain ⟨n, rfl, _⟩ := h; rfl
theorem Xh {L : List (K × Nat)} {cs : List IVal} (h : Ty L cs) : Ty L (cs.map un1) := by
 intro q hq
 obtain ⟨v, h1, h2⟩ := h q hq
 exact ⟨v, by rw [List.getElem?_map, h1]; simp [ZL h2], h2⟩
theorem vK (cs : List IVal) : (cs.map un1).map un1 = cs.map un1 := by
 rw [List.map_map]; congr 1; funext v; exact vL v
theorem toB : ∀ (bs : List Nat), yV (bs.map B) = some (bs.map UInt8.ofNat)
 | [] => rfl
 | b :: bs => by rw [List.map_cons, yV, toB bs]; rfl
theorem ja8 : ∀ (d i : Nat), (raL i d).length = 3 * d
 | 0, _ => rfl
 | d + 1, i => by rw [z7, List.length_append, ja8 d]; simp; omega
theorem Xf {esz n : Nat} {lv : IVal} {ys : List IVal} {σ e : List IObj} {a b c d : IObj} (h : LC esz (σ ++ [a, b]).length lv n ys ((σ ++ [a, b]) ++ e)) : LC esz (σ.length + 2) lv n ys (σ ++ c :: d :: e) := by
 rcases h with h | ⟨id, h1, h2, h3⟩
 . exact .inl h
 . rw [List.length_append] at h2
   simp only [List.length_cons, List.length_nil] at h2
   refine .inr ⟨id, h1, by omega, ?_⟩
   obtain ⟨j, rfl⟩ : ∃ j, id = σ.length + (j + 2) := ⟨id - σ.length - 2, by omega⟩
   rw [List.append_assoc, get_app] at h3
   rw [get_app]
   simp only [List.cons_append, List.nil_append, List.getElem?_cons_succ] at h3 ⊢
   exact h3
theorem jd4 (h6 : F 6 = some ir6) (h17 : F 17 = some jef) (h31 : F 31 = some jap) (h32 : F 32 = some jaq) (h18 : F 18 = some jbF) (h33 : F 33 = some KS) (h34 : F 34 = some QB) (h35 : F 35 = some Xt) (h36 : F 36 = some Xu) (h37 : F 37 = some Xv) (h38 : F 38 = some ZG) (h39 : F 39 = some ZH)
   (hw : ∀ x, Way F (DL x)) {cs : List IVal} {σ : List IObj} {v1 v2 v3 : IVal} {z1 z2 : List Int} {z3 : List (Int × Int × Bool)} (hn : cs.length = 55) (hc : cs.all IVal.isCell = true)
   (c1 : cs[13]? = some v1) (c2 : cs[14]? = some v2) (c3 : cs[16]? = some v3) (L1 : LW σ v1 z1) (L2 : LW σ v2 z2) (L3 : LR σ v3 z3) (n1 : z1.length <= 512) (n2 : z2.length <= 8000) (n3 : z3.length <= 8) (hT : Ty lAll cs) (T1 : Ty (wdL 0 z1.length) (z1.map J)) (T2 : Ty (wdL 0 z2.length) (z2.map J)) (T3 : Ty (raL 0 z3.length) (z3.flatMap Rc)) :
   ∃ wr, cfw F (.f 6) [.agg cs] σ = some ⟨false, .str (if (vM (σ.length + 1) cs z1 z2 z3).far then [] else (vM (σ.length + 1) cs z1 z2 z3).bs.map UInt8.ofNat), σ, wr⟩ /\ Fl wr := by
 rw [jQ ir6 h6, jq]
 have hn2 : (cs.map un1).length = 55 := by simpa using hn
 have hc2 : (cs.map un1).all IVal.isCell = true := by
   rw [List.all_eq_true] at hc ⊢
   intro v hv
   obtain ⟨u, hu, rfl⟩ := List.mem_map.mp hv
   have := hc u hu
   cases u <;> first | rfl | cases this
 have d1 : (cs.map un1)[13]? = some (un1 v1) := by rw [List.getElem?_map, c1]; rfl
 have d2 : (cs.map un1)[14]? = some (un1 v2) := by rw [List.getElem?_map, c2]; rfl
 have d3 : (cs.map un1)[16]? = some (un1 v3) := by rw [List.getElem?_map, c3]; rfl
 have hTu := Xh hT
 have uu := vK cs
 generalize hB : cs.map un1 = bs at *
 have r3 : bs.take 55 = bs := List.take_of_length_le (by omega)
 have r4 : jb bs 0 bs = bs := VH rfl
 have f0 : yF [.sl 1 true [], .bool false] [] = some [.sl 1 true [], .bool false] := rfl
 obtain ⟨w1, w2, w3, e, p0, q1, q2, q3⟩ := jho (σ := σ ++ [.cells bs, .cells [.sl 1 true [], .bool false]]) (cs := bs) h17 h31 h32 hn2 hc2 d1 d2 d3 (vN (zi L1)) (vN (zi L2)) (JA (Vc L3)) (by omega) (by omega) (by omega)
 rw [uu] at p0
 simp only [List.append_assoc, List.cons_append, List.nil_append] at p0
 generalize hb3 : ((bs.set 13 w1).set 14 w2).set 16 w3 = b3 at *
 have m1 := yC q1
 have m2 := yC q2
 have m3 := yC q3
 have set_all : ∀ (l : List IVal) (o : Nat) (v : IVal), l.all IVal.isCell = true -> v.isCell = true -> (l.set o v).all IVal.isCell = true := by
   intro l o v h1 h2
   rw [List.all_eq_true] at h1 ⊢
   intro u hu
   rcases List.mem_or_eq_of_mem_set hu with h | h
   . exact h1 u h
   . rw [h]; exact h2
 have r1 : b3.length = 55 := by rw [<- hb3]; simpa using hn2
 have r2 : b3.all IVal.isCell = true := by rw [<- hb3]; exact set_all _ _ _ (set_all _ _ _ (set_all _ _ _ hc2 m1.2.1) m2.2.1) m3.2.1
 have r5 : jb bs 0 b3 = b3 := VH (by omega)
 have hT3 : Ty lAll b3 := by rw [<- hb3]; exact yy (yy (yy hTu (by decide)) (by decide)) (by decide)
 have st : ∃ wr cf l3, cfw F (.f 18) [.iface 69 (.ptr (σ.length + 1) 0), .ptr σ.length 0] (σ ++ .cells b3 :: .cells [.sl 1 true [], .bool false] :: e) = some ⟨false, .tup [], S (DL (σ.length + 1)) (σ ++ .cells b3 :: .cells [.sl 1 true [], .bool false] :: e) σ.length (vM (σ.length + 1) cs z1 z2 z3) cf l3, wr⟩ /\ Fa σ.length wr := by
   have hx : (σ ++ .cells b3 :: .cells [.sl 1 true [], .bool false] :: e)[σ.length + 1]? = some (La.ob ⟨[], false⟩) := by rw [get_app]; rfl
   have ha : (σ ++ .cells b3 :: .cells [.sl 1 true [], .bool false] :: e)[σ.length]? = some (.cells b3) := by rw [get_app0]; rfl
   have g16 : b3[16]? = some w3 := by rw [<- hb3, List.getElem?_set_self (by simp; omega)]
   have g14 : b3[14]? = some w2 := by rw [<- hb3, List.getElem?_set_ne (by decide), List.getElem?_set_self (by simp; omega)]
   have g13 : b3[13]? = some w1 := by rw [<- hb3, List.getElem?_set_ne (by decide), List.getElem?_set_ne (by decide), List.getElem?_set_self (by omega)]
   have Q1 := Xf (c := .cells b3) (d := .cells [.sl 1 true [], .bool false]) q1
   have Q2 := Xf (c := .cells b3) (d := .cells [.sl 1 true [], .bool false]) q2
   have Q3 := Xf (c := .cells b3) (d := .cells [.sl 1 true [], .bool false]) q3
   generalize hσ : σ ++ .cells b3 :: .cells [.sl 1 true [], .bool false] :: e = σ2 at *
   generalize hx' : σ.length + 1 = x at *
   generalize ha' : σ.length = a at *
   have lx := jd hx
   have la := jd ha
   have hne : a ≠ x := by omega
   have W := hw x
   have hbc : ∀ q ∈ lAll, b3[q.2]? = cs[q.2]? := by
     intro q hq
     obtain ⟨v, hv, hk⟩ := hT q hq
     have n13 : q.2 ≠ 13 := (by decide : ∀ q ∈ lAll, q.2 ≠ 13) q hq
     have n14 : q.2 ≠ 14 := (by decide : ∀ q ∈ lAll, q.2 ≠ 14) q hq
     have n16 : q.2 ≠ 16 := (by decide : ∀ q ∈ lAll, q.2 ≠ 16) q hq
     rw [<- hb3, List.getElem?_set_ne (Ne.symm n16), List.getElem?_set_ne (Ne.symm n14), List.getElem?_set_ne (Ne.symm n13), <- hB, List.getElem?_map, hv]
     simp [ZL hk]
   have sA : ∀ q ∈ lA, q ∈ lAll := by decide
   have sB : ∀ q ∈ lB, q ∈ lAll := by decide
   have sC : ∀ q ∈ lC, q ∈ lAll := by decide
   have eA := vg (x := x) lA ⟨[], false⟩ b3 (jU hT3 sA)
   have oA := kX W lA ⟨[], false⟩ b3 100000 (jU hT3 sA) (fun q hq r hr => jV q (sA q hq) r (sA r hr)) (by show 0 + 8 * _ < 880000; decide)
   have cA := vD (x := x) lA ⟨[], false⟩ cs b3 (jU hT sA) (fun q hq => hbc q (sA q hq))
   generalize hA : (jB (DL x) lA ⟨[], false⟩ b3).1 = A at *
   have oA : A.bs.length + 8 * 100000 < 880000 := oA
   obtain ⟨wr1, v1', l1, h13, f1⟩ := jgb (k := 90000) (most := 512) h35 h34 W (l := []) (w := A) lx la hne (acs := b3) (o := 13) g13 Q1 (by omega) (by omega) n1 (by decide) T1 (by omega)
   have o1 : (jbE x A z1.length 512 (z1.map J)).bs.length + 8 * 90000 < 880000 := kX W (wdL 0 z1.length) (A.number z1.length 512) (z1.map J) 90000 T1 YP (W.ok_number (w := A) (n := z1.length) (most := 512) (by show A.bs.length + 8 * _ < 880000; simp; omega))
   have b14 : (b3.set 13 v1')[14]? = some w2 := by rw [List.getElem?_set_ne (by decide)]; exact g14
   generalize hw1 : jbE x A z1.length 512 (z1.map J) = A1 at *
   obtain ⟨wr2, v2', l2, h14, f2⟩ := jgb (k := 80000) (most := 8000) h35 h34 W (l := l1) (w := A1) lx la hne (acs := b3.set 13 v1') (o := 14) b14 Q2 (by omega) (by omega) n2 (by decide) T2 (by omega)
   have o2 : (jbE x A1 z2.length 8000 (z2.map J)).bs.length + 8 * 80000 < 880000 := kX W (wdL 0 z2.length) (A1.number z2.length 8000) (z2.map J) 80000 T2 YP (W.ok_number (w := A1) (n := z2.length) (most := 8000) (by show A1.bs.length + 8 * _ < 880000; simp; omega))
   generalize hw2 : jbE x A1 z2.length 8000 (z2.map J) = A2 at *
   have hT4 : Ty lAll ((b3.set 13 v1').set 14 v2') := yy (yy hT3 (by decide)) (by decide)
   have eB := vg (x := x) lB A2 ((b3.set 13 v1').set 14 v2') (jU hT4 sB)
   have oB := kX W lB A2 ((b3.set 13 v1').set 14 v2') 79999 (jU hT4 sB) (fun q hq r hr => jV q (sB q hq) r (sB r hr)) o2
   have hb4 : ∀ q ∈ lAll, ((b3.set 13 v1').set 14 v2')[q.2]? = cs[q.2]? := by
     intro q hq
     have n13 : q.2 ≠ 13 := (by decide : ∀ q ∈ lAll, q.2 ≠ 13) q hq
     have n14 : q.2 ≠ 14 := (by decide : ∀ q ∈ lAll, q.2 ≠ 14) q hq
     rw [List.getElem?_set_ne (Ne.symm n14), List.getElem?_set_ne (Ne.symm n13)]; exact hbc q hq
   have cB := vD (x := x) lB A2 cs ((b3.set 13 v1').set 14 v2') (jU hT sB) (fun q hq => hb4 q (sB q hq))
   generalize hBB : (jB (DL x) lB A2 ((b3.set 13 v1').set 14 v2')).1 = A3 at *
   have oB : A3.bs.length + 8 * 79999 < 880000 := oB
   have b16 : ((b3.set 13 v1').set 14 v2')[16]? = some w3 := by rw [List.getElem?_set_ne (by decide), List.getElem?_set_ne (by decide)]; exact g16
   obtain ⟨wr3, v3', l3, h16, f3⟩ := jhi (k := 70000) (most := 8) h36 h37 h33 W (l := l2) (w := A3) lx la hne (acs := (b3.set 13 v1').set 14 v2') (o := 16) b16 Q3 (by omega) (by omega) n3 (by decide) T3 (by omega)
   have o3 : (jfl x A3 z3.length 8 (z3.flatMap Rc)).bs.length + 8 * 70000 < 880000 := kX W (raL 0 z3.length) (A3.number z3.length 8) (z3.flatMap Rc) 70000 T3 (Kx jcE jcE) (W.ok_number (w := A3) (n := z3.length) (most := 8) (by
     have : (raL 0 z3.length).length <= 24 := by rw [ja8]; omega
     show A3.bs.length + 8 * _ < 880000; omega))
   generalize hw3 : jfl x A3 z3.length 8 (z3.flatMap Rc) = A4 at *
   have hb5 : ∀ q ∈ lC, (((b3.set 13 v1').set 14 v2').set 16 v3')[q.2]? = cs[q.2]? := by
     intro q hq
     have n16 : q.2 ≠ 16 := (by decide : ∀ q ∈ lAll, q.2 ≠ 16) q (sC q hq)
     rw [List.getElem?_set_ne (Ne.symm n16)]; exact hb4 q (sC q hq)
   have cC := vD (x := x) lC A4 cs (((b3.set 13 v1').set 14 v2').set 16 v3') (jU hT sC) hb5
   have fin : vM x cs z1 z2 z3 = (jB (DL x) lC A4 (((b3.set 13 v1').set 14 v2').set 16 v3')).1 := by
     rw [cC, vM, <- cA, hw1, hw2, <- cB, hw3]
   obtain ⟨wr, _, hf, h18'⟩ := jbp (D := DL x) (k := 10) (w := ⟨[], false⟩) (w1 := A1) (w2 := A2) (w3 := A4) (cs := b3) (v1 := v1') (v2 := v2') (v3 := v3') (l1 := l1) (l2 := l2) (l3 := l3) (wr1 := wr1) (wr2 := wr2) (wr3 := wr3) (wf := (jB (DL x) lC A4 (((b3.set 13 v1').set 14 v2').set 16 v3')).1) (cf := (jB (DL x) lC A4 (((b3.set 13 v1').set 14 v2').set 16 v3')).2) h18 h33 h34 h38 h39 W hx ha hne hT3 (by show 0 + 8 * _ < 880000; decide) (by rw [hA, eA]; exact h13) f1 (by rw [eA]; exact h14) f2 (by show A2.bs.length + 8 * _ < 880000; omega) (by rw [eA, hBB, eB]; exact h16) f3 (by show A4.bs.length + 8 * _ < 880000; omega) (by rw [eA, eB])
   rw [fin]
   split at h18'
   . refine ⟨wr.filter fun p => decide (p.1 < σ2.length), (jB (DL x) lC A4 (((b3.set 13 v1').set 14 v2').set 16 v3')).2, [], ?_, qT hf⟩
     have tS : ∀ (w : (DL x).W) (c : List IVal) (l : List IObj), (S (DL x) σ2 a w c l).take σ2.length = S (DL x) σ2 a w c [] := fun w c l => by
       show ((((σ2.set _ _).set _ _) ++ l).take σ2.length) = ((σ2.set _ _).set _ _) ++ []
       rw [qD, List.append_nil]
     rw [tS] at h18'
     exact h18'
   . exact ⟨_, (jB (DL x) lC A4 (((b3.set 13 v1').set 14 v2').set 16 v3')).2, l3, h18', qT hf⟩
 obtain ⟨wr, cf, l3, s0, s1⟩ := st
 generalize hE : vM (σ.length + 1) cs z1 z2 z3 = en at *
 obtain ⟨ebs, efar⟩ := en
 have sx : (S (DL (σ.length + 1)) (σ ++ .cells b3 :: .cells [.sl 1 true [], .bool false] :: e) σ.length (La.mk ebs efar) cf l3)[σ.length + 1]? = some (.cells [.sl 1 ebs.isEmpty (ebs.map B), .bool efar]) := S_x (D := DL (σ.length + 1)) (w := (La.mk ebs efar)) (by show σ.length + 1 < _; simp) (by simp) (by show σ.length ≠ σ.length + 1; omega)
 have tk : (S (DL (σ.length + 1)) (σ ++ .cells b3 :: .cells [.sl 1 true [], .bool false] :: e) σ.length (La.mk ebs efar) cf l3).take σ.length = σ := by
   show ((((σ ++ .cells b3 :: .cells [.sl 1 true [], .bool false] :: e).set (σ.length + 1) (La.ob ⟨ebs, efar⟩)).set σ.length (.cells cf)) ++ l3).take σ.length = σ
   rw [List.set_append_right _ _ (by omega), List.set_append_right _ _ (by omega), List.append_assoc, take_app]
 have fw : ∀ b, Fa σ.length (wr ++ [(σ.length, b), (σ.length, false)]) := fun b => vb s1 (by simp)
 have fp : ∀ b, ((wr ++ [(σ.length, b), (σ.length, false)]).all fun p => !p.2 || decide (σ.length <= p.1)) = true := fun b => by
   have := fw b
   rw [Fa, List.all_eq_true] at this
   rw [List.all_eq_true]
   intro q hq; have := this q hq; simp at this ⊢; rcases this with h | h
   . exact .inl h
   . exact .inr (by omega)
 have ff : ∀ b, Fl ((wr ++ [(σ.length, b), (σ.length, false)]).filter fun p => decide (p.1 < σ.length)) := fun b => by
   have := fw b
   rw [Fa, List.all_eq_true] at this
   rw [Fl, List.all_eq_true]
   intro q hq
   obtain ⟨h1, h2⟩ := List.mem_filter.mp hq
   have h3 := this q h1; simp at h2 h3 ⊢; rcases h3 with h | h
   . exact h
   . omega
 have tb := toB ebs
 cases efar
 . simp only [ir6, jG, cells_agg, hB, hc2, hn2, r1, r2, r3, r4, r5, uu, f0, p0, s0, sx, tb, tk, fp, List.zip_nil_left, List.zip_nil_right, zV, zS, jy, jM, jc, jk, jR, jg, jl, je, jr, jO, jf, jj, jp, jK, ju, jq, Ts.fill, jS, jP, jh, jT, jo, jm, ji, ja, getAll, stepCall, jn, unI, Opd.get, jx, tag, jv, jb, jI, rv, bin, jW, Nat.reduceAdd, Nat.reduceSub, Nat.reduceMul, Nat.reduceDiv, Nat.reduceMod, Nat.reducePow, Nat.reduceLT, Nat.reduceLeDiff, Nat.reduceEqDiff, Nat.reduceBEq, Nat.reduceBNe, reduceIte, Int.reduceEq, Int.reduceLT, Int.reduceLE, Int.reduceNeg, Int.reduceToNat, Int.reduceMul, Int.reduceAdd, Int.reduceSub, reduceCtorEq]
   exact ⟨_, rfl, ff _⟩
 . simp only [ir6, jG, cells_agg, hB, hc2, hn2, r1, r2, r3, r4, r5, uu, f0, p0, s0, sx, tb, tk, fp, List.zip_nil_left, List.zip_nil_right, zV, zS, jy, jM, jc, jk, jR, jg, jl, je, jr, jO, jf, jj, jp, jK, ju, jq, Ts.fill, jS, jP, jh, jT, jo, jm, ji, ja, getAll, stepCall, jn, unI, Opd.get, jx, tag, jv, jb, jI, rv, bin, jW, Nat.reduceAdd, Nat.reduceSub, Nat.reduceMul, Nat.reduceDiv, Nat.reduceMod, Nat.reducePow, Nat.reduceLT, Nat.reduceLeDiff, Nat.reduceEqDiff, Nat.reduceBEq, Nat.reduceBNe, reduceIte, Int.reduceEq, Int.reduceLT, Int.reduceLE, Int.reduceNeg, Int.reduceToNat, Int.reduceMul, Int.reduceAdd, Int.reduceSub, reduceCtorEq]
   exact ⟨_, rfl, ff _⟩
end Go.Idl.Sb
namespace Go.Idl.Sb
open Go Go.Idl Go.Idl.En
variable {F : jJ}
theorem jgt (h : F 19 = some jdq) (s : List UInt8) (σ : List IObj) :
   cfw F (.f 19) [.str s] σ = some ⟨false, .ptr σ.length 0, σ ++ [Re.ob s ⟨0, none⟩], []⟩ := by
 rw [jQ jdq h, jq]
 have f2 : yF [.str [], .int .i64 0, .prim .nilIface] [(0, 1, .str s)] = some [.str s, .int .i64 0, .prim .nilIface] := rfl
 have i1 : IVal.isCell (.prim .nilIface) = true := rfl
 simp only [jdq, f2, i1, cells_agg, List.zip_cons_cons, List.zip_nil_right, zV, zS, jy, jM, jc, jk, jR, jg, jl, je, jr, jO, jf, jj, jp, jK, ju, jq, Ts.fill, jS, jP, jh, jT, jo, jm, ji, ja, getAll, stepCall, jn, unI, Opd.get, jx, tag, jv, jb, jI, rv, bin, jW, Nat.reduceAdd, Nat.reduceSub, Nat.reduceMul, Nat.reduceDiv, Nat.reduceMod, Nat.reducePow, Nat.reduceLT, Nat.reduceLeDiff, Nat.reduceEqDiff, Nat.reduceBEq, Nat.reduceBNe, reduceIte, Int.reduceEq, Int.reduceLT, Int.reduceLE, Int.reduceNeg, Int.reduceToNat, Int.reduceMul, Int.reduceAdd, Int.reduceSub, reduceCtorEq]
 rfl
/-- What is wrong in the end, also where something is left. -/
def Re.fin (s : List UInt8) (w : Re) : Option (Nat × Nat) := match w.er with
 | some e => some e
 | none => if w.pos < s.length then some (4, w.pos) else none
theorem jfV (h : F 20 = some jbG) (h40 : F 40 = some KM) (h41 : F 41 = some K9) (h42 : F 42 = some Yp) {s : List UInt8} {x : Nat} {w : Re} {σ : List IObj} (hx : σ[x]? = some (w.ob s)) (hs : s.length < 1000000) (hp : w.pos <= s.length) :
   cfw F (.f 20) [.ptr x 0] σ = some ⟨false, erI (w.fin s), σ, []⟩ := by
 rw [jQ jbG h, jq]
 have b0 := ZU h40 hx
 have n0 := Ys h41 hx hs hp
 have e0 := jd7 h42 hx
 have x1 : ∀ a : Int, ext [I 4, I a] = false := fun _ => rfl
 obtain ⟨pos, er⟩ := w
 cases er with
 | some e =>
   obtain ⟨c, a⟩ := e
   have u3 : un3 (erI (some (c, a))) = erI (some (c, a)) := rfl
   have u4 : nt (erI (some (c, a))) = true := rfl
   have u5 : nr3 (erI (some (c, a))) = true := rfl
   simp only [] at e0
   simp only [jbG, b0, e0, u3, u4, u5, Option.isSome, tne, zV, zS, jy, jM, jc, jk, jR, jg, jl, je, jr, jO, jf, jj, jp, jK, ju, jq, Ts.fill, jS, jP, jh, jT, jo, jm, ji, ja, getAll, stepCall, jn, unI, Opd.get, jx, tag, jv, jb, jI, rv, bin, jW, Nat.reduceAdd, Nat.reduceSub, Nat.reduceMul, Nat.reduceDiv, Nat.reduceMod, Nat.reducePow, Nat.reduceLT, Nat.reduceLeDiff, Nat.reduceEqDiff, Nat.reduceBEq, Nat.reduceBNe, reduceIte, Int.reduceEq, Int.reduceLT, Int.reduceLE, Int.reduceNeg, Int.reduceToNat, Int.reduceMul, Int.reduceAdd, Int.reduceSub, reduceCtorEq]
   rfl
 | none =>
   simp only [] at n0 e0 hp
   by_cases h0 : pos < s.length
   . have z0 : decide (((s.length - pos : Nat) : Int) > 0) = true := decide_eq_true (by omega)
     have f2 : yF [.int .i64 0, .int .i64 0] [(0, 1, I 4), (1, 1, I pos)] = some [I 4, I pos] := rfl
     have e2 : Re.fin s ⟨pos, none⟩ = some (4, pos) := by simp [Re.fin, h0]
     rw [e2]
     rw [Re.ob] at hx
     simp only [jbG, jG, b0, n0, hx, z0, f2, x1, cells_agg, Option.isSome, tne, List.zip_cons_cons, List.zip_nil_right, zV, zS, jy, jM, jc, jk, jR, jg, jl, je, jr, jO, jf, jj, jp, jK, ju, jq, Ts.fill, jS, jP, jh, jT, jo, jm, ji, ja, getAll, stepCall, jn, unI, Opd.get, jx, tag, jv, jb, jI, rv, bin, jW, Nat.reduceAdd, Nat.reduceSub, Nat.reduceMul, Nat.reduceDiv, Nat.reduceMod, Nat.reducePow, Nat.reduceLT, Nat.reduceLeDiff, Nat.reduceEqDiff, Nat.reduceBEq, Nat.reduceBNe, reduceIte, Int.reduceEq, Int.reduceLT, Int.reduceLE, Int.reduceNeg, Int.reduceToNat, Int.reduceMul, Int.reduceAdd, Int.reduceSub, reduceCtorEq]
     rfl
   . have z0 : decide (((s.length - pos : Nat) : Int) > 0) = false := decide_eq_false (by omega)
     have e2 : Re.fin s ⟨pos, none⟩ = none := by simp [Re.fin, h0]
     have u3 : un3 (erI none) = erI none := rfl
     have u4 : nt (erI none) = true := rfl
     have u5 : nr3 (erI none) = true := rfl
     rw [e2]
     simp only [jbG, jG, b0, n0, e0, z0, u3, u4, u5, Option.isSome, tne, zV, zS, jy, jM, jc, jk, jR, jg, jl, je, jr, jO, jf, jj, jp, jK, ju, jq, Ts.fill, jS, jP, jh, jT, jo, jm, ji, ja, getAll, stepCall, jn, unI, Opd.get, jx, tag, jv, jb, jI, rv, bin, jW, Nat.reduceAdd, Nat.reduceSub, Nat.reduceMul, Nat.reduceDiv, Nat.reduceMod, Nat.reducePow, Nat.reduceLT, Nat.reduceLeDiff, Nat.reduceEqDiff, Nat.reduceBEq, Nat.reduceBNe, reduceIte, Int.reduceEq, Int.reduceLT, Int.reduceLE, Int.reduceNeg, Int.reduceToNat, Int.reduceMul, Int.reduceAdd, Int.reduceSub, reduceCtorEq]
end Go.Idl.Sb
namespace Go.Idl.Sb
open Go Go.Idl Go.Idl.En
variable {F : jJ} {D : WayD}
/-- A cell that is not asked stays aside. -/
theorem z8 {o : Nat} {v : IVal} : ∀ (l : List (K × Nat)) (w : D.W) (cs : List IVal), (∀ q ∈ l, q.2 ≠ o) -> jB D l w (cs.set o v) = ((jB D l w cs).1, (jB D l w cs).2.set o v) := by
 intro l
 induction l with
 | nil => intro w cs _; rfl
 | cons q l ih =>
   intro w cs h
   obtain ⟨k, p⟩ := q
   have hp : p ≠ o := h (k, p) List.mem_cons_self
   have e1 : kH (cs.set o v) p = kH cs p := by rw [kH, kH, List.getElem?_set_ne (Ne.symm hp)]
   rw [jB, jB, e1]
   rw [List.set_comm _ _ (Ne.symm hp)]
   exact ih _ _ (fun q hq => h q (List.mem_cons_of_mem _ hq))
/-- A list that was read: nothing, or elements among what came on. -/
def LX (esz b k : Nat) (lv : IVal) (n : Nat) (ys : List IVal) (l : List IObj) : Prop := (n = 0 /\ ys = [] /\ ∃ e', lv = .sl e' true []) \/ (0 < n /\ ∃ j, lv = .rs esz (b + j) 0 n /\ l[j]? = some (.cells ys) /\ ys.length = n * k)
theorem ZM {esz b k n : Nat} {lv : IVal} {ys : List IVal} {l l' : List IObj} (h : LX esz b k lv n ys l) : LX esz b k lv n ys (l ++ l') := by
 rcases h with h | ⟨h0, j, h1, h2, h3⟩
 . exact .inl h
 . exact .inr ⟨h0, j, h1, jL h2 _, h3⟩
theorem jfz {esz k n a : Nat} {σ : List IObj} {w : D.W} {cs : List IVal} {lv : IVal} {ys : List IVal} {l : List IObj} {σ' : List IObj} (hl : σ.length <= σ'.length) (h : LV esz σ' k lv n ys (S D σ a w cs l)) : LX esz σ.length k lv n ys l := by
 rcases h with ⟨h1, h2, h3⟩ | ⟨h0, id, h1, h2, h3, h4⟩
 . exact .inl ⟨h1, h2, h3⟩
 . obtain ⟨j, rfl⟩ : ∃ j, id = σ.length + j := ⟨id - σ.length, by omega⟩
   refine .inr ⟨h0, j, h1, ?_, h4⟩
   rw [S] at h3
   have := get_app (σ := (σ.set D.x (D.ob w)).set a (.cells cs)) (l := l) j
   simp only [List.length_set] at this
   rw [this] at h3; exact h3
theorem jdC (h35 : F 35 = some Xt) (h34 : F 34 = some QB) (hw : Way F D) {a o most k e' : Nat} {acs : List IVal} {σ l : List IObj} {w : D.W} (hx : D.x < σ.length) (ha : a < σ.length) (hne : a ≠ D.x) (ho : acs[o]? = some (.sl e' true [])) (hm2 : most < 10000) (hk : D.ok w (k + most + 1)) :
   ∃ wr lv l', cfw F (.f 35) [.iface D.ty D.rv, .ptr a o, I most, .fn (.func 34) [] []] (S D σ a w acs l) = some ⟨false, .tup [], S D σ a (kT D (cnt D w most) (D.number w 0 most).1 []).1 (acs.set o lv) (l ++ l'), wr⟩ /\ Fa a wr /\ (0 < cnt D w most -> (a, true) ∈ wr) /\ LX 1 σ.length 1 lv (cnt D w most) (kT D (cnt D w most) (D.number w 0 most).1 []).2 (l ++ l') := by
 obtain ⟨wr, lv, l', h1, h2, h3, h4⟩ := jaB (k := k) h35 h34 hw (S_x (w := w) (cs := acs) (l := l) hx ha hne) (S_a hx ha hne) ho hne hm2 hk
 have e2 := JH (D := D) (w := w) (w' := (kT D (cnt D w most) (D.number w 0 most).1 []).1) (cs := acs) (cs' := acs.set o lv) (l := l) hx ha hne
 rw [e2, jbK] at h1 h4
 exact ⟨wr, lv, l', h1, h2, h3, jfz (by rw [S]; simp) h4⟩
theorem jgF (h36 : F 36 = some Xu) (h37 : F 37 = some Xv) (h33 : F 33 = some KS) (hw : Way F D) {a o most k e' : Nat} {acs : List IVal} {σ l : List IObj} {w : D.W} (hx : D.x < σ.length) (ha : a < σ.length) (hne : a ≠ D.x) (ho : acs[o]? = some (.sl e' true [])) (hm2 : most < 10000) (hk : D.ok w (k + 3 * most + 1)) :
   ∃ wr lv l', cfw F (.f 36) [.iface D.ty D.rv, .ptr a o, I most, .fn (.func 37) [] []] (S D σ a w acs l) = some ⟨false, .tup [], S D σ a (qf D (cnt D w most) (D.number w 0 most).1 []).1 (acs.set o lv) (l ++ l'), wr⟩ /\ Fa a wr /\ (0 < cnt D w most -> (a, true) ∈ wr) /\ LX 3 σ.length 3 lv (cnt D w most) (qf D (cnt D w most) (D.number w 0 most).1 []).2 (l ++ l') := by
 obtain ⟨wr, lv, l', h1, h2, h3, h4⟩ := jaC (k := k) h36 h37 h33 hw (S_x (w := w) (cs := acs) (l := l) hx ha hne) (S_a hx ha hne) ho hne hm2 hk
 have e2 := JH (D := D) (w := w) (w' := (qf D (cnt D w most) (D.number w 0 most).1 []).1) (cs := acs) (cs' := acs.set o lv) (l := l) hx ha hne
 rw [e2, jbK] at h1 h4
 exact ⟨wr, lv, l', h1, h2, h3, jfz (by rw [S]; simp) h4⟩
end Go.Idl.Sb
namespace Go.Idl.Sb
open Go Go.Idl Go.Idl.En
variable {F : jJ} {D : WayD}
theorem JN (hw : Way F D) : ∀ (d : Nat) (w : D.W) (ys : List IVal) (k : Nat), D.ok w (k + d) -> D.ok (kT D d w ys).1 k := by
 intro d
 induction d with
 | zero => intro w ys k h; exact h
 | succ d ih => intro w ys k h; exact ih _ _ k (Je hw J0 h)
theorem Yx (hw : Way F D) : ∀ (d : Nat) (w : D.W) (ys : List IVal) (k : Nat), D.ok w (k + 3 * d) -> D.ok (qf D d w ys).1 k := by
 intro d
 induction d with
 | zero => intro w ys k h; exact h
 | succ d ih =>
   intro w ys k h
   have e : k + 3 * (d + 1) = k + 3 * d + 3 := by omega
   rw [e] at h
   exact ih _ _ k (kX hw _ _ _ _ YU vX h)
/-- What is read, step by step: ahead of the lists; each list; between; behind. -/
structure Rd (D : WayD) where
 wA : D.W
 cA : List IVal
 n1 : Nat
 w1 : D.W
 y1 : List IVal
 n2 : Nat
 w2 : D.W
 y2 : List IVal
 wB : D.W
 cB : List IVal
 n3 : Nat
 w3 : D.W
 y3 : List IVal
 w : D.W
 cs : List IVal
def rdS (D : WayD) (w0 : D.W) (cs : List IVal) : Rd D :=
 let rA := jB D lA w0 cs
 let n1 := cnt D rA.1 512
 let g1 := kT D n1 (D.number rA.1 0 512).1 []
 let n2 := cnt D g1.1 8000
 let g2 := kT D n2 (D.number g1.1 0 8000).1 []
 let rB := jB D lB g2.1 rA.2
 let n3 := cnt D rB.1 8
 let g3 := qf D n3 (D.number rB.1 0 8).1 []
 let rC := jB D lC g3.1 rB.2
 ⟨rA.1, rA.2, n1, g1.1, g1.2, n2, g2.1, g2.2, rB.1, rB.2, n3, g3.1, g3.2, rC.1, rC.2⟩
theorem vw {o : Nat} : ∀ (l : List (K × Nat)) (w : D.W) (cs : List IVal), (∀ q ∈ l, q.2 ≠ o) -> (jB D l w cs).2[o]? = cs[o]? := by
 intro l
 induction l with
 | nil => intro w cs _; rfl
 | cons q l ih =>
   intro w cs h
   obtain ⟨k, p⟩ := q
   rw [jB]
   refine Eq.trans (ih _ _ (fun q hq => h q (List.mem_cons_of_mem _ hq))) ?_
   rw [List.getElem?_set_ne (h (k, p) List.mem_cons_self)]
end Go.Idl.Sb
namespace Go.Idl.Sb
open Go Go.Idl Go.Idl.En
variable {F : jJ}
def tyb : K -> IVal -> Bool
 | .pl, .int .i64 n => decide (-9223372036854775808 <= n /\ n < 9223372036854775808)
 | .wd, .int .i32 n => decide (-2147483648 <= n /\ n <= 2147483647)
 | .byt, .int .u8 n => decide (0 <= n /\ n < 256)
 | .tr, .bool _ => true
 | .hf, .int .u16 n => decide (0 <= n /\ n < 65536)
 | .nm, .int .u64 n => decide (0 <= n /\ n < 18446744073709551616)
 | _, _ => false
theorem jgR {k : K} {v : IVal} (h : tyb k v = true) : k.ty v := by
 unfold tyb at h
 split at h
 . have h := of_decide_eq_true h; exact ⟨_, rfl, h⟩
 . have h := of_decide_eq_true h; exact ⟨_, rfl, h⟩
 . rename_i n; have := of_decide_eq_true h; exact ⟨n.toNat, by congr 1; omega, by omega⟩
 . exact ⟨_, rfl⟩
 . rename_i n; have := of_decide_eq_true h; exact ⟨n.toNat, by congr 1; omega, by omega⟩
 . rename_i n; have := of_decide_eq_true h; exact ⟨n.toNat, by congr 1; omega, by omega⟩
 . cases h
def tys (l : List (K × Nat)) (cs : List IVal) : Bool := l.all fun q => match cs[q.2]? with | some v => tyb q.1 v | none => false
theorem jgS {l : List (K × Nat)} {cs : List IVal} (h : tys l cs = true) : Ty l cs := by
 intro q hq
 have := List.all_eq_true.mp h q hq
 cases hc : cs[q.2]? with
 | none => rw [hc] at this; cases this
 | some v => rw [hc] at this; exact ⟨v, rfl, jgR this⟩
theorem zH : Ty lAll Z55 := jgS (by decide +kernel)
theorem VL (h18 : F 18 = some jbF) (h33 : F 33 = some KS) (h34 : F 34 = some QB) (h35 : F 35 = some Xt) (h36 : F 36 = some Xu) (h37 : F 37 = some Xv) (h38 : F 38 = some ZG) (h39 : F 39 = some ZH) {s : List UInt8} {x a : Nat} (W : Way F (DR s x)) {σ : List IObj} (hs : s.length < 1000000) (hx : σ[x]? = some (Re.ob s ⟨0, none⟩)) (ha : σ[a]? = some (.cells Z55)) (hne : a ≠ x) :
   ∃ wr v1 v2 v3 l, cfw F (.f 18) [.iface 78 (.agg [.ptr x 0]), .ptr a 0] σ = some ⟨false, .tup [], S (DR s x) σ a (rdS (DR s x) ⟨0, none⟩ Z55).w ((((rdS (DR s x) ⟨0, none⟩ Z55).cs.set 13 v1).set 14 v2).set 16 v3) l, wr⟩ /\ Fa a wr /\ (wr.all (fun p => !p.2 || decide (σ.length <= p.1)) = true -> l = []) /\
     LX 1 σ.length 1 v1 (rdS (DR s x) ⟨0, none⟩ Z55).n1 (rdS (DR s x) ⟨0, none⟩ Z55).y1 l /\ LX 1 σ.length 1 v2 (rdS (DR s x) ⟨0, none⟩ Z55).n2 (rdS (DR s x) ⟨0, none⟩ Z55).y2 l /\ LX 3 σ.length 3 v3 (rdS (DR s x) ⟨0, none⟩ Z55).n3 (rdS (DR s x) ⟨0, none⟩ Z55).y3 l := by
 have lx := jd hx
 have la := jd ha
 have ok0 : ∀ (w : (DR s x).W) (j k : Nat), (DR s x).ok w j -> (DR s x).ok w k := fun w j k h => h
 have z13 : Z55[13]? = some (.sl 1 true []) := rfl
 have z14 : Z55[14]? = some (.sl 1 true []) := rfl
 have z16 : Z55[16]? = some (.sl 3 true []) := rfl
 have sA : ∀ q ∈ lA, q ∈ lAll := by decide
 have sB : ∀ q ∈ lB, q ∈ lAll := by decide
 have sC : ∀ q ∈ lC, q ∈ lAll := by decide
 have n13 : ∀ q ∈ lAll, q.2 ≠ 13 := by decide
 have n14 : ∀ q ∈ lAll, q.2 ≠ 14 := by decide
 have n16 : ∀ q ∈ lAll, q.2 ≠ 16 := by decide
 have hT := zH
 have o0 : (DR s x).ok (⟨0, none⟩ : Re) 1000000 := ⟨Nat.zero_le _, hs⟩
 have oA := kX W lA (⟨0, none⟩ : Re) Z55 100000 (jU hT sA) (fun q hq r hr => jV q (sA q hq) r (sA r hr)) (ok0 _ _ _ o0)
 have a13 := vw (D := DR s x) (o := 13) lA (⟨0, none⟩ : Re) Z55 (fun q hq => n13 q (sA q hq))
 have a14 := vw (D := DR s x) (o := 14) lA (⟨0, none⟩ : Re) Z55 (fun q hq => n14 q (sA q hq))
 have a16 := vw (D := DR s x) (o := 16) lA (⟨0, none⟩ : Re) Z55 (fun q hq => n16 q (sA q hq))
 rw [z13] at a13; rw [z14] at a14; rw [z16] at a16
 unfold rdS
 simp only []
 generalize hrA : jB (DR s x) lA (⟨0, none⟩ : Re) Z55 = rA at *
 obtain ⟨wr1, v1, l1, h13, f1, m1, X1⟩ := jdC (D := DR s x) (k := 0) (most := 512) (l := []) h35 h34 W lx la hne a13 (by decide) (ok0 _ _ _ oA)
 have o1 := JN W (cnt (DR s x) rA.1 512) ((DR s x).number rA.1 0 512).1 [] 0 (ok0 _ 0 _ (W.ok_number (k := 0) (ok0 _ _ _ oA)))
 generalize hn1 : cnt (DR s x) rA.1 512 = c1 at *
 generalize hg1 : kT (DR s x) c1 ((DR s x).number rA.1 0 512).1 [] = g1 at *
 obtain ⟨wr2, v2, l2, h14, f2, m2, X2⟩ := jdC (D := DR s x) (k := 0) (most := 8000) (l := [] ++ l1) (acs := rA.2.set 13 v1) (o := 14) h35 h34 W lx la hne (by rw [List.getElem?_set_ne (by decide)]; exact a14) (by decide) (ok0 _ _ _ o1)
 have o2 := JN W (cnt (DR s x) g1.1 8000) ((DR s x).number g1.1 0 8000).1 [] 0 (ok0 _ 0 _ (W.ok_number (k := 0) (ok0 _ _ _ o1)))
 generalize hn2 : cnt (DR s x) g1.1 8000 = c2 at *
 generalize hg2 : kT (DR s x) c2 ((DR s x).number g1.1 0 8000).1 [] = g2 at *
 have eB : jB (DR s x) lB g2.1 ((rA.2.set 13 v1).set 14 v2) = ((jB (DR s x) lB g2.1 rA.2).1, ((jB (DR s x) lB g2.1 rA.2).2.set 13 v1).set 14 v2) := by
   rw [z8 _ _ _ (fun q hq => n14 q (sB q hq)), z8 _ _ _ (fun q hq => n13 q (sB q hq))]
 have T4 : Ty lAll rA.2 := by rw [<- hrA]; exact qw W _ _ _ hT (jU hT sA) (fun q hq r hr => jV q hq r (sA r hr)) (fun q hq r hr => jV q (sA q hq) r (sA r hr))
 have oB := kX W lB g2.1 rA.2 1000 (jU T4 sB) (fun q hq r hr => jV q (sB q hq) r (sB r hr)) (ok0 _ _ _ o2)
 have b16 := vw (D := DR s x) (o := 16) lB g2.1 rA.2 (fun q hq => n16 q (sB q hq))
 rw [a16] at b16
 generalize hrB : jB (DR s x) lB g2.1 rA.2 = rB at *
 obtain ⟨wr3, v3, l3, h16, f3, m3, X3⟩ := jgF (D := DR s x) (k := 0) (most := 8) (l := ([] ++ l1) ++ l2) (acs := (rB.2.set 13 v1).set 14 v2) (o := 16) h36 h37 h33 W lx la hne (by rw [List.getElem?_set_ne (by decide), List.getElem?_set_ne (by decide)]; exact b16) (by decide) (ok0 _ _ _ oB)
 have o3 := Yx W (cnt (DR s x) rB.1 8) ((DR s x).number rB.1 0 8).1 [] 0 (ok0 _ 0 _ (W.ok_number (k := 0) (ok0 _ _ _ oB)))
 generalize hn3 : cnt (DR s x) rB.1 8 = c3 at *
 generalize hg3 : qf (DR s x) c3 ((DR s x).number rB.1 0 8).1 [] = g3 at *
 have eC : jB (DR s x) lC g3.1 (((rB.2.set 13 v1).set 14 v2).set 16 v3) = ((jB (DR s x) lC g3.1 rB.2).1, (((jB (DR s x) lC g3.1 rB.2).2.set 13 v1).set 14 v2).set 16 v3) := by
   rw [z8 _ _ _ (fun q hq => n16 q (sC q hq)), z8 _ _ _ (fun q hq => n14 q (sC q hq)), z8 _ _ _ (fun q hq => n13 q (sC q hq))]
 generalize hrC : jB (DR s x) lC g3.1 rB.2 = rC at *
 obtain ⟨wr, hmem, hf, h18'⟩ := jbp (D := DR s x) (k := 10) (w := (⟨0, none⟩ : Re)) (w1 := g1.1) (w2 := g2.1) (w3 := g3.1) (cs := Z55) (v1 := v1) (v2 := v2) (v3 := v3) (l1 := [] ++ l1) (l2 := ([] ++ l1) ++ l2) (l3 := (([] ++ l1) ++ l2) ++ l3) (wr1 := wr1) (wr2 := wr2) (wr3 := wr3) (wf := rC.1) (cf := ((rC.2.set 13 v1).set 14 v2).set 16 v3) h18 h33 h34 h38 h39 W hx ha hne hT (ok0 _ _ _ o0) (by rw [hrA]; exact h13) f1 (by rw [hrA]; exact h14) f2 (ok0 _ _ _ o2) (by rw [hrA, eB]; exact h16) f3 (ok0 _ _ _ o3) (by rw [hrA, eB]; exact eC)
 have zero : ∀ (c : Nat) (wr' : List (Nat × Bool)), (0 < c -> (a, true) ∈ wr') -> (∀ q ∈ wr', q ∈ wr) -> wr.all (fun p => !p.2 || decide (σ.length <= p.1)) = true -> c = 0 := by
   intro c wr' h1 h2 h3
   rcases Nat.eq_zero_or_pos c with h | h
   . exact h
   . rw [List.all_eq_true] at h3
     have := h3 _ (h2 _ (h1 h)); simp at this; omega
 have nil : ∀ {e k c : Nat} {v : IVal} {ys : List IVal} {l : List IObj}, LX e σ.length k v c ys l -> c = 0 -> LX e σ.length k v c ys [] := by
   intro e k c v ys l h hc
   rcases h with h | ⟨h, _⟩
   . exact .inl h
   . omega
 by_cases hall : wr.all (fun p => !p.2 || decide (σ.length <= p.1)) = true
 . rw [if_pos hall] at h18'
   have tS : ∀ (w : (DR s x).W) (c : List IVal) (l : List IObj), (S (DR s x) σ a w c l).take σ.length = S (DR s x) σ a w c [] := fun w c l => by
     show ((((σ.set _ _).set _ _) ++ l).take σ.length) = ((σ.set _ _).set _ _) ++ []
     rw [qD, List.append_nil]
   rw [tS] at h18'
   exact ⟨_, v1, v2, v3, [], h18', qT hf, fun _ => rfl, nil X1 (zero _ _ m1 (fun q hq => hmem q (.inl hq)) hall), nil X2 (zero _ _ m2 (fun q hq => hmem q (.inr (.inl hq))) hall), nil X3 (zero _ _ m3 (fun q hq => hmem q (.inr (.inr hq))) hall)⟩
 . rw [if_neg hall] at h18'
   refine ⟨_, v1, v2, v3, _, h18', qT hf, ?_, ZM (ZM X1), ZM X2, X3⟩
   intro h
   refine absurd ?_ hall
   rw [List.all_eq_true] at h ⊢
   intro q hq
   by_cases hlt : q.1 < σ.length
   . exact h q (List.mem_filter.mpr ⟨hq, by simpa using hlt⟩)
   . simp; exact .inr (by omega)
end Go.Idl.Sb
