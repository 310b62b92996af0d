/- SnapTells: what the ideal machine makes of its functions, part B; no conditions. -/
import Derived.Test.YtgkedaeojkbaiaaGreatDoorSbA
set_option linter.unusedSectionVars false
set_option linter.unusedVariables false
set_option linter.unusedSimpArgs false
namespace Go.Idl.Sb
open Go Go.Idl Go.Idl.En
variable {F : jn}
theorem tne : (true != false) = true := rfl
def Re.within (w : Re) (is : Bool) (a : Nat) : Re := if w.er.isSome || is then w else ⟨w.pos, some (4, a)⟩
theorem ZN (h : F 119 = some Kl) (h42 : F 63 = some Zf) (h87 : F 116 = some vK) (h40 : F 61 = some K3) {s : List UInt8} {x a : Nat} {is : Bool} {w : Re} {σ : List IObj} (hx : σ[x]? = some (w.ob s)) :
   ∃ wr, cfw F (.f 119) [.agg [.ptr x 0], .bool is, I a] σ = some ⟨false, .bool !(w.within is a).er.isSome, σ.set x ((w.within is a).ob s), wr⟩ /\ wr.all (fun q => !q.2 && q.1 == x) = true := by
 rw [jj Kl h, callI]
 have e0 := jfV h42 hx
 have l0 := ja hx
 have x1 : ext [.ptr x 0] = true := rfl
 obtain ⟨pos, er⟩ := w
 have i1 : isNil 1 (.prim .nilIface) = some true := rfl
 cases er with
 | some e =>
   obtain ⟨c, a'⟩ := e
   have i2 : isNil 1 (erI (some (c, a'))) = some false := rfl
   simp only [] at e0
   simp only [Kl, jd, e0, i2, x1, tne, zV, zS, zD, simprocAttr]
   exact ⟨[], by simp [Re.within, jx hx], rfl⟩
 | none =>
   have i2 : isNil 1 (erI none) = some true := rfl
   simp only [] at e0
   cases is with
   | true =>
     have u3 : un3 (erI none) = erI none := rfl
     simp only [Kl, jd, e0, i2, u3, x1, tne, zV, zS, zD, simprocAttr]
     exact ⟨[], by simp [Re.within, jx hx], rfl⟩
   | false =>
     obtain ⟨wr, f0, hw⟩ := Y8 h87 h40 (c := 4) (a := a) hx
     have f0 : cfw F (.f 116) [.ptr x 0, I 4, I a] σ = some ⟨false, .tup [], σ.set x (Re.ob s ⟨pos, some (4, a)⟩), wr⟩ := f0
     obtain ⟨wp1, wp2⟩ := kL hw l0
     have e3 := jfV h42 (kB (σ := σ) (o := Re.ob s ⟨pos, some (4, a)⟩) l0)
     have i3 : isNil 1 (erI (some (4, a))) = some false := rfl
     simp only [] at e3
     have u3 : un3 (erI none) = erI none := rfl
     have u4 : un3 (erI (some (4, a))) = erI (some (4, a)) := rfl
     simp only [Kl, jd, e0, e3, i2, i3, f0, x1, u3, u4, tne, wp1, wp2, rF, take_set, zV, zS, zD, simprocAttr]
     exact ⟨wr, by simp [Re.within], hw⟩
theorem jjf {s : List UInt8} {w : Re} (hp : w.pos <= s.length) : (w.u s).1.pos <= s.length := by
 rw [Re.u]
 split
 . exact hp
 . have := jbZ (s.drop w.pos)
   rw [List.length_drop] at this
   simp only []; omega
theorem QN (w : Re) (is : Bool) (a : Nat) : (w.within is a).pos = w.pos := by rw [Re.within]; split <;> rfl
def Re.number (s : List UInt8) (w : Re) (n most : Nat) : Re × Nat :=
 let r := (w.u s).1.within (decide (((w.u s).2 : Int) <= most)) w.pos
 (r, if r.er.isSome then n else (w.u s).2)
def Re.whole (s : List UInt8) (w : Re) (n lo hi : Int) : Re × Int :=
 let v := JD (w.u s).2
 let r := (w.u s).1.within (decide (v ≥ lo) && decide (v <= hi)) w.pos
 (r, if r.er.isSome then n else v)
theorem zy {x : Nat} {wr : List (Nat × Bool)} (h : wr.all (fun q => !q.2 && q.1 == x) = true) : wr.all (fun q => !q.2) = true := by
 rw [rG] at h ⊢
 intro q hq; have := h q hq; simp at this; simp [this]
theorem qL {σ : List IObj} {p : Nat} {cs : List IVal} {o : Nat} {v : IVal} (hp : σ[p]? = some (.cells cs)) (ho : cs[o]? = some v) : σ.set p (.cells (cs.set o v)) = σ := by
 have : cs.set o v = cs := by
   have h2 : o < cs.length := by
     rcases Nat.lt_or_ge o cs.length with h | h
     . exact h
     . rw [rY h] at ho; cases ho
   rw [rJ h2] at ho; cases ho
   exact List.set_getElem_self h2
 rw [this, jx hp]
theorem kJ {cs : List IVal} {o : Nat} {v : IVal} (ho : cs[o]? = some v) : o + 1 <= cs.length := by
 rcases Nat.lt_or_ge o cs.length with h | h
 . exact h
 . rw [rY h] at ho; cases ho
theorem vB {σ : List IObj} {x p : Nat} {o o' : IObj} : ((σ.set x o).set p o').take σ.length = (σ.set x o).set p o' := by rw [rX]; simp
theorem Ys (h84 : F 113 = some VT) (h88 : F 117 = some Q0) (h90 : F 119 = some Kl) (h42 : F 63 = some Zf) (h89 : F 118 = some Kk) (h87 : F 116 = some vK) (h40 : F 61 = some K3) (h93 : F 122 = some Jq) (h41 : F 62 = some Qx) (h80 : F 106 = some yU) (h81 : F 107 = some yf)
   {s : List UInt8} {x p o : Nat} {w : Re} {cs : List IVal} {σ : List IObj} {n most : Nat} (hx : σ[x]? = some (w.ob s)) (hp : σ[p]? = some (.cells cs)) (ho : cs[o]? = some (Q n)) (hs : s.length < 1000000) (hpos : w.pos <= s.length) (hne : p ≠ x) :
   ∃ wr, cfw F (.f 113) [.agg [.ptr x 0], .ptr p o, Q most] σ = some ⟨false, .tup [], (σ.set x ((w.number s n most).1.ob s)).set p (.cells (cs.set o (Q (w.number s n most).2))), wr⟩ /\ wr.all (fun q => !q.2) = true := by
 rw [jj VT h84, callI]
 have x1 : ext [.ptr x 0] = true := rfl
 have t1 : [IVal.ptr x 0].take 1 = [.ptr x 0] := rfl
 have p0 := jcd h88 hx
 have l0 := ja hx
 have lp := ja hp
 obtain ⟨wr1, u0, hw1⟩ := u89 h89 h87 h40 h93 h41 h80 h81 hx hs hpos
 obtain ⟨wr2, v0, hw2⟩ := ZN (is := decide (((w.u s).2 : Int) <= most)) (a := w.pos) h90 h42 h87 h40 (kB (σ := σ) (o := (w.u s).1.ob s) l0)
 rw [tE] at v0
 obtain ⟨wp1, wp2⟩ := kL hw1 l0
 obtain ⟨wp3, wp4⟩ := kL hw2 l0
 have l2 := fun o => get_set (j := x) (x := o) hp (tR hne)
 have l3 := rE lp
 have o1 := kJ ho
 have f2 := rQ (xs := wr2) (ys := wr1) (f := fun q => !q.2)
 rw [Re.number]
 simp only []
 cases hr : ((w.u s).1.within (decide (((w.u s).2 : Int) <= most)) w.pos).er.isSome
 . rw [hr] at v0
   simp only [VT, jd, p0, u0, v0, l2, lp, l3, o1, hp, x1, t1, wp1, wp2, wp3, wp4, rQ, List.filter_append, rF, take_set, zV, zS, zD, simprocAttr]
   exact ⟨(p, false) :: (wr2 ++ wr1), by rw [vB], by rw [tN, rQ, zy hw1, zy hw2]; rfl⟩
 . rw [hr] at v0
   simp only [VT, jd, p0, u0, v0, l2, lp, l3, o1, hp, x1, t1, wp1, wp2, wp3, wp4, rQ, List.filter_append, rF, take_set, zV, zS, zD, simprocAttr]
   exact ⟨wr2 ++ wr1, by rw [qL (l2 _) ho], by rw [rQ, zy hw1, zy hw2]; rfl⟩
theorem jap (h86 : F 115 = some X0) (h92 : F 121 = some VU) (h88 : F 117 = some Q0) (h90 : F 119 = some Kl) (h42 : F 63 = some Zf) (h89 : F 118 = some Kk) (h87 : F 116 = some vK) (h40 : F 61 = some K3) (h93 : F 122 = some Jq) (h41 : F 62 = some Qx) (h80 : F 106 = some yU) (h81 : F 107 = some yf)
   {s : List UInt8} {x p o : Nat} {w : Re} {cs : List IVal} {σ : List IObj} {n lo hi : Int} (hx : σ[x]? = some (w.ob s)) (hp : σ[p]? = some (.cells cs)) (ho : cs[o]? = some (I n)) (hs : s.length < 1000000) (hpos : w.pos <= s.length) (hne : p ≠ x) :
   ∃ wr, cfw F (.f 115) [.agg [.ptr x 0], .ptr p o, I lo, I hi] σ = some ⟨false, .tup [], (σ.set x ((w.whole s n lo hi).1.ob s)).set p (.cells (cs.set o (I (w.whole s n lo hi).2))), wr⟩ /\ wr.all (fun q => !q.2) = true := by
 rw [jj X0 h86, callI]
 have x1 : ext [.ptr x 0] = true := rfl
 have t1 : [IVal.ptr x 0].take 1 = [.ptr x 0] := rfl
 have p0 := jcd h88 hx
 have l0 := ja hx
 have lp := ja hp
 obtain ⟨wr1, u0, hw1⟩ := i92 h92 h89 h87 h40 h93 h41 h80 h81 hx hs hpos
 obtain ⟨wr2, v0, hw2⟩ := ZN (is := decide (JD (w.u s).2 ≥ lo) && decide (JD (w.u s).2 <= hi)) (a := w.pos) h90 h42 h87 h40 (kB (σ := σ) (o := (w.u s).1.ob s) l0)
 rw [tE] at v0
 obtain ⟨wp1, wp2⟩ := kL hw1 l0
 obtain ⟨wp3, wp4⟩ := kL hw2 l0
 have l2 := fun o => get_set (j := x) (x := o) hp (tR hne)
 have l3 := rE lp
 have o1 := kJ ho
 rw [Re.whole]
 simp only []
 cases ha : decide (JD (w.u s).2 ≥ lo) <;> cases hb : decide (JD (w.u s).2 <= hi) <;> rw [ha, hb] at v0 <;> simp only [Bool.and_false, Bool.false_and, Bool.and_true] at v0 ⊢
 all_goals
   first
   | (cases hr : ((w.u s).1.within false w.pos).er.isSome <;> rw [hr] at v0)
   | (cases hr : ((w.u s).1.within true w.pos).er.isSome <;> rw [hr] at v0)
 all_goals simp only [X0, jd, p0, u0, v0, l2, lp, l3, o1, hp, x1, t1, ha, hb, tne, wp1, wp2, wp3, wp4, rQ, List.filter_append, rF, take_set, zV, zS, zD, simprocAttr]
 all_goals
   first
   | exact ⟨(p, false) :: (wr2 ++ wr1), by rw [vB], by rw [tN, rQ, zy hw1, zy hw2]; rfl⟩
   | exact ⟨wr2 ++ wr1, by rw [qL (l2 _) ho], by rw [rQ, zy hw1, zy hw2]; rfl⟩
theorem jao (h85 : F 114 = some XZ) (h91 : F 120 = some Km) (h82 : F 111 = some Jp) (h87 : F 116 = some vK) (h40 : F 61 = some K3) (h41 : F 62 = some Qx)
   {s : List UInt8} {x p o : Nat} {w : Re} {cs : List IVal} {σ : List IObj} {v : IVal} (hx : σ[x]? = some (w.ob s)) (hp : σ[p]? = some (.cells cs)) (ho : cs[o]? = some v) (hs : s.length < 1000000) (hpos : w.pos <= s.length) (hne : p ≠ x) :
   ∃ wr, cfw F (.f 114) [.agg [.ptr x 0], .ptr p o] σ = some ⟨false, .tup [], (σ.set x ((w.t s).1.ob s)).set p (.cells (cs.set o (.bool (w.t s).2))), wr⟩ /\ wr.all (fun q => !q.2) = true := by
 rw [jj XZ h85, callI]
 have x1 : ext [.ptr x 0] = true := rfl
 have l0 := ja hx
 have lp := ja hp
 obtain ⟨wr1, u0, hw1⟩ := t91 h91 h82 h87 h40 h41 hx hs hpos
 obtain ⟨wp1, wp2⟩ := kL hw1 l0
 have l2 := fun o => get_set (j := x) (x := o) hp (tR hne)
 have l3 := rE lp
 have o1 := kJ ho
 simp only [XZ, jd, u0, l2, lp, l3, o1, hp, x1, wp1, wp2, rF, zV, zS, zD, simprocAttr]
 exact ⟨(p, false) :: wr1, by rw [vB], by rw [tN, zy hw1]; rfl⟩
theorem jhT {s : List UInt8} {w : Re} (hp : w.pos <= s.length) : (w.b s).1.pos <= s.length := by
 rw [Re.b]
 split
 . exact hp
 . split
   . exact hp
   . rename_i c hc
     have : w.pos < s.length := by
       rcases Nat.lt_or_ge w.pos s.length with h | h
       . exact h
       . rw [rY h] at hc; cases hc
     exact this
def Re.bytes (s : List UInt8) (w : Re) (cs : List IVal) : List Nat -> Re × List IVal
 | [] => (w, cs)
 | o :: os => ((w.b s).1).bytes s (cs.set o (B (w.b s).2)) os
theorem JU {σ : List IObj} {x p : Nat} {a b : IObj} (hx : x < σ.length) (hp : p < σ.length) (hne : p ≠ x) : ((σ.set x a).set p b)[x]? = some a /\ ((σ.set x a).set p b)[p]? = some b := by
 refine ⟨?_, ?_⟩
 . rw [rD hne, rK hx]
 . rw [rK (by simpa using hp)]
theorem jfk {σ : List IObj} {x p : Nat} {a b c d : IObj} (hne : p ≠ x) : (((σ.set x a).set p b).set x c).set p d = (σ.set x c).set p d := by
 rw [List.set_comm _ _ hne, tE, tE]
theorem jiF (h82 : F 111 = some Jp) (h87 : F 116 = some vK) (h40 : F 61 = some K3) (h41 : F 62 = some Qx) {s : List UInt8} {x p : Nat} {σ : List IObj} (hne : p ≠ x) (hs : s.length < 1000000) (hx : x < σ.length) (hp : p < σ.length) {e : Nat} {os : List Nat} (hlen : os.length < 1000) : ∀ (d i : Nat) (f0 : Nat -> Option (Nat × IVal)) (w : Re) (cs : List IVal) (wr : List (Nat × Bool)) (R : Option (IExit × St)),
   evw F (.loop zG) ⟨E 9 5 4 [] (base f0), (σ.set x (w.ob s)).set p (.cells cs), wr⟩ = R -> i + d = os.length -> w.pos <= s.length -> (∀ o ∈ os, o < cs.length) -> wr.all (fun q => !q.2) = true ->
   f0 2 = some (2, .pv true [.ptr x 0] 0) -> f0 6 = some (6, .sl e true (Ps p os)) -> f0 7 = some (7, I os.length) -> f0 8 = some (8, I i) ->
   ∃ f1 wr', R = some (.exit 0, ⟨E 9 5 4 [] (base f1), (σ.set x ((w.bytes s cs (os.drop i)).1.ob s)).set p (.cells (w.bytes s cs (os.drop i)).2), wr'⟩) /\ wr'.all (fun q => !q.2) = true := by
 intro d
 induction d with
 | zero =>
   intro i f0 w cs wr R hE hi hpos hcs hw e2 e6 e7 e8
   have l0 : decide ((i : Int) < (os.length : Int)) = false := rH (by omega)
   rw [jc] at hE
   subst hE
   simp only [zG, e2, e6, e7, e8, l0, zV, zS, zD, simprocAttr]
   rw [tV (by omega)]
   exact ⟨_, _, rfl, hw⟩
 | succ d ih =>
   intro i f0 w cs wr R hE hi hpos hcs hw e2 e6 e7 e8
   have l0 : decide ((i : Int) < (os.length : Int)) = true := rE (by omega)
   have hi2 : i < os.length := by omega
   have hoc := hcs _ (List.getElem_mem hi2)
   have g1 : os[i]? = some os[i] := rJ hi2
   have d1 : (0 : Int) <= (i : Int) := by omega
   have w1 := kM (n := i) (by omega)
   obtain ⟨y1, y2⟩ := JU (a := w.ob s) (b := .cells cs) hx hp hne
   obtain ⟨wr1, u0, hw1⟩ := b82 h82 h87 h40 h41 y1 hs hpos
   have y3 := get_set (j := x) (x := (w.b s).1.ob s) y2 (tR hne)
   have o1 : os[i] + 1 <= cs.length := hoc
   rw [tA hi2, Re.bytes]
   rw [jc] at hE
   simp only [zG, jd, e2, e6, e7, e8, l0, g1, d1, w1, u0, y3, o1, rL, zV, zS, zD, simprocAttr] at hE
   rw [jfk hne] at hE
   exact ih (i + 1) _ _ _ _ R hE (by omega) (jhT hpos) (fun o ho => by rw [rF]; exact hcs o ho) (by rw [tN, rQ, zy hw1, hw]; rfl) (by first | exact e2 | rfl) (by first | exact e6 | rfl) (by first | exact e7 | rfl) (by rfl)
theorem jan (h83 : F 112 = some XY) (h82 : F 111 = some Jp) (h87 : F 116 = some vK) (h40 : F 61 = some K3) (h41 : F 62 = some Qx) {s : List UInt8} {x p e : Nat} {w : Re} {cs : List IVal} {σ : List IObj} {os : List Nat} (hx : σ[x]? = some (w.ob s)) (hp : σ[p]? = some (.cells cs)) (hs : s.length < 1000000) (hpos : w.pos <= s.length) (hne : p ≠ x) (hos : ∀ o ∈ os, o < cs.length) (hlen : os.length < 1000) :
   ∃ wr, cfw F (.f 112) [.agg [.ptr x 0], .sl e true (Ps p os)] σ = some ⟨false, .tup [], (σ.set x ((w.bytes s cs os).1.ob s)).set p (.cells (w.bytes s cs os).2), wr⟩ /\ wr.all (fun q => !q.2) = true := by
 rw [jj XY h83, callI]
 have x1 : ext [.ptr x 0] = true := rfl
 simp only [XY, x1, zV, zS, zD, simprocAttr]
 generalize hE : evw F (ICode.loop zG) _ = R
 have l0 := ja hx
 have lp := ja hp
 have s0 : (σ.set x (w.ob s)).set p (.cells cs) = σ := by rw [jx hx, jx hp]
 rw [<- s0] at hE
 obtain ⟨f1, wr', rfl, hw⟩ := jiF h82 h87 h40 h41 hne hs l0 lp hlen os.length 0 _ w cs _ R hE (by omega) hpos hos (by rfl) (by rfl) (by rfl) (by rfl) (by rfl)
 have w2 : (wr'.all fun q => !q.2 || decide (σ.length <= q.1)) = true := by
   rw [rG] at hw ⊢
   intro q hq; have := hw q hq; simp at this; simp [this]
 simp only [w2, zV, zS, zD, simprocAttr]
 refine ⟨wr'.filter fun p => decide (p.1 < σ.length), by rw [vB], ?_⟩
 rw [rG] at hw ⊢
 intro q hq; exact hw q (List.mem_filter.mp hq).1
end Go.Idl.Sb
namespace Go.Idl.Sb
open Go Go.Idl Go.Idl.En
variable {F : jn}
structure WayD where
 W : Type
 ob : W -> IObj
 x : Nat
 ty : Nat
 rv : IVal
 f73 : Nat
 f74 : Nat
 f75 : Nat
 f76 : Nat
 ok : W -> Nat -> Prop
 whole : W -> Int -> Int -> Int -> W × Int
 number : W -> Nat -> Nat -> W × Nat
 truth : W -> Bool -> W × Bool
 byte : W -> Nat -> W × Nat
inductive K where
 | pl
 | wd
 | byt
 | tr
 | hf
 | nm
 deriving DecidableEq
def far : Int := 1152921504606846976
def K.ty : K -> IVal -> Prop
 | .pl, v => ∃ n, v = I n /\ i64 n
 | .wd, v => ∃ n, v = J n /\ -2147483648 <= n /\ n <= 2147483647
 | .byt, v => ∃ n : Nat, v = B n /\ n < 256
 | .tr, v => ∃ b, v = .bool b
 | .hf, v => ∃ n : Nat, v = .int .u16 n /\ n < 65536
 | .nm, v => ∃ n : Nat, v = Q n /\ n < 18446744073709551616
def jO (D : WayD) (k : K) (w : D.W) (v : IVal) : D.W × IVal :=
 match k, v with
 | .pl, .int _ n => let r := D.whole w n (-1152921504606846976) 1152921504606846976; (r.1, I r.2)
 | .wd, .int _ n => let r := D.whole w n (-2147483648) 2147483647; (r.1, J (IntKind.i32.wrap r.2))
 | .byt, .int _ n => let r := D.byte w n.toNat; (r.1, B r.2)
 | .tr, .bool b => let r := D.truth w b; (r.1, .bool r.2)
 | .hf, .int _ n => let r := D.number w n.toNat 65535; (r.1, .int .u16 (IntKind.u16.wrap r.2))
 | .nm, .int _ n => let r := D.number w n.toNat 1152921504606846975; (r.1, Q r.2)
 | _, _ => (w, v)
def jv (cs : List IVal) (o : Nat) : IVal := match cs[o]? with | some v => v | none => undefI
def jk (D : WayD) : List (K × Nat) -> D.W -> List IVal -> D.W × List IVal
 | [], w, cs => (w, cs)
 | (k, o) :: l, w, cs => let r := jO D k w (jv cs o); jk D l r.1 (cs.set o r.2)
def Ty (l : List (K × Nat)) (cs : List IVal) : Prop := ∀ q ∈ l, ∃ v, cs[q.2]? = some v /\ q.1.ty v
abbrev Fl (wr : List (Nat × Bool)) : Prop := wr.all (fun q => !q.2) = true
structure Way (F : jn) (D : WayD) : Prop where
 t73 : [(64, 99, RecvK.same), (128, 112, .same)].find? (fun p => p.1 == D.ty) = some (D.ty, D.f73, .same)
 t74 : [(64, 100, RecvK.same), (128, 113, .same)].find? (fun p => p.1 == D.ty) = some (D.ty, D.f74, .same)
 t75 : [(64, 101, RecvK.same), (128, 114, .same)].find? (fun p => p.1 == D.ty) = some (D.ty, D.f75, .same)
 t76 : [(64, 102, RecvK.same), (128, 115, .same)].find? (fun p => p.1 == D.ty) = some (D.ty, D.f76, .same)
 nil : ∀ n, Yh [64, 128] n (.fn (.method n) [.iface D.ty D.rv] []) = some (.fn (.method n) [.iface D.ty D.rv] [])
 whole : ∀ {σ : List IObj} {p o : Nat} {cs : List IVal} {n lo hi : Int} {w : D.W} {k : Nat}, σ[D.x]? = some (D.ob w) -> σ[p]? = some (.cells cs) -> cs[o]? = some (I n) -> i64 n -> D.ok w (k + 1) -> p ≠ D.x ->
   ∃ wr, cfw F (.f D.f76) [D.rv, .ptr p o, I lo, I hi] σ = some ⟨false, .tup [], (σ.set D.x (D.ob (D.whole w n lo hi).1)).set p (.cells (cs.set o (I (D.whole w n lo hi).2))), wr⟩ /\ Fl wr
 number : ∀ {σ : List IObj} {p o : Nat} {cs : List IVal} {n most : Nat} {w : D.W} {k : Nat}, σ[D.x]? = some (D.ob w) -> σ[p]? = some (.cells cs) -> cs[o]? = some (Q n) -> D.ok w (k + 1) -> p ≠ D.x ->
   ∃ wr, cfw F (.f D.f74) [D.rv, .ptr p o, Q most] σ = some ⟨false, .tup [], (σ.set D.x (D.ob (D.number w n most).1)).set p (.cells (cs.set o (Q (D.number w n most).2))), wr⟩ /\ Fl wr
 truth : ∀ {σ : List IObj} {p o : Nat} {cs : List IVal} {b : Bool} {w : D.W} {k : Nat}, σ[D.x]? = some (D.ob w) -> σ[p]? = some (.cells cs) -> cs[o]? = some (.bool b) -> D.ok w (k + 1) -> p ≠ D.x ->
   ∃ wr, cfw F (.f D.f75) [D.rv, .ptr p o] σ = some ⟨false, .tup [], (σ.set D.x (D.ob (D.truth w b).1)).set p (.cells (cs.set o (.bool (D.truth w b).2))), wr⟩ /\ Fl wr
 bytes : ∀ {σ : List IObj} {p e : Nat} {cs : List IVal} {os : List Nat} {w : D.W} {k : Nat}, σ[D.x]? = some (D.ob w) -> σ[p]? = some (.cells cs) -> Ty (os.map fun o => (.byt, o)) cs -> os.length < 1000 -> D.ok w (k + os.length) -> p ≠ D.x ->
   ∃ wr, cfw F (.f D.f73) [D.rv, .sl e true (Ps p os)] σ = some ⟨false, .tup [], (σ.set D.x (D.ob (jk D (os.map fun o => (.byt, o)) w cs).1)).set p (.cells (jk D (os.map fun o => (.byt, o)) w cs).2), wr⟩ /\ Fl wr
 ok_whole : ∀ {w k n lo hi}, D.ok w (k + 1) -> D.ok (D.whole w n lo hi).1 k
 ok_number : ∀ {w k n most}, D.ok w (k + 1) -> D.ok (D.number w n most).1 k
 ok_truth : ∀ {w k b}, D.ok w (k + 1) -> D.ok (D.truth w b).1 k
 ok_byte : ∀ {w k n}, D.ok w (k + 1) -> D.ok (D.byte w n).1 k
 ok_mono : ∀ {w k}, D.ok w (k + 1) -> D.ok w k
 i_whole : ∀ {w n lo hi}, i64 n -> i64 (D.whole w n lo hi).2
 n_number : ∀ {w n most}, n < 18446744073709551616 -> (D.number w n most).2 < 18446744073709551616
 b_byte : ∀ {w n}, n < 256 -> (D.byte w n).2 < 256
variable {D : WayD}
theorem jjk {n : Int} (h : -2147483648 <= n) (h2 : n <= 2147483647) : IntKind.i32.wrap n = n := by
 simp only [IntKind.wrap, IntKind.bits, IntKind.signed]; simp; omega
theorem jcU (n : Int) : -2147483648 <= IntKind.i32.wrap n /\ IntKind.i32.wrap n <= 2147483647 := by
 simp only [IntKind.wrap, IntKind.bits, IntKind.signed]; simp; omega
theorem jfu (n : Int) : IntKind.u16.wrap n = n % 65536 := by
 simp only [IntKind.wrap, IntKind.bits, IntKind.signed]; simp
theorem vW (hw : Way F D) {k : K} {w : D.W} {v : IVal} (h : k.ty v) : k.ty (jO D k w v).2 := by
 cases k with
 | pl => obtain ⟨n, rfl, hn⟩ := h; exact ⟨_, rfl, hw.i_whole hn⟩
 | wd => obtain ⟨n, rfl, hn⟩ := h; exact ⟨_, rfl, jcU _⟩
 | byt => obtain ⟨n, rfl, hn⟩ := h; exact ⟨_, rfl, hw.b_byte hn⟩
 | tr => obtain ⟨b, rfl⟩ := h; exact ⟨_, rfl⟩
 | hf =>
   obtain ⟨n, rfl, hn⟩ := h
   refine ⟨(D.number w n 65535).2 % 65536, ?_, by omega⟩
   show IVal.int .u16 (IntKind.u16.wrap ((D.number w n 65535).2 : Int)) = _
   rw [jfu]; rfl
 | nm => obtain ⟨n, rfl, hn⟩ := h; exact ⟨_, rfl, hw.n_number hn⟩
theorem Je (hw : Way F D) {k : K} {w : D.W} {v : IVal} {j : Nat} (h : k.ty v) (ho : D.ok w (j + 1)) : D.ok (jO D k w v).1 j := by
 cases k with
 | pl => obtain ⟨n, rfl, hn⟩ := h; exact hw.ok_whole ho
 | wd => obtain ⟨n, rfl, hn⟩ := h; exact hw.ok_whole ho
 | byt => obtain ⟨n, rfl, hn⟩ := h; exact hw.ok_byte ho
 | tr => obtain ⟨b, rfl⟩ := h; exact hw.ok_truth ho
 | hf => obtain ⟨n, rfl, hn⟩ := h; exact hw.ok_number ho
 | nm => obtain ⟨n, rfl, hn⟩ := h; exact hw.ok_number ho
theorem vl {l : List (K × Nat)} {cs : List IVal} {k : K} {o : Nat} {v : IVal} (h : Ty l cs) (hv : k.ty v) (hd : ∀ q ∈ l, q.2 = o -> q.1 = k) : Ty l (cs.set o v) := by
 intro q hq
 obtain ⟨u, hu, hk⟩ := h q hq
 by_cases e : q.2 = o
 . have := hd q hq e
   refine ⟨v, ?_, by rw [this]; exact hv⟩
   rw [e]
   rw [e] at hu
   have := kJ hu
   rw [rK (by omega)]
 . exact ⟨u, by rw [rD (fun h => e h.symm)]; exact hu, hk⟩
theorem jp {cs : List IVal} {o : Nat} {v : IVal} (h : cs[o]? = some v) : jv cs o = v := by rw [jv, h]
theorem jr {n : Nat} {wr : List (Nat × Bool)} (h : Fl wr) : wr.all (fun p => !p.2 || decide (n <= p.1)) = true := by
 rw [Fl, rG] at h
 rw [rG]
 intro q hq; have := h q hq; simp at this; simp [this]
theorem jo {f : Nat × Bool -> Bool} {wr : List (Nat × Bool)} (h : Fl wr) : Fl (wr.filter f) := by
 rw [Fl, rG] at h ⊢
 intro q hq; exact h q (List.mem_filter.mp hq).1
theorem kH {σ : List IObj} {x p : Nat} {a b : IObj} {l : List IObj} : (((σ.set x a).set p b) ++ l).take σ.length = (σ.set x a).set p b := by
 have : ((σ.set x a).set p b).length = σ.length := by simp
 rw [<- this, take_app]
theorem ZO (h34 : F 32 = some Q4) (hw : Way F D) {p o k : Nat} {cs : List IVal} {σ : List IObj} {w : D.W} {v : IVal} (hx : σ[D.x]? = some (D.ob w)) (hp : σ[p]? = some (.cells cs)) (ho : cs[o]? = some v) (hv : K.wd.ty v) (hk : D.ok w (k + 1)) (hne : p ≠ D.x) :
   ∃ wr, cfw F (.f 32) [.iface D.ty D.rv, .ptr p o] σ = some ⟨false, .tup [], (σ.set D.x (D.ob (jO D .wd w v).1)).set p (.cells (cs.set o (jO D .wd w v).2)), wr⟩ /\ Fl wr := by
 rw [jj Q4 h34, callI]
 obtain ⟨n, rfl, h1, h2⟩ := hv
 have l0 := ja hx
 have lp := ja hp
 have w1 : IntKind.i64.wrap n = n := jP (by omega) (by omega)
 have g0 : (σ ++ [IObj.cells [I n]])[D.x]? = some (D.ob w) := jm hx _
 obtain ⟨wr1, u0, hw1⟩ := hw.whole (σ := σ ++ [.cells [I n]]) (p := σ.length) (o := 0) (cs := [I n]) (lo := -2147483648) (hi := 2147483647) g0 get_app0 rfl ⟨by omega, by omega⟩ hk (by omega)
 rw [jF l0] at u0
 have sl : (σ.set D.x (D.ob (D.whole w n (-2147483648) 2147483647).1)).length = σ.length := by simp
 have u1 : ∀ o : IObj, ((σ.set D.x (D.ob (D.whole w n (-2147483648) 2147483647).1)) ++ [IObj.cells [I n]]).set σ.length o = (σ.set D.x (D.ob (D.whole w n (-2147483648) 2147483647).1)) ++ [o] := fun o => by
   have := set_app0 (σ := σ.set D.x (D.ob (D.whole w n (-2147483648) 2147483647).1)) (l := [IObj.cells [I n]]) o
   rw [sl] at this; exact this
 rw [u1] at u0
 have u0 : cfw F (.f D.f76) [D.rv, .ptr σ.length 0, I (-2147483648), I 2147483647] (σ ++ [.cells [I n]]) = some ⟨false, .tup [], (σ.set D.x (D.ob (D.whole w n (-2147483648) 2147483647).1)) ++ [.cells [I (D.whole w n (-2147483648) 2147483647).2]], wr1⟩ := u0
 generalize hr : D.whole w n (-2147483648) 2147483647 = r at *
 have g2 : (σ.set D.x (D.ob r.1) ++ [IObj.cells [I r.2]])[σ.length]? = some (.cells [I r.2]) := by
   have := get_app0 (σ := σ.set D.x (D.ob r.1)) (l := [IObj.cells [I r.2]])
   rw [sl] at this; exact this
 have g3 : (σ.set D.x (D.ob r.1) ++ [IObj.cells [I r.2]])[p]? = some (.cells cs) := jm (get_set hp (tR hne)) _
 have s3 : ∀ o : IObj, ((σ.set D.x (D.ob r.1)) ++ [IObj.cells [I r.2]]).set p o = ((σ.set D.x (D.ob r.1)).set p o) ++ [IObj.cells [I r.2]] := fun o => jF (by simpa using lp)
 have t76 := hw.t76
 have o1 := kJ ho
 have e1 : jO D .wd w (J n) = (r.1, J (IntKind.i32.wrap r.2)) := by rw [<- hr]; rfl
 rw [e1]
 have hlt : σ.length ≠ p := by omega
 simp only [Q4, jd, hp, ho, w1, t76, u0, g2, g3, s3, o1, vh, jm hp, zV, zS, zD, simprocAttr]
 have f1 : Fl (wr1 ++ [(σ.length, false)]) := by rw [Fl, rQ, hw1]; rfl
 rw [if_pos (jr f1), kH, rE lp, if_pos rfl]
 exact ⟨_, rfl, by rw [Fl, tN, jo f1]; rfl⟩
theorem jhx {σ : List IObj} {x p : Nat} {a b : IObj} {l : List IObj} (hx : x < σ.length) (hp : p < σ.length) : ((σ ++ l).set x a).set p b = (σ.set x a).set p b ++ l := by
 rw [jF hx, jF (by simpa using hp)]
theorem jiq (hw : Way F D) {p e : Nat} {σ : List IObj} (hx : D.x < σ.length) (hp : p < σ.length) (hne : p ≠ D.x) {os : List Nat} (hlen : os.length < 1000) : ∀ (d i k : Nat) (f0 : Nat -> Option (Nat × IVal)) (w : D.W) (cs : List IVal) (l : List IObj) (wr : List (Nat × Bool)) (R : Option (IExit × St)),
   evw F (.loop Kt) ⟨E 10 3 4 [] (base f0), (σ.set D.x (D.ob w)).set p (.cells cs) ++ l, wr⟩ = R -> i + d = os.length -> Ty (os.map fun o => (.pl, o)) cs -> D.ok w (k + d) -> Fl wr ->
   f0 0 = some (0, .iface D.ty D.rv) -> f0 7 = some (7, .sl e true (Ps p os)) -> f0 8 = some (8, I os.length) -> f0 9 = some (9, I i) ->
   ∃ f1 l' wr', R = some (.exit 0, ⟨E 10 3 4 [] (base f1), (σ.set D.x (D.ob (jk D ((os.drop i).map fun o => (.pl, o)) w cs).1)).set p (.cells (jk D ((os.drop i).map fun o => (.pl, o)) w cs).2) ++ l', wr'⟩) /\ Fl wr' := by
 intro d
 induction d with
 | zero =>
   intro i k f0 w cs l wr R hE hi hT hk hf e0 e7 e8 e9
   have l0 : decide ((i : Int) < (os.length : Int)) = false := rH (by omega)
   rw [jc] at hE
   subst hE
   simp only [Kt, e0, e7, e8, e9, l0, zV, zS, zD, simprocAttr]
   rw [tV (by omega)]
   exact ⟨_, l, _, rfl, hf⟩
 | succ d ih =>
   intro i k f0 w cs l wr R hE hi hT hk hf e0 e7 e8 e9
   have l0 : decide ((i : Int) < (os.length : Int)) = true := rE (by omega)
   have hi2 : i < os.length := by omega
   have g1 : os[i]? = some os[i] := rJ hi2
   have d1 : (0 : Int) <= (i : Int) := by omega
   have w1 := kM (n := i) (by omega)
   obtain ⟨v, ho, n, rfl, hn⟩ := hT (.pl, os[i]) (List.mem_map.mpr ⟨_, List.getElem_mem hi2, rfl⟩)
   simp only [] at ho
   have o1 := kJ ho
   generalize hσ : (σ.set D.x (D.ob w)).set p (.cells cs) ++ l = σ1 at *
   have lσ : σ1.length = σ.length + l.length := by rw [<- hσ]; simp
   have y0 : ((σ.set D.x (D.ob w)).set p (.cells cs))[D.x]? = some (D.ob w) := (JU hx hp hne).1
   have y1 : ((σ.set D.x (D.ob w)).set p (.cells cs))[p]? = some (.cells cs) := (JU hx hp hne).2
   have y2 : σ1[D.x]? = some (D.ob w) := by rw [<- hσ]; exact jm y0 _
   have y3 : σ1[p]? = some (.cells cs) := by rw [<- hσ]; exact jm y1 _
   obtain ⟨wr1, u0, hw1⟩ := hw.whole (σ := σ1 ++ [.cells [I n]]) (p := σ1.length) (o := 0) (cs := [I n]) (lo := -1152921504606846976) (hi := 1152921504606846976) (k := k + d) (jm y2 _) get_app0 rfl hn hk (by have := hne; omega)
   generalize hr : D.whole w n (-1152921504606846976) 1152921504606846976 = r at *
   have u1 : ((σ1 ++ [IObj.cells [I n]]).set D.x (D.ob r.1)).set σ1.length (.cells ([I n].set 0 (I r.2))) = σ1.set D.x (D.ob r.1) ++ [.cells [I r.2]] := by
     rw [jF (by omega)]
     have := set_app0 (σ := σ1.set D.x (D.ob r.1)) (l := [IObj.cells [I n]]) (.cells [I r.2])
     rw [rF] at this; exact this
   rw [u1] at u0
   have g2 : (σ1.set D.x (D.ob r.1) ++ [IObj.cells [I r.2]])[σ1.length]? = some (.cells [I r.2]) := by
     have := get_app0 (σ := σ1.set D.x (D.ob r.1)) (l := [IObj.cells [I r.2]])
     rw [rF] at this; exact this
   have g3 : (σ1.set D.x (D.ob r.1) ++ [IObj.cells [I r.2]])[p]? = some (.cells cs) := jm (get_set y3 (tR hne)) _
   have s3 : ∀ o : IObj, (σ1.set D.x (D.ob r.1) ++ [IObj.cells [I r.2]]).set p o = (σ.set D.x (D.ob r.1)).set p o ++ (l ++ [IObj.cells [I r.2]]) := fun o => by
     rw [jF (by simp; omega), <- hσ, jF (by simpa using hx), jF (by simpa using hp), jfk hne, rO]
   have t76 := hw.t76
   rw [tA hi2, rU, jk, jp ho]
   have e1 : jO D .pl w (I n) = (r.1, I r.2) := by rw [<- hr]; rfl
   rw [e1]
   rw [jc] at hE
   simp only [Kt, jd, e0, e7, e8, e9, l0, g1, d1, w1, y3, ho, t76, u0, g2, g3, s3, o1, vh, jm y3, rL, zV, zS, zD, simprocAttr] at hE
   have hT2 : Ty (os.map fun o => (.pl, o)) (cs.set os[i] (I r.2)) := by
     refine vl (k := .pl) hT ⟨_, rfl, ?_⟩ ?_
     . rw [<- hr]; exact hw.i_whole hn
     . intro q hq _
       obtain ⟨o, _, rfl⟩ := List.mem_map.mp hq
       rfl
   have hk2 : D.ok r.1 (k + d) := by rw [<- hr]; exact hw.ok_whole hk
   exact ih (i + 1) k _ r.1 _ _ _ R hE (by omega) hT2 hk2 (by rw [Fl] at hf hw1 ⊢; simp only [tN, rQ, hf, hw1]; rfl) (by first | exact e0 | rfl) (by first | exact e7 | rfl) (by first | exact e8 | rfl) (by rfl)
theorem Vh (h33 : F 31 = some Qa) (hw : Way F D) {p e k : Nat} {σ : List IObj} {w : D.W} {cs : List IVal} (hx : σ[D.x]? = some (D.ob w)) (hp : σ[p]? = some (.cells cs)) (hne : p ≠ D.x) {os : List Nat} (hlen : os.length < 1000) (hT : Ty (os.map fun o => (.pl, o)) cs) (hk : D.ok w (k + os.length)) :
   ∃ wr, cfw F (.f 31) [.iface D.ty D.rv, .sl e true (Ps p os)] σ = some ⟨false, .tup [], (σ.set D.x (D.ob (jk D (os.map fun o => (.pl, o)) w cs).1)).set p (.cells (jk D (os.map fun o => (.pl, o)) w cs).2), wr⟩ /\ Fl wr := by
 rw [jj Qa h33, callI]
 simp only [Qa, zV, zS, zD, simprocAttr]
 generalize hE : evw F (ICode.loop Kt) _ = R
 have l0 := ja hx
 have lp := ja hp
 have s0 : (σ.set D.x (D.ob w)).set p (.cells cs) ++ [] = σ := by rw [jx hx, jx hp, rP]
 rw [<- s0] at hE
 obtain ⟨f1, l', wr', rfl, hf⟩ := jiq hw l0 lp hne hlen os.length 0 k _ w cs [] _ R hE (by omega) hT hk (by rfl) (by rfl) (by rfl) (by rfl) (by rfl)
 simp only [jr hf, kH, zV, zS, zD, simprocAttr]
 exact ⟨_, rfl, jo hf⟩
end Go.Idl.Sb
namespace Go.Idl.Sb
open Go Go.Idl Go.Idl.En
variable {F : jn} {D : WayD}
theorem kl (l1 l2 : List (K × Nat)) : ∀ (w : D.W) (cs : List IVal), jk D (l1 ++ l2) w cs = jk D l2 (jk D l1 w cs).1 (jk D l1 w cs).2 := by
 induction l1 with
 | nil => intro w cs; rfl
 | cons q l1 ih => intro w cs; obtain ⟨k, o⟩ := q; exact ih _ _
theorem Zy (l : List (K × Nat)) : ∀ (w : D.W) (cs : List IVal), (jk D l w cs).2.length = cs.length := by
 induction l with
 | nil => intro w cs; rfl
 | cons q l ih => intro w cs; obtain ⟨k, o⟩ := q; rw [jk, ih]; simp
theorem kZ (hw : Way F D) {L : List (K × Nat)} : ∀ (l : List (K × Nat)) (w : D.W) (cs : List IVal), Ty L cs -> Ty l cs -> (∀ q ∈ L, ∀ r ∈ l, q.2 = r.2 -> q.1 = r.1) -> (∀ q ∈ l, ∀ r ∈ l, q.2 = r.2 -> q.1 = r.1) -> Ty L (jk D l w cs).2 := by
 intro l
 induction l with
 | nil => intro w cs h _ _ _; exact h
 | cons q l ih =>
   intro w cs h h2 h3 h4
   obtain ⟨k, o⟩ := q
   rw [jk]
   obtain ⟨v, ho, hv⟩ := h2 (k, o) rT
   simp only [] at ho hv
   rw [jp ho]
   refine ih _ _ ?_ ?_ (fun q hq r hr => h3 q hq r (rN _ hr)) (fun q hq r hr => h4 q (rN _ hq) r (rN _ hr))
   . exact vl h (vW hw hv) (fun q hq e => h3 q hq (k, o) rT e)
   . exact vl (fun q hq => h2 q (rN _ hq)) (vW hw hv) (fun q hq e => h4 q (rN _ hq) (k, o) rT e)
theorem kv (hw : Way F D) : ∀ (l : List (K × Nat)) (w : D.W) (cs : List IVal) (k : Nat), Ty l cs -> (∀ q ∈ l, ∀ r ∈ l, q.2 = r.2 -> q.1 = r.1) -> D.ok w (k + l.length) -> D.ok (jk D l w cs).1 k := by
 intro l
 induction l with
 | nil => intro w cs k _ _ h; exact h
 | cons q l ih =>
   intro w cs k h2 h4 hk
   obtain ⟨kk, o⟩ := q
   rw [jk]
   obtain ⟨v, ho, hv⟩ := h2 (kk, o) rT
   simp only [] at ho hv
   rw [jp ho]
   refine ih _ _ k ?_ (fun q hq r hr => h4 q (rN _ hq) r (rN _ hr)) (Je hw hv hk)
   exact vl (fun q hq => h2 q (rN _ hq)) (vW hw hv) (fun q hq e => h4 q (rN _ hq) (kk, o) rT e)
theorem jI {L l : List (K × Nat)} {cs : List IVal} (h : Ty L cs) (hs : ∀ q ∈ l, q ∈ L) : Ty l cs := fun q hq => h q (hs q hq)
abbrev kT (o : Nat) : List (K × Nat) := [(.pl, o), (.pl, o + 1), (.tr, o + 2)]
theorem jiX (h37 : F 35 = some X6) (h33 : F 31 = some Qa) (hw : Way F D) {p o k : Nat} {cs : List IVal} {σ : List IObj} {w : D.W} (hx : σ[D.x]? = some (D.ob w)) (hp : σ[p]? = some (.cells cs)) (hT : Ty (kT o) cs) (hk : D.ok w (k + 3)) (hne : p ≠ D.x) :
   ∃ wr, cfw F (.f 35) [.iface D.ty D.rv, .ptr p o] σ = some ⟨false, .tup [], (σ.set D.x (D.ob (jk D (kT o) w cs).1)).set p (.cells (jk D (kT o) w cs).2), wr⟩ /\ Fl wr := by
 rw [jj X6 h37, callI]
 have l0 := ja hx
 have lp := ja hp
 have T1 : Ty ([o, o + 1].map fun o => (K.pl, o)) cs := jI hT (by simp)
 obtain ⟨wr1, u0, hw1⟩ := Vh (e := 1) (k := k + 1) h33 hw hx hp hne (os := [o, o + 1]) (by simp) T1 hk
 have x1 : ext [.ptr p o, .ptr p (o + 1)] = true := rfl
 generalize hr : jk D ([o, o + 1].map fun o => (K.pl, o)) w cs = r at *
 have T2 : Ty (kT o) r.2 := by
   rw [<- hr]
   refine kZ hw _ _ _ hT T1 ?_ ?_
   . intro q hq r hr e; simp at hq hr; rcases hq with rfl | rfl | rfl <;> rcases hr with rfl | rfl <;> simp at e <;> first | rfl | omega
   . intro q hq r hr e; simp at hq hr; rcases hq with rfl | rfl <;> rcases hr with rfl | rfl <;> rfl
 have k2 : D.ok r.1 (k + 1) := by
   rw [<- hr]
   refine kv hw _ _ _ (k + 1) T1 ?_ hk
   intro q hq r hr e; simp at hq hr; rcases hq with rfl | rfl <;> rcases hr with rfl | rfl <;> rfl
 obtain ⟨v, ho, b, rfl⟩ := T2 (.tr, o + 2) (by simp)
 obtain ⟨y1, y2⟩ := JU (a := D.ob r.1) (b := .cells r.2) l0 lp hne
 obtain ⟨wr2, v0, hw2⟩ := hw.truth y1 y2 ho k2 hne
 rw [jfk hne] at v0
 have e1 : jk D (kT o) w cs = ((D.truth r.1 b).1, r.2.set (o + 2) (.bool (D.truth r.1 b).2)) := by
   have := kl (D := D) ([o, o + 1].map fun o => (K.pl, o)) [(K.tr, o + 2)] w cs
   rw [hr] at this
   refine Eq.trans this ?_
   rw [jk, jp ho]; rfl
 have t75 := hw.t75
 have n0 := hw.nil "plover/snap.truth"
 have f1 : Fl (wr2 ++ wr1) := by rw [Fl, rQ, hw1, hw2]; rfl
 rw [e1]
 have u0 : cfw F (Cal.f 31) [IVal.iface D.ty D.rv, IVal.sl 1 true [.ptr p o, .ptr p (o + 1)]] σ = some ⟨false, .tup [], (σ.set D.x (D.ob r.1)).set p (.cells r.2), wr1⟩ := u0
 simp only [X6, jd, x1, u0, v0, t75, n0, vh, zV, zS, zD, simprocAttr]
 rw [if_pos (jr f1), vB]
 exact ⟨_, rfl, jo f1⟩
abbrev jaF (o i d : Nat) : List (K × Nat) := (List.range' i d).map fun i => (.byt, o + i)
theorem VD (o i d : Nat) : jaF o i (d + 1) = (.byt, o + i) :: jaF o (i + 1) d := by
 rw [jaF, List.range'_succ]; rfl
theorem jir (hw : Way F D) {p o : Nat} {σ : List IObj} (hx : D.x < σ.length) (hp : p < σ.length) (hne : p ≠ D.x) : ∀ (d i k : Nat) (f0 : Nat -> Option (Nat × IVal)) (w : D.W) (cs : List IVal) (wr : List (Nat × Bool)) (R : Option (IExit × St)),
   evw F (.loop Ku) ⟨E 12 11 5 [] (base f0), (σ.set D.x (D.ob w)).set p (.cells cs), wr⟩ = R -> i + d = 8 -> Ty (jaF (o + 1) i d) cs -> D.ok w (k + d) -> Fl wr ->
   f0 0 = some (0, .iface D.ty D.rv) -> f0 1 = some (1, .ptr p o) -> f0 11 = some (11, I i) ->
   ∃ f1 wr', R = some (.exit 0, ⟨E 12 11 5 [] (base f1), (σ.set D.x (D.ob (jk D (jaF (o + 1) i d) w cs).1)).set p (.cells (jk D (jaF (o + 1) i d) w cs).2), wr'⟩) /\ Fl wr' := by
 intro d
 induction d with
 | zero =>
   intro i k f0 w cs wr R hE hi hT hk hf e0 e1 e11
   have l0 : decide ((i : Int) < 8) = false := rH (by omega)
   rw [jc] at hE
   subst hE
   simp only [Ku, e0, e1, e11, l0, zV, zS, zD, simprocAttr]
   exact ⟨_, _, rfl, hf⟩
 | succ d ih =>
   intro i k f0 w cs wr R hE hi hT hk hf e0 e1 e11
   have l0 : decide ((i : Int) < 8) = true := rE (by omega)
   have l1 : (i : Int) < 8 := by omega
   have d1 : (0 : Int) <= (i : Int) := by omega
   have w1 := kM (n := i) (by omega)
   rw [VD] at hT
   obtain ⟨v, ho, n, rfl, hn⟩ := hT (.byt, o + 1 + i) rT
   simp only [] at ho
   obtain ⟨y1, y2⟩ := JU (a := D.ob w) (b := .cells cs) hx hp hne
   have T1 : Ty ([o + 1 + i].map fun o => (K.byt, o)) cs := jI hT (by intro q hq; simp at hq; subst hq; exact rT)
   obtain ⟨wr1, u0, hw1⟩ := hw.bytes (e := 1) (k := k + d) y1 y2 T1 (by simp) hk hne
   rw [jfk hne] at u0
   have t73 := hw.t73
   have n0 := hw.nil "plover/snap.bytes"
   have x1 : ext [.ptr p (o + 1 + i)] = true := rfl
   have u0 : cfw F (Cal.f D.f73) [D.rv, IVal.sl 1 true [.ptr p (o + 1 + i)]] ((σ.set D.x (D.ob w)).set p (.cells cs)) = some ⟨false, .tup [], (σ.set D.x (D.ob (jk D [(.byt, o + 1 + i)] w cs).1)).set p (.cells (jk D [(.byt, o + 1 + i)] w cs).2), wr1⟩ := u0
   have n8 : ((8 : Nat) : Int) = 8 := rfl
   rw [jc] at hE
   simp only [Ku, jd, e0, e1, e11, l0, l1, d1, w1, t73, n0, x1, n8, u0, vh, rL, zV, zS, zD, simprocAttr] at hE
   rw [VD]
   have hS : ∀ q ∈ [(K.byt, o + 1 + i)], ∀ r ∈ [(K.byt, o + 1 + i)], q.2 = r.2 -> q.1 = r.1 := by
     intro q hq r hr _; simp at hq hr; rw [hq, hr]
   have T2 : Ty (jaF (o + 1) (i + 1) d) (jk D [(.byt, o + 1 + i)] w cs).2 := by
     refine kZ hw _ _ _ (fun q hq => hT q (rN _ hq)) T1 ?_ hS
     intro q hq r hr _
     obtain ⟨a, _, rfl⟩ := List.mem_map.mp hq
     simp at hr; rw [hr]
   exact ih (i + 1) k _ _ _ _ R hE (by omega) T2 (kv hw _ _ _ (k + d) T1 hS hk) (by rw [Fl] at hf hw1 ⊢; simp only [rQ, hf, hw1]; rfl) (by first | exact e0 | rfl) (by first | exact e1 | rfl) (by rfl)
abbrev JK (o : Nat) : List (K × Nat) := (.pl, o) :: jaF (o + 1) 0 8
theorem jgV (h38 : F 36 = some jaG) (h33 : F 31 = some Qa) (hw : Way F D) {p o k : Nat} {cs : List IVal} {σ : List IObj} {w : D.W} (hx : σ[D.x]? = some (D.ob w)) (hp : σ[p]? = some (.cells cs)) (hT : Ty (JK o) cs) (hk : D.ok w (k + 9)) (hne : p ≠ D.x) :
   ∃ wr, cfw F (.f 36) [.iface D.ty D.rv, .ptr p o] σ = some ⟨false, .tup [], (σ.set D.x (D.ob (jk D (JK o) w cs).1)).set p (.cells (jk D (JK o) w cs).2), wr⟩ /\ Fl wr := by
 rw [jj jaG h38, callI]
 have l0 := ja hx
 have lp := ja hp
 have T1 : Ty ([o].map fun o => (K.pl, o)) cs := jI hT (by intro q hq; simp at hq; subst hq; exact rT)
 obtain ⟨wr1, u0, hw1⟩ := Vh (e := 1) (k := k + 8) h33 hw hx hp hne (os := [o]) (by simp) T1 hk
 have x1 : ext [.ptr p o] = true := rfl
 have u0 : cfw F (Cal.f 31) [IVal.iface D.ty D.rv, IVal.sl 1 true [.ptr p o]] σ = some ⟨false, .tup [], (σ.set D.x (D.ob (jk D [(.pl, o)] w cs).1)).set p (.cells (jk D [(.pl, o)] w cs).2), wr1⟩ := u0
 have hS : ∀ q ∈ [(K.pl, o)], ∀ r ∈ [(K.pl, o)], q.2 = r.2 -> q.1 = r.1 := by
   intro q hq r hr _; simp at hq hr; rw [hq, hr]
 have T2 : Ty (jaF (o + 1) 0 8) (jk D [(.pl, o)] w cs).2 := by
   refine kZ hw _ _ _ (fun q hq => hT q (rN _ hq)) T1 ?_ hS
   intro q hq r hr e
   obtain ⟨a, _, rfl⟩ := List.mem_map.mp hq
   simp at hr; subst hr; simp only [] at e; omega
 have k2 := kv hw _ _ _ (k + 8) T1 hS hk
 simp only [jaG, x1, u0, zV, zS, zD, simprocAttr]
 generalize hE : evw F (ICode.loop Ku) _ = R
 obtain ⟨f1, wr', rfl, hf⟩ := jir (o := o) hw l0 lp hne 8 0 k _ _ _ _ R hE rfl T2 k2 (by rw [Fl] at hw1 ⊢; simp only [hw1, rP]) (by rfl) (by rfl) (by rfl)
 have e1 := kl (D := D) [(K.pl, o)] (jaF (o + 1) 0 8) w cs
 have e2 : [(K.pl, o)] ++ jaF (o + 1) 0 8 = JK o := rfl
 rw [e2] at e1
 rw [e1]
 simp only [jr hf, vB, zV, zS, zD, simprocAttr]
 exact ⟨_, rfl, jo hf⟩
end Go.Idl.Sb
namespace Go.Idl.Sb
open Go Go.Idl Go.Idl.En
variable {F : jn} {D : WayD}
theorem jeI {n : Nat} (h : n < 65536) : IntKind.u64.wrap (n : Int) = (n : Int) := jt (by omega) (by omega)
theorem jis (hw : Way F D) {p e : Nat} {σ : List IObj} (hx : D.x < σ.length) (hp : p < σ.length) (hne : p ≠ D.x) {os : List Nat} (hlen : os.length < 1000) : ∀ (d i k : Nat) (f0 : Nat -> Option (Nat × IVal)) (w : D.W) (cs : List IVal) (l : List IObj) (wr : List (Nat × Bool)) (R : Option (IExit × St)),
   evw F (.loop Kv) ⟨E 19 4 5 [] (base f0), (σ.set D.x (D.ob w)).set p (.cells cs) ++ l, wr⟩ = R -> i + d = os.length -> Ty (os.map fun o => (.hf, o)) cs -> D.ok w (k + d) -> Fl wr ->
   f0 0 = some (0, .iface D.ty D.rv) -> f0 16 = some (16, .sl e true (Ps p os)) -> f0 17 = some (17, I os.length) -> f0 18 = some (18, I i) ->
   ∃ f1 l' wr', R = some (.exit 0, ⟨E 19 4 5 [] (base f1), (σ.set D.x (D.ob (jk D ((os.drop i).map fun o => (.hf, o)) w cs).1)).set p (.cells (jk D ((os.drop i).map fun o => (.hf, o)) w cs).2) ++ l', wr'⟩) /\ Fl wr' := by
 intro d
 induction d with
 | zero =>
   intro i k f0 w cs l wr R hE hi hT hk hf e0 e7 e8 e9
   have l0 : decide ((i : Int) < (os.length : Int)) = false := rH (by omega)
   rw [jc] at hE
   subst hE
   simp only [Kv, e0, e7, e8, e9, l0, zV, zS, zD, simprocAttr]
   rw [tV (by omega)]
   exact ⟨_, l, _, rfl, hf⟩
 | succ d ih =>
   intro i k f0 w cs l wr R hE hi hT hk hf e0 e7 e8 e9
   have l0 : decide ((i : Int) < (os.length : Int)) = true := rE (by omega)
   have hi2 : i < os.length := by omega
   have g1 : os[i]? = some os[i] := rJ hi2
   have d1 : (0 : Int) <= (i : Int) := by omega
   have w1 := kM (n := i) (by omega)
   obtain ⟨v, ho, n, rfl, hn⟩ := hT (.hf, os[i]) (List.mem_map.mpr ⟨_, List.getElem_mem hi2, rfl⟩)
   simp only [] at ho
   have o1 := kJ ho
   have wn := jeI hn
   generalize hσ : (σ.set D.x (D.ob w)).set p (.cells cs) ++ l = σ1 at *
   have lσ : σ1.length = σ.length + l.length := by rw [<- hσ]; simp
   have y0 : ((σ.set D.x (D.ob w)).set p (.cells cs))[D.x]? = some (D.ob w) := (JU hx hp hne).1
   have y1 : ((σ.set D.x (D.ob w)).set p (.cells cs))[p]? = some (.cells cs) := (JU hx hp hne).2
   have y2 : σ1[D.x]? = some (D.ob w) := by rw [<- hσ]; exact jm y0 _
   have y3 : σ1[p]? = some (.cells cs) := by rw [<- hσ]; exact jm y1 _
   obtain ⟨wr1, u0, hw1⟩ := hw.number (σ := σ1 ++ [.cells [Q n]]) (p := σ1.length) (o := 0) (cs := [Q n]) (most := 65535) (k := k + d) (jm y2 _) get_app0 rfl hk (by have := hne; omega)
   generalize hr : D.number w n 65535 = r at *
   have u1 : ((σ1 ++ [IObj.cells [Q n]]).set D.x (D.ob r.1)).set σ1.length (.cells ([Q n].set 0 (Q r.2))) = σ1.set D.x (D.ob r.1) ++ [.cells [Q r.2]] := by
     rw [jF (by omega)]
     have := set_app0 (σ := σ1.set D.x (D.ob r.1)) (l := [IObj.cells [Q n]]) (.cells [Q r.2])
     rw [rF] at this; exact this
   rw [u1] at u0
   have u0 : cfw F (.f D.f74) [D.rv, .ptr σ1.length 0, Q 65535] (σ1 ++ [.cells [Q n]]) = some ⟨false, .tup [], σ1.set D.x (D.ob r.1) ++ [.cells [Q r.2]], wr1⟩ := u0
   have g2 : (σ1.set D.x (D.ob r.1) ++ [IObj.cells [Q r.2]])[σ1.length]? = some (.cells [Q r.2]) := by
     have := get_app0 (σ := σ1.set D.x (D.ob r.1)) (l := [IObj.cells [Q r.2]])
     rw [rF] at this; exact this
   have g3 : (σ1.set D.x (D.ob r.1) ++ [IObj.cells [Q r.2]])[p]? = some (.cells cs) := jm (get_set y3 (tR hne)) _
   have s3 : ∀ o : IObj, (σ1.set D.x (D.ob r.1) ++ [IObj.cells [Q r.2]]).set p o = (σ.set D.x (D.ob r.1)).set p o ++ (l ++ [IObj.cells [Q r.2]]) := fun o => by
     rw [jF (by simp; omega), <- hσ, jF (by simpa using hx), jF (by simpa using hp), jfk hne, rO]
   have t74 := hw.t74
   rw [tA hi2, rU, jk, jp ho]
   have e1 : jO D .hf w (.int .u16 n) = (r.1, .int .u16 (IntKind.u16.wrap r.2)) := by rw [<- hr]; rfl
   rw [e1]
   rw [jc] at hE
   simp only [Kv, jd, e0, e7, e8, e9, l0, g1, d1, w1, wn, y3, ho, t74, u0, g2, g3, s3, o1, vh, jm y3, rL, zV, zS, zD, simprocAttr] at hE
   have hT2 : Ty (os.map fun o => (.hf, o)) (cs.set os[i] (.int .u16 (IntKind.u16.wrap r.2))) := by
     refine vl (k := .hf) hT ?_ ?_
     . have := vW hw (k := .hf) (w := w) (v := .int .u16 n) ⟨n, rfl, hn⟩
       rw [e1] at this; exact this
     . intro q hq _
       obtain ⟨o, _, rfl⟩ := List.mem_map.mp hq
       rfl
   have hk2 : D.ok r.1 (k + d) := by rw [<- hr]; exact hw.ok_number hk
   exact ih (i + 1) k _ r.1 _ _ _ R hE (by omega) hT2 hk2 (by rw [Fl] at hf hw1 ⊢; simp only [tN, rQ, hf, hw1]; rfl) (by first | exact e0 | rfl) (by first | exact e7 | rfl) (by first | exact e8 | rfl) (by rfl)
abbrev JX (o : Nat) : List (K × Nat) := [(.hf, o), (.hf, o + 1), (.hf, o + 2)]
theorem jfK (h39 : F 37 = some jaH) (hw : Way F D) {p o k : Nat} {cs : List IVal} {σ : List IObj} {w : D.W} (hx : σ[D.x]? = some (D.ob w)) (hp : σ[p]? = some (.cells cs)) (hT : Ty (JX o) cs) (hk : D.ok w (k + 3)) (hne : p ≠ D.x) :
   ∃ wr, cfw F (.f 37) [.iface D.ty D.rv, .ptr p o] σ = some ⟨false, .tup [], (σ.set D.x (D.ob (jk D (JX o) w cs).1)).set p (.cells (jk D (JX o) w cs).2), wr⟩ /\ Fl wr := by
 rw [jj jaH h39, callI]
 have x1 : ext [.ptr p o, .ptr p (o + 1), .ptr p (o + 2)] = true := rfl
 simp only [jaH, x1, zV, zS, zD, simprocAttr]
 generalize hE : evw F (ICode.loop Kv) _ = R
 have l0 := ja hx
 have lp := ja hp
 have s0 : (σ.set D.x (D.ob w)).set p (.cells cs) ++ [] = σ := by rw [jx hx, jx hp, rP]
 rw [<- s0] at hE
 obtain ⟨f1, l', wr', rfl, hf⟩ := jis hw l0 lp hne (os := [o, o + 1, o + 2]) (by simp) 3 0 k _ w cs [] _ R hE (by simp) hT hk (by rfl) (by rfl) (by rfl) (by rfl) (by rfl)
 have e1 : (([o, o + 1, o + 2].drop 0).map fun o => (K.hf, o)) = JX o := rfl
 rw [e1]
 simp only [jr hf, kH, zV, zS, zD, simprocAttr]
 exact ⟨_, rfl, jo hf⟩
end Go.Idl.Sb
namespace Go.Idl.Sb
open Go Go.Idl Go.Idl.En
variable {F : jn} {D : WayD}
abbrev wdL (i d : Nat) : List (K × Nat) := (List.range' i d).map fun i => (.wd, i)
theorem Vu (i d : Nat) : wdL i (d + 1) = (.wd, i) :: wdL (i + 1) d := by rw [wdL, List.range'_succ]; rfl
theorem ZM {i d : Nat} : ∀ q ∈ wdL i d, ∀ r ∈ wdL i d, q.2 = r.2 -> q.1 = r.1 := by
 intro q hq r hr _
 obtain ⟨a, _, rfl⟩ := List.mem_map.mp hq
 obtain ⟨b, _, rfl⟩ := List.mem_map.mp hr
 rfl
theorem jdD {σ : List IObj} {x p a : Nat} {u v : IObj} {c : IObj} (ha : σ[a]? = some c) (h1 : a ≠ x) (h2 : a ≠ p) : ((σ.set x u).set p v)[a]? = some c := get_set (get_set ha (tR h1)) (tR h2)
theorem jgv (h34 : F 32 = some Q4) (hw : Way F D) {a o id n : Nat} {acs : List IVal} {σ : List IObj} (ha : σ[a]? = some (.cells acs)) (ho : acs[o]? = some (.rs 1 id 0 n)) (hx : D.x < σ.length) (hp : id < σ.length) (hne : id ≠ D.x) (ha1 : a ≠ D.x) (ha2 : a ≠ id) (hn : n < 10000) : ∀ (d i k : Nat) (f0 : Nat -> Option (Nat × IVal)) (w : D.W) (cs : List IVal) (wr : List (Nat × Bool)) (R : Option (IExit × St)),
   evw F (.loop qO) ⟨E 26 8 6 [] (base f0), (σ.set D.x (D.ob w)).set id (.cells cs), wr⟩ = R -> i + d = n -> Ty (wdL i d) cs -> D.ok w (k + d) -> Fl wr ->
   f0 0 = some (0, .iface D.ty D.rv) -> f0 1 = some (1, .ptr a o) -> f0 3 = some (3, .fn (.func 32) [] []) -> f0 24 = some (24, I n) -> f0 25 = some (25, I i) ->
   ∃ f1 wr', R = some (.exit 0, ⟨E 26 8 6 [] (base f1), (σ.set D.x (D.ob (jk D (wdL i d) w cs).1)).set id (.cells (jk D (wdL i d) w cs).2), wr'⟩) /\ Fl wr' := by
 intro d
 induction d with
 | zero =>
   intro i k f0 w cs wr R hE hi hT hk hf e0 e1 e3 e24 e25
   have l0 : decide ((i : Int) < (n : Int)) = false := rH (by omega)
   rw [jc] at hE
   subst hE
   simp only [qO, e0, e1, e3, e24, e25, l0, zV, zS, zD, simprocAttr]
   exact ⟨_, _, rfl, hf⟩
 | succ d ih =>
   intro i k f0 w cs wr R hE hi hT hk hf e0 e1 e3 e24 e25
   have l0 : decide ((i : Int) < (n : Int)) = true := rE (by omega)
   have l1 : (i : Int) < (n : Int) := by omega
   have q0 : ((i : Int) == (n : Int)) = false := by simp; omega
   have d1 : (0 : Int) <= (i : Int) := by omega
   have w1 := kM (n := i) (by omega)
   rw [Vu] at hT
   obtain ⟨v, hv, hvt⟩ := hT (.wd, i) rT
   simp only [] at hv hvt
   obtain ⟨y1, y2⟩ := JU (a := D.ob w) (b := .cells cs) hx hp hne
   have y3 := jdD (u := D.ob w) (v := .cells cs) ha ha1 ha2
   obtain ⟨wr1, u0, hw1⟩ := ZO (k := k + d) h34 hw y1 y2 hv hvt hk hne
   rw [jfk hne] at u0
   rw [jc] at hE
   simp only [qO, jd, e0, e1, e3, e24, e25, l0, l1, q0, d1, w1, y3, ho, u0, rL, zV, zS, zD, simprocAttr] at hE
   rw [Vu, jk, jp hv]
   have T2 : Ty (wdL (i + 1) d) (cs.set i (jO D .wd w v).2) := by
     refine vl (k := .wd) (fun q hq => hT q (rN _ hq)) (vW hw hvt) ?_
     intro q hq _
     obtain ⟨a, _, rfl⟩ := List.mem_map.mp hq
     rfl
   exact ih (i + 1) k _ _ _ _ R hE (by omega) T2 (Je hw hvt hk) (by rw [Fl] at hf hw1 ⊢; simp only [rQ, hf, hw1]; rfl) (by first | exact e0 | rfl) (by first | exact e1 | rfl) (by first | exact e3 | rfl) (by first | exact e24 | rfl) (by rfl)
theorem jgl (h35 : F 33 = some X5) (h34 : F 32 = some Q4) (hw : Way F D) {a o id n most k : Nat} {acs cs : List IVal} {σ : List IObj} {w : D.W} (hx : σ[D.x]? = some (D.ob w)) (ha : σ[a]? = some (.cells acs)) (ho : acs[o]? = some (.rs 1 id 0 n)) (hid : σ[id]? = some (.cells cs)) (hne : id ≠ D.x) (ha1 : a ≠ D.x) (ha2 : a ≠ id) (hn : n < 10000) (hm : n <= most) (hm2 : most < 10000) (hT : Ty (wdL 0 n) cs) (hk : D.ok w (k + n + 1)) (hnum : (D.number w n most).2 = n) :
   ∃ wr, cfw F (.f 33) [.iface D.ty D.rv, .ptr a o, I most, .fn (.func 32) [] []] σ = some ⟨false, .tup [], (σ.set D.x (D.ob (jk D (wdL 0 n) (D.number w n most).1 cs).1)).set id (.cells (jk D (wdL 0 n) (D.number w n most).1 cs).2), wr⟩ /\ Fl wr := by
 rw [jj X5 h35, callI]
 have l0 := ja hx
 have lp := ja hid
 have w1 : IntKind.u64.wrap (n : Int) = (n : Int) := jt (by omega) (by omega)
 have w2 : IntKind.u64.wrap (most : Int) = (most : Int) := jt (by omega) (by omega)
 have w3 : IntKind.i64.wrap (n : Int) = (n : Int) := jP (by omega) (by omega)
 obtain ⟨wr1, u0, hw1⟩ := hw.number (σ := σ ++ [.cells [Q n]]) (p := σ.length) (o := 0) (cs := [Q n]) (most := most) (k := k + n) (jm hx _) get_app0 rfl hk (by omega)
 rw [hnum] at u0
 have hok := hw.ok_number (n := n) (most := most) hk
 generalize hr : (D.number w n most).1 = wy at *
 have u1 : ((σ ++ [IObj.cells [Q n]]).set D.x (D.ob wy)).set σ.length (.cells ([Q n].set 0 (Q n))) = σ.set D.x (D.ob wy) ++ [.cells [Q n]] := by
   rw [jF l0]
   have := set_app0 (σ := σ.set D.x (D.ob wy)) (l := [IObj.cells [Q n]]) (.cells [Q n])
   rw [rF] at this; exact this
 rw [u1] at u0
 have g2 : (σ.set D.x (D.ob wy) ++ [IObj.cells [Q n]])[σ.length]? = some (.cells [Q n]) := by
   have := get_app0 (σ := σ.set D.x (D.ob wy)) (l := [IObj.cells [Q n]])
   rw [rF] at this; exact this
 have t74 := hw.t74
 have mm : ((most : Int) < (n : Int)) = False := by rw [eq_iff_iff, iff_false]; omega
 simp only [X5, jd, ha, ho, w1, w2, w3, t74, u0, g2, mm, vh, jm ha, zV, zS, zD, simprocAttr]
 generalize hE : evw F (ICode.loop qO) _ = R
 have base0 : σ.set D.x (D.ob wy) ++ [IObj.cells [Q n]] = ((σ ++ [IObj.cells [Q n]]).set D.x (D.ob wy)).set id (.cells cs) := by
   rw [jhx l0 lp, jx (get_set hid (tR hne))]
 rw [base0] at hE
 have f1 : Fl (wr1 ++ [(σ.length, false)]) := by rw [Fl] at hw1 ⊢; rw [rQ, hw1]; rfl
 obtain ⟨f2, wr', rfl, hf⟩ := jgv h34 hw (jm ha _) ho (by simp; omega) (by simp; omega) hne ha1 ha2 hn n 0 k _ _ _ _ R hE (by omega) hT hok f1 (by rfl) (by rfl) (by rfl) (by rfl) (by rfl)
 rw [jhx l0 lp]
 simp only [jr hf, kH, zV, zS, zD, simprocAttr]
 exact ⟨_, rfl, jo hf⟩
end Go.Idl.Sb
namespace Go.Idl.Sb
open Go Go.Idl Go.Idl.En
variable {F : jn} {D : WayD}
abbrev raL (i d : Nat) : List (K × Nat) := (List.range' i d).flatMap fun i => kT (i * 3)
theorem zW (i d : Nat) : raL i (d + 1) = kT (i * 3) ++ raL (i + 1) d := by rw [raL, List.range'_succ]; rfl
def raK (o : Nat) : K := if o % 3 = 2 then .tr else .pl
theorem jec {i d : Nat} : ∀ q ∈ raL i d, q.1 = raK q.2 := by
 intro q hq
 obtain ⟨a, _, h⟩ := List.mem_flatMap.mp hq
 simp at h
 rcases h with rfl | rfl | rfl
 . rw [raK, if_neg (by simp only []; omega)]
 . rw [raK, if_neg (by simp only []; omega)]
 . rw [raK, if_pos (by simp only []; omega)]
theorem KH {i : Nat} : ∀ q ∈ kT (i * 3), q.1 = raK q.2 := by
 intro q hq
 exact jec (i := i) (d := 1) q (by rw [zW]; exact tC _ hq)
theorem KS {f : Nat -> K} {L l : List (K × Nat)} (h : ∀ q ∈ L, q.1 = f q.2) (h2 : ∀ q ∈ l, q.1 = f q.2) : ∀ q ∈ L, ∀ r ∈ l, q.2 = r.2 -> q.1 = r.1 := by
 intro q hq r hr e; rw [h q hq, h2 r hr, e]
theorem jbJ (h37 : F 35 = some X6) (h33 : F 31 = some Qa) (hw : Way F D) {a o id n m : Nat} {acs : List IVal} {σ : List IObj} (ha : σ[a]? = some (.cells acs)) (ho : acs[o]? = some (.rs 3 id 0 n)) (hx : D.x < σ.length) (hp : id < σ.length) (hne : id ≠ D.x) (ha1 : a ≠ D.x) (ha2 : a ≠ id) (hn : n < 10000) (hmn : m <= n) : ∀ (d i k : Nat) (f0 : Nat -> Option (Nat × IVal)) (w : D.W) (cs : List IVal) (wr : List (Nat × Bool)) (R : Option (IExit × St)),
   evw F (.loop qC) ⟨E 26 8 6 [] (base f0), (σ.set D.x (D.ob w)).set id (.cells cs), wr⟩ = R -> i + d = m -> Ty (raL i d) cs -> D.ok w (k + 3 * d) -> Fl wr ->
   f0 0 = some (0, .iface D.ty D.rv) -> f0 1 = some (1, .ptr a o) -> f0 3 = some (3, .fn (.func 35) [] []) -> f0 24 = some (24, I m) -> f0 25 = some (25, I i) ->
   ∃ f1 wr', R = some (.exit 0, ⟨E 26 8 6 [] (base f1), (σ.set D.x (D.ob (jk D (raL i d) w cs).1)).set id (.cells (jk D (raL i d) w cs).2), wr'⟩) /\ Fl wr' := by
 intro d
 induction d with
 | zero =>
   intro i k f0 w cs wr R hE hi hT hk hf e0 e1 e3 e24 e25
   have l0 : decide ((i : Int) < (m : Int)) = false := rH (by omega)
   rw [jc] at hE
   subst hE
   simp only [qC, e0, e1, e3, e24, e25, l0, zV, zS, zD, simprocAttr]
   exact ⟨_, _, rfl, hf⟩
 | succ d ih =>
   intro i k f0 w cs wr R hE hi hT hk hf e0 e1 e3 e24 e25
   have l0 : decide ((i : Int) < (m : Int)) = true := rE (by omega)
   have l1 : (i : Int) < (n : Int) := by omega
   have q0 : ((i : Int) == (n : Int)) = false := by simp; omega
   have d1 : (0 : Int) <= (i : Int) := by omega
   have w1 := kM (n := i) (by omega)
   rw [zW] at hT
   have T1 : Ty (kT (i * 3)) cs := jI hT (fun q hq => tC _ hq)
   have T0 : Ty (raL (i + 1) d) cs := jI hT (fun q hq => rZ _ hq)
   obtain ⟨y1, y2⟩ := JU (a := D.ob w) (b := .cells cs) hx hp hne
   have y3 := jdD (u := D.ob w) (v := .cells cs) ha ha1 ha2
   have ek : k + 3 * (d + 1) = k + 3 * d + 3 := by omega
   rw [ek] at hk
   obtain ⟨wr1, u0, hw1⟩ := jiX (k := k + 3 * d) h37 h33 hw y1 y2 T1 hk hne
   rw [jfk hne] at u0
   rw [jc] at hE
   simp only [qC, jd, e0, e1, e3, e24, e25, l0, l1, q0, d1, w1, y3, ho, u0, rL, zV, zS, zD, simprocAttr] at hE
   rw [zW, kl]
   have T2 : Ty (raL (i + 1) d) (jk D (kT (i * 3)) w cs).2 := kZ hw _ _ _ T0 T1 (KS jec KH) (KS KH KH)
   exact ih (i + 1) k _ _ _ _ R hE (by omega) T2 (kv hw _ _ _ (k + 3 * d) T1 (KS KH KH) hk) (by rw [Fl] at hf hw1 ⊢; simp only [rQ, hf, hw1]; rfl) (by first | exact e0 | rfl) (by first | exact e1 | rfl) (by first | exact e3 | rfl) (by first | exact e24 | rfl) (by rfl)
theorem jgm (h36 : F 34 = some XF) (h37 : F 35 = some X6) (h33 : F 31 = some Qa) (hw : Way F D) {a o id n most k : Nat} {acs cs : List IVal} {σ : List IObj} {w : D.W} (hx : σ[D.x]? = some (D.ob w)) (ha : σ[a]? = some (.cells acs)) (ho : acs[o]? = some (.rs 3 id 0 n)) (hid : σ[id]? = some (.cells cs)) (hne : id ≠ D.x) (ha1 : a ≠ D.x) (ha2 : a ≠ id) (hn : n < 10000) (hm2 : most < 10000) (hT : Ty (raL 0 (min n most)) cs) (hk : D.ok w (k + 3 * min n most + 1)) (hnum : (D.number w n most).2 = n) :
   ∃ wr, cfw F (.f 34) [.iface D.ty D.rv, .ptr a o, I most, .fn (.func 35) [] []] σ = some ⟨false, .tup [], (σ.set D.x (D.ob (jk D (raL 0 (min n most)) (D.number w n most).1 cs).1)).set id (.cells (jk D (raL 0 (min n most)) (D.number w n most).1 cs).2), wr⟩ /\ Fl wr := by
 rw [jj XF h36, callI]
 have l0 := ja hx
 have lp := ja hid
 have w1 : IntKind.u64.wrap (n : Int) = (n : Int) := jt (by omega) (by omega)
 have w2 : IntKind.u64.wrap (most : Int) = (most : Int) := jt (by omega) (by omega)
 have w4 : IntKind.i64.wrap (most : Int) = (most : Int) := jP (by omega) (by omega)
 have w3 : IntKind.i64.wrap (n : Int) = (n : Int) := jP (by omega) (by omega)
 obtain ⟨wr1, u0, hw1⟩ := hw.number (σ := σ ++ [.cells [Q n]]) (p := σ.length) (o := 0) (cs := [Q n]) (most := most) (k := k + 3 * min n most) (jm hx _) get_app0 rfl hk (by omega)
 rw [hnum] at u0
 have hok := hw.ok_number (n := n) (most := most) hk
 generalize hr : (D.number w n most).1 = wy at *
 have u1 : ((σ ++ [IObj.cells [Q n]]).set D.x (D.ob wy)).set σ.length (.cells ([Q n].set 0 (Q n))) = σ.set D.x (D.ob wy) ++ [.cells [Q n]] := by
   rw [jF l0]
   have := set_app0 (σ := σ.set D.x (D.ob wy)) (l := [IObj.cells [Q n]]) (.cells [Q n])
   rw [rF] at this; exact this
 rw [u1] at u0
 have g2 : (σ.set D.x (D.ob wy) ++ [IObj.cells [Q n]])[σ.length]? = some (.cells [Q n]) := by
   have := get_app0 (σ := σ.set D.x (D.ob wy)) (l := [IObj.cells [Q n]])
   rw [rF] at this; exact this
 have t74 := hw.t74
 by_cases hm : n <= most
 . have em : min n most = n := by omega
   rw [em] at hT hok ⊢
   have mm : ((most : Int) < (n : Int)) = False := by rw [eq_iff_iff, iff_false]; omega
   simp only [XF, jd, ha, ho, w1, w2, w3, w4, t74, u0, g2, mm, vh, jm ha, zV, zS, zD, simprocAttr]
   generalize hE : evw F (ICode.loop qC) _ = R
   have base0 : σ.set D.x (D.ob wy) ++ [IObj.cells [Q n]] = ((σ ++ [IObj.cells [Q n]]).set D.x (D.ob wy)).set id (.cells cs) := by
     rw [jhx l0 lp, jx (get_set hid (tR hne))]
   rw [base0] at hE
   have f1 : Fl (wr1 ++ [(σ.length, false)]) := by rw [Fl] at hw1 ⊢; rw [rQ, hw1]; rfl
   obtain ⟨f2, wr', rfl, hf⟩ := jbJ h37 h33 hw (jm ha _) ho (by simp; omega) (by simp; omega) hne ha1 ha2 hn (m := n) (by omega) n 0 k _ _ _ _ R hE (by omega) hT hok f1 (by rfl) (by rfl) (by rfl) (by rfl) (by rfl)
   rw [jhx l0 lp]
   simp only [jr hf, kH, zV, zS, zD, simprocAttr]
   exact ⟨_, rfl, jo hf⟩
 . have em : min n most = most := by omega
   rw [em] at hT hok ⊢
   have mm : ((most : Int) < (n : Int)) = True := by rw [eq_iff_iff, iff_true]; omega
   simp only [XF, jd, ha, ho, w1, w2, w3, w4, t74, u0, g2, mm, vh, jm ha, zV, zS, zD, simprocAttr]
   generalize hE : evw F (ICode.loop qC) _ = R
   have base0 : σ.set D.x (D.ob wy) ++ [IObj.cells [Q n]] = ((σ ++ [IObj.cells [Q n]]).set D.x (D.ob wy)).set id (.cells cs) := by
     rw [jhx l0 lp, jx (get_set hid (tR hne))]
   rw [base0] at hE
   have f1 : Fl (wr1 ++ [(σ.length, false)]) := by rw [Fl] at hw1 ⊢; rw [rQ, hw1]; rfl
   obtain ⟨f2, wr', rfl, hf⟩ := jbJ h37 h33 hw (jm ha _) ho (by simp; omega) (by simp; omega) hne ha1 ha2 hn (m := most) (by omega) most 0 k _ _ _ _ R hE (by omega) hT hok f1 (by rfl) (by rfl) (by rfl) (by rfl) (by rfl)
   rw [jhx l0 lp]
   simp only [jr hf, kH, zV, zS, zD, simprocAttr]
   exact ⟨_, rfl, jo hf⟩
end Go.Idl.Sb
namespace Go.Idl.Sb
open Go Go.Idl Go.Idl.En
variable {F : jn} {D : WayD}
abbrev Fa (a : Nat) (wr : List (Nat × Bool)) : Prop := wr.all (fun q => !q.2 || q.1 == a) = true
theorem vg {a : Nat} {wr : List (Nat × Bool)} (h : Fl wr) : Fa a wr := by
 rw [Fl, rG] at h
 rw [Fa, rG]
 intro q hq; have := h q hq; simp at this; simp [this]
theorem qu {a : Nat} {f : Nat × Bool -> Bool} {wr : List (Nat × Bool)} (h : Fa a wr) : Fa a (wr.filter f) := by
 rw [Fa, rG] at h ⊢
 intro q hq; exact h q (List.mem_filter.mp hq).1
def LV (e : Nat) (σ : List IObj) (k : Nat) (lv : IVal) (i : Nat) (ys : List IVal) (σc : List IObj) : Prop :=
 (i = 0 /\ ys = [] /\ ∃ e', lv = .sl e' true []) \/ (0 < i /\ ∃ id, lv = .rs e id 0 i /\ σ.length <= id /\ σc[id]? = some (.cells ys) /\ ys.length = i * k)
def growW (D : WayD) : Nat -> D.W -> List IVal -> D.W × List IVal
 | 0, w, ys => (w, ys)
 | k + 1, w, ys => growW D k (jO D .wd w (J 0)).1 (ys ++ [(jO D .wd w (J 0)).2])
theorem J0 : K.wd.ty (J 0) := ⟨0, rfl, by decide, by decide⟩
theorem jjM {σ : List IObj} {x a : Nat} {u u' v : IObj} (hne : a ≠ x) : ((σ.set x u).set a v).set x u' = (σ.set x u').set a v := by
 rw [List.set_comm _ _ hne, tE]
theorem jgu (h34 : F 32 = some Q4) (hw : Way F D) {a o n : Nat} {acs : List IVal} {σ : List IObj} (ha : a < σ.length) (ho : o + 1 <= acs.length) (hx : D.x < σ.length) (ha1 : a ≠ D.x) (hn : n < 10000) : ∀ (d i k : Nat) (f0 : Nat -> Option (Nat × IVal)) (w : D.W) (lv : IVal) (ys : List IVal) (l : List IObj) (wr : List (Nat × Bool)) (R : Option (IExit × St)),
   evw F (.loop qO) ⟨E 26 8 6 [] (base f0), (σ.set D.x (D.ob w)).set a (.cells (acs.set o lv)) ++ l, wr⟩ = R -> i + d = n -> LV 1 σ 1 lv i ys ((σ.set D.x (D.ob w)).set a (.cells (acs.set o lv)) ++ l) -> D.ok w (k + d) -> Fa a wr -> (0 < i -> (a, true) ∈ wr) ->
   f0 0 = some (0, .iface D.ty D.rv) -> f0 1 = some (1, .ptr a o) -> f0 3 = some (3, .fn (.func 32) [] []) -> f0 24 = some (24, I n) -> f0 25 = some (25, I i) ->
   ∃ f1 lv' l' wr', R = some (.exit 0, ⟨E 26 8 6 [] (base f1), (σ.set D.x (D.ob (growW D d w ys).1)).set a (.cells (acs.set o lv')) ++ l', wr'⟩) /\ Fa a wr' /\ (0 < n -> (a, true) ∈ wr') /\ LV 1 σ 1 lv' n (growW D d w ys).2 ((σ.set D.x (D.ob (growW D d w ys).1)).set a (.cells (acs.set o lv')) ++ l') := by
 intro d
 induction d with
 | zero =>
   intro i k f0 w lv ys l wr R hE hi hL hk hf hm e0 e1 e3 e24 e25
   have l0 : decide ((i : Int) < (n : Int)) = false := rH (by omega)
   have hin : i = n := by omega
   subst hin
   rw [jc] at hE
   subst hE
   simp only [qO, e0, e1, e3, e24, e25, l0, zV, zS, zD, simprocAttr]
   exact ⟨_, lv, l, _, rfl, hf, hm, hL⟩
 | succ d ih =>
   intro i k f0 w lv ys l wr R hE hi hL hk hf hm e0 e1 e3 e24 e25
   have l0 : decide ((i : Int) < (n : Int)) = true := rE (by omega)
   have l1 : (i : Int) < ((i + 1 : Nat) : Int) := by omega
   have q0 : ((i : Int) == (i : Int)) = true := by simp
   have d1 : (0 : Int) <= (i : Int) := by omega
   have w1 := kM (n := i) (by omega)
   generalize hB : (σ.set D.x (D.ob w)).set a (.cells (acs.set o lv)) = B0 at *
   have lB : B0.length = σ.length := by rw [<- hB]; simp
   have y1 : B0[D.x]? = some (D.ob w) := by rw [<- hB]; exact (JU hx ha ha1).1
   have y2 : B0[a]? = some (.cells (acs.set o lv)) := by rw [<- hB]; exact (JU hx ha ha1).2
   have ho2 : o + 1 <= (acs.set o lv).length := by simpa using ho
   have g0 : ∀ v, (acs.set o v)[o]? = some v := fun v => by rw [rK ho]
   have stp : ∀ (lv2 : IVal) (l2 : List IObj), l2.length = l.length -> ys.length = i -> ∃ wr1, cfw F (.f 32) [.iface D.ty D.rv, .ptr (B0.length + l.length) i] (B0.set a (.cells (acs.set o lv2)) ++ (l2 ++ [IObj.cells (ys ++ [J 0])])) = some ⟨false, .tup [], (σ.set D.x (D.ob (jO D .wd w (J 0)).1)).set a (.cells (acs.set o lv2)) ++ (l2 ++ [.cells (ys ++ [(jO D .wd w (J 0)).2])]), wr1⟩ /\ Fl wr1 := by
     intro lv2 l2 hl2 hy
     have z1 : (B0.set a (.cells (acs.set o lv2)) ++ (l2 ++ [IObj.cells (ys ++ [J 0])]))[D.x]? = some (D.ob w) := jm (get_set y1 ha1) _
     have z2 : (B0.set a (.cells (acs.set o lv2)) ++ (l2 ++ [IObj.cells (ys ++ [J 0])]))[B0.length + l.length]? = some (.cells (ys ++ [J 0])) := by
       rw [rV (by simp)]
       simp only [rF, Nat.add_sub_cancel_left]
       rw [rV (by omega), hl2, Nat.sub_self]; rfl
     have z3 : (ys ++ [J 0])[i]? = some (J 0) := by rw [rV (by omega), hy, Nat.sub_self]; rfl
     obtain ⟨wr1, u0, hw1⟩ := ZO (k := k + d) h34 hw z1 z2 z3 J0 hk (by omega)
     refine ⟨wr1, ?_, hw1⟩
     rw [u0]
     have s1 : ((B0.set a (.cells (acs.set o lv2)) ++ (l2 ++ [IObj.cells (ys ++ [J 0])])).set D.x (D.ob (jO D .wd w (J 0)).1)).set (B0.length + l.length) (.cells ((ys ++ [J 0]).set i (jO D .wd w (J 0)).2)) = (σ.set D.x (D.ob (jO D .wd w (J 0)).1)).set a (.cells (acs.set o lv2)) ++ (l2 ++ [.cells (ys ++ [(jO D .wd w (J 0)).2])]) := by
       rw [jF (by simp; omega), tY _ _ (by simp)]
       simp only [rF, Nat.add_sub_cancel_left]
       rw [tY _ _ (by omega), hl2, Nat.sub_self, tY _ _ (by omega), hy, Nat.sub_self]
       congr 1
       rw [<- hB, tE, jjM ha1]
     rw [s1]
   have okk := Je hw J0 hk
   have cons := fun (R' : Option (IExit × St)) (f0' : Nat -> Option (Nat × IVal)) (id : Nat) (l2 : List IObj) (wr' : List (Nat × Bool)) (hid : id = B0.length + l.length) (hl2 : l2.length = l.length) (hy : ys.length = i) (hE' : evw F (.loop qO) ⟨E 26 8 6 [] (base f0'), (σ.set D.x (D.ob (jO D .wd w (J 0)).1)).set a (.cells (acs.set o (.rs 1 id 0 (i + 1)))) ++ (l2 ++ [.cells (ys ++ [(jO D .wd w (J 0)).2])]), wr'⟩ = R') (hf' : Fa a wr') (hm' : (a, true) ∈ wr') => ih (i + 1) k f0' (jO D .wd w (J 0)).1 (.rs 1 id 0 (i + 1)) (ys ++ [(jO D .wd w (J 0)).2]) (l2 ++ [.cells (ys ++ [(jO D .wd w (J 0)).2])]) wr' R' hE' (by omega) (.inr ⟨by omega, id, rfl, by omega, by
       rw [rV (by simp; omega)]
       simp only [rF]
       rw [rV (by omega), hid, hl2, lB]
       have : σ.length + l.length - σ.length - l.length = 0 := by omega
       rw [this]; rfl, by simp [hy]⟩) okk hf' (fun _ => hm')
   have sA : ∀ (l : List IObj) (o : IObj), (B0 ++ l).set a o = B0.set a o ++ l := fun l o => jF (by omega)
   have gA : ∀ (l : List IObj), (B0 ++ l)[a]? = some (.cells (acs.set o lv)) := fun l => jm y2 _
   have gB : ∀ (v : IObj) (l : List IObj), (B0.set a v ++ l)[a]? = some v := fun v l => jm (kB (by omega)) _
   have lA : ∀ v : IVal, o + 1 <= (acs.set o v).length := fun v => by simpa using ho
   rcases hL with ⟨hi0, rfl, e', rfl⟩ | ⟨hi0, id, rfl, hid, hc, hy⟩
   . obtain ⟨wr1, u0, hw1⟩ := stp (.rs 1 (B0.length + l.length) 0 1) l rfl hi0.symm
     rw [tQ] at u0
     have l1 : (i : Int) < 1 := by omega
     have q1 : ((i : Int) == 0) = true := by simp [hi0]
     have n0 : ((0 : Nat) : Int) = 0 := rfl
     have n1 : ((1 : Nat) : Int) = 1 := rfl
     have nn : nilOwn 1 (.sl 0 true []) = .sl 1 true [] := rfl
     have nn2 : nilOwn 1 (.sl e' true []) = .sl 1 true [] := rfl
     rw [jc] at hE
     simp only [qO, jd, e0, e1, e3, e24, e25, l0, sA, gA, gB, g0, lA, l1, q1, n0, n1, nn, nn2, d1, w1, u0, tE, rR, un2_int, rL, zV, zS, zD, simprocAttr] at hE
     have ei : (IVal.rs 1 (B0.length + l.length) 0 1) = .rs 1 (B0.length + l.length) 0 (i + 1) := by rw [hi0]
     rw [ei] at hE
     obtain ⟨f1, lv', l', wr', h1, h2, h3, h4⟩ := cons R _ (B0.length + l.length) l _ rfl rfl hi0.symm hE (by
       have h1 := vg (a := a) hw1
       rw [Fa] at h1 hf ⊢
       simp only [rQ, tN, h1, hf]; simp) (by simp) (by first | exact e0 | rfl) (by first | exact e1 | rfl) (by first | exact e3 | rfl) (by first | exact e24 | rfl) (by rfl)
     exact ⟨f1, lv', l', wr', h1, h2, fun h => h3 h, h4⟩
   . have hy1 : ys.length = i := by omega
     obtain ⟨wr1, u0, hw1⟩ := stp (.rs 1 (B0.length + l.length) 0 (i + 1)) (l.set (id - B0.length) .dead) (by simp) hy1
     have qn : ((i : Int) == (i : Int)) = true := by simp
     have qa : (i + 1) * 4 <= 1099511627776 := by omega
     have qb : i + 1 <= 1099511627776 := by omega
     have qc : i <= ys.length := by omega
     have qd : ys.take i = ys := by rw [rX (by omega)]
     have sD : (B0 ++ l).set id .dead = B0 ++ l.set (id - B0.length) .dead := tY _ _ (by omega)
     have l2 : (i : Int) < ((i + 1 : Nat) : Int) := by omega
     rw [jc] at hE
     simp only [qO, jd, e0, e1, e3, e24, e25, l0, sA, sD, gA, gB, g0, lA, hc, qn, qa, qb, qc, qd, l2, d1, w1, u0, tE, rR, un2_int, rL, zV, zS, zD, simprocAttr] at hE
     obtain ⟨f1, lv', l', wr', h1, h2, h3, h4⟩ := cons R _ (B0.length + l.length) (l.set (id - B0.length) .dead) _ rfl (by simp) hy1 hE (by
       have h1 := vg (a := a) hw1
       rw [Fa] at h1 hf ⊢
       simp only [rQ, tN, h1, hf]; simp) (by simp) (by first | exact e0 | rfl) (by first | exact e1 | rfl) (by first | exact e3 | rfl) (by first | exact e24 | rfl) (by rfl)
     exact ⟨f1, lv', l', wr', h1, h2, fun h => h3 h, h4⟩
def cnt (D : WayD) (w : D.W) (most : Nat) : Nat := min (D.number w 0 most).2 most
theorem jbH (h35 : F 33 = some X5) (h34 : F 32 = some Q4) (hw : Way F D) {a o e' most k : Nat} {acs : List IVal} {σ : List IObj} {w : D.W} (hx : σ[D.x]? = some (D.ob w)) (ha : σ[a]? = some (.cells acs)) (ho : acs[o]? = some (.sl e' true [])) (ha1 : a ≠ D.x) (hm2 : most < 10000) (hk : D.ok w (k + most + 1)) :
   ∃ wr lv' l', cfw F (.f 33) [.iface D.ty D.rv, .ptr a o, I most, .fn (.func 32) [] []] σ = some ⟨false, .tup [], (σ.set D.x (D.ob (growW D (cnt D w most) (D.number w 0 most).1 []).1)).set a (.cells (acs.set o lv')) ++ l', wr⟩ /\ Fa a wr /\ (0 < cnt D w most -> (a, true) ∈ wr) /\ LV 1 σ 1 lv' (cnt D w most) (growW D (cnt D w most) (D.number w 0 most).1 []).2 ((σ.set D.x (D.ob (growW D (cnt D w most) (D.number w 0 most).1 []).1)).set a (.cells (acs.set o lv')) ++ l') := by
 rw [jj X5 h35, callI]
 have l0 := ja hx
 have la := ja ha
 have w2 : IntKind.u64.wrap (most : Int) = (most : Int) := jt (by omega) (by omega)
 have w1 : IntKind.u64.wrap (0 : Int) = 0 := rfl
 obtain ⟨wr1, u0, hw1⟩ := hw.number (σ := σ ++ [.cells [Q 0]]) (p := σ.length) (o := 0) (cs := [Q 0]) (n := 0) (most := most) (k := k + most) (jm hx _) get_app0 rfl hk (by omega)
 have hok := hw.ok_number (n := 0) (most := most) hk
 have hcn : ∃ d, cnt D w most = d /\ d <= most /\ d = min (D.number w 0 most).2 most := ⟨_, rfl, by unfold cnt; omega, rfl⟩
 obtain ⟨d, hd, hd2, hd3⟩ := hcn
 rw [hd]
 generalize hr : D.number w 0 most = r at *
 have hnl : r.2 < 18446744073709551616 := by rw [<- hr]; exact hw.n_number (by decide)
 have u1 : ((σ ++ [IObj.cells [Q 0]]).set D.x (D.ob r.1)).set σ.length (.cells ([Q 0].set 0 (Q r.2))) = σ.set D.x (D.ob r.1) ++ [.cells [Q r.2]] := by
   rw [jF l0]
   have := set_app0 (σ := σ.set D.x (D.ob r.1)) (l := [IObj.cells [Q 0]]) (.cells [Q r.2])
   rw [rF] at this; exact this
 have u0 : cfw F (Cal.f D.f74) [D.rv, IVal.ptr σ.length 0, Q (most : Int)] (σ ++ [IObj.cells [Q 0]]) = some ⟨false, .tup [], σ.set D.x (D.ob r.1) ++ [.cells [Q r.2]], wr1⟩ := by rw [<- u1]; exact u0
 have g2 : (σ.set D.x (D.ob r.1) ++ [IObj.cells [Q r.2]])[σ.length]? = some (.cells [Q r.2]) := by
   have := get_app0 (σ := σ.set D.x (D.ob r.1)) (l := [IObj.cells [Q r.2]])
   rw [rF] at this; exact this
 have t74 := hw.t74
 have mm : IntKind.i64.wrap (if (most : Int) < (r.2 : Int) then (most : Int) else (r.2 : Int)) = (d : Int) := by
   split <;> rw [jP (by omega) (by omega)] <;> omega
 have n0 : ((0 : Nat) : Int) = 0 := rfl
 simp only [X5, jd, ha, ho, w1, w2, t74, u0, g2, mm, n0, vh, jm ha, zV, zS, zD, simprocAttr]
 generalize hE : evw F (ICode.loop qO) _ = R
 have base0 : σ.set D.x (D.ob r.1) ++ [IObj.cells [Q r.2]] = (σ.set D.x (D.ob r.1)).set a (.cells (acs.set o (.sl e' true []))) ++ [IObj.cells [Q r.2]] := by
   rw [qL (get_set ha (tR ha1)) ho]
 rw [base0] at hE
 have f1 : Fl (wr1 ++ [(σ.length, false)]) := by rw [Fl] at hw1 ⊢; rw [rQ, hw1]; rfl
 have hkd : k + most = k + (most - d) + d := by omega
 obtain ⟨f2, lv', l', wr', rfl, hf, hm, hL⟩ := jgu h34 hw la (kJ ho) l0 ha1 (n := d) (by omega) d 0 (k + (most - d)) _ r.1 _ [] _ _ R hE (by omega) (.inl ⟨rfl, rfl, e', rfl⟩) (hkd ▸ hok) (vg f1) (fun h => absurd h (Nat.lt_irrefl _)) (by rfl) (by rfl) (by rfl) (by rfl) (by rfl)
 simp only [zV, zS, zD, simprocAttr]
 have hmf : 0 < d -> (a, true) ∈ wr'.filter fun p => decide (p.1 < σ.length) := fun h => List.mem_filter.mpr ⟨hm h, by simpa using la⟩
 split
 . rename_i hc
   have hd0 : d = 0 := by
     rcases Nat.eq_zero_or_pos d with h | h
     . exact h
     . rw [rG] at hc
       have := hc _ (hm h); simp at this; omega
   subst hd0
   refine ⟨_, lv', [], by rw [kH, rP], qu hf, hmf, ?_⟩
   rcases hL with ⟨h1, h2, h3⟩ | ⟨h1, _⟩
   . exact .inl ⟨h1, h2, h3⟩
   . exact absurd h1 (Nat.lt_irrefl _)
 . exact ⟨_, lv', l', rfl, qu hf, hmf, hL⟩
end Go.Idl.Sb
namespace Go.Idl.Sb
open Go Go.Idl Go.Idl.En
variable {F : jn} {D : WayD}
abbrev Z3 : List IVal := [I 0, I 0, .bool false]
theorem QA (ys : List IVal) : ∀ (l : List (K × Nat)) (w : D.W) (zs : List IVal), jk D (l.map fun q => (q.1, ys.length + q.2)) w (ys ++ zs) = ((jk D l w zs).1, ys ++ (jk D l w zs).2) := by
 intro l
 induction l with
 | nil => intro w zs; rfl
 | cons q l ih =>
   intro w zs
   obtain ⟨k, o⟩ := q
   rw [rU, jk, jk]
   have e1 : jv (ys ++ zs) (ys.length + o) = jv zs o := by rw [jv, jv, rV (by omega), Nat.add_sub_cancel_left]
   simp only [e1]
   rw [tY _ _ (by omega), Nat.add_sub_cancel_left]
   exact ih _ _
def growR (D : WayD) : Nat -> D.W -> List IVal -> D.W × List IVal
 | 0, w, ys => (w, ys)
 | k + 1, w, ys => growR D k (jk D (kT 0) w Z3).1 (ys ++ (jk D (kT 0) w Z3).2)
theorem jfE : Ty (kT 0) Z3 := by
 intro q hq
 simp at hq
 rcases hq with rfl | rfl | rfl
 . exact ⟨I 0, rfl, 0, rfl, by unfold i64; omega⟩
 . exact ⟨I 0, rfl, 0, rfl, by unfold i64; omega⟩
 . exact ⟨.bool false, rfl, false, rfl⟩
theorem KG : ∀ q ∈ kT 0, ∀ r ∈ kT 0, q.2 = r.2 -> q.1 = r.1 := KS (f := raK) (KH (i := 0)) (KH (i := 0))
theorem jjx (ys : List IVal) : Ty (kT ys.length) (ys ++ Z3) := by
 intro q hq
 simp at hq
 rcases hq with rfl | rfl | rfl
 . exact ⟨I 0, by rw [rV (by simp)]; simp, 0, rfl, by unfold i64; omega⟩
 . exact ⟨I 0, by rw [rV (by simp)]; simp, 0, rfl, by unfold i64; omega⟩
 . exact ⟨.bool false, by rw [rV (by simp)]; simp, false, rfl⟩
theorem jgw (h37 : F 35 = some X6) (h33 : F 31 = some Qa) (hw : Way F D) {a o n : Nat} {acs : List IVal} {σ : List IObj} (ha : a < σ.length) (ho : o + 1 <= acs.length) (hx : D.x < σ.length) (ha1 : a ≠ D.x) (hn : n < 10000) : ∀ (d i k : Nat) (f0 : Nat -> Option (Nat × IVal)) (w : D.W) (lv : IVal) (ys : List IVal) (l : List IObj) (wr : List (Nat × Bool)) (R : Option (IExit × St)),
   evw F (.loop qC) ⟨E 26 8 6 [] (base f0), (σ.set D.x (D.ob w)).set a (.cells (acs.set o lv)) ++ l, wr⟩ = R -> i + d = n -> LV 3 σ 3 lv i ys ((σ.set D.x (D.ob w)).set a (.cells (acs.set o lv)) ++ l) -> D.ok w (k + 3 * d) -> Fa a wr -> (0 < i -> (a, true) ∈ wr) ->
   f0 0 = some (0, .iface D.ty D.rv) -> f0 1 = some (1, .ptr a o) -> f0 3 = some (3, .fn (.func 35) [] []) -> f0 24 = some (24, I n) -> f0 25 = some (25, I i) ->
   ∃ f1 lv' l' wr', R = some (.exit 0, ⟨E 26 8 6 [] (base f1), (σ.set D.x (D.ob (growR D d w ys).1)).set a (.cells (acs.set o lv')) ++ l', wr'⟩) /\ Fa a wr' /\ (0 < n -> (a, true) ∈ wr') /\ LV 3 σ 3 lv' n (growR D d w ys).2 ((σ.set D.x (D.ob (growR D d w ys).1)).set a (.cells (acs.set o lv')) ++ l') := by
 intro d
 induction d with
 | zero =>
   intro i k f0 w lv ys l wr R hE hi hL hk hf hm e0 e1 e3 e24 e25
   have l0 : decide ((i : Int) < (n : Int)) = false := rH (by omega)
   have hin : i = n := by omega
   subst hin
   rw [jc] at hE
   subst hE
   simp only [qC, e0, e1, e3, e24, e25, l0, zV, zS, zD, simprocAttr]
   exact ⟨_, lv, l, _, rfl, hf, hm, hL⟩
 | succ d ih =>
   intro i k f0 w lv ys l wr R hE hi hL hk hf hm e0 e1 e3 e24 e25
   have l0 : decide ((i : Int) < (n : Int)) = true := rE (by omega)
   have l1 : (i : Int) < ((i + 1 : Nat) : Int) := by omega
   have q0 : ((i : Int) == (i : Int)) = true := by simp
   have d1 : (0 : Int) <= (i : Int) := by omega
   have w1 := kM (n := i) (by omega)
   generalize hB : (σ.set D.x (D.ob w)).set a (.cells (acs.set o lv)) = B0 at *
   have lB : B0.length = σ.length := by rw [<- hB]; simp
   have y1 : B0[D.x]? = some (D.ob w) := by rw [<- hB]; exact (JU hx ha ha1).1
   have y2 : B0[a]? = some (.cells (acs.set o lv)) := by rw [<- hB]; exact (JU hx ha ha1).2
   have ho2 : o + 1 <= (acs.set o lv).length := by simpa using ho
   have g0 : ∀ v, (acs.set o v)[o]? = some v := fun v => by rw [rK ho]
   generalize hR : jk D (kT 0) w Z3 = R3 at *
   have ek : k + 3 * (d + 1) = k + 3 * d + 3 := by omega
   rw [ek] at hk
   have stp : ∀ (lv2 : IVal) (l2 : List IObj), l2.length = l.length + 1 -> ys.length = i * 3 -> ∃ wr1, cfw F (.f 35) [.iface D.ty D.rv, .ptr (B0.length + (l.length + 1)) (i * 3)] (B0.set a (.cells (acs.set o lv2)) ++ (l2 ++ [IObj.cells (ys ++ Z3)])) = some ⟨false, .tup [], (σ.set D.x (D.ob R3.1)).set a (.cells (acs.set o lv2)) ++ (l2 ++ [.cells (ys ++ R3.2)]), wr1⟩ /\ Fl wr1 := by
     intro lv2 l2 hl2 hy
     have z1 : (B0.set a (.cells (acs.set o lv2)) ++ (l2 ++ [IObj.cells (ys ++ Z3)]))[D.x]? = some (D.ob w) := jm (get_set y1 ha1) _
     have z2 : (B0.set a (.cells (acs.set o lv2)) ++ (l2 ++ [IObj.cells (ys ++ Z3)]))[B0.length + (l.length + 1)]? = some (.cells (ys ++ Z3)) := by
       rw [rV (by simp)]
       simp only [rF, Nat.add_sub_cancel_left]
       rw [rV (by omega), hl2, Nat.sub_self]; rfl
     have z3 : Ty (kT (i * 3)) (ys ++ Z3) := by rw [<- hy]; exact jjx ys
     obtain ⟨wr1, u0, hw1⟩ := jiX (k := k + 3 * d) h37 h33 hw z1 z2 z3 hk (by omega)
     refine ⟨wr1, ?_, hw1⟩
     have sh := QA ys (kT 0) w Z3
     rw [hR, hy] at sh
     have sh : jk D (kT (i * 3)) w (ys ++ Z3) = (R3.1, ys ++ R3.2) := sh
     rw [u0, sh]
     have s1 : ((B0.set a (.cells (acs.set o lv2)) ++ (l2 ++ [IObj.cells (ys ++ Z3)])).set D.x (D.ob R3.1)).set (B0.length + (l.length + 1)) (.cells (ys ++ R3.2)) = (σ.set D.x (D.ob R3.1)).set a (.cells (acs.set o lv2)) ++ (l2 ++ [.cells (ys ++ R3.2)]) := by
       rw [jF (by simp; omega), tY _ _ (by simp)]
       simp only [rF, Nat.add_sub_cancel_left]
       rw [tY _ _ (by omega), hl2, Nat.sub_self]
       congr 1
       rw [<- hB, tE, jjM ha1]
     rw [s1]
   have okk : D.ok R3.1 (k + 3 * d) := by rw [<- hR]; exact kv hw _ _ _ _ jfE KG hk
   have l3 : R3.2.length = 3 := by rw [<- hR, Zy]; rfl
   have gR : growR D (d + 1) w ys = growR D d R3.1 (ys ++ R3.2) := by rw [growR, hR]
   rw [gR]
   have cons := fun (R' : Option (IExit × St)) (f0' : Nat -> Option (Nat × IVal)) (id : Nat) (l2 : List IObj) (wr' : List (Nat × Bool)) (hid : id = B0.length + (l.length + 1)) (hl2 : l2.length = l.length + 1) (hy : ys.length = i * 3) (hE' : evw F (.loop qC) ⟨E 26 8 6 [] (base f0'), (σ.set D.x (D.ob R3.1)).set a (.cells (acs.set o (.rs 3 id 0 (i + 1)))) ++ (l2 ++ [.cells (ys ++ R3.2)]), wr'⟩ = R') (hf' : Fa a wr') (hm' : (a, true) ∈ wr') => ih (i + 1) k f0' R3.1 (.rs 3 id 0 (i + 1)) (ys ++ R3.2) (l2 ++ [.cells (ys ++ R3.2)]) wr' R' hE' (by omega) (.inr ⟨by omega, id, rfl, by omega, by
       rw [rV (by simp; omega)]
       simp only [rF]
       rw [rV (by omega), hid, hl2, lB]
       have : σ.length + (l.length + 1) - σ.length - (l.length + 1) = 0 := by omega
       rw [this]; rfl, by simp [hy, l3]; omega⟩) okk hf' (fun _ => hm')
   have sA : ∀ (l : List IObj) (o : IObj), (B0 ++ l).set a o = B0.set a o ++ l := fun l o => jF (by omega)
   have gA : ∀ (l : List IObj), (B0 ++ l)[a]? = some (.cells (acs.set o lv)) := fun l => jm y2 _
   have gB : ∀ (v : IObj) (l : List IObj), (B0.set a v ++ l)[a]? = some v := fun v l => jm (kB (by omega)) _
   have lA : ∀ v : IVal, o + 1 <= (acs.set o v).length := fun v => by simpa using ho
   have t3 : [IVal.int .i64 0, .int .i64 0, .bool false].take 3 = [.int .i64 0, .int .i64 0, .bool false] := rfl
   rcases hL with ⟨hi0, rfl, e', rfl⟩ | ⟨hi0, id, rfl, hid, hc, hy⟩
   . obtain ⟨wr1, u0, hw1⟩ := stp (.rs 3 (B0.length + (l.length + 1)) 0 1) (l ++ [.cells Z3]) (by simp) (by rw [hi0]; rfl)
     simp only [tQ, rO, tP] at u0
     have l1 : (i : Int) < 1 := by omega
     have q1 : ((i : Int) == 0) = true := by simp [hi0]
     have n0 : ((0 : Nat) : Int) = 0 := rfl
     have n1 : ((1 : Nat) : Int) = 1 := rfl
     have nn : nilOwn 3 (.sl 0 true []) = .sl 3 true [] := rfl
     have nn2 : nilOwn 3 (.sl e' true []) = .sl 3 true [] := rfl
     rw [jc] at hE
     simp only [qC, jd, e0, e1, e3, e24, e25, l0, sA, gA, gB, g0, lA, l1, q1, n0, n1, nn, nn2, d1, w1, u0, t3, tE, rR, un2_int, rL, zV, zS, zD, simprocAttr] at hE
     have ei : (IVal.rs 3 (B0.length + (l.length + 1)) 0 1) = .rs 3 (B0.length + (l.length + 1)) 0 (i + 1) := by rw [hi0]
     rw [ei] at hE
     obtain ⟨f1, lv', l', wr', h1, h2, h3, h4⟩ := cons R _ (B0.length + (l.length + 1)) (l ++ [.cells Z3]) _ rfl (by simp) (by rw [hi0]; rfl) (by rw [rO]; exact hE) (by
       have h1 := vg (a := a) hw1
       rw [Fa] at h1 hf ⊢
       simp only [rQ, tN, h1, hf]; simp) (by simp) (by first | exact e0 | rfl) (by first | exact e1 | rfl) (by first | exact e3 | rfl) (by first | exact e24 | rfl) (by rfl)
     exact ⟨f1, lv', l', wr', h1, h2, fun h => h3 h, h4⟩
   . have hy1 : ys.length = i * 3 := by omega
     obtain ⟨wr1, u0, hw1⟩ := stp (.rs 3 (B0.length + (l.length + 1)) 0 (i + 1)) (l.set (id - B0.length) .dead ++ [.cells Z3]) (by simp) hy1
     simp only [rO, tP, tQ] at u0
     have qn : ((i : Int) == (i : Int)) = true := by simp
     have qa : (i + 1) * 24 <= 1099511627776 := by omega
     have qb : i + 1 <= 1099511627776 := by omega
     have qc : i * 3 <= ys.length := by omega
     have qd : ys.take (i * 3) = ys := by rw [rX (by omega)]
     have hidl : id < B0.length + l.length := by have := ja hc; rw [rI] at this; exact this
     have sD : ∀ x : IObj, (B0 ++ (l ++ [x])).set id .dead = B0 ++ (l.set (id - B0.length) .dead ++ [x]) := fun x => by
       rw [tY _ _ (by omega), List.set_append_left _ _ (by omega)]
     have hc2 : ∀ x : IObj, (B0 ++ (l ++ [x]))[id]? = some (.cells ys) := fun x => by
       rw [<- rO]; exact jm hc _
     have l2 : (i : Int) < ((i + 1 : Nat) : Int) := by omega
     rw [jc] at hE
     simp only [qC, jd, e0, e1, e3, e24, e25, l0, sA, sD, gA, gB, g0, lA, hc, hc2, qn, qa, qb, qc, qd, l2, d1, w1, u0, t3, tE, rR, un2_int, rL, zV, zS, zD, simprocAttr] at hE
     obtain ⟨f1, lv', l', wr', h1, h2, h3, h4⟩ := cons R _ (B0.length + (l.length + 1)) (l.set (id - B0.length) .dead ++ [.cells Z3]) _ rfl (by simp) hy1 (by rw [rO]; exact hE) (by
       have h1 := vg (a := a) hw1
       rw [Fa] at h1 hf ⊢
       simp only [rQ, tN, h1, hf]; simp) (by simp) (by first | exact e0 | rfl) (by first | exact e1 | rfl) (by first | exact e3 | rfl) (by first | exact e24 | rfl) (by rfl)
     exact ⟨f1, lv', l', wr', h1, h2, fun h => h3 h, h4⟩
theorem jbI (h36 : F 34 = some XF) (h37 : F 35 = some X6) (h33 : F 31 = some Qa) (hw : Way F D) {a o e' most k : Nat} {acs : List IVal} {σ : List IObj} {w : D.W} (hx : σ[D.x]? = some (D.ob w)) (ha : σ[a]? = some (.cells acs)) (ho : acs[o]? = some (.sl e' true [])) (ha1 : a ≠ D.x) (hm2 : most < 10000) (hk : D.ok w (k + 3 * most + 1)) :
   ∃ wr lv' l', cfw F (.f 34) [.iface D.ty D.rv, .ptr a o, I most, .fn (.func 35) [] []] σ = some ⟨false, .tup [], (σ.set D.x (D.ob (growR D (cnt D w most) (D.number w 0 most).1 []).1)).set a (.cells (acs.set o lv')) ++ l', wr⟩ /\ Fa a wr /\ (0 < cnt D w most -> (a, true) ∈ wr) /\ LV 3 σ 3 lv' (cnt D w most) (growR D (cnt D w most) (D.number w 0 most).1 []).2 ((σ.set D.x (D.ob (growR D (cnt D w most) (D.number w 0 most).1 []).1)).set a (.cells (acs.set o lv')) ++ l') := by
 rw [jj XF h36, callI]
 have l0 := ja hx
 have la := ja ha
 have w2 : IntKind.u64.wrap (most : Int) = (most : Int) := jt (by omega) (by omega)
 have w1 : IntKind.u64.wrap (0 : Int) = 0 := rfl
 obtain ⟨wr1, u0, hw1⟩ := hw.number (σ := σ ++ [.cells [Q 0]]) (p := σ.length) (o := 0) (cs := [Q 0]) (n := 0) (most := most) (k := k + 3 * most) (jm hx _) get_app0 rfl hk (by omega)
 have hok := hw.ok_number (n := 0) (most := most) hk
 have hcn : ∃ d, cnt D w most = d /\ d <= most /\ d = min (D.number w 0 most).2 most := ⟨_, rfl, by unfold cnt; omega, rfl⟩
 obtain ⟨d, hd, hd2, hd3⟩ := hcn
 rw [hd]
 generalize hr : D.number w 0 most = r at *
 have hnl : r.2 < 18446744073709551616 := by rw [<- hr]; exact hw.n_number (by decide)
 have u1 : ((σ ++ [IObj.cells [Q 0]]).set D.x (D.ob r.1)).set σ.length (.cells ([Q 0].set 0 (Q r.2))) = σ.set D.x (D.ob r.1) ++ [.cells [Q r.2]] := by
   rw [jF l0]
   have := set_app0 (σ := σ.set D.x (D.ob r.1)) (l := [IObj.cells [Q 0]]) (.cells [Q r.2])
   rw [rF] at this; exact this
 have u0 : cfw F (Cal.f D.f74) [D.rv, IVal.ptr σ.length 0, Q (most : Int)] (σ ++ [IObj.cells [Q 0]]) = some ⟨false, .tup [], σ.set D.x (D.ob r.1) ++ [.cells [Q r.2]], wr1⟩ := by rw [<- u1]; exact u0
 have g2 : (σ.set D.x (D.ob r.1) ++ [IObj.cells [Q r.2]])[σ.length]? = some (.cells [Q r.2]) := by
   have := get_app0 (σ := σ.set D.x (D.ob r.1)) (l := [IObj.cells [Q r.2]])
   rw [rF] at this; exact this
 have t74 := hw.t74
 have mm : IntKind.i64.wrap (if (most : Int) < (r.2 : Int) then (most : Int) else (r.2 : Int)) = (d : Int) := by
   split <;> rw [jP (by omega) (by omega)] <;> omega
 have n0 : ((0 : Nat) : Int) = 0 := rfl
 simp only [XF, jd, ha, ho, w1, w2, t74, u0, g2, mm, n0, vh, jm ha, zV, zS, zD, simprocAttr]
 generalize hE : evw F (ICode.loop qC) _ = R
 have base0 : σ.set D.x (D.ob r.1) ++ [IObj.cells [Q r.2]] = (σ.set D.x (D.ob r.1)).set a (.cells (acs.set o (.sl e' true []))) ++ [IObj.cells [Q r.2]] := by
   rw [qL (get_set ha (tR ha1)) ho]
 rw [base0] at hE
 have f1 : Fl (wr1 ++ [(σ.length, false)]) := by rw [Fl] at hw1 ⊢; rw [rQ, hw1]; rfl
 have hkd : k + 3 * most = k + 3 * (most - d) + 3 * d := by omega
 obtain ⟨f2, lv', l', wr', rfl, hf, hm, hL⟩ := jgw h37 h33 hw la (kJ ho) l0 ha1 (n := d) (by omega) d 0 (k + 3 * (most - d)) _ r.1 _ [] _ _ R hE (by omega) (.inl ⟨rfl, rfl, e', rfl⟩) (hkd ▸ hok) (vg f1) (fun h => absurd h (Nat.lt_irrefl _)) (by rfl) (by rfl) (by rfl) (by rfl) (by rfl)
 simp only [zV, zS, zD, simprocAttr]
 have hmf : 0 < d -> (a, true) ∈ wr'.filter fun p => decide (p.1 < σ.length) := fun h => List.mem_filter.mpr ⟨hm h, by simpa using la⟩
 split
 . rename_i hc
   have hd0 : d = 0 := by
     rcases Nat.eq_zero_or_pos d with h | h
     . exact h
     . rw [rG] at hc
       have := hc _ (hm h); simp at this; omega
   subst hd0
   refine ⟨_, lv', [], by rw [kH, rP], qu hf, hmf, ?_⟩
   rcases hL with ⟨h1, h2, h3⟩ | ⟨h1, _⟩
   . exact .inl ⟨h1, h2, h3⟩
   . exact absurd h1 (Nat.lt_irrefl _)
 . exact ⟨_, lv', l', rfl, qu hf, hmf, hL⟩
end Go.Idl.Sb
namespace Go.Idl.Sb
open Go Go.Idl Go.Idl.En
variable {F : jn} {D : WayD}
def S (D : WayD) (σ : List IObj) (a : Nat) (w : D.W) (cs : List IVal) (l : List IObj) : List IObj := (σ.set D.x (D.ob w)).set a (.cells cs) ++ l
section
variable {σ : List IObj} {a : Nat} {w w' : D.W} {cs cs' : List IVal} {l : List IObj}
theorem S_x (hx : D.x < σ.length) (ha : a < σ.length) (hne : a ≠ D.x) : (S D σ a w cs l)[D.x]? = some (D.ob w) := jm (JU hx ha hne).1 _
theorem S_a (hx : D.x < σ.length) (ha : a < σ.length) (hne : a ≠ D.x) : (S D σ a w cs l)[a]? = some (.cells cs) := jm (JU hx ha hne).2 _
theorem JS (hx : D.x < σ.length) (ha : a < σ.length) (hne : a ≠ D.x) : ((S D σ a w cs l).set D.x (D.ob w')).set a (.cells cs') = S D σ a w' cs' l := by
 rw [S, jF (by simpa using hx), jF (by simpa using ha), jfk hne]; rfl
theorem jhI (hx : σ[D.x]? = some (D.ob w)) (ha : σ[a]? = some (.cells cs)) : S D σ a w cs [] = σ := by rw [S, jx hx, jx ha, rP]
end
abbrev plL (l : List Nat) : List (K × Nat) := l.map fun o => (.pl, o)
abbrev byL (l : List Nat) : List (K × Nat) := l.map fun o => (.byt, o)
abbrev lA : List (K × Nat) := plL [0, 1, 2, 3] ++ (.wd, 4) :: (List.range' 0 8).map fun i => (.wd, 5 + i)
abbrev lB : List (K × Nat) := plL [15]
abbrev lC : List (K × Nat) := byL [17, 18, 19] ++ (JK 20 ++ (JK 29 ++ ((.tr, 38) :: (byL [39, 40] ++ (JX 41 ++ (JX 44 ++ (byL [47, 48, 49] ++ ((.nm, 50) :: (.nm, 51) :: plL [52, 53, 54]))))))))
abbrev lAll : List (K × Nat) := lA ++ (lB ++ lC)
theorem jfW (a b : Nat) (l : List IVal) : ext (.ptr a b :: l) = true := rfl
theorem jip (h34 : F 32 = some Q4) (hw : Way F D) {a : Nat} {σ : List IObj} {l : List IObj} (hx : D.x < σ.length) (ha : a < σ.length) (hne : a ≠ D.x) : ∀ (d i k : Nat) (f0 : Nat -> Option (Nat × IVal)) (w : D.W) (cs : List IVal) (wr : List (Nat × Bool)) (R : Option (IExit × St)),
   evw F (.loop Kn) ⟨E 27 18 6 [] (base f0), S D σ a w cs l, wr⟩ = R -> i + d = 8 -> Ty ((List.range' i d).map fun i => (.wd, 5 + i)) cs -> D.ok w (k + d) -> Fl wr ->
   f0 0 = some (0, .iface D.ty D.rv) -> f0 1 = some (1, .ptr a 0) -> f0 26 = some (26, I i) ->
   ∃ f1 wr', R = some (.exit 0, ⟨E 27 18 6 [] (base f1), S D σ a (jk D ((List.range' i d).map fun i => (.wd, 5 + i)) w cs).1 (jk D ((List.range' i d).map fun i => (.wd, 5 + i)) w cs).2 l, wr'⟩) /\ Fl wr' /\ f1 0 = some (0, .iface D.ty D.rv) /\ f1 1 = some (1, .ptr a 0) := by
 intro d
 induction d with
 | zero =>
   intro i k f0 w cs wr R hE hi hT hk hf e0 e1 e26
   have l0 : decide ((i : Int) < 8) = false := rH (by omega)
   rw [jc] at hE
   subst hE
   simp only [Kn, e0, e1, e26, l0, zV, zS, zD, simprocAttr]
   exact ⟨_, _, rfl, hf, (by first | exact e0 | rfl), (by first | exact e1 | rfl)⟩
 | succ d ih =>
   intro i k f0 w cs wr R hE hi hT hk hf e0 e1 e26
   have l0 : decide ((i : Int) < 8) = true := rE (by omega)
   have l1 : (i : Int) < 8 := by omega
   have n8 : ((8 : Nat) : Int) = 8 := rfl
   have d1 : (0 : Int) <= (i : Int) := by omega
   have w1 := kM (n := i) (by omega)
   rw [List.range'_succ, rU] at hT ⊢
   obtain ⟨v, hv, hvt⟩ := hT (.wd, 5 + i) rT
   simp only [] at hv hvt
   obtain ⟨wr1, u0, hw1⟩ := ZO (k := k + d) h34 hw (S_x (w := w) (cs := cs) (l := l) hx ha hne) (S_a hx ha hne) hv hvt hk hne
   rw [JS hx ha hne] at u0
   rw [jc] at hE
   simp only [Kn, jd, e0, e1, e26, l0, l1, n8, d1, w1, u0, rL, zV, zS, zD, simprocAttr] at hE
   rw [jk, jp hv]
   have T2 : Ty ((List.range' (i + 1) d).map fun i => (.wd, 5 + i)) (cs.set (5 + i) (jO D .wd w v).2) := by
     refine vl (k := .wd) (fun q hq => hT q (rN _ hq)) (vW hw hvt) ?_
     intro q hq _
     obtain ⟨a, _, rfl⟩ := List.mem_map.mp hq
     rfl
   exact ih (i + 1) k _ _ _ _ R hE (by omega) T2 (Je hw hvt hk) (by rw [Fl] at hf hw1 ⊢; simp only [rQ, hf, hw1]; rfl) (by first | exact e0 | rfl) (by first | exact e1 | rfl) (by rfl)
end Go.Idl.Sb
namespace Go.Idl.Sb
open Go Go.Idl Go.Idl.En
variable {F : jn} {D : WayD}
section
variable {σ : List IObj} {a k : Nat} {w : D.W} {cs : List IVal} {l : List IObj}
theorem pS (h33 : F 31 = some Qa) (hw : Way F D) (hx : D.x < σ.length) (ha : a < σ.length) (hne : a ≠ D.x) (os : List Nat) (hlen : os.length < 1000) (hT : Ty (plL os) cs) (hk : D.ok w (k + os.length)) :
   ∃ wr, cfw F (.f 31) [.iface D.ty D.rv, .sl 1 true (Ps a os)] (S D σ a w cs l) = some ⟨false, .tup [], S D σ a (jk D (plL os) w cs).1 (jk D (plL os) w cs).2 l, wr⟩ /\ Fl wr := by
 obtain ⟨wr, h1, h2⟩ := Vh (e := 1) h33 hw (S_x (w := w) (cs := cs) (l := l) hx ha hne) (S_a hx ha hne) hne hlen hT hk
 rw [JS hx ha hne] at h1
 exact ⟨wr, h1, h2⟩
theorem yS (hw : Way F D) (hx : D.x < σ.length) (ha : a < σ.length) (hne : a ≠ D.x) (os : List Nat) (hlen : os.length < 1000) (hT : Ty (byL os) cs) (hk : D.ok w (k + os.length)) :
   ∃ wr, cfw F (.f D.f73) [D.rv, .sl 1 true (Ps a os)] (S D σ a w cs l) = some ⟨false, .tup [], S D σ a (jk D (byL os) w cs).1 (jk D (byL os) w cs).2 l, wr⟩ /\ Fl wr := by
 obtain ⟨wr, h1, h2⟩ := hw.bytes (e := 1) (S_x (w := w) (cs := cs) (l := l) hx ha hne) (S_a hx ha hne) hT hlen hk hne
 rw [JS hx ha hne] at h1
 exact ⟨wr, h1, h2⟩
theorem wS (h34 : F 32 = some Q4) (hw : Way F D) (hx : D.x < σ.length) (ha : a < σ.length) (hne : a ≠ D.x) (o : Nat) (hT : Ty [(.wd, o)] cs) (hk : D.ok w (k + 1)) :
   ∃ wr, cfw F (.f 32) [.iface D.ty D.rv, .ptr a o] (S D σ a w cs l) = some ⟨false, .tup [], S D σ a (jk D [(.wd, o)] w cs).1 (jk D [(.wd, o)] w cs).2 l, wr⟩ /\ Fl wr := by
 obtain ⟨v, ho, hv⟩ := hT _ rT
 obtain ⟨wr, h1, h2⟩ := ZO h34 hw (S_x (w := w) (cs := cs) (l := l) hx ha hne) (S_a hx ha hne) ho hv hk hne
 rw [JS hx ha hne] at h1
 rw [jk, jp ho]
 exact ⟨wr, h1, h2⟩
theorem qS (h38 : F 36 = some jaG) (h33 : F 31 = some Qa) (hw : Way F D) (hx : D.x < σ.length) (ha : a < σ.length) (hne : a ≠ D.x) (o : Nat) (hT : Ty (JK o) cs) (hk : D.ok w (k + 9)) :
   ∃ wr, cfw F (.f 36) [.iface D.ty D.rv, .ptr a o] (S D σ a w cs l) = some ⟨false, .tup [], S D σ a (jk D (JK o) w cs).1 (jk D (JK o) w cs).2 l, wr⟩ /\ Fl wr := by
 obtain ⟨wr, h1, h2⟩ := jgV h38 h33 hw (S_x (w := w) (cs := cs) (l := l) hx ha hne) (S_a hx ha hne) hT hk hne
 rw [JS hx ha hne] at h1
 exact ⟨wr, h1, h2⟩
theorem cS (h39 : F 37 = some jaH) (hw : Way F D) (hx : D.x < σ.length) (ha : a < σ.length) (hne : a ≠ D.x) (o : Nat) (hT : Ty (JX o) cs) (hk : D.ok w (k + 3)) :
   ∃ wr, cfw F (.f 37) [.iface D.ty D.rv, .ptr a o] (S D σ a w cs l) = some ⟨false, .tup [], S D σ a (jk D (JX o) w cs).1 (jk D (JX o) w cs).2 l, wr⟩ /\ Fl wr := by
 obtain ⟨wr, h1, h2⟩ := jfK h39 hw (S_x (w := w) (cs := cs) (l := l) hx ha hne) (S_a hx ha hne) hT hk hne
 rw [JS hx ha hne] at h1
 exact ⟨wr, h1, h2⟩
theorem tS (hw : Way F D) (hx : D.x < σ.length) (ha : a < σ.length) (hne : a ≠ D.x) (o : Nat) (hT : Ty [(.tr, o)] cs) (hk : D.ok w (k + 1)) :
   ∃ wr, cfw F (.f D.f75) [D.rv, .ptr a o] (S D σ a w cs l) = some ⟨false, .tup [], S D σ a (jk D [(.tr, o)] w cs).1 (jk D [(.tr, o)] w cs).2 l, wr⟩ /\ Fl wr := by
 obtain ⟨v, ho, b, rfl⟩ := hT _ rT
 obtain ⟨wr, h1, h2⟩ := hw.truth (S_x (w := w) (cs := cs) (l := l) hx ha hne) (S_a hx ha hne) ho hk hne
 rw [JS hx ha hne] at h1
 rw [jk, jp ho]
 exact ⟨wr, h1, h2⟩
theorem nS (hw : Way F D) (hx : D.x < σ.length) (ha : a < σ.length) (hne : a ≠ D.x) (o : Nat) (hT : Ty [(.nm, o)] cs) (hk : D.ok w (k + 1)) :
   ∃ wr, cfw F (.f D.f74) [D.rv, .ptr a o, .int .u64 1152921504606846975] (S D σ a w cs l) = some ⟨false, .tup [], S D σ a (jk D [(.nm, o)] w cs).1 (jk D [(.nm, o)] w cs).2 l, wr⟩ /\ Fl wr := by
 obtain ⟨v, ho, n, rfl, hn⟩ := hT _ rT
 obtain ⟨wr, h1, h2⟩ := hw.number (most := 1152921504606846975) (S_x (w := w) (cs := cs) (l := l) hx ha hne) (S_a hx ha hne) ho hk hne
 rw [JS hx ha hne] at h1
 rw [jk, jp ho]
 exact ⟨wr, h1, h2⟩
theorem zk (hw : Way F D) {l1 l2 L : List (K × Nat)} (h : Ty L cs) (h1 : ∀ q ∈ l1, q ∈ L) (h2 : ∀ q ∈ l2, q ∈ L) (hs : ∀ q ∈ L, ∀ r ∈ L, q.2 = r.2 -> q.1 = r.1) (hk : D.ok w (k + l1.length)) : Ty l1 cs /\ Ty L (jk D l1 w cs).2 /\ D.ok (jk D l1 w cs).1 k :=
 ⟨jI h h1, kZ hw _ _ _ h (jI h h1) (fun q hq r hr => hs q hq r (h1 r hr)) (fun q hq r hr => hs q (h1 q hq) r (h1 r hr)), kv hw _ _ _ k (jI h h1) (fun q hq r hr => hs q (h1 q hq) r (h1 r hr)) hk⟩
end
theorem jz : ∀ q ∈ lAll, ∀ r ∈ lAll, q.2 = r.2 -> q.1 = r.1 := by decide
end Go.Idl.Sb
namespace Go.Idl.Sb
open Go Go.Idl Go.Idl.En
variable {F : jn} {D : WayD}
theorem qF {L : List (K × Nat)} {cs : List IVal} {o : Nat} {v : IVal} (h : Ty L cs) (hd : ∀ q ∈ L, q.2 ≠ o) : Ty L (cs.set o v) := by
 intro q hq
 obtain ⟨u, hu, hk⟩ := h q hq
 exact ⟨u, by rw [rD (fun e => hd q hq e.symm)]; exact hu, hk⟩
theorem qG {a : Nat} {x y : List (Nat × Bool)} (hx : Fa a x) (hy : Fa a y) : Fa a (x ++ y) := by rw [Fa] at hx hy ⊢; rw [rQ, hx, hy]; rfl
set_option maxHeartbeats 2000000 in
theorem jcC (h18 : F 12 = some jcZ) (h33 : F 31 = some Qa) (h34 : F 32 = some Q4) (h38 : F 36 = some jaG) (h39 : F 37 = some jaH) (hw : Way F D) {σ : List IObj} {a k : Nat} {w w1 w2 w3 : D.W} {cs : List IVal} {v1 v2 v3 : IVal} {l1 l2 l3 : List IObj} {wr1 wr2 wr3 : List (Nat × Bool)} {wf : D.W} {cf : List IVal}
   (hx : σ[D.x]? = some (D.ob w)) (ha : σ[a]? = some (.cells cs)) (hne : a ≠ D.x) (hT : Ty lAll cs) (k0 : D.ok w (k + 13))
   (h13 : cfw F (.f 33) [.iface D.ty D.rv, .ptr a 13, I 512, .fn (.func 32) [] []] (S D σ a (jk D lA w cs).1 (jk D lA w cs).2 []) = some ⟨false, .tup [], S D σ a w1 ((jk D lA w cs).2.set 13 v1) l1, wr1⟩) (f1 : Fa a wr1)
   (h14 : cfw F (.f 33) [.iface D.ty D.rv, .ptr a 14, I 8000, .fn (.func 32) [] []] (S D σ a w1 ((jk D lA w cs).2.set 13 v1) l1) = some ⟨false, .tup [], S D σ a w2 (((jk D lA w cs).2.set 13 v1).set 14 v2) l2, wr2⟩) (f2 : Fa a wr2) (k2 : D.ok w2 (k + 1))
   (h16 : cfw F (.f 34) [.iface D.ty D.rv, .ptr a 16, I 8, .fn (.func 35) [] []] (S D σ a (jk D lB w2 (((jk D lA w cs).2.set 13 v1).set 14 v2)).1 (jk D lB w2 (((jk D lA w cs).2.set 13 v1).set 14 v2)).2 l2) = some ⟨false, .tup [], S D σ a w3 ((jk D lB w2 (((jk D lA w cs).2.set 13 v1).set 14 v2)).2.set 16 v3) l3, wr3⟩) (f3 : Fa a wr3) (k3 : D.ok w3 (k + 38)) (hfin : jk D lC w3 ((jk D lB w2 (((jk D lA w cs).2.set 13 v1).set 14 v2)).2.set 16 v3) = (wf, cf)) :
   ∃ wr, (∀ q, (q ∈ wr1 \/ q ∈ wr2 \/ q ∈ wr3) -> q ∈ wr) /\ Fa a wr /\ cfw F (.f 12) [.iface D.ty D.rv, .ptr a 0] σ = some (if wr.all (fun p => !p.2 || decide (σ.length <= p.1)) = true then ⟨false, .tup [], (S D σ a wf cf l3).take σ.length, wr.filter fun p => decide (p.1 < σ.length)⟩ else ⟨false, .tup [], S D σ a wf cf l3, wr.filter fun p => decide (p.1 < σ.length)⟩) := by
 rw [jj jcZ h18, callI]
 have lx := ja hx
 have la := ja ha
 have hs := jz
 have s0 : S D σ a w cs [] = σ := jhI hx ha
 obtain ⟨T1, L1, k1⟩ := zk hw (k := k + 9) (l1 := plL [0, 1, 2, 3]) (l2 := []) hT (by decide) (by decide) hs k0
 obtain ⟨u1, e1, g1⟩ := pS (l := []) (k := k + 9) h33 hw lx la hne [0, 1, 2, 3] (by decide) T1 k0
 rw [s0] at e1
 have e1 : cfw F (.f 31) [.iface D.ty D.rv, .sl 1 true [.ptr a 0, .ptr a 1, .ptr a 2, .ptr a 3]] σ = _ := e1
 have eA : jk D lA w cs = jk D ((List.range' 0 8).map fun i => (.wd, 5 + i)) (jk D [(.wd, 4)] (jk D (plL [0, 1, 2, 3]) w cs).1 (jk D (plL [0, 1, 2, 3]) w cs).2).1 (jk D [(.wd, 4)] (jk D (plL [0, 1, 2, 3]) w cs).1 (jk D (plL [0, 1, 2, 3]) w cs).2).2 := by
   rw [lA, kl]; rfl
 generalize hr1 : jk D (plL [0, 1, 2, 3]) w cs = r1 at *
 obtain ⟨T2, L2, k2'⟩ := zk hw (k := k + 8) (l1 := [(.wd, 4)]) (l2 := []) L1 (by decide) (by decide) hs k1
 obtain ⟨u2, e2, g2⟩ := wS (l := []) (k := k + 8) h34 hw lx la hne 4 T2 k1
 generalize hr2 : jk D [(.wd, 4)] r1.1 r1.2 = r2 at *
 obtain ⟨T3, L3, k3'⟩ := zk hw (k := k) (l1 := (List.range' 0 8).map fun i => (.wd, 5 + i)) (l2 := []) L2 (by decide) (by decide) hs k2'
 have x1 : ∀ (b : Nat) (l : List IVal), ext (.ptr a b :: l) = true := fun b l => jfW a b l
 simp only [jcZ, x1, e1, e2, zV, zS, zD, simprocAttr]
 generalize hE : evw F (ICode.loop Kn) _ = R
 obtain ⟨f9, wr9, rfl, g9, z0, z1⟩ := jip h34 hw lx la hne 8 0 k _ _ _ _ R hE rfl T3 k2' (by rw [Fl] at g1 g2 ⊢; simp only [rQ, g1, g2]; rfl) (by rfl) (by rfl) (by rfl)
 rw [<- eA] at L3 ⊢
 generalize hrA : jk D lA w cs = rA at *
 have M1 : Ty lAll ((rA.2.set 13 v1).set 14 v2) := qF (qF L3 (by decide)) (by decide)
 obtain ⟨T4, L4, k4⟩ := zk hw (k := k) (l1 := plL [15]) (l2 := []) M1 (by decide) (by decide) hs k2
 obtain ⟨u4, e4, g4⟩ := pS (l := l2) (k := k) h33 hw lx la hne [15] (by decide) T4 k2
 have e4 : cfw F (.f 31) [.iface D.ty D.rv, .sl 1 true [.ptr a 15]] (S D σ a w2 ((rA.2.set 13 v1).set 14 v2) l2) = _ := e4
 generalize hr4 : jk D (plL [15]) w2 ((rA.2.set 13 v1).set 14 v2) = r4 at *
 have M2 : Ty lAll (r4.2.set 16 v3) := qF L4 (by decide)
 generalize r4.2.set 16 v3 = c3 at *
 obtain ⟨T5, L5, k5⟩ := zk hw (k := k + 35) (l1 := byL [17, 18, 19]) (l2 := []) M2 (by decide) (by decide) hs k3
 obtain ⟨u5, e5, g5⟩ := yS (l := l3) (k := k + 35) hw lx la hne [17, 18, 19] (by decide) T5 k3
 have e5 : cfw F (.f D.f73) [D.rv, .sl 1 true [.ptr a 17, .ptr a 18, .ptr a 19]] (S D σ a w3 c3 l3) = _ := e5
 have eC1 : jk D lC w3 c3 = jk D (JK 20 ++ (JK 29 ++ ((.tr, 38) :: (byL [39, 40] ++ (JX 41 ++ (JX 44 ++ (byL [47, 48, 49] ++ ((.nm, 50) :: (.nm, 51) :: plL [52, 53, 54])))))))) (jk D (byL [17, 18, 19]) w3 c3).1 (jk D (byL [17, 18, 19]) w3 c3).2 := kl _ _ _ _
 rw [eC1] at hfin
 generalize hr5 : jk D (byL [17, 18, 19]) w3 c3 = r5 at *
 obtain ⟨T6, L6, k6⟩ := zk hw (k := k + 26) (l1 := JK 20) (l2 := []) L5 (by decide) (by decide) hs k5
 obtain ⟨u6, e6, g6⟩ := qS (l := l3) (k := k + 26) h38 h33 hw lx la hne 20 T6 k5
 rw [kl (JK 20)] at hfin
 generalize hr6 : jk D (JK 20) r5.1 r5.2 = r6 at *
 obtain ⟨T7, L7, k7⟩ := zk hw (k := k + 17) (l1 := JK 29) (l2 := []) L6 (by decide) (by decide) hs k6
 obtain ⟨u7, e7, g7⟩ := qS (l := l3) (k := k + 17) h38 h33 hw lx la hne 29 T7 k6
 rw [kl (JK 29)] at hfin
 generalize hr7 : jk D (JK 29) r6.1 r6.2 = r7 at *
 obtain ⟨T8, L8, k8⟩ := zk hw (k := k + 16) (l1 := [(.tr, 38)]) (l2 := []) L7 (by decide) (by decide) hs k7
 obtain ⟨u8, e8, g8⟩ := tS (l := l3) (k := k + 16) hw lx la hne 38 T8 k7
 have eC2 : ∀ (r : List (K × Nat)), jk D ((.tr, 38) :: r) r7.1 r7.2 = jk D r (jk D [(.tr, 38)] r7.1 r7.2).1 (jk D [(.tr, 38)] r7.1 r7.2).2 := fun r => kl [(.tr, 38)] r _ _
 rw [eC2] at hfin
 generalize hr8 : jk D [(.tr, 38)] r7.1 r7.2 = r8 at *
 obtain ⟨T9, L9, k9⟩ := zk hw (k := k + 14) (l1 := byL [39, 40]) (l2 := []) L8 (by decide) (by decide) hs k8
 obtain ⟨u9, e9, g9'⟩ := yS (l := l3) (k := k + 14) hw lx la hne [39, 40] (by decide) T9 k8
 have e9 : cfw F (.f D.f73) [D.rv, .sl 1 true [.ptr a 39, .ptr a 40]] (S D σ a r8.1 r8.2 l3) = _ := e9
 rw [kl (byL [39, 40])] at hfin
 generalize hr9 : jk D (byL [39, 40]) r8.1 r8.2 = r9 at *
 obtain ⟨T10, L10, k10⟩ := zk hw (k := k + 11) (l1 := JX 41) (l2 := []) L9 (by decide) (by decide) hs k9
 obtain ⟨u10, e10, g10⟩ := cS (l := l3) (k := k + 11) h39 hw lx la hne 41 T10 k9
 rw [kl (JX 41)] at hfin
 generalize hr10 : jk D (JX 41) r9.1 r9.2 = r10 at *
 obtain ⟨T11, L11, k11⟩ := zk hw (k := k + 8) (l1 := JX 44) (l2 := []) L10 (by decide) (by decide) hs k10
 obtain ⟨u11, e11, g11⟩ := cS (l := l3) (k := k + 8) h39 hw lx la hne 44 T11 k10
 rw [kl (JX 44)] at hfin
 generalize hr11 : jk D (JX 44) r10.1 r10.2 = r11 at *
 obtain ⟨T12, L12, k12⟩ := zk hw (k := k + 5) (l1 := byL [47, 48, 49]) (l2 := []) L11 (by decide) (by decide) hs k11
 obtain ⟨u12, e12, g12⟩ := yS (l := l3) (k := k + 5) hw lx la hne [47, 48, 49] (by decide) T12 k11
 have e12 : cfw F (.f D.f73) [D.rv, .sl 1 true [.ptr a 47, .ptr a 48, .ptr a 49]] (S D σ a r11.1 r11.2 l3) = _ := e12
 rw [kl (byL [47, 48, 49])] at hfin
 generalize hr12 : jk D (byL [47, 48, 49]) r11.1 r11.2 = r12 at *
 obtain ⟨T13, L13, k13⟩ := zk hw (k := k + 4) (l1 := [(.nm, 50)]) (l2 := []) L12 (by decide) (by decide) hs k12
 obtain ⟨u13, e13, g13⟩ := nS (l := l3) (k := k + 4) hw lx la hne 50 T13 k12
 have eC3 : ∀ (r : List (K × Nat)), jk D ((.nm, 50) :: r) r12.1 r12.2 = jk D r (jk D [(.nm, 50)] r12.1 r12.2).1 (jk D [(.nm, 50)] r12.1 r12.2).2 := fun r => kl [(.nm, 50)] r _ _
 rw [eC3] at hfin
 generalize hr13 : jk D [(.nm, 50)] r12.1 r12.2 = r13 at *
 obtain ⟨T14, L14, k14⟩ := zk hw (k := k + 3) (l1 := [(.nm, 51)]) (l2 := []) L13 (by decide) (by decide) hs k13
 obtain ⟨u14, e14, g14⟩ := nS (l := l3) (k := k + 3) hw lx la hne 51 T14 k13
 have eC4 : ∀ (r : List (K × Nat)), jk D ((.nm, 51) :: r) r13.1 r13.2 = jk D r (jk D [(.nm, 51)] r13.1 r13.2).1 (jk D [(.nm, 51)] r13.1 r13.2).2 := fun r => kl [(.nm, 51)] r _ _
 rw [eC4] at hfin
 generalize hr14 : jk D [(.nm, 51)] r13.1 r13.2 = r14 at *
 obtain ⟨T15, L15, k15⟩ := zk hw (k := k) (l1 := plL [52, 53, 54]) (l2 := []) L14 (by decide) (by decide) hs k14
 obtain ⟨u15, e15, g15⟩ := pS (l := l3) (k := k) h33 hw lx la hne [52, 53, 54] (by decide) T15 k14
 have e15 : cfw F (.f 31) [.iface D.ty D.rv, .sl 1 true [.ptr a 52, .ptr a 53, .ptr a 54]] (S D σ a r14.1 r14.2 l3) = _ := e15
 generalize hr15 : jk D (plL [52, 53, 54]) r14.1 r14.2 = r15 at *
 have t73 := hw.t73
 have t74 := hw.t74
 have t75 := hw.t75
 have n0 := hw.nil
 have dd : decide ((0 : Int) < 2) = true := rfl
 simp only [x1, z0, z1, h13, h14, h16, e4, e5, e6, e7, e8, e9, e10, e11, e12, e13, e14, e15, t73, t74, t75, n0, vh, zV, zS, zD, simprocAttr]
 have e1 : r15.1 = wf := by rw [hfin]
 have e2 : r15.2 = cf := by rw [hfin]
 rw [e1, e2]
 refine ⟨_, ?_, ?_, rfl⟩
 . intro q hq
   simp only [List.mem_append]
   rcases hq with h | h | h <;> simp [h]
 . exact qG (vg g15) (qG (vg g14) (qG (vg g13) (qG (vg g12) (qG (vg g11) (qG (vg g10) (qG (vg g9') (qG (vg g8) (qG (vg g7) (qG (vg g6) (qG (vg g5) (qG f3 (qG (vg g4) (qG f2 (qG f1 (vg g9)))))))))))))))
end Go.Idl.Sb
namespace Go.Idl.Sb
open Go Go.Idl Go.Idl.En
variable {F : jn}
theorem za {cs : List IVal} {o : Nat} {v : IVal} (ho : cs[o]? = some v) : cs.set o v = cs := by
 have h2 := kJ ho
 rw [rJ (by omega)] at ho; cases ho
 exact List.set_getElem_self _
def DL (x : Nat) : WayD where
 W := La
 ob := La.ob
 x := x
 ty := 64
 rv := .ptr x 0
 f73 := 99
 f74 := 100
 f75 := 101
 f76 := 102
 ok := fun w k => w.bs.length + 8 * k < 880000
 whole := fun w n lo hi => (w.whole n lo hi, n)
 number := fun w n most => (w.number n most, n)
 truth := fun w b => (w.truth b, b)
 byte := fun w n => (w.byte n, n)
theorem KC (n : Nat) : (nb n).length <= 8 := by
 rw [jbU]; rcases Jc n with e | e | e | e <;> rw [e] <;> decide
theorem qI {x : Nat} : ∀ (l : List (K × Nat)) (w : (DL x).W) (cs : List IVal), Ty l cs -> (jk (DL x) l w cs).2 = cs := by
 intro l
 induction l with
 | nil => intro w cs _; rfl
 | cons q l ih =>
   intro w cs hT
   obtain ⟨k, o⟩ := q
   obtain ⟨v, ho, hv⟩ := hT _ rT
   simp only [] at ho hv
   rw [jk, jp ho]
   have e : (jO (DL x) k w v).2 = v := by
     cases k with
     | pl => obtain ⟨n, rfl, _⟩ := hv; rfl
     | wd => obtain ⟨n, rfl, h1, h2⟩ := hv; show IVal.int .i32 (IntKind.i32.wrap n) = _; rw [jjk h1 h2]
     | byt => obtain ⟨n, rfl, _⟩ := hv; rfl
     | tr => obtain ⟨b, rfl⟩ := hv; rfl
     | hf => obtain ⟨n, rfl, hn⟩ := hv; show IVal.int .u16 (IntKind.u16.wrap (n : Int)) = _; rw [jfu]; congr 1; omega
     | nm => obtain ⟨n, rfl, _⟩ := hv; rfl
   simp only [e]
   rw [za ho]
   exact ih _ _ (fun q hq => hT q (rN _ hq))
theorem jaY {x : Nat} : ∀ (os : List Nat) (w : (DL x).W) (cs : List IVal), Ty (os.map fun o => (.byt, o)) cs -> (jk (DL x) (os.map fun o => (.byt, o)) w cs).1 = La.bytes w cs os := by
 intro os
 induction os with
 | nil => intro w cs _; rfl
 | cons o os ih =>
   intro w cs hT
   obtain ⟨v, ho, n, rfl, hn⟩ := hT (.byt, o) (by simp)
   simp only [] at ho
   rw [rU, jk, jp ho]
   have e2 : ∀ w : La, La.bytes w cs (o :: os) = La.bytes (La.byte w n) cs os := fun w => by rw [La.bytes, ho]; rfl
   refine Eq.trans ?_ (e2 w).symm
   have e : (jO (DL x) .byt w (B n)) = (La.byte w n, B n) := rfl
   rw [e]
   simp only []
   rw [za ho]
   exact ih _ _ (fun q hq => hT q (by rw [rU]; exact rN _ hq))
theorem jkU (h73 : F 99 = some jhs) (h74 : F 100 = some Z8) (h75 : F 101 = some Z9) (h76 : F 102 = some jaa) (h77 : F 103 = some QZ) (h78 : F 104 = some XW) (h79 : F 105 = some XX) (h80 : F 106 = some yU) (h81 : F 107 = some yf) (x : Nat) : Way F (DL x) where
 t73 := rfl
 t74 := rfl
 t75 := rfl
 t76 := rfl
 nil := fun n => by
   show Yh [64, 128] n (.fn (.method n) [.iface 64 (.ptr x 0)] []) = _
   rw [Yh, if_pos ⟨rfl, rfl, rfl⟩]; rfl
 whole := fun {σ p o cs n lo hi w k} hx hp ho hn hk hne => by
   have hk : w.bs.length + 8 * (k + 1) < 880000 := hk
   obtain ⟨wr, h1, h2⟩ := jbD (lo := lo) (hi := hi) h76 h79 h77 h80 h81 hx hp ho hn (by omega) hne
   refine ⟨wr, ?_, zy h2⟩
   have : (σ.set x (w.whole n lo hi).ob).set p (.cells (cs.set o (I n))) = σ.set x (w.whole n lo hi).ob := qL (get_set hp (tR hne)) ho
   show _ = some (Out.mk false (.tup []) ((σ.set x (w.whole n lo hi).ob).set p (.cells (cs.set o (I n)))) wr)
   rw [this]; exact h1
 number := fun {σ p o cs n most w k} hx hp ho hk hne => by
   have hk : w.bs.length + 8 * (k + 1) < 880000 := hk
   obtain ⟨wr, h1, h2⟩ := jaf (most := most) h74 h77 h80 h81 hx hp ho (by omega) hne
   refine ⟨wr, ?_, zy h2⟩
   have : (σ.set x (w.number n most).ob).set p (.cells (cs.set o (Q n))) = σ.set x (w.number n most).ob := qL (get_set hp (tR hne)) ho
   show _ = some (Out.mk false (.tup []) ((σ.set x (w.number n most).ob).set p (.cells (cs.set o (Q n)))) wr)
   rw [this]; exact h1
 truth := fun {σ p o cs b w k} hx hp ho hk hne => by
   have hk : w.bs.length + 8 * (k + 1) < 880000 := hk
   obtain ⟨wr, h1, h2⟩ := jbC h75 h78 hx hp ho (by omega) hne
   refine ⟨wr, ?_, zy h2⟩
   have : (σ.set x (w.truth b).ob).set p (.cells (cs.set o (.bool b))) = σ.set x (w.truth b).ob := qL (get_set hp (tR hne)) ho
   show _ = some (Out.mk false (.tup []) ((σ.set x (w.truth b).ob).set p (.cells (cs.set o (.bool b)))) wr)
   rw [this]; exact h1
 bytes := fun {σ p e cs os w k} hx hp hT hl hk hne => by
   have hk : w.bs.length + 8 * (k + os.length) < 880000 := hk
   have hos : ∀ o ∈ os, ∃ v, cs[o]? = some v /\ isB v := fun o ho => hT (.byt, o) (List.mem_map.mpr ⟨o, ho, rfl⟩)
   obtain ⟨wr, h1, h2⟩ := jbB (e := e) h73 hp hx hne hos hl (by omega)
   refine ⟨wr, ?_, zy h2⟩
   have r1 := qI (x := x) _ w _ hT
   have r2 := jaY (x := x) os w _ hT
   rw [r1, r2]
   have : (σ.set x (w.bytes cs os).ob).set p (.cells cs) = σ.set x (w.bytes cs os).ob := jx (get_set hp (tR hne))
   show _ = some (Out.mk false (.tup []) ((σ.set x (w.bytes cs os).ob).set p (.cells cs)) wr)
   rw [this]; exact h1
 ok_whole := fun {w k n lo hi} h => by
   have h : w.bs.length + 8 * (k + 1) < 880000 := h
   show (w.bs ++ nb _).length + 8 * k < 880000
   rw [rI]; have := KC (zz n % 4611686018427387904); omega
 ok_number := fun {w k n most} h => by
   have h : w.bs.length + 8 * (k + 1) < 880000 := h
   show (w.bs ++ nb _).length + 8 * k < 880000
   rw [rI]; have := KC (n % 4611686018427387904); omega
 ok_truth := fun {w k b} h => by
   have h : w.bs.length + 8 * (k + 1) < 880000 := h
   show (w.bs ++ [_]).length + 8 * k < 880000
   rw [rI, List.length_singleton]; omega
 ok_byte := fun {w k n} h => by
   have h : w.bs.length + 8 * (k + 1) < 880000 := h
   show (w.bs ++ [_]).length + 8 * k < 880000
   rw [rI, List.length_singleton]; omega
 ok_mono := fun {w k} h => by
   have h : w.bs.length + 8 * (k + 1) < 880000 := h
   show w.bs.length + 8 * k < 880000
   omega
 i_whole := fun h => h
 n_number := fun h => h
 b_byte := fun h => h
def DR (s : List UInt8) (x : Nat) : WayD where
 W := Re
 ob := Re.ob s
 x := x
 ty := 128
 rv := .agg [.ptr x 0]
 f73 := 112
 f74 := 113
 f75 := 114
 f76 := 115
 ok := fun w _ => w.pos <= s.length /\ s.length < 1000000
 whole := fun w n lo hi => w.whole s n lo hi
 number := fun w n most => w.number s n most
 truth := fun w _ => w.t s
 byte := fun w _ => w.b s
theorem jjN {s : List UInt8} {w : Re} (hp : w.pos <= s.length) : (w.t s).1.pos <= s.length := by
 rw [Re.t]
 split
 . exact hp
 . split
   . exact hp
   . rename_i c hc
     have h1 : w.pos < s.length := by
       rcases Nat.lt_or_ge w.pos s.length with h | h
       . exact h
       . rw [rY h] at hc; cases hc
     split
     . exact hp
     . exact h1
theorem jj6 (s : List UInt8) (w : Re) : (w.b s).2 < 256 := by
 rw [Re.b]; split
 . show 0 < 256; decide
 . split
   . show 0 < 256; decide
   . exact UInt8.toNat_lt _
theorem jeE {m : Nat} (h : m < 4611686018427387904) : i64 (JD m) := by
 unfold JD
 split
 . exact ⟨by omega, by omega⟩
 . exact ⟨by omega, by omega⟩
theorem ZU {s : List UInt8} {x : Nat} : ∀ (os : List Nat) (w : (DR s x).W) (cs : List IVal), Ty (os.map fun o => (.byt, o)) cs -> jk (DR s x) (os.map fun o => (.byt, o)) w cs = Re.bytes s w cs os := by
 intro os
 induction os with
 | nil => intro w cs _; rfl
 | cons o os ih =>
   intro w cs hT
   obtain ⟨v, ho, n, rfl, hn⟩ := hT (.byt, o) (by simp)
   simp only [] at ho
   rw [rU, jk, jp ho]
   have e2 : ∀ w : Re, Re.bytes s w cs (o :: os) = Re.bytes s (Re.b s w).1 (cs.set o (B (Re.b s w).2)) os := fun w => rfl
   refine Eq.trans ?_ (e2 w).symm
   have e : (jO (DR s x) .byt w (B n)) = ((Re.b s w).1, B (Re.b s w).2) := rfl
   rw [e]
   refine ih _ _ ?_
   have hT2 : Ty (os.map fun o => (.byt, o)) cs := fun q hq => hT q (by rw [rU]; exact rN _ hq)
   refine vl (k := .byt) hT2 ⟨_, rfl, jj6 s w⟩ ?_
   . intro q hq _
     obtain ⟨a, _, rfl⟩ := List.mem_map.mp hq; rfl
theorem jkV (h83 : F 112 = some XY) (h84 : F 113 = some VT) (h85 : F 114 = some XZ) (h86 : F 115 = some X0) (h40 : F 61 = some K3) (h41 : F 62 = some Qx) (h42 : F 63 = some Zf) (h80 : F 106 = some yU) (h81 : F 107 = some yf) (h82 : F 111 = some Jp) (h87 : F 116 = some vK) (h88 : F 117 = some Q0) (h89 : F 118 = some Kk) (h90 : F 119 = some Kl) (h91 : F 120 = some Km) (h92 : F 121 = some VU) (h93 : F 122 = some Jq) (s : List UInt8) (x : Nat) : Way F (DR s x) where
 t73 := rfl
 t74 := rfl
 t75 := rfl
 t76 := rfl
 nil := fun n => by
   show Yh [64, 128] n (.fn (.method n) [.iface 128 (.agg [.ptr x 0])] []) = _
   rw [Yh, if_pos ⟨rfl, rfl, rfl⟩]; rfl
 whole := fun {σ p o cs n lo hi w k} hx hp ho hn hk hne => jap (lo := lo) (hi := hi) h86 h92 h88 h90 h42 h89 h87 h40 h93 h41 h80 h81 hx hp ho hk.2 hk.1 hne
 number := fun {σ p o cs n most w k} hx hp ho hk hne => Ys (most := most) h84 h88 h90 h42 h89 h87 h40 h93 h41 h80 h81 hx hp ho hk.2 hk.1 hne
 truth := fun {σ p o cs b w k} hx hp ho hk hne => jao h85 h91 h82 h87 h40 h41 hx hp ho hk.2 hk.1 hne
 bytes := fun {σ p e cs os w k} hx hp hT hl hk hne => by
   have hos : ∀ o ∈ os, o < cs.length := fun o ho => by
     obtain ⟨v, h, _⟩ := hT (.byt, o) (List.mem_map.mpr ⟨o, ho, rfl⟩)
     exact kJ h
   obtain ⟨wr, h1, h2⟩ := jan (e := e) h83 h82 h87 h40 h41 hx hp hk.2 hk.1 hne hos hl
   refine ⟨wr, ?_, h2⟩
   have r1 := ZU (s := s) (x := x) os w _ hT
   rw [r1]; exact h1
 ok_whole := fun {w k n lo hi} h => ⟨by show ((w.u s).1.within _ _).pos <= _; rw [QN]; exact jjf h.1, h.2⟩
 ok_number := fun {w k n most} h => ⟨by show ((w.u s).1.within _ _).pos <= _; rw [QN]; exact jjf h.1, h.2⟩
 ok_truth := fun {w k b} h => ⟨jjN h.1, h.2⟩
 ok_byte := fun {w k n} h => ⟨jhT h.1, h.2⟩
 ok_mono := fun h => h
 i_whole := fun {w n lo hi} h => by
   show i64 (if _ then n else JD (Re.u s w).2)
   have h2 := jje s w
   generalize (Re.u s w).2 = m at *
   split
   . exact h
   . exact jeE h2
 n_number := fun {w n most} h => by
   show (if _ then n else (Re.u s w).2) < _
   have h2 := jje s w
   generalize (Re.u s w).2 = m at *
   split
   . exact h
   . omega
 b_byte := fun {w n} h => jj6 s w
end Go.Idl.Sb
namespace Go.Idl.Sb
open Go Go.Idl Go.Idl.En
variable {F : jn}
def LW (σ : List IObj) (v : IVal) (zs : List Int) : Prop := (∃ o r, v = .sl o r (zs.map J)) \/ (∃ id, v = .rs 1 id 0 zs.length /\ σ[id]? = some (.cells (zs.map J)))
def LC (esz n0 : Nat) (lv : IVal) (n : Nat) (ys : List IVal) (σ : List IObj) : Prop := (n = 0 /\ ys = [] /\ ∃ e', lv = .sl e' true []) \/ (∃ id, lv = .rs esz id 0 n /\ n0 <= id /\ σ[id]? = some (.cells ys))
theorem jeZ (zs : List Int) : ((zs.map J).flatMap fun v => (un2 v).cells) = zs.map J := by
 induction zs with
 | nil => rfl
 | cons z zs ih => rw [rU, rR, ih]; rfl
theorem jhO (zs : List Int) : (zs.map J).all (fun v => v.cells.length == 1) = true := by simp [cells_int]
theorem ja2 (h : F 29 = some jbt) {v : IVal} {zs : List Int} {σ : List IObj} (hL : LW σ v zs) (hz : zs.length < 100000) :
   ∃ lv e, cfw F (.f 29) [v] σ = some ⟨false, lv, σ ++ e, []⟩ /\ LC 1 σ.length lv zs.length (zs.map J) (σ ++ e) := by
 rw [jj jbt h, callI]
 have q1 : zs.length * 4 <= 1099511627776 := by omega
 have q2 : zs.length <= 1099511627776 := by omega
 rcases hL with ⟨o, r, rfl⟩ | ⟨id, rfl, hid⟩
 . cases zs with
   | nil =>
     cases r with
     | true =>
       simp only [jbt, List.map_nil, tne, zV, zS, zD, simprocAttr]
       exact ⟨_, [], by rw [rP], .inl ⟨rfl, rfl, 1, rfl⟩⟩
     | false =>
       simp only [jbt, List.map_nil, tne, zV, zS, zD, simprocAttr]
       exact ⟨_, _, rfl, .inr ⟨_, rfl, by omega, by rw [rV (by omega)]; simp⟩⟩
   | cons z zs =>
     have f1 := jeZ (z :: zs)
     have a1 := jhO (z :: zs)
     rw [rU] at f1 a1
     rw [tI] at q1 q2
     simp only [jbt, tne, f1, a1, q1, q2, zV, zS, zD, simprocAttr]
     exact ⟨_, _, rfl, .inr ⟨_, rfl, by omega, by rw [rV (by omega)]; simp⟩⟩
 . have t1 : (zs.map J).take zs.length = zs.map J := by rw [rX]; simp
   have f1 := jeZ zs
   have g1 := jm hid [IObj.cells []]
   simp only [jbt, tne, f1, q1, q2, g1, t1, zV, zS, zD, simprocAttr]
   exact ⟨_, _, rfl, .inr ⟨_, rfl, by omega, by rw [rV (by omega)]; simp⟩⟩
abbrev Rc (z : Int × Int × Bool) : List IVal := [I z.1, I z.2.1, .bool z.2.2]
abbrev Ra (z : Int × Int × Bool) : IVal := .agg (Rc z)
def LR (σ : List IObj) (v : IVal) (zs : List (Int × Int × Bool)) : Prop := (∃ o r, v = .sl o r (zs.map Ra)) \/ (∃ id, v = .rs 3 id 0 zs.length /\ σ[id]? = some (.cells (zs.flatMap Rc)))
theorem je0 (zs : List (Int × Int × Bool)) : ((zs.map Ra).flatMap fun v => (un2 v).cells) = zs.flatMap Rc := by
 induction zs with
 | nil => rfl
 | cons z zs ih => rw [rU, rR, rR, ih]; rfl
theorem jhP (zs : List (Int × Int × Bool)) : (zs.map Ra).all (fun v => v.cells.length == 3) = true := by simp [cells_agg]
theorem jbG (zs : List (Int × Int × Bool)) : (zs.flatMap Rc).length = zs.length * 3 := by
 induction zs with
 | nil => rfl
 | cons z zs ih => rw [rR, rI, ih, tI]; simp; omega
theorem Y2 (zs : List (Int × Int × Bool)) : qN 3 zs.length (zs.flatMap Rc) = zs.map Ra := by
 induction zs with
 | nil => rfl
 | cons z zs ih =>
   rw [qN, tI, List.range_succ_eq_map, rU, List.map_map, rU, <- ih, qN]
   congr 1
   apply List.map_congr_left
   intro i _
   show IVal.agg (((Rc z ++ zs.flatMap Rc).drop ((i + 1) * 3)).take 3) = .agg (((zs.flatMap Rc).drop (i * 3)).take 3)
   rw [List.drop_append]
   have e1 : (Rc z).drop ((i + 1) * 3) = [] := tV (by simp; omega)
   have e2 : (i + 1) * 3 - (Rc z).length = i * 3 := by simp; omega
   rw [e1, e2, tQ]
theorem jfL (h : F 30 = some jbu) {v : IVal} {zs : List (Int × Int × Bool)} {σ : List IObj} (hL : LR σ v zs) (hz : zs.length < 100000) :
   ∃ lv e, cfw F (.f 30) [v] σ = some ⟨false, lv, σ ++ e, []⟩ /\ LC 3 σ.length lv zs.length (zs.flatMap Rc) (σ ++ e) := by
 rw [jj jbu h, callI]
 have q1 : zs.length * 24 <= 1099511627776 := by omega
 have q2 : zs.length <= 1099511627776 := by omega
 rcases hL with ⟨o, r, rfl⟩ | ⟨id, rfl, hid⟩
 . cases zs with
   | nil =>
     cases r with
     | true =>
       simp only [jbu, List.map_nil, tne, zV, zS, zD, simprocAttr]
       exact ⟨_, [], by rw [rP], .inl ⟨rfl, rfl, 3, rfl⟩⟩
     | false =>
       simp only [jbu, List.map_nil, tne, zV, zS, zD, simprocAttr]
       exact ⟨_, _, rfl, .inr ⟨_, rfl, by omega, by rw [rV (by omega)]; simp⟩⟩
   | cons z zs =>
     have f1 := je0 (z :: zs)
     have a1 := jhP (z :: zs)
     rw [rU] at f1 a1
     rw [tI] at q1 q2
     simp only [jbu, tne, f1, a1, q1, q2, zV, zS, zD, simprocAttr]
     exact ⟨_, _, rfl, .inr ⟨_, rfl, by omega, by rw [rV (by omega)]; simp⟩⟩
 . have t1 : zs.length * 3 <= (zs.flatMap Rc).length := by rw [jbG]; omega
   have c1 := Y2 zs
   have f1 := je0 zs
   have g1 := jm hid [IObj.cells []]
   simp only [jbu, tne, f1, q1, q2, g1, t1, c1, zV, zS, zD, simprocAttr]
   exact ⟨_, _, rfl, .inr ⟨_, rfl, by omega, by rw [rV (by omega)]; simp⟩⟩
end Go.Idl.Sb
namespace Go.Idl.Sb
open Go Go.Idl Go.Idl.En
variable {F : jn}
theorem jgT : ∀ (vs pre cs : List IVal), cs.length = vs.length -> putCells (pre ++ cs) pre.length vs = pre ++ vs := by
 intro vs
 induction vs with
 | nil => intro pre cs h; rw [putCells]; cases cs with | nil => rfl | cons c cs => cases h
 | cons v vs ih =>
   intro pre cs h
   cases cs with
   | nil => cases h
   | cons c cs =>
     rw [putCells, tY _ _ (by omega), Nat.sub_self, List.set_cons_zero]
     have := ih (pre ++ [v]) cs (by simpa using h)
     rw [rI, List.length_singleton] at this
     rw [rO, rO] at this
     exact this
theorem Yp {cs vs : List IVal} (h : cs.length = vs.length) : putCells cs 0 vs = vs := jgT vs [] cs h
theorem jc4 {σ : List IObj} {v : IVal} {zs : List Int} (h : LW σ v zs) : LW σ (un1 v) zs := by
 rcases h with ⟨o, r, rfl⟩ | ⟨id, rfl, h⟩
 . exact .inl ⟨0, r, rfl⟩
 . exact .inr ⟨id, rfl, h⟩
theorem jhC {σ : List IObj} {v : IVal} {zs : List (Int × Int × Bool)} (h : LR σ v zs) : LR σ (un1 v) zs := by
 rcases h with ⟨o, r, rfl⟩ | ⟨id, rfl, h⟩
 . exact .inl ⟨0, r, rfl⟩
 . exact .inr ⟨id, rfl, h⟩
theorem VA {σ e : List IObj} {v : IVal} {zs : List Int} (h : LW σ v zs) : LW (σ ++ e) v zs := by
 rcases h with ⟨o, r, rfl⟩ | ⟨id, rfl, h⟩
 . exact .inl ⟨o, r, rfl⟩
 . exact .inr ⟨id, rfl, jm h _⟩
theorem YX {σ e : List IObj} {v : IVal} {zs : List (Int × Int × Bool)} (h : LR σ v zs) : LR (σ ++ e) v zs := by
 rcases h with ⟨o, r, rfl⟩ | ⟨id, rfl, h⟩
 . exact .inl ⟨o, r, rfl⟩
 . exact .inr ⟨id, rfl, jm h _⟩
theorem vk (v : IVal) : un1 (un1 v) = un1 v := by cases v <;> rfl
theorem YU (v : IVal) (h : v.isCell = true) : un2 (un1 v) = un1 v := by cases v <;> first | rfl | cases h
theorem jaL {σ : List IObj} {v : IVal} {zs : List Int} (h : LW σ v zs) : v.isCell = true := by
 rcases h with ⟨o, r, rfl⟩ | ⟨id, rfl, h⟩ <;> rfl
theorem jfz {σ : List IObj} {v : IVal} {zs : List (Int × Int × Bool)} (h : LR σ v zs) : v.isCell = true := by
 rcases h with ⟨o, r, rfl⟩ | ⟨id, rfl, h⟩ <;> rfl
theorem Jj {e n0 n : Nat} {lv : IVal} {ys : List IVal} {σ : List IObj} (h : LC e n0 lv n ys σ) : lv.cells = [lv] /\ lv.isCell = true /\ nt lv = true := by
 rcases h with ⟨_, _, e', rfl⟩ | ⟨id, rfl, _⟩ <;> exact ⟨rfl, rfl, rfl⟩
theorem jfy {esz n0 n0' n : Nat} {lv : IVal} {ys : List IVal} {σ σ' : List IObj} (h : LC esz n0 lv n ys σ) (hn : nr1 lv = true) : LC esz n0' lv n ys σ' := by
 rcases h with h | ⟨id, rfl, _⟩
 . exact .inl h
 . cases hn
theorem jeM {esz n0 n0' n : Nat} {lv : IVal} {ys : List IVal} {σ : List IObj} (h : LC esz n0 lv n ys σ) (hl : n0' <= n0) : LC esz n0' lv n ys σ := by
 rcases h with h | ⟨id, h1, h2, h3⟩
 . exact .inl h
 . exact .inr ⟨id, h1, by omega, h3⟩
theorem XJ {esz n : Nat} {lv : IVal} {ys : List IVal} {σ e f : List IObj} {a b c d : IObj} (h : LC esz (σ ++ [a, b]).length lv n ys ((σ ++ [a, b]) ++ e)) : LC esz σ.length lv n ys (σ ++ c :: d :: (e ++ f)) := by
 rcases h with h | ⟨id, h1, h2, h3⟩
 . exact .inl h
 . rw [rI] at h2
   simp only [tI, List.length_nil] at h2
   refine .inr ⟨id, h1, by omega, ?_⟩
   obtain ⟨j, rfl⟩ : ∃ j, id = σ.length + (j + 2) := ⟨id - σ.length - 2, by omega⟩
   rw [rO, get_app] at h3
   rw [get_app]
   simp only [tP, tQ, List.getElem?_cons_succ] at h3 ⊢
   exact jm h3 _
theorem jjJ (h17 : F 11 = some jf5) (h31 : F 29 = some jbt) (h32 : F 30 = some jbu) {cs : List IVal} {σ : List IObj} {v1 v2 v3 : IVal} {z1 z2 : List Int} {z3 : List (Int × Int × Bool)} (hn : cs.length = 55) (hc : cs.all IVal.isCell = true)
   (c1 : cs[13]? = some v1) (c2 : cs[14]? = some v2) (c3 : cs[16]? = some v3) (L1 : LW σ v1 z1) (L2 : LW σ v2 z2) (L3 : LR σ v3 z3) (n1 : z1.length < 100000) (n2 : z2.length < 100000) (n3 : z3.length < 100000) :
   ∃ w1 w2 w3 e, cfw F (.f 11) [.agg cs] σ = some ⟨false, .agg ((((cs.map un1).set 13 w1).set 14 w2).set 16 w3), σ ++ e, []⟩ /\ LC 1 σ.length w1 z1.length (z1.map J) (σ ++ e) /\ LC 1 σ.length w2 z2.length (z2.map J) (σ ++ e) /\ LC 3 σ.length w3 z3.length (z3.flatMap Rc) (σ ++ e) := by
 rw [jj jf5 h17, callI]
 have hn2 : (cs.map un1).length = 55 := by simpa using hn
 have hc2 : (cs.map un1).all IVal.isCell = true := by
   rw [rG] at hc ⊢
   intro v hv
   obtain ⟨u, hu, rfl⟩ := List.mem_map.mp hv
   have := hc u hu
   cases u <;> first | rfl | cases this
 have d1 : (cs.map un1)[13]? = some (un1 v1) := by rw [rM, c1]; rfl
 have d2 : (cs.map un1)[14]? = some (un1 v2) := by rw [rM, c2]; rfl
 have d3 : (cs.map un1)[16]? = some (un1 v3) := by rw [rM, c3]; rfl
 have u1 := YU v1 (jaL L1)
 have u2 := YU v2 (jaL L2)
 have u3 := YU v3 (jfz L3)
 generalize hB : cs.map un1 = bs at *
 obtain ⟨w1, e1, p1, q1⟩ := ja2 (σ := σ ++ [.cells bs, .cells Z55]) h31 (VA (jc4 L1)) n1
 obtain ⟨w2, e2, p2, q2⟩ := ja2 (σ := (σ ++ [.cells bs, .cells Z55]) ++ e1) h31 (VA (VA (jc4 L2))) n2
 obtain ⟨w3, e3, p3, q3⟩ := jfL (σ := (σ ++ [.cells bs, .cells Z55]) ++ e1 ++ e2) h32 (YX (YX (YX (jhC L3)))) n3
 simp only [rO, tP, tQ] at p1 p2 p3
 obtain ⟨m1, m2, m3⟩ := Jj q1
 obtain ⟨m4, m5, m6⟩ := Jj q2
 obtain ⟨m7, m8, m9⟩ := Jj q3
 have set_all : ∀ (l : List IVal) (o : Nat) (v : IVal), l.all IVal.isCell = true -> v.isCell = true -> (l.set o v).all IVal.isCell = true := by
   intro l o v h1 h2
   rw [rG] at h1 ⊢
   intro u hu
   rcases List.mem_or_eq_of_mem_set hu with h | h
   . exact h1 u h
   . rw [h]; exact h2
 generalize hb3 : ((bs.set 13 w1).set 14 w2).set 16 w3 = b3
 have r1 : b3.length = 55 := by rw [<- hb3]; simpa using hn2
 have r2 : b3.all IVal.isCell = true := by rw [<- hb3]; exact set_all _ _ _ (set_all _ _ _ (set_all _ _ _ hc2 m2) m5) m8
 have r3 : b3.take 55 = b3 := rX (by omega)
 have r4 : putCells Z55 0 b3 = b3 := Yp (by rw [r1]; rfl)
 have r5 : Z55.length = 55 := rfl
 have dl : ∀ n : Nat, decide (σ.length < σ.length + (n + 1 + 1)) = true := fun n => rE (by omega)
 have dl2 : decide (σ.length + 1 < σ.length) = false := rH (by omega)
 simp only [jf5, jd, cells_agg, hB, hc2, d1, d2, d3, u1, u2, u3, p1, p2, p3, m1, m2, m3, m4, m5, m6, m7, m8, m9, hn2, hb3, r1, r2, r3, r4, r5, dl, dl2, rF, zV, zS, zD, simprocAttr]
 have mem : ∀ {o : Nat} {v : IVal}, b3[o]? = some v -> v ∈ b3 := fun h => List.mem_of_getElem? h
 have g16 : b3[16]? = some w3 := by rw [<- hb3, rK (by simp; omega)]
 have g14 : b3[14]? = some w2 := by rw [<- hb3, rD (by decide), rK (by simp; omega)]
 have g13 : b3[13]? = some w1 := by rw [<- hb3, rD (by decide), rD (by decide), rK (by omega)]
 split
 . rename_i hall
   rw [rG] at hall
   refine ⟨w1, w2, w3, [], by rw [hb3, rP], ?_, ?_, ?_⟩
   . exact jfy q1 (hall _ (mem g13))
   . exact jfy q2 (hall _ (mem g14))
   . exact jfy q3 (hall _ (mem g16))
 . refine ⟨w1, w2, w3, _, by rw [hb3], ?_, ?_, ?_⟩
   . exact XJ (f := e2 ++ e3) q1
   . have q2' : LC 1 (σ ++ [IObj.cells bs, .cells Z55]).length w2 z2.length (z2.map J) (σ ++ [IObj.cells bs, .cells Z55] ++ (e1 ++ e2)) := by
       rw [<- rO]; exact jeM q2 (by simp)
     have := XJ (c := IObj.cells (putCells b3 0 (List.map un1 b3))) (d := IObj.cells (putCells b3 0 (List.map un1 b3))) (f := e3) q2'
     rw [rO] at this; exact this
   . have q3' : LC 3 (σ ++ [IObj.cells bs, .cells Z55]).length w3 z3.length (z3.flatMap Rc) (σ ++ [IObj.cells bs, .cells Z55] ++ (e1 ++ (e2 ++ e3))) := by
       rw [<- rO, <- rO]; exact jeM q3 (by simp)
     have := XJ (c := IObj.cells (putCells b3 0 (List.map un1 b3))) (d := IObj.cells (putCells b3 0 (List.map un1 b3))) (f := []) q3'
     rw [rP] at this; exact this
end Go.Idl.Sb
namespace Go.Idl.Sb
open Go Go.Idl Go.Idl.En
variable {F : jn}
section
variable {D : WayD} {σ : List IObj} {a : Nat} {w w' : D.W} {cs cs' : List IVal} {l l' : List IObj}
theorem jeP (hx : D.x < σ.length) (hne : a ≠ D.x) : (S D σ a w cs l).set D.x (D.ob w') = S D σ a w' cs l := by
 rw [S, jF (by simpa using hx), jjM hne]; rfl
theorem jc6 : S D σ a w cs l ++ l' = S D σ a w cs (l ++ l') := by rw [S, S, rO]
theorem jc7 {id : Nat} {c : IObj} (h : σ[id]? = some c) (h1 : id ≠ D.x) (h2 : id ≠ a) : (S D σ a w cs l)[id]? = some c := jm (jdD h h1 h2) _
end
def jcX (x : Nat) (w : La) (n most : Nat) (ys : List IVal) : La := (jk (DL x) (wdL 0 n) (La.number w n most) ys).1
def jdn (x : Nat) (w : La) (n most : Nat) (ys : List IVal) : La := (jk (DL x) (raL 0 (min n most)) (La.number w n most) ys).1
theorem jim (h35 : F 33 = some X5) (h34 : F 32 = some Q4) {x : Nat} (hw : Way F (DL x)) {a o n most k n0 : Nat} {acs ys : List IVal} {σ l : List IObj} {w : La} {lv : IVal} (hx : x < σ.length) (ha : a < σ.length) (hne : a ≠ x) (ho : acs[o]? = some lv) (hL : LC 1 n0 lv n ys σ) (hx0 : x < n0) (ha0 : a < n0) (hm : n <= most) (hm2 : most < 10000) (hT : Ty (wdL 0 n) ys) (hk : w.bs.length + 8 * (k + most + 1) < 880000) :
   ∃ wr lv' l', cfw F (.f 33) [.iface 64 (.ptr x 0), .ptr a o, I most, .fn (.func 32) [] []] (S (DL x) σ a w acs l) = some ⟨false, .tup [], S (DL x) σ a (jcX x w n most ys) (acs.set o lv') l', wr⟩ /\ Fa a wr := by
 rcases hL with ⟨rfl, rfl, e', rfl⟩ | ⟨id, rfl, hid, hc⟩
 . obtain ⟨wr, lv', l', h1, h2, h3, h4⟩ := jbH (D := DL x) (k := k) h35 h34 hw (S_x (D := DL x) (w := w) (cs := acs) (l := l) hx ha hne) (S_a (D := DL x) hx ha hne) ho hne hm2 hk
   refine ⟨wr, lv', l ++ l', ?_, h2⟩
   have c0 : cnt (DL x) w most = 0 := Nat.zero_min most
   rw [c0] at h1
   have e2 := JS (D := DL x) (w := w) (w' := (growW (DL x) 0 ((DL x).number w 0 most).1 []).1) (cs := acs) (cs' := acs.set o lv') (l := l) hx ha hne
   rw [e2, jc6] at h1
   exact h1
 . obtain ⟨wr, h1, h2⟩ := jgl (D := DL x) (k := k) (most := most) h35 h34 hw (S_x (D := DL x) (w := w) (cs := acs) (l := l) hx ha hne) (S_a (D := DL x) hx ha hne) ho (jc7 (D := DL x) hc (by show id ≠ x; omega) (by omega)) (by show id ≠ x; omega) hne (by omega) (by omega) hm hm2 hT (by show w.bs.length + 8 * (k + n + 1) < 880000; omega) rfl
   refine ⟨wr, .rs 1 id 0 n, l, ?_, vg h2⟩
   have r1 := qI (x := x) (wdL 0 n) ((DL x).number w n most).1 ys hT
   rw [r1] at h1
   have e2 := jeP (D := DL x) (a := a) (w := w) (w' := (jk (DL x) (wdL 0 n) ((DL x).number w n most).1 ys).1) (cs := acs) (l := l) hx hne
   rw [e2, jx (jc7 (D := DL x) hc (by show id ≠ x; omega) (by omega))] at h1
   rw [za ho]
   exact h1
theorem jjE (h36 : F 34 = some XF) (h37 : F 35 = some X6) (h33 : F 31 = some Qa) {x : Nat} (hw : Way F (DL x)) {a o n most k n0 : Nat} {acs ys : List IVal} {σ l : List IObj} {w : La} {lv : IVal} (hx : x < σ.length) (ha : a < σ.length) (hne : a ≠ x) (ho : acs[o]? = some lv) (hL : LC 3 n0 lv n ys σ) (hx0 : x < n0) (ha0 : a < n0) (hn : n < 10000) (hm2 : most < 10000) (hT : Ty (raL 0 (min n most)) ys) (hk : w.bs.length + 8 * (k + 3 * most + 1) < 880000) :
   ∃ wr lv' l', cfw F (.f 34) [.iface 64 (.ptr x 0), .ptr a o, I most, .fn (.func 35) [] []] (S (DL x) σ a w acs l) = some ⟨false, .tup [], S (DL x) σ a (jdn x w n most ys) (acs.set o lv') l', wr⟩ /\ Fa a wr := by
 rcases hL with ⟨rfl, rfl, e', rfl⟩ | ⟨id, rfl, hid, hc⟩
 . obtain ⟨wr, lv', l', h1, h2, h3, h4⟩ := jbI (D := DL x) (k := k) h36 h37 h33 hw (S_x (D := DL x) (w := w) (cs := acs) (l := l) hx ha hne) (S_a (D := DL x) hx ha hne) ho hne hm2 hk
   refine ⟨wr, lv', l ++ l', ?_, h2⟩
   have c0 : cnt (DL x) w most = 0 := Nat.zero_min most
   rw [c0] at h1
   have e2 := JS (D := DL x) (w := w) (w' := (growR (DL x) 0 ((DL x).number w 0 most).1 []).1) (cs := acs) (cs' := acs.set o lv') (l := l) hx ha hne
   rw [e2, jc6] at h1
   exact h1
 . obtain ⟨wr, h1, h2⟩ := jgm (D := DL x) (k := k) (most := most) h36 h37 h33 hw (S_x (D := DL x) (w := w) (cs := acs) (l := l) hx ha hne) (S_a (D := DL x) hx ha hne) ho (jc7 (D := DL x) hc (by show id ≠ x; omega) (by omega)) (by show id ≠ x; omega) hne (by omega) hn hm2 hT (by show w.bs.length + 8 * (k + 3 * min n most + 1) < 880000; omega) rfl
   refine ⟨wr, .rs 3 id 0 n, l, ?_, vg h2⟩
   have r1 := qI (x := x) (raL 0 (min n most)) ((DL x).number w n most).1 ys hT
   rw [r1] at h1
   have e2 := jeP (D := DL x) (a := a) (w := w) (w' := (jk (DL x) (raL 0 (min n most)) ((DL x).number w n most).1 ys).1) (cs := acs) (l := l) hx hne
   rw [e2, jx (jc7 (D := DL x) hc (by show id ≠ x; omega) (by omega))] at h1
   rw [za ho]
   exact h1
end Go.Idl.Sb
namespace Go.Idl.Sb
open Go Go.Idl Go.Idl.En
variable {F : jn}
theorem yH {x : Nat} : ∀ (l : List (K × Nat)) (w : (DL x).W) (cs cs' : List IVal), Ty l cs -> (∀ q ∈ l, cs'[q.2]? = cs[q.2]?) -> (jk (DL x) l w cs').1 = (jk (DL x) l w cs).1 := by
 intro l
 induction l with
 | nil => intro w cs cs' _ _; rfl
 | cons q l ih =>
   intro w cs cs' hT he
   obtain ⟨k, o⟩ := q
   have hT' : Ty ((k, o) :: l) cs' := fun q hq => by rw [he q hq]; exact hT q hq
   obtain ⟨v, ho, hv⟩ := hT _ rT
   have ho' := he (k, o) rT
   simp only [] at ho hv ho'
   rw [ho] at ho'
   have e1 := qI (x := x) [(k, o)] w cs (jI hT (by simp))
   have e2 := qI (x := x) [(k, o)] w cs' (jI hT' (by simp))
   rw [jk, jp ho] at e1
   rw [jk, jp ho'] at e2
   have e1 : cs.set o (jO (DL x) k w v).2 = cs := e1
   have e2 : cs'.set o (jO (DL x) k w v).2 = cs' := e2
   rw [jk, jk, jp ho, jp ho']
   simp only [e1, e2]
   exact ih _ _ _ (fun q hq => hT q (rN _ hq)) (fun q hq => he q (rN _ hq))
def Qs (x : Nat) (cs : List IVal) (z1 z2 : List Int) (z3 : List (Int × Int × Bool)) : La :=
 (jk (DL x) lC (jdn x (jk (DL x) lB (jcX x (jcX x (jk (DL x) lA ⟨[], false⟩ cs).1 z1.length 512 (z1.map J)) z2.length 8000 (z2.map J)) cs).1 z3.length 8 (z3.flatMap Rc)) cs).1
theorem jfx {k : K} {v : IVal} (h : k.ty v) : un1 v = v := by
 cases k with
 | pl => obtain ⟨n, rfl, _⟩ := h; rfl
 | wd => obtain ⟨n, rfl, _⟩ := h; rfl
 | byt => obtain ⟨n, rfl, _⟩ := h; rfl
 | tr => obtain ⟨b, rfl⟩ := h; rfl
 | hf => obtain ⟨n, rfl, _⟩ := h; rfl
 | nm => obtain ⟨n, rfl, _⟩ := h; rfl
theorem ZS {L : List (K × Nat)} {cs : List IVal} (h : Ty L cs) : Ty L (cs.map un1) := by
 intro q hq
 obtain ⟨v, h1, h2⟩ := h q hq
 exact ⟨v, by rw [rM, h1]; simp [jfx h2], h2⟩
theorem yr (cs : List IVal) : (cs.map un1).map un1 = cs.map un1 := by
 rw [List.map_map]; congr 1; funext v; exact vk v
theorem toB : ∀ (bs : List Nat), j7 (bs.map B) = some (bs.map UInt8.ofNat)
 | [] => rfl
 | b :: bs => by rw [rU, j7, toB bs]; rfl
theorem jch : ∀ (d i : Nat), (raL i d).length = 3 * d
 | 0, _ => rfl
 | d + 1, i => by rw [zW, rI, jch d]; simp; omega
theorem XI {esz n : Nat} {lv : IVal} {ys : List IVal} {σ e : List IObj} {a b c d : IObj} (h : LC esz (σ ++ [a, b]).length lv n ys ((σ ++ [a, b]) ++ e)) : LC esz (σ.length + 2) lv n ys (σ ++ c :: d :: e) := by
 rcases h with h | ⟨id, h1, h2, h3⟩
 . exact .inl h
 . rw [rI] at h2
   simp only [tI, List.length_nil] at h2
   refine .inr ⟨id, h1, by omega, ?_⟩
   obtain ⟨j, rfl⟩ : ∃ j, id = σ.length + (j + 2) := ⟨id - σ.length - 2, by omega⟩
   rw [rO, get_app] at h3
   rw [get_app]
   simp only [tP, tQ, List.getElem?_cons_succ] at h3 ⊢
   exact h3
theorem jfS (h6 : F 4 = some ir4) (h17 : F 11 = some jf5) (h31 : F 29 = some jbt) (h32 : F 30 = some jbu) (h18 : F 12 = some jcZ) (h33 : F 31 = some Qa) (h34 : F 32 = some Q4) (h35 : F 33 = some X5) (h36 : F 34 = some XF) (h37 : F 35 = some X6) (h38 : F 36 = some jaG) (h39 : F 37 = some jaH)
   (hw : ∀ x, Way F (DL x)) {cs : List IVal} {σ : List IObj} {v1 v2 v3 : IVal} {z1 z2 : List Int} {z3 : List (Int × Int × Bool)} (hn : cs.length = 55) (hc : cs.all IVal.isCell = true)
   (c1 : cs[13]? = some v1) (c2 : cs[14]? = some v2) (c3 : cs[16]? = some v3) (L1 : LW σ v1 z1) (L2 : LW σ v2 z2) (L3 : LR σ v3 z3) (n1 : z1.length <= 512) (n2 : z2.length <= 8000) (n3 : z3.length < 100) (hT : Ty lAll cs) (T1 : Ty (wdL 0 z1.length) (z1.map J)) (T2 : Ty (wdL 0 z2.length) (z2.map J)) (T3 : Ty (raL 0 (min z3.length 8)) (z3.flatMap Rc)) :
   ∃ wr, cfw F (.f 4) [.agg cs] σ = some ⟨false, .str (if (Qs (σ.length + 1) cs z1 z2 z3).far then [] else (Qs (σ.length + 1) cs z1 z2 z3).bs.map UInt8.ofNat), σ, wr⟩ /\ Fl wr := by
 rw [jj ir4 h6, callI]
 have hn2 : (cs.map un1).length = 55 := by simpa using hn
 have hc2 : (cs.map un1).all IVal.isCell = true := by
   rw [rG] at hc ⊢
   intro v hv
   obtain ⟨u, hu, rfl⟩ := List.mem_map.mp hv
   have := hc u hu
   cases u <;> first | rfl | cases this
 have d1 : (cs.map un1)[13]? = some (un1 v1) := by rw [rM, c1]; rfl
 have d2 : (cs.map un1)[14]? = some (un1 v2) := by rw [rM, c2]; rfl
 have d3 : (cs.map un1)[16]? = some (un1 v3) := by rw [rM, c3]; rfl
 have hTu := ZS hT
 have uu := yr cs
 generalize hB : cs.map un1 = bs at *
 have r3 : bs.take 55 = bs := rX (by omega)
 have r4 : putCells bs 0 bs = bs := Yp rfl
 have f0 : qw [.sl 1 true [], .bool false] [] = some [.sl 1 true [], .bool false] := rfl
 obtain ⟨w1, w2, w3, e, p0, q1, q2, q3⟩ := jjJ (σ := σ ++ [.cells bs, .cells [.sl 1 true [], .bool false]]) (cs := bs) h17 h31 h32 hn2 hc2 d1 d2 d3 (VA (jc4 L1)) (VA (jc4 L2)) (YX (jhC L3)) (by omega) (by omega) (by omega)
 rw [uu] at p0
 simp only [rO, tP, tQ] at p0
 generalize hb3 : ((bs.set 13 w1).set 14 w2).set 16 w3 = b3 at *
 have m1 := Jj q1
 have m2 := Jj q2
 have m3 := Jj q3
 have set_all : ∀ (l : List IVal) (o : Nat) (v : IVal), l.all IVal.isCell = true -> v.isCell = true -> (l.set o v).all IVal.isCell = true := by
   intro l o v h1 h2
   rw [rG] at h1 ⊢
   intro u hu
   rcases List.mem_or_eq_of_mem_set hu with h | h
   . exact h1 u h
   . rw [h]; exact h2
 have r1 : b3.length = 55 := by rw [<- hb3]; simpa using hn2
 have r2 : b3.all IVal.isCell = true := by rw [<- hb3]; exact set_all _ _ _ (set_all _ _ _ (set_all _ _ _ hc2 m1.2.1) m2.2.1) m3.2.1
 have r5 : putCells bs 0 b3 = b3 := Yp (by omega)
 have hT3 : Ty lAll b3 := by rw [<- hb3]; exact qF (qF (qF hTu (by decide)) (by decide)) (by decide)
 have st : ∃ wr cf l3, cfw F (.f 12) [.iface 64 (.ptr (σ.length + 1) 0), .ptr σ.length 0] (σ ++ .cells b3 :: .cells [.sl 1 true [], .bool false] :: e) = some ⟨false, .tup [], S (DL (σ.length + 1)) (σ ++ .cells b3 :: .cells [.sl 1 true [], .bool false] :: e) σ.length (Qs (σ.length + 1) cs z1 z2 z3) cf l3, wr⟩ /\ Fa σ.length wr := by
   have hx : (σ ++ .cells b3 :: .cells [.sl 1 true [], .bool false] :: e)[σ.length + 1]? = some (La.ob ⟨[], false⟩) := by rw [get_app]; rfl
   have ha : (σ ++ .cells b3 :: .cells [.sl 1 true [], .bool false] :: e)[σ.length]? = some (.cells b3) := by rw [get_app0]; rfl
   have g16 : b3[16]? = some w3 := by rw [<- hb3, rK (by simp; omega)]
   have g14 : b3[14]? = some w2 := by rw [<- hb3, rD (by decide), rK (by simp; omega)]
   have g13 : b3[13]? = some w1 := by rw [<- hb3, rD (by decide), rD (by decide), rK (by omega)]
   have Q1 := XI (c := .cells b3) (d := .cells [.sl 1 true [], .bool false]) q1
   have Q2 := XI (c := .cells b3) (d := .cells [.sl 1 true [], .bool false]) q2
   have Q3 := XI (c := .cells b3) (d := .cells [.sl 1 true [], .bool false]) q3
   generalize hσ : σ ++ .cells b3 :: .cells [.sl 1 true [], .bool false] :: e = σ2 at *
   generalize hx' : σ.length + 1 = x at *
   generalize ha' : σ.length = a at *
   have lx := ja hx
   have la := ja ha
   have hne : a ≠ x := by omega
   have W := hw x
   have hbc : ∀ q ∈ lAll, b3[q.2]? = cs[q.2]? := by
     intro q hq
     obtain ⟨v, hv, hk⟩ := hT q hq
     have n13 : q.2 ≠ 13 := (by decide : ∀ q ∈ lAll, q.2 ≠ 13) q hq
     have n14 : q.2 ≠ 14 := (by decide : ∀ q ∈ lAll, q.2 ≠ 14) q hq
     have n16 : q.2 ≠ 16 := (by decide : ∀ q ∈ lAll, q.2 ≠ 16) q hq
     rw [<- hb3, rD (tR n16), rD (tR n14), rD (tR n13), <- hB, rM, hv]
     simp [jfx hk]
   have sA : ∀ q ∈ lA, q ∈ lAll := by decide
   have sB : ∀ q ∈ lB, q ∈ lAll := by decide
   have sC : ∀ q ∈ lC, q ∈ lAll := by decide
   have eA := qI (x := x) lA ⟨[], false⟩ b3 (jI hT3 sA)
   have oA := kv W lA ⟨[], false⟩ b3 100000 (jI hT3 sA) (fun q hq r hr => jz q (sA q hq) r (sA r hr)) (by show 0 + 8 * _ < 880000; decide)
   have cA := yH (x := x) lA ⟨[], false⟩ cs b3 (jI hT sA) (fun q hq => hbc q (sA q hq))
   generalize hA : (jk (DL x) lA ⟨[], false⟩ b3).1 = A at *
   have oA : A.bs.length + 8 * 100000 < 880000 := oA
   obtain ⟨wr1, v1', l1, h13, f1⟩ := jim (k := 90000) (most := 512) h35 h34 W (l := []) (w := A) lx la hne (acs := b3) (o := 13) g13 Q1 (by omega) (by omega) n1 (by decide) T1 (by omega)
   have o1 : (jcX x A z1.length 512 (z1.map J)).bs.length + 8 * 90000 < 880000 := kv W (wdL 0 z1.length) (A.number z1.length 512) (z1.map J) 90000 T1 ZM (W.ok_number (w := A) (n := z1.length) (most := 512) (by show A.bs.length + 8 * _ < 880000; simp; omega))
   have b14 : (b3.set 13 v1')[14]? = some w2 := by rw [rD (by decide)]; exact g14
   generalize hw1 : jcX x A z1.length 512 (z1.map J) = A1 at *
   obtain ⟨wr2, v2', l2, h14, f2⟩ := jim (k := 80000) (most := 8000) h35 h34 W (l := l1) (w := A1) lx la hne (acs := b3.set 13 v1') (o := 14) b14 Q2 (by omega) (by omega) n2 (by decide) T2 (by omega)
   have o2 : (jcX x A1 z2.length 8000 (z2.map J)).bs.length + 8 * 80000 < 880000 := kv W (wdL 0 z2.length) (A1.number z2.length 8000) (z2.map J) 80000 T2 ZM (W.ok_number (w := A1) (n := z2.length) (most := 8000) (by show A1.bs.length + 8 * _ < 880000; simp; omega))
   generalize hw2 : jcX x A1 z2.length 8000 (z2.map J) = A2 at *
   have hT4 : Ty lAll ((b3.set 13 v1').set 14 v2') := qF (qF hT3 (by decide)) (by decide)
   have eB := qI (x := x) lB A2 ((b3.set 13 v1').set 14 v2') (jI hT4 sB)
   have oB := kv W lB A2 ((b3.set 13 v1').set 14 v2') 79999 (jI hT4 sB) (fun q hq r hr => jz q (sB q hq) r (sB r hr)) o2
   have hb4 : ∀ q ∈ lAll, ((b3.set 13 v1').set 14 v2')[q.2]? = cs[q.2]? := by
     intro q hq
     have n13 : q.2 ≠ 13 := (by decide : ∀ q ∈ lAll, q.2 ≠ 13) q hq
     have n14 : q.2 ≠ 14 := (by decide : ∀ q ∈ lAll, q.2 ≠ 14) q hq
     rw [rD (tR n14), rD (tR n13)]; exact hbc q hq
   have cB := yH (x := x) lB A2 cs ((b3.set 13 v1').set 14 v2') (jI hT sB) (fun q hq => hb4 q (sB q hq))
   generalize hBB : (jk (DL x) lB A2 ((b3.set 13 v1').set 14 v2')).1 = A3 at *
   have oB : A3.bs.length + 8 * 79999 < 880000 := oB
   have b16 : ((b3.set 13 v1').set 14 v2')[16]? = some w3 := by rw [rD (by decide), rD (by decide)]; exact g16
   obtain ⟨wr3, v3', l3, h16, f3⟩ := jjE (k := 70000) (most := 8) h36 h37 h33 W (l := l2) (w := A3) lx la hne (acs := (b3.set 13 v1').set 14 v2') (o := 16) b16 Q3 (by omega) (by omega) (by omega) (by decide) T3 (by omega)
   have o3 : (jdn x A3 z3.length 8 (z3.flatMap Rc)).bs.length + 8 * 70000 < 880000 := kv W (raL 0 (min z3.length 8)) (A3.number z3.length 8) (z3.flatMap Rc) 70000 T3 (KS jec jec) (W.ok_number (w := A3) (n := z3.length) (most := 8) (by
     have : (raL 0 (min z3.length 8)).length <= 24 := by rw [jch]; omega
     show A3.bs.length + 8 * _ < 880000; omega))
   generalize hw3 : jdn x A3 z3.length 8 (z3.flatMap Rc) = A4 at *
   have hb5 : ∀ q ∈ lC, (((b3.set 13 v1').set 14 v2').set 16 v3')[q.2]? = cs[q.2]? := by
     intro q hq
     have n16 : q.2 ≠ 16 := (by decide : ∀ q ∈ lAll, q.2 ≠ 16) q (sC q hq)
     rw [rD (tR n16)]; exact hb4 q (sC q hq)
   have cC := yH (x := x) lC A4 cs (((b3.set 13 v1').set 14 v2').set 16 v3') (jI hT sC) hb5
   have fin : Qs x cs z1 z2 z3 = (jk (DL x) lC A4 (((b3.set 13 v1').set 14 v2').set 16 v3')).1 := by
     rw [cC, Qs, <- cA, hw1, hw2, <- cB, hw3]
   obtain ⟨wr, _, hf, h18'⟩ := jcC (D := DL x) (k := 10) (w := ⟨[], false⟩) (w1 := A1) (w2 := A2) (w3 := A4) (cs := b3) (v1 := v1') (v2 := v2') (v3 := v3') (l1 := l1) (l2 := l2) (l3 := l3) (wr1 := wr1) (wr2 := wr2) (wr3 := wr3) (wf := (jk (DL x) lC A4 (((b3.set 13 v1').set 14 v2').set 16 v3')).1) (cf := (jk (DL x) lC A4 (((b3.set 13 v1').set 14 v2').set 16 v3')).2) h18 h33 h34 h38 h39 W hx ha hne hT3 (by show 0 + 8 * _ < 880000; decide) (by rw [hA, eA]; exact h13) f1 (by rw [eA]; exact h14) f2 (by show A2.bs.length + 8 * _ < 880000; omega) (by rw [eA, hBB, eB]; exact h16) f3 (by show A4.bs.length + 8 * _ < 880000; omega) (by rw [eA, eB])
   rw [fin]
   split at h18'
   . refine ⟨wr.filter fun p => decide (p.1 < σ2.length), (jk (DL x) lC A4 (((b3.set 13 v1').set 14 v2').set 16 v3')).2, [], ?_, qu hf⟩
     have tS : ∀ (w : (DL x).W) (c : List IVal) (l : List IObj), (S (DL x) σ2 a w c l).take σ2.length = S (DL x) σ2 a w c [] := fun w c l => by
       show ((((σ2.set _ _).set _ _) ++ l).take σ2.length) = ((σ2.set _ _).set _ _) ++ []
       rw [kH, rP]
     rw [tS] at h18'
     exact h18'
   . exact ⟨_, (jk (DL x) lC A4 (((b3.set 13 v1').set 14 v2').set 16 v3')).2, l3, h18', qu hf⟩
 obtain ⟨wr, cf, l3, s0, s1⟩ := st
 generalize hE : Qs (σ.length + 1) cs z1 z2 z3 = en at *
 obtain ⟨ebs, efar⟩ := en
 have sx : (S (DL (σ.length + 1)) (σ ++ .cells b3 :: .cells [.sl 1 true [], .bool false] :: e) σ.length (La.mk ebs efar) cf l3)[σ.length + 1]? = some (.cells [.sl 1 ebs.isEmpty (ebs.map B), .bool efar]) := S_x (D := DL (σ.length + 1)) (w := (La.mk ebs efar)) (by show σ.length + 1 < _; simp) (by simp) (by show σ.length ≠ σ.length + 1; omega)
 have tk : (S (DL (σ.length + 1)) (σ ++ .cells b3 :: .cells [.sl 1 true [], .bool false] :: e) σ.length (La.mk ebs efar) cf l3).take σ.length = σ := by
   show ((((σ ++ .cells b3 :: .cells [.sl 1 true [], .bool false] :: e).set (σ.length + 1) (La.ob ⟨ebs, efar⟩)).set σ.length (.cells cf)) ++ l3).take σ.length = σ
   rw [tY _ _ (by omega), tY _ _ (by omega), rO, take_app]
 have fw : ∀ b, Fa σ.length (wr ++ [(σ.length, b), (σ.length, false)]) := fun b => qG s1 (by simp)
 have fp : ∀ b, ((wr ++ [(σ.length, b), (σ.length, false)]).all fun p => !p.2 || decide (σ.length <= p.1)) = true := fun b => by
   have := fw b
   rw [Fa, rG] at this
   rw [rG]
   intro q hq; have := this q hq; simp at this ⊢; rcases this with h | h
   . exact .inl h
   . exact .inr (by omega)
 have ff : ∀ b, Fl ((wr ++ [(σ.length, b), (σ.length, false)]).filter fun p => decide (p.1 < σ.length)) := fun b => by
   have := fw b
   rw [Fa, rG] at this
   rw [Fl, rG]
   intro q hq
   obtain ⟨h1, h2⟩ := List.mem_filter.mp hq
   have h3 := this q h1; simp at h2 h3 ⊢; rcases h3 with h | h
   . exact h
   . omega
 have tb := toB ebs
 cases efar
 . simp only [ir4, jd, cells_agg, hB, hc2, hn2, r1, r2, r3, r4, r5, uu, f0, p0, s0, sx, tb, tk, fp, List.zip_nil_left, tU, zV, zS, zD, simprocAttr]
   exact ⟨_, rfl, ff _⟩
 . simp only [ir4, jd, cells_agg, hB, hc2, hn2, r1, r2, r3, r4, r5, uu, f0, p0, s0, sx, tb, tk, fp, List.zip_nil_left, tU, zV, zS, zD, simprocAttr]
   exact ⟨_, rfl, ff _⟩
end Go.Idl.Sb
namespace Go.Idl.Sb
open Go Go.Idl Go.Idl.En
variable {F : jn}
theorem jiN (h : F 41 = some je3) (s : List UInt8) (σ : List IObj) :
   cfw F (.f 41) [.str s] σ = some ⟨false, .ptr σ.length 0, σ ++ [Re.ob s ⟨0, none⟩], []⟩ := by
 rw [jj je3 h, callI]
 have f2 : qw [.str [], .int .i64 0, .prim .nilIface] [(0, 1, .str s)] = some [.str s, .int .i64 0, .prim .nilIface] := rfl
 have i1 : IVal.isCell (.prim .nilIface) = true := rfl
 simp only [je3, f2, i1, cells_agg, tJ, tU, zV, zS, zD, simprocAttr]
 rfl
def Re.fin (s : List UInt8) (w : Re) : Option (Nat × Nat) := match w.er with
 | some e => some e
 | none => if w.pos < s.length then some (4, w.pos) else none
theorem jh4 (h : F 42 = some jc1) (h40 : F 61 = some K3) (h41 : F 62 = some Qx) (h42 : F 63 = some Zf) {s : List UInt8} {x : Nat} {w : Re} {σ : List IObj} (hx : σ[x]? = some (w.ob s)) (hs : s.length < 1000000) (hp : w.pos <= s.length) :
   cfw F (.f 42) [.ptr x 0] σ = some ⟨false, erI (w.fin s), σ, []⟩ := by
 rw [jj jc1 h, callI]
 have b0 := jaW h40 hx
 have n0 := Zl h41 hx hs hp
 have e0 := jfV h42 hx
 have x1 : ∀ a : Int, ext [I 4, I a] = false := fun _ => rfl
 obtain ⟨pos, er⟩ := w
 cases er with
 | some e =>
   obtain ⟨c, a⟩ := e
   have u3 : un3 (erI (some (c, a))) = erI (some (c, a)) := rfl
   have u4 : nt (erI (some (c, a))) = true := rfl
   have u5 : nr3 (erI (some (c, a))) = true := rfl
   simp only [] at e0
   simp only [jc1, b0, e0, u3, u4, u5, Option.isSome, tne, zV, zS, zD, simprocAttr]
   rfl
 | none =>
   simp only [] at n0 e0 hp
   by_cases h0 : pos < s.length
   . have z0 : decide (((s.length - pos : Nat) : Int) > 0) = true := rE (by omega)
     have f2 : qw [.int .i64 0, .int .i64 0] [(0, 1, I 4), (1, 1, I pos)] = some [I 4, I pos] := rfl
     have e2 : Re.fin s ⟨pos, none⟩ = some (4, pos) := by simp [Re.fin, h0]
     rw [e2]
     rw [Re.ob] at hx
     simp only [jc1, jd, b0, n0, hx, z0, f2, x1, cells_agg, Option.isSome, tne, tJ, tU, zV, zS, zD, simprocAttr]
     rfl
   . have z0 : decide (((s.length - pos : Nat) : Int) > 0) = false := rH (by omega)
     have e2 : Re.fin s ⟨pos, none⟩ = none := by simp [Re.fin, h0]
     have u3 : un3 (erI none) = erI none := rfl
     have u4 : nt (erI none) = true := rfl
     have u5 : nr3 (erI none) = true := rfl
     rw [e2]
     simp only [jc1, jd, b0, n0, e0, z0, u3, u4, u5, Option.isSome, tne, zV, zS, zD, simprocAttr]
end Go.Idl.Sb
namespace Go.Idl.Sb
open Go Go.Idl Go.Idl.En
variable {F : jn} {D : WayD}
theorem zZ {o : Nat} {v : IVal} : ∀ (l : List (K × Nat)) (w : D.W) (cs : List IVal), (∀ q ∈ l, q.2 ≠ o) -> jk D l w (cs.set o v) = ((jk D l w cs).1, (jk D l w cs).2.set o v) := by
 intro l
 induction l with
 | nil => intro w cs _; rfl
 | cons q l ih =>
   intro w cs h
   obtain ⟨k, p⟩ := q
   have hp : p ≠ o := h (k, p) rT
   have e1 : jv (cs.set o v) p = jv cs p := by rw [jv, jv, rD (tR hp)]
   rw [jk, jk, e1]
   rw [List.set_comm _ _ (tR hp)]
   exact ih _ _ (fun q hq => h q (rN _ hq))
def LX (esz b k : Nat) (lv : IVal) (n : Nat) (ys : List IVal) (l : List IObj) : Prop := (n = 0 /\ ys = [] /\ ∃ e', lv = .sl e' true []) \/ (0 < n /\ ∃ j, lv = .rs esz (b + j) 0 n /\ l[j]? = some (.cells ys) /\ ys.length = n * k)
theorem jaM {esz b k n : Nat} {lv : IVal} {ys : List IVal} {l l' : List IObj} (h : LX esz b k lv n ys l) : LX esz b k lv n ys (l ++ l') := by
 rcases h with h | ⟨h0, j, h1, h2, h3⟩
 . exact .inl h
 . exact .inr ⟨h0, j, h1, jm h2 _, h3⟩
theorem jhD {esz k n a : Nat} {σ : List IObj} {w : D.W} {cs : List IVal} {lv : IVal} {ys : List IVal} {l : List IObj} {σ' : List IObj} (hl : σ.length <= σ'.length) (h : LV esz σ' k lv n ys (S D σ a w cs l)) : LX esz σ.length k lv n ys l := by
 rcases h with ⟨h1, h2, h3⟩ | ⟨h0, id, h1, h2, h3, h4⟩
 . exact .inl ⟨h1, h2, h3⟩
 . obtain ⟨j, rfl⟩ : ∃ j, id = σ.length + j := ⟨id - σ.length, by omega⟩
   refine .inr ⟨h0, j, h1, ?_, h4⟩
   rw [S] at h3
   have := get_app (σ := (σ.set D.x (D.ob w)).set a (.cells cs)) (l := l) j
   simp only [rF] at this
   rw [this] at h3; exact h3
theorem jfh (h35 : F 33 = some X5) (h34 : F 32 = some Q4) (hw : Way F D) {a o most k e' : Nat} {acs : List IVal} {σ l : List IObj} {w : D.W} (hx : D.x < σ.length) (ha : a < σ.length) (hne : a ≠ D.x) (ho : acs[o]? = some (.sl e' true [])) (hm2 : most < 10000) (hk : D.ok w (k + most + 1)) :
   ∃ wr lv l', cfw F (.f 33) [.iface D.ty D.rv, .ptr a o, I most, .fn (.func 32) [] []] (S D σ a w acs l) = some ⟨false, .tup [], S D σ a (growW D (cnt D w most) (D.number w 0 most).1 []).1 (acs.set o lv) (l ++ l'), wr⟩ /\ Fa a wr /\ (0 < cnt D w most -> (a, true) ∈ wr) /\ LX 1 σ.length 1 lv (cnt D w most) (growW D (cnt D w most) (D.number w 0 most).1 []).2 (l ++ l') := by
 obtain ⟨wr, lv, l', h1, h2, h3, h4⟩ := jbH (k := k) h35 h34 hw (S_x (w := w) (cs := acs) (l := l) hx ha hne) (S_a hx ha hne) ho hne hm2 hk
 have e2 := JS (D := D) (w := w) (w' := (growW D (cnt D w most) (D.number w 0 most).1 []).1) (cs := acs) (cs' := acs.set o lv) (l := l) hx ha hne
 rw [e2, jc6] at h1 h4
 exact ⟨wr, lv, l', h1, h2, h3, jhD (by rw [S]; simp) h4⟩
theorem ji0 (h36 : F 34 = some XF) (h37 : F 35 = some X6) (h33 : F 31 = some Qa) (hw : Way F D) {a o most k e' : Nat} {acs : List IVal} {σ l : List IObj} {w : D.W} (hx : D.x < σ.length) (ha : a < σ.length) (hne : a ≠ D.x) (ho : acs[o]? = some (.sl e' true [])) (hm2 : most < 10000) (hk : D.ok w (k + 3 * most + 1)) :
   ∃ wr lv l', cfw F (.f 34) [.iface D.ty D.rv, .ptr a o, I most, .fn (.func 35) [] []] (S D σ a w acs l) = some ⟨false, .tup [], S D σ a (growR D (cnt D w most) (D.number w 0 most).1 []).1 (acs.set o lv) (l ++ l'), wr⟩ /\ Fa a wr /\ (0 < cnt D w most -> (a, true) ∈ wr) /\ LX 3 σ.length 3 lv (cnt D w most) (growR D (cnt D w most) (D.number w 0 most).1 []).2 (l ++ l') := by
 obtain ⟨wr, lv, l', h1, h2, h3, h4⟩ := jbI (k := k) h36 h37 h33 hw (S_x (w := w) (cs := acs) (l := l) hx ha hne) (S_a hx ha hne) ho hne hm2 hk
 have e2 := JS (D := D) (w := w) (w' := (growR D (cnt D w most) (D.number w 0 most).1 []).1) (cs := acs) (cs' := acs.set o lv) (l := l) hx ha hne
 rw [e2, jc6] at h1 h4
 exact ⟨wr, lv, l', h1, h2, h3, jhD (by rw [S]; simp) h4⟩
end Go.Idl.Sb
namespace Go.Idl.Sb
open Go Go.Idl Go.Idl.En
variable {F : jn} {D : WayD}
theorem J3 (hw : Way F D) : ∀ (d : Nat) (w : D.W) (ys : List IVal) (k : Nat), D.ok w (k + d) -> D.ok (growW D d w ys).1 k := by
 intro d
 induction d with
 | zero => intro w ys k h; exact h
 | succ d ih => intro w ys k h; exact ih _ _ k (Je hw J0 h)
theorem Zq (hw : Way F D) : ∀ (d : Nat) (w : D.W) (ys : List IVal) (k : Nat), D.ok w (k + 3 * d) -> D.ok (growR D d w ys).1 k := by
 intro d
 induction d with
 | zero => intro w ys k h; exact h
 | succ d ih =>
   intro w ys k h
   have e : k + 3 * (d + 1) = k + 3 * d + 3 := by omega
   rw [e] at h
   exact ih _ _ k (kv hw _ _ _ _ jfE KG h)
structure Rd (D : WayD) where
 wA : D.W
 cA : List IVal
 n1 : Nat
 w1 : D.W
 y1 : List IVal
 n2 : Nat
 w2 : D.W
 y2 : List IVal
 wB : D.W
 cB : List IVal
 n3 : Nat
 w3 : D.W
 y3 : List IVal
 w : D.W
 cs : List IVal
def rdS (D : WayD) (w0 : D.W) (cs : List IVal) : Rd D :=
 let rA := jk D lA w0 cs
 let n1 := cnt D rA.1 512
 let g1 := growW D n1 (D.number rA.1 0 512).1 []
 let n2 := cnt D g1.1 8000
 let g2 := growW D n2 (D.number g1.1 0 8000).1 []
 let rB := jk D lB g2.1 rA.2
 let n3 := cnt D rB.1 8
 let g3 := growR D n3 (D.number rB.1 0 8).1 []
 let rC := jk D lC g3.1 rB.2
 ⟨rA.1, rA.2, n1, g1.1, g1.2, n2, g2.1, g2.2, rB.1, rB.2, n3, g3.1, g3.2, rC.1, rC.2⟩
theorem Vk {o : Nat} : ∀ (l : List (K × Nat)) (w : D.W) (cs : List IVal), (∀ q ∈ l, q.2 ≠ o) -> (jk D l w cs).2[o]? = cs[o]? := by
 intro l
 induction l with
 | nil => intro w cs _; rfl
 | cons q l ih =>
   intro w cs h
   obtain ⟨k, p⟩ := q
   rw [jk]
   refine Eq.trans (ih _ _ (fun q hq => h q (rN _ hq))) ?_
   rw [rD (h (k, p) rT)]
end Go.Idl.Sb
