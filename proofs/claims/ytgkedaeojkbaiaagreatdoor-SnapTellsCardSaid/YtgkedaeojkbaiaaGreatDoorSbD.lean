/- SnapTells: what the ideal machine makes of its functions, part D; no conditions. -/
import Derived.Test.YtgkedaeojkbaiaaGreatDoorSbC
set_option linter.unusedSectionVars false
set_option linter.unusedVariables false
set_option linter.unusedSimpArgs false
namespace Go.Idl.Sb
open Go Go.Idl Go.Idl.En
variable {F : jn}
structure Gd (s : List UInt8) (w : Re) : Prop where
 p : w.pos <= s.length
 f : w.fo
theorem jdZ : ∀ xs : List UInt8, (zn xs).2.1 <= xs.length /\ ((zn xs).2.2 = 0 \/ (zn xs).2.2 = 3 \/ (zn xs).2.2 = 5)
 | [] => ⟨rS _, .inr (.inl rfl)⟩
 | x :: xs => by
   rw [zn]
   simp only []
   split
   . exact ⟨Nat.zero_le _, .inr (.inl rfl)⟩
   . split
     . refine ⟨?_, .inl rfl⟩
       show 2 ^ (x.toNat / 64) <= xs.length + 1
       omega
     . exact ⟨Nat.zero_le _, .inr (.inr rfl)⟩
theorem Gd.u {s : List UInt8} {w : Re} (g : Gd s w) : Gd s (w.u s).1 := by
 rw [Re.u]
 split
 . exact g
 . rename_i he
   have hl := jdZ (s.drop w.pos)
   have hp := g.p
   rw [List.length_drop] at hl
   refine ⟨by show w.pos + _ <= _; omega, ?_⟩
   intro h
   have h : (w.fail (zn (s.drop w.pos)).2.2 w.pos).er.isSome = true := h
   show erc (w.fail (zn (s.drop w.pos)).2.2 w.pos).er ≠ 0
   rw [Re.fail] at h ⊢
   split
   . rename_i h2
     rw [if_pos h2] at h
     exact absurd h he
   . rename_i h2
     show (zn (s.drop w.pos)).2.2 ≠ 0
     intro e0
     apply h2
     rw [e0]; simp
theorem Gd.b {s : List UInt8} {w : Re} (g : Gd s w) : Gd s (w.b s).1 := by
 rw [Re.b]
 split
 . exact g
 . split
   . exact ⟨g.p, fun _ => Nat.succ_ne_zero 2⟩
   . rename_i hx
     have : w.pos < s.length := by
       rcases Nat.lt_or_ge w.pos s.length with h | h
       . exact h
       . rw [rY h] at hx; cases hx
     exact ⟨this, fun h => by cases h⟩
theorem Gd.t {s : List UInt8} {w : Re} (g : Gd s w) : Gd s (w.t s).1 := by
 rw [Re.t]
 split
 . exact g
 . split
   . exact ⟨g.p, fun _ => Nat.succ_ne_zero 2⟩
   . rename_i hx
     have : w.pos < s.length := by
       rcases Nat.lt_or_ge w.pos s.length with h | h
       . exact h
       . rw [rY h] at hx; cases hx
     split
     . exact ⟨g.p, fun _ => Nat.succ_ne_zero 4⟩
     . exact ⟨this, fun h => by cases h⟩
def Re.rwhole (s : List UInt8) (w : Re) (lo hi : Int) : Re × Int :=
 if (w.u s).1.er.isSome then ((w.u s).1, JD (w.u s).2) else if decide (JD (w.u s).2 < lo) || decide (JD (w.u s).2 > hi) then (⟨w.pos, some (4, w.pos)⟩, 0) else ((w.u s).1, JD (w.u s).2)
def Re.rnum (s : List UInt8) (w : Re) (most : Nat) : Re × Nat :=
 if (w.u s).1.er.isSome then ((w.u s).1, (w.u s).2) else if decide ((w.u s).2 > most) then (⟨w.pos, some (4, w.pos)⟩, 0) else ((w.u s).1, (w.u s).2)
theorem Gd.rwhole {s : List UInt8} {w : Re} {lo hi : Int} (g : Gd s w) : Gd s (w.rwhole s lo hi).1 := by
 rw [Re.rwhole]
 split
 . exact g.u
 . split
   . exact ⟨g.p, fun _ => Nat.succ_ne_zero 3⟩
   . exact g.u
theorem Gd.rnum {s : List UInt8} {w : Re} {most : Nat} (g : Gd s w) : Gd s (w.rnum s most).1 := by
 rw [Re.rnum]
 split
 . exact g.u
 . split
   . exact ⟨g.p, fun _ => Nat.succ_ne_zero 3⟩
   . exact g.u
theorem jcR (h : F 64 = some X7) (h76 : F 76 = some Zg) (h65 : F 65 = some Q5) (h66 : F 66 = some Qb) (h67 : F 67 = some X8) (h40 : F 40 = some yX) {s : List UInt8} {p q : Nat} {lo hi : Int} {w : Re} {σ : List IObj} (hp : σ[p]? = some (w.rf s)) (hq : σ[q]? = some (.cells [.ptr p 0])) (hne : q ≠ p) (hs : s.length < 1000000) (g : Gd s w) :
   ∃ wr, cfw F (.f 64) [.ptr q 0, I lo, I hi] σ = some ⟨false, I (w.rwhole s lo hi).2, σ.set p ((w.rwhole s lo hi).1.rf s), wr⟩ /\ Fl wr := by
 rw [jj X7 h, callI]
 have lp := rE (ja hp)
 have lq := rE (ja hq)
 have l0 := ja hp
 have lq0 := ja hq
 obtain ⟨wr, u, gw⟩ := I76 h76 h65 h66 h40 hp hs g.p g.f
 have y1 : ∀ o, (σ.set p o)[p]? = some o := fun o => kB l0
 have y2 : ∀ o, (σ.set p o)[q]? = some (.cells [.ptr p 0]) := fun o => get_set hq (tR hne)
 have gu := g.u
 have hp' : σ[p]? = some (.cells [.str s, I w.pos, I (erc w.er), I (era w.er)]) := hp
 rw [Re.rwhole]
 generalize JD (w.u s).2 = v at *
 generalize (w.u s).1 = w1 at *
 obtain ⟨pos1, er1⟩ := w1
 cases er1 with
 | some e =>
   obtain ⟨c, a⟩ := e
   have hc : c ≠ 0 := gu.f rfl
   have ob : Re.rf s ⟨pos1, some (c, a)⟩ = .cells [.str s, I pos1, I c, I a] := rfl
   have b1 : ((c : Int) == 0) = false := by simpa using hc
   simp only [Option.isSome, if_true]
   rw [ob]
   rw [ob] at u
   simp only [X7, jd, hp', hq, lp, lq, u, y1, y2, b1, jr gw, take_set, rF, zV, zS, zD, simprocAttr]
   exact ⟨_, rfl, jo gw⟩
 | none =>
   have ob : Re.rf s ⟨pos1, none⟩ = .cells [.str s, I pos1, I 0, I 0] := rfl
   have b1 : ((0 : Int) == 0) = true := rfl
   rw [ob] at u
   simp only [Option.isSome, tF, if_false]
   obtain ⟨wr4, u4, g4⟩ := jeL (c := 4) (a := w.pos) (pos := w.pos) (σ := σ.set p (.cells [.str s, I w.pos, I (0 : Nat), I (0 : Nat)])) h67 (y1 _) (by decide)
   rw [tE] at u4
   have u4 : cfw F (.f 67) [.ptr p 0, I 4, I w.pos] (σ.set p (.cells [.str s, I w.pos, I 0, I 0])) = some ⟨false, .tup [], σ.set p (.cells [.str s, I w.pos, I 4, I w.pos]), wr4⟩ := u4
   have gg : Fl (wr4 ++ (p, false) :: wr) := by rw [Fl] at gw g4 ⊢; rw [rQ, g4, tN, gw]; rfl
   have ob4 : Re.rf s ⟨w.pos, some (4, w.pos)⟩ = .cells [.str s, I w.pos, I 4, I w.pos] := rfl
   cases d1 : decide (v < lo)
   . cases d2 : decide (v > hi)
     . rw [if_neg (by simp), ob]
       simp only [X7, jd, hp', hq, lp, lq, u, y1, y2, b1, d1, d2, jr gw, take_set, rF, zV, zS, zD, simprocAttr]
       exact ⟨_, rfl, jo gw⟩
     . rw [if_pos (by simp), ob4]
       simp only [X7, jd, hp', hq, lp, lq, u, u4, y1, y2, b1, d1, d2, jr gg, take_set, tE, rF, zV, zS, zD, simprocAttr]
       exact ⟨_, rfl, jo gg⟩
   . rw [if_pos (by simp), ob4]
     simp only [X7, jd, hp', hq, lp, lq, u, u4, y1, y2, b1, d1, jr gg, take_set, tE, rF, zV, zS, zD, simprocAttr]
     exact ⟨_, rfl, jo gg⟩
end Go.Idl.Sb
namespace Go.Idl.Sb
open Go Go.Idl Go.Idl.En
variable {F : jn}
theorem jiQ (h : F 50 = some je6) (h65 : F 65 = some Q5) (h66 : F 66 = some Qb) (h67 : F 67 = some X8) (h40 : F 40 = some yX) {s : List UInt8} {p q most : Nat} {w : Re} {σ : List IObj} (hp : σ[p]? = some (w.rf s)) (hq : σ[q]? = some (.cells [.ptr p 0])) (hne : q ≠ p) (hs : s.length < 1000000) (g : Gd s w) :
   ∃ wr, cfw F (.f 50) [.ptr q 0, Q most] σ = some ⟨false, Q (w.rnum s most).2, σ.set p ((w.rnum s most).1.rf s), wr⟩ /\ Fl wr := by
 rw [jj je6 h, callI]
 have lp := rE (ja hp)
 have lq := rE (ja hq)
 have l0 := ja hp
 have lq0 := ja hq
 obtain ⟨wr, u, gw⟩ := U65 h65 h66 h40 hp hs g.p g.f
 have y1 : ∀ o, (σ.set p o)[p]? = some o := fun o => kB l0
 have y2 : ∀ o, (σ.set p o)[q]? = some (.cells [.ptr p 0]) := fun o => get_set hq (tR hne)
 have gu := g.u
 have hp' : σ[p]? = some (.cells [.str s, I w.pos, I (erc w.er), I (era w.er)]) := hp
 rw [Re.rnum]
 generalize (w.u s).2 = v at *
 generalize (w.u s).1 = w1 at *
 obtain ⟨pos1, er1⟩ := w1
 cases er1 with
 | some e =>
   obtain ⟨c, a⟩ := e
   have hc : c ≠ 0 := gu.f rfl
   have ob : Re.rf s ⟨pos1, some (c, a)⟩ = .cells [.str s, I pos1, I c, I a] := rfl
   have b1 : ((c : Int) == 0) = false := by simpa using hc
   simp only [Option.isSome, if_true]
   rw [ob]
   rw [ob] at u
   simp only [je6, jd, hp', hq, lp, lq, u, y1, y2, b1, jr gw, take_set, rF, zV, zS, zD, simprocAttr]
   exact ⟨_, rfl, jo gw⟩
 | none =>
   have ob : Re.rf s ⟨pos1, none⟩ = .cells [.str s, I pos1, I 0, I 0] := rfl
   have b1 : ((0 : Int) == 0) = true := rfl
   rw [ob] at u
   simp only [Option.isSome, tF, if_false]
   obtain ⟨wr4, u4, g4⟩ := jeL (c := 4) (a := w.pos) (pos := w.pos) (σ := σ.set p (.cells [.str s, I w.pos, I (0 : Nat), I (0 : Nat)])) h67 (y1 _) (by decide)
   rw [tE] at u4
   have u4 : cfw F (.f 67) [.ptr p 0, I 4, I w.pos] (σ.set p (.cells [.str s, I w.pos, I 0, I 0])) = some ⟨false, .tup [], σ.set p (.cells [.str s, I w.pos, I 4, I w.pos]), wr4⟩ := u4
   have gg : Fl (wr4 ++ (p, false) :: wr) := by rw [Fl] at gw g4 ⊢; rw [rQ, g4, tN, gw]; rfl
   have ob4 : Re.rf s ⟨w.pos, some (4, w.pos)⟩ = .cells [.str s, I w.pos, I 4, I w.pos] := rfl
   have dd : decide ((v : Int) > (most : Int)) = decide (v > most) := by rw [decide_eq_decide]; omega
   by_cases d2 : v > most
   . have d3 : decide ((v : Int) > (most : Int)) = true := by rw [dd, rE d2]
     rw [if_pos (rE d2), ob4]
     simp only [je6, jd, hp', hq, lp, lq, u, u4, y1, y2, b1, d3, jr gg, take_set, tE, rF, zV, zS, zD, simprocAttr]
     exact ⟨_, rfl, jo gg⟩
   . have d3 : decide ((v : Int) > (most : Int)) = false := by rw [dd, rH d2]
     rw [if_neg (by rw [rH d2]; decide), ob]
     simp only [je6, jd, hp', hq, lp, lq, u, y1, y2, b1, d3, jr gw, take_set, rF, zV, zS, zD, simprocAttr]
     exact ⟨_, rfl, jo gw⟩
theorem jeO (h : F 46 = some je5) (h65 : F 65 = some Q5) (h66 : F 66 = some Qb) (h40 : F 40 = some yX) {s : List UInt8} {p most : Nat} {w : Re} {σ : List IObj} (hp : σ[p]? = some (w.rf s)) (hs : s.length < 1000000) (hm : most < 1000000) (g : Gd s w) :
   ∃ wr, cfw F (.f 46) [.ptr p 0, I most] σ = some ⟨false, I (w.rnum s most).2, σ.set p ((w.rnum s most).1.rf s), wr⟩ /\ Fl wr := by
 rw [jj je5 h, callI]
 have lp := rE (ja hp)
 have l0 := ja hp
 obtain ⟨wr, u, gw⟩ := U65 h65 h66 h40 hp hs g.p g.f
 have y1 : ∀ o, (σ.set p o)[p]? = some o := fun o => kB l0
 have gu := g.u
 have hp' : σ[p]? = some (.cells [.str s, I w.pos, I (erc w.er), I (era w.er)]) := hp
 have ul := jje s w
 rw [Re.rnum]
 generalize (w.u s).2 = v at *
 generalize (w.u s).1 = w1 at *
 have k1 : IntKind.i64.wrap (v : Int) = (v : Int) := jP (by omega) (by omega)
 have k2 : IntKind.u64.wrap (most : Int) = (most : Int) := jt (by omega) (by omega)
 have k3 : decide ((most : Int) < 0) = false := rH (by omega)
 obtain ⟨pos1, er1⟩ := w1
 cases er1 with
 | some e =>
   obtain ⟨c, a⟩ := e
   have hc : c ≠ 0 := gu.f rfl
   have ob : Re.rf s ⟨pos1, some (c, a)⟩ = .cells [.str s, I pos1, I c, I a] := rfl
   have b1 : ((c : Int) == 0) = false := by simpa using hc
   simp only [Option.isSome, if_true]
   rw [ob]
   rw [ob] at u
   simp only [je5, jd, hp', lp, u, y1, b1, k1, jr gw, take_set, rF, zV, zS, zD, simprocAttr]
   exact ⟨_, rfl, jo gw⟩
 | none =>
   have ob : Re.rf s ⟨pos1, none⟩ = .cells [.str s, I pos1, I 0, I 0] := rfl
   have b1 : ((0 : Int) == 0) = true := rfl
   rw [ob] at u
   simp only [Option.isSome, tF, if_false]
   obtain ⟨wr4, u4, g4⟩ := VL (c := 4) (σ := σ.set p (.cells [.str s, I w.pos, I (0 : Nat), I (0 : Nat)])) h66 (y1 _)
   rw [tE] at u4
   have u4 : cfw F (.f 66) [.ptr p 0, I 4] (σ.set p (.cells [.str s, I w.pos, I 0, I 0])) = some ⟨false, .tup [], σ.set p (.cells [.str s, I w.pos, I 4, I w.pos]), wr4⟩ := u4
   have gg : Fl (wr4 ++ (p, false) :: wr) := by rw [Fl] at gw g4 ⊢; rw [rQ, g4, tN, gw]; rfl
   have ob4 : Re.rf s ⟨w.pos, some (4, w.pos)⟩ = .cells [.str s, I w.pos, I 4, I w.pos] := rfl
   have dd : decide ((v : Int) > (most : Int)) = decide (v > most) := by rw [decide_eq_decide]; omega
   by_cases d2 : v > most
   . have d3 : decide ((v : Int) > (most : Int)) = true := by rw [dd, rE d2]
     rw [if_pos (rE d2), ob4]
     simp only [je5, jd, hp', lp, u, u4, y1, b1, k1, k2, k3, d3, jr gg, take_set, tE, rF, zV, zS, zD, simprocAttr]
     exact ⟨_, rfl, jo gg⟩
   . have d3 : decide ((v : Int) > (most : Int)) = false := by rw [dd, rH d2]
     rw [if_neg (by rw [rH d2]; decide), ob]
     simp only [je5, jd, hp', lp, u, y1, b1, k1, k2, k3, d3, jr gw, take_set, rF, zV, zS, zD, simprocAttr]
     exact ⟨_, rfl, jo gw⟩
section
variable {s : List UInt8} {p q : Nat} {w : Re} {σ : List IObj}
theorem Yn (h : F 43 = some jf7) (h64 : F 64 = some X7) (h76 : F 76 = some Zg) (h65 : F 65 = some Q5) (h66 : F 66 = some Qb) (h67 : F 67 = some X8) (h40 : F 40 = some yX) (hp : σ[p]? = some (w.rf s)) (hq : σ[q]? = some (.cells [.ptr p 0])) (hne : q ≠ p) (hs : s.length < 1000000) (g : Gd s w) :
   ∃ wr, cfw F (.f 43) [.ptr q 0] σ = some ⟨false, I (w.rwhole s (-1152921504606846976) 1152921504606846976).2, σ.set p ((w.rwhole s (-1152921504606846976) 1152921504606846976).1.rf s), wr⟩ /\ Fl wr := by
 rw [jj jf7 h, callI]
 obtain ⟨wr, u, gw⟩ := jcR (lo := -1152921504606846976) (hi := 1152921504606846976) h64 h76 h65 h66 h67 h40 hp hq hne hs g
 generalize Re.rwhole s w (-1152921504606846976) 1152921504606846976 = r at *
 simp only [jf7, u, jr gw, take_set, zV, zS, zD, simprocAttr]
 exact ⟨_, rfl, jo gw⟩
theorem jcS (h : F 44 = some je4) (h64 : F 64 = some X7) (h76 : F 76 = some Zg) (h65 : F 65 = some Q5) (h66 : F 66 = some Qb) (h67 : F 67 = some X8) (h40 : F 40 = some yX) (hp : σ[p]? = some (w.rf s)) (hq : σ[q]? = some (.cells [.ptr p 0])) (hne : q ≠ p) (hs : s.length < 1000000) (g : Gd s w) :
   ∃ wr, cfw F (.f 44) [.ptr q 0] σ = some ⟨false, J (IntKind.i32.wrap (w.rwhole s (-2147483648) 2147483647).2), σ.set p ((w.rwhole s (-2147483648) 2147483647).1.rf s), wr⟩ /\ Fl wr := by
 rw [jj je4 h, callI]
 obtain ⟨wr, u, gw⟩ := jcR (lo := -2147483648) (hi := 2147483647) h64 h76 h65 h66 h67 h40 hp hq hne hs g
 generalize Re.rwhole s w (-2147483648) 2147483647 = r at *
 simp only [je4, u, jr gw, take_set, zV, zS, zD, simprocAttr]
 exact ⟨_, rfl, jo gw⟩
end
end Go.Idl.Sb
namespace Go.Idl.Sb
open Go Go.Idl Go.Idl.En
variable {F : jn}
def jS (s : List UInt8) : Nat -> Re -> List IVal -> Re × List IVal
 | 0, w, ys => (w, ys)
 | d + 1, w, ys => if w.er.isSome then (w, ys) else jS s d (w.rwhole s (-2147483648) 2147483647).1 (ys ++ [J (IntKind.i32.wrap (w.rwhole s (-2147483648) 2147483647).2)])
theorem Gd.growW {s : List UInt8} : ∀ (d : Nat) (w : Re) (ys : List IVal), Gd s w -> Gd s (jS s d w ys).1
 | 0, w, ys, g => g
 | d + 1, w, ys, g => by
   rw [jS]
   split
   . exact g
   . exact Gd.growW d _ _ g.rwhole
theorem jit (h44 : F 44 = some je4) (h64 : F 64 = some X7) (h76 : F 76 = some Zg) (h65 : F 65 = some Q5) (h66 : F 66 = some Qb) (h67 : F 67 = some X8) (h40 : F 40 = some yX) {s : List UInt8} {p q n : Nat} {σ : List IObj} (hp : p < σ.length) (hq : σ[q]? = some (.cells [.ptr p 0])) (hne : q ≠ p) (hs : s.length < 1000000) (hn : n < 100000) : ∀ (d i : Nat) (f0 : Nat -> Option (Nat × IVal)) (w : Re) (ys : List IVal) (r : Bool) (wr : List (Nat × Bool)) (R : Option (IExit × St)),
   evw F (.loop Js) ⟨E 8 14 5 [] (base f0), σ.set p (w.rf s), wr⟩ = R -> i + d = n -> Gd s w -> (!ys.isEmpty && r) = false -> ys.length + d < 1000000 -> Fl wr -> f0 0 = some (0, .ptr q 0) -> f0 5 = some (5, .sl 1 r ys) -> f0 6 = some (6, I n) -> f0 7 = some (7, I i) ->
   ∃ f1 r' wr', R = some (.exit 0, ⟨E 8 14 5 [] (base f1), σ.set p ((jS s d w ys).1.rf s), wr'⟩) /\ f1 5 = some (5, .sl 1 r' (jS s d w ys).2) /\ Fl wr' /\ (!(jS s d w ys).2.isEmpty && r') = false := by
 have y1 : ∀ o, (σ.set p o)[p]? = some o := fun o => kB hp
 have y2 : ∀ o, (σ.set p o)[q]? = some (.cells [.ptr p 0]) := fun o => get_set hq (tR hne)
 intro d
 induction d with
 | zero =>
   intro i f0 w ys r wr R hE hi g hr hy hw e0 e5 e6 e7
   have l0 : decide ((i : Int) < (n : Int)) = false := rH (by omega)
   rw [jc] at hE
   subst hE
   simp only [Js, e0, e5, e6, e7, l0, zV, zS, zD, simprocAttr]
   exact ⟨_, _, _, rfl, (by first | exact e5 | rfl), hw, hr⟩
 | succ d ih =>
   intro i f0 w ys r wr R hE hi g hr hy hw e0 e5 e6 e7
   have l0 : decide ((i : Int) < (n : Int)) = true := rE (by omega)
   have w1 := kM (n := i) (by omega)
   rw [jS]
   have ob : w.rf s = .cells [.str s, I w.pos, I (erc w.er), I (era w.er)] := rfl
   cases he : w.er with
   | some e =>
     obtain ⟨c, a⟩ := e
     have hc : c ≠ 0 := by have := g.f (by rw [he]; rfl); rw [he] at this; exact this
     have b1 : (((erc (some (c, a)) : Nat) : Int) == 0) = false := by show ((c : Int) == 0) = false; simpa using hc
     simp only [Option.isSome, if_true]
     rw [jc] at hE
     subst hE
     rw [ob, he]
     simp only [Js, jd, e0, e5, e6, e7, l0, y1, y2, b1, zV, zS, zD, simprocAttr]
     exact ⟨_, _, _, rfl, (by first | exact e5 | rfl), hw, hr⟩
   | none =>
     have ob0 : w.rf s = .cells [.str s, I w.pos, I 0, I 0] := by rw [ob, he]; rfl
     have b1 : ((0 : Int) == 0) = true := rfl
     obtain ⟨wr1, u, g1⟩ := jcS h44 h64 h76 h65 h66 h67 h40 (σ := σ.set p (w.rf s)) (y1 _) (y2 _) hne hs g
     rw [tE, ob0] at u
     simp only [Option.isSome, tF, if_false]
     have gw := g.rwhole (lo := -2147483648) (hi := 2147483647)
     generalize Re.rwhole s w (-2147483648) 2147483647 = rr at *
     have q1 : (ys.length + 1) * 4 <= 1099511627776 := by omega
     have q2 : ys.length + 1 <= 1099511627776 := by omega
     have gg : Fl (wr1 ++ wr) := by rw [Fl] at g1 hw ⊢; rw [rQ, g1, hw]; rfl
     rw [jc, ob0] at hE
     have ex : ∀ z : Int, ext [J z] = false := fun _ => rfl
     simp only [Js, jd, e0, e5, e6, e7, l0, y1, y2, b1, u, w1, q1, q2, hr, ex, zV, zS, zD, simprocAttr] at hE
     exact ih (i + 1) _ rr.1 (ys ++ [J (IntKind.i32.wrap rr.2)]) false _ R hE (by omega) gw (Bool.and_false _) (by simp; omega) gg (by first | exact e0 | rfl) (by rfl) (by first | exact e6 | rfl) (by rfl)
theorem jhk (h : F 45 = some jii) (h46 : F 46 = some je5) (h44 : F 44 = some je4) (h64 : F 64 = some X7) (h76 : F 76 = some Zg) (h65 : F 65 = some Q5) (h66 : F 66 = some Qb) (h67 : F 67 = some X8) (h40 : F 40 = some yX) {s : List UInt8} {p q most : Nat} {w : Re} {σ : List IObj} (hp : σ[p]? = some (w.rf s)) (hq : σ[q]? = some (.cells [.ptr p 0])) (hne : q ≠ p) (hs : s.length < 1000000) (hm : most < 10000) (g : Gd s w) (hn : (w.rnum s most).2 < 100000) :
   ∃ wr r, cfw F (.f 45) [.ptr q 0, I most] σ = some ⟨false, .sl 1 r (jS s (w.rnum s most).2 (w.rnum s most).1 []).2, σ.set p ((jS s (w.rnum s most).2 (w.rnum s most).1 []).1.rf s), wr⟩ /\ Fl wr /\ (!(jS s (w.rnum s most).2 (w.rnum s most).1 []).2.isEmpty && r) = false := by
 rw [jj jii h, callI]
 have lp := ja hp
 obtain ⟨wr, u, g1⟩ := jeO h46 h65 h66 h40 hp hs (by omega : most < 1000000) g
 have gn := g.rnum (most := most)
 generalize w.rnum s most = rr at *
 simp only [jii, jd, hq, u, zV, zS, zD, simprocAttr]
 generalize hE : evw F (ICode.loop Js) _ = R
 obtain ⟨f1, r', wr', rfl, a5, gg, hr⟩ := jit h44 h64 h76 h65 h66 h67 h40 lp hq hne hs hn rr.2 0 _ rr.1 [] true _ R hE (by omega) gn rfl (by simp; omega) g1 (by rfl) (by rfl) (by rfl) (by rfl)
 generalize (jS s rr.2 rr.1 []).2 = l at *
 have hr2 : (!r' || l.isEmpty) = true := by cases r' <;> cases h : l.isEmpty <;> simp_all
 simp only [a5, hr2, jr gg, take_set, zV, zS, zD, simprocAttr]
 exact ⟨_, _, rfl, jo gg, hr⟩
end Go.Idl.Sb
namespace Go.Idl.Sb
open Go Go.Idl Go.Idl.En
variable {F : jn}
theorem Gd.bytes {s : List UInt8} : ∀ (os : List Nat) (w : Re) (cs : List IVal), Gd s w -> Gd s (w.bytes s cs os).1
 | [], w, cs, g => g
 | o :: os, w, cs, g => Gd.bytes os _ _ g.b
theorem ji4 {σ : List IObj} {x p : Nat} {a b c : IObj} (hne : p ≠ x) : ((σ.set x a).set p b).set x c = (σ.set x c).set p b := by
 rw [List.set_comm _ _ hne, tE]
theorem jiu (h48 : F 48 = some jbv) (h66 : F 66 = some Qb) {s : List UInt8} {p q b : Nat} {σ : List IObj} (hp : p < σ.length) (hb : b < σ.length) (hq : σ[q]? = some (.cells [.ptr p 0])) (hne : q ≠ p) (hbp : b ≠ p) (hbq : b ≠ q) (hs : s.length < 1000000) : ∀ (d i : Nat) (f0 : Nat -> Option (Nat × IVal)) (w : Re) (cs : List IVal) (v2 : IVal) (wr : List (Nat × Bool)) (R : Option (IExit × St)),
   evw F (.loop Kw) ⟨E 5 8 4 [] (base f0), (σ.set p (w.rf s)).set b (.cells cs), wr⟩ = R -> i + d = 8 -> Gd s w -> cs.length = 9 -> Fl wr -> f0 0 = some (0, .ptr q 0) -> f0 2 = some (2, v2) -> f0 3 = some (3, .ptr b 0) -> f0 4 = some (4, I i) ->
   ∃ f1 wr', R = some (.exit 0, ⟨E 5 8 4 [] (base f1), (σ.set p ((w.bytes s cs (List.range' (1 + i) d)).1.rf s)).set b (.cells (w.bytes s cs (List.range' (1 + i) d)).2), wr'⟩) /\ f1 2 = some (2, v2) /\ f1 3 = some (3, .ptr b 0) /\ Fl wr' := by
 have y2 : ∀ a c, ((σ.set p a).set b c)[q]? = some (.cells [.ptr p 0]) := fun a c => jdD hq hne (tR hbq)
 have y3 : ∀ a c, ((σ.set p a).set b c)[b]? = some c := fun a c => (JU hp hb hbp).2
 intro d
 induction d with
 | zero =>
   intro i f0 w cs v2 wr R hE hi g hl hw e0 e2 e3 e4
   have l0 : decide ((i : Int) < 8) = false := rH (by omega)
   rw [jc] at hE
   subst hE
   simp only [Kw, e0, e2, e3, e4, l0, zV, zS, libOf, purI, loadCell, elemsOf, appR, drawEnd, undefI, runDraw, stepD, noRs, opdsOf, pairsOK, okPair, rdOf, quiet, callI, Ts.fill, retI, shut, readRes, tupV, finish, runOps, wantedI, stepOp, getAll, stepCall, addOut, unI, Opd.get, slotN, tag, markW, putCells, putT, rv, bin, binI, Nat.reduceAdd, Nat.reduceSub, Nat.reduceMul, Nat.reduceDiv, Nat.reduceMod, Nat.reducePow, Nat.reduceLT, Nat.reduceLeDiff, Nat.reduceEqDiff, Nat.reduceBEq, Nat.reduceBNe, reduceIte, Int.reduceEq, Int.reduceLT, Int.reduceLE, Int.reduceNeg, Int.reduceToNat, Int.reduceMul, Int.reduceAdd, Int.reduceSub, reduceCtorEq]
   exact ⟨_, _, rfl, (by first | exact e2 | rfl), (by first | exact e3 | rfl), hw⟩
 | succ d ih =>
   intro i f0 w cs v2 wr R hE hi g hl hw e0 e2 e3 e4
   have l0 : decide ((i : Int) < 8) = true := rE (by omega)
   have l1 : (i : Int) < ((8 : Nat) : Int) := by omega
   have l1' : (i : Int) < 8 := by omega
   have d1 : (0 : Int) <= (i : Int) := by omega
   have w1 := kM (n := i) (by omega)
   have o3 : 1 + i <= 8 := by omega
   have o1 : 1 + i < cs.length := by omega
   have o2 : 1 + i + 1 <= cs.length := by omega
   obtain ⟨wr1, u, g1⟩ := B48 h48 h66 (σ := (σ.set p (w.rf s)).set b (.cells cs)) (JU hp hb hbp).1 hs g.p g.f
   rw [ji4 hbp] at u
   have gb := g.b
   have e : w.bytes s cs (List.range' (1 + i) (d + 1)) = ((w.b s).1).bytes s (cs.set (1 + i) (B (w.b s).2)) (List.range' (1 + (i + 1)) d) := by rw [List.range'_succ, Re.bytes]; rfl
   rw [e]
   generalize w.b s = rr at *
   have gg : ∀ f, Fl ((b, f) :: (wr1 ++ wr)) ↔ f = false := fun f => by
     rw [Fl] at g1 hw ⊢
     rw [tN, rQ, g1, hw]; cases f <;> simp
   rw [jc] at hE
   simp only [Kw, jd, e0, e2, e3, e4, l0, l1, l1', d1, w1, hl, o1, o2, o3, hb, y2, y3, u, tE, rF, rL, zV, zS, libOf, purI, loadCell, elemsOf, appR, drawEnd, undefI, runDraw, stepD, noRs, opdsOf, pairsOK, okPair, rdOf, quiet, callI, Ts.fill, retI, shut, readRes, tupV, finish, runOps, wantedI, stepOp, getAll, stepCall, addOut, unI, Opd.get, slotN, tag, markW, putCells, putT, rv, bin, binI, Nat.reduceAdd, Nat.reduceSub, Nat.reduceMul, Nat.reduceDiv, Nat.reduceMod, Nat.reducePow, Nat.reduceLT, Nat.reduceLeDiff, Nat.reduceEqDiff, Nat.reduceBEq, Nat.reduceBNe, reduceIte, Int.reduceEq, Int.reduceLT, Int.reduceLE, Int.reduceNeg, Int.reduceToNat, Int.reduceMul, Int.reduceAdd, Int.reduceSub, reduceCtorEq] at hE
   exact ih (i + 1) _ rr.1 (cs.set (1 + i) (B rr.2)) v2 _ R hE (by omega) gb (by simpa using hl) ((gg _).2 rfl) (by first | exact e0 | rfl) (by first | exact e2 | rfl) (by first | exact e3 | rfl) (by rfl)
def rque (s : List UInt8) (w : Re) : Re × List IVal :=
 (w.rwhole s (-1152921504606846976) 1152921504606846976).1.bytes s (I (w.rwhole s (-1152921504606846976) 1152921504606846976).2 :: List.replicate 8 (B 0)) (List.range' 1 8)
theorem Gd.rque {s : List UInt8} {w : Re} (g : Gd s w) : Gd s (rque s w).1 := Gd.bytes _ _ _ g.rwhole
theorem VE {s : List UInt8} : ∀ (os : List Nat) (w : Re) (cs : List IVal), (w.bytes s cs os).2.length = cs.length
 | [], w, cs => rfl
 | o :: os, w, cs => (VE os _ _).trans (by rw [rF])
def jhE (v : IVal) : Prop := v.isCell = true /\ nr1 v = true /\ un1 v = v
theorem Qo {s : List UInt8} : ∀ (os : List Nat) (w : Re) (cs : List IVal), (∀ v ∈ cs, jhE v) -> ∀ v ∈ (w.bytes s cs os).2, jhE v
 | [], w, cs, h => h
 | o :: os, w, cs, h => Qo os _ _ (fun v hv => by
   rcases List.mem_or_eq_of_mem_set hv with h1 | h1
   . exact h v h1
   . subst h1; exact ⟨rfl, rfl, rfl⟩)
theorem jgW (h : F 49 = some jij) (h48 : F 48 = some jbv) (h43 : F 43 = some jf7) (h64 : F 64 = some X7) (h76 : F 76 = some Zg) (h65 : F 65 = some Q5) (h66 : F 66 = some Qb) (h67 : F 67 = some X8) (h40 : F 40 = some yX) {s : List UInt8} {p q : Nat} {w : Re} {σ : List IObj} (hp : σ[p]? = some (w.rf s)) (hq : σ[q]? = some (.cells [.ptr p 0])) (hne : q ≠ p) (hs : s.length < 1000000) (g : Gd s w) :
   ∃ wr, cfw F (.f 49) [.ptr q 0] σ = some ⟨false, .agg (rque s w).2, σ.set p ((rque s w).1.rf s), wr⟩ /\ Fl wr := by
 rw [jj jij h, callI]
 have lp := ja hp
 have lq := ja hq
 obtain ⟨wr, u, g1⟩ := Yn (σ := σ ++ [.cells [.int .i64 0, .int .u8 0, .int .u8 0, .int .u8 0, .int .u8 0, .int .u8 0, .int .u8 0, .int .u8 0, .int .u8 0]]) h43 h64 h76 h65 h66 h67 h40 (jm hp _) (jm hq _) hne hs g
 rw [jF lp] at u
 have gr := g.rwhole (lo := -1152921504606846976) (hi := 1152921504606846976)
 rw [rque]
 generalize Re.rwhole s w (-1152921504606846976) 1152921504606846976 = rr at *
 have f1 : qw [.int .i64 0, .int .u8 0, .int .u8 0, .int .u8 0, .int .u8 0, .int .u8 0, .int .u8 0, .int .u8 0, .int .u8 0] [(0, 1, I rr.2)] = some [I rr.2, .int .u8 0, .int .u8 0, .int .u8 0, .int .u8 0, .int .u8 0, .int .u8 0, .int .u8 0, .int .u8 0] := rfl
 have ga1 : ∀ o l k, (σ.set p o ++ l)[σ.length + k]? = l[k]? := fun o l k => by have := get_app (σ := σ.set p o) (l := l) k; rw [rF] at this; exact this
 have ga0 : ∀ o l, (σ.set p o ++ l)[σ.length]? = l[0]? := fun o l => ga1 o l 0
 have sa1 : ∀ o l k x, (σ.set p o ++ l).set (σ.length + k) x = σ.set p o ++ l.set k x := fun o l k x => by have := set_app (σ := σ.set p o) (l := l) k x; rw [rF] at this; exact this
 have sa0 : ∀ o l x, (σ.set p o ++ l).set σ.length x = σ.set p o ++ l.set 0 x := fun o l x => sa1 o l 0 x
 have ta : ∀ o l, (σ.set p o ++ l).take σ.length = σ.set p o := fun o l => by have := take_app (σ := σ.set p o) (l := l); rw [rF] at this; exact this
 simp only [jij, jd, u, f1, ga1, ga0, sa1, sa0, tJ, tU, rF, zV, zS, libOf, purI, loadCell, elemsOf, appR, drawEnd, undefI, runDraw, stepD, noRs, opdsOf, pairsOK, okPair, rdOf, quiet, callI, Ts.fill, retI, shut, readRes, tupV, finish, runOps, wantedI, stepOp, getAll, stepCall, addOut, unI, Opd.get, slotN, tag, markW, putCells, putT, rv, bin, binI, Nat.reduceAdd, Nat.reduceSub, Nat.reduceMul, Nat.reduceDiv, Nat.reduceMod, Nat.reducePow, Nat.reduceLT, Nat.reduceLeDiff, Nat.reduceEqDiff, Nat.reduceBEq, Nat.reduceBNe, reduceIte, Int.reduceEq, Int.reduceLT, Int.reduceLE, Int.reduceNeg, Int.reduceToNat, Int.reduceMul, Int.reduceAdd, Int.reduceSub, reduceCtorEq]
 generalize hE : evw F (ICode.loop Kw) _ = R
 have b0 : ∀ x c, σ.set p x ++ [IObj.cells [.int .i64 0, .int .u8 0, .int .u8 0, .int .u8 0, .int .u8 0, .int .u8 0, .int .u8 0, .int .u8 0, .int .u8 0], c] = ((σ ++ [IObj.cells [.int .i64 0, .int .u8 0, .int .u8 0, .int .u8 0, .int .u8 0, .int .u8 0, .int .u8 0, .int .u8 0, .int .u8 0], .cells []]).set p x).set (σ.length + 1) c := fun x c => by
   rw [jF lp, sa1]; rfl
 rw [b0] at hE
 have gg : Fl ((σ.length + 1, false) :: wr) := by rw [Fl] at g1 ⊢; rw [tN, g1]; rfl
 obtain ⟨f2, wr', rfl, a2, a3, gw⟩ := jiu h48 h66 (σ := σ ++ [IObj.cells [.int .i64 0, .int .u8 0, .int .u8 0, .int .u8 0, .int .u8 0, .int .u8 0, .int .u8 0, .int .u8 0, .int .u8 0], .cells []]) (b := σ.length + 1) (by simp; omega) (by simp) (jm hq _) hne (by omega) (by omega) hs 8 0 _ rr.1 [I rr.2, B 0, B 0, B 0, B 0, B 0, B 0, B 0, B 0] (.ptr σ.length 0) _ R hE (by omega) gr rfl gg (by rfl) (by rfl) (by rfl) (by rfl)
 rw [<- b0]
 have lb := VE (s := s) (List.range' 1 8) rr.1 [I rr.2, B 0, B 0, B 0, B 0, B 0, B 0, B 0, B 0]
 have hprim := Qo (s := s) (List.range' 1 8) rr.1 [I rr.2, B 0, B 0, B 0, B 0, B 0, B 0, B 0, B 0] (by intro v hv; simp at hv; rcases hv with rfl | rfl <;> exact ⟨rfl, rfl, rfl⟩)
 have er : (I rr.2 :: List.replicate 8 (B 0)) = [I rr.2, B 0, B 0, B 0, B 0, B 0, B 0, B 0, B 0] := rfl
 rw [er]
 simp only [Nat.add_zero]
 generalize Re.bytes s rr.1 [I rr.2, B 0, B 0, B 0, B 0, B 0, B 0, B 0, B 0] (List.range' 1 8) = rb at *
 have lb : rb.2.length = 9 := lb
 have tk : rb.2.take 9 = rb.2 := rX (by omega)
 have cc : rb.2.all IVal.isCell = true := List.all_eq_true.2 fun v hv => (hprim v hv).1
 have nn : rb.2.all nr1 = true := List.all_eq_true.2 fun v hv => (hprim v hv).2.1
 have um : rb.2.map un1 = rb.2 := by
   rw [List.map_congr_left (g := id) (fun v hv => (hprim v hv).2.2), List.map_id]
 have pc : ∀ c : List IVal, c.length = 9 -> putCells c 0 rb.2 = rb.2 := fun c hc => Yp (by rw [hc, lb])
 simp only [jd, a2, a3, ga1, ga0, sa1, sa0, ta, lb, tk, cc, nn, um, pc, jr gw, tI, List.length_nil, rF, zV, zS, libOf, purI, loadCell, elemsOf, appR, drawEnd, undefI, runDraw, stepD, noRs, opdsOf, pairsOK, okPair, rdOf, quiet, callI, Ts.fill, retI, shut, readRes, tupV, finish, runOps, wantedI, stepOp, getAll, stepCall, addOut, unI, Opd.get, slotN, tag, markW, putCells, putT, rv, bin, binI, Nat.reduceAdd, Nat.reduceSub, Nat.reduceMul, Nat.reduceDiv, Nat.reduceMod, Nat.reducePow, Nat.reduceLT, Nat.reduceLeDiff, Nat.reduceEqDiff, Nat.reduceBEq, Nat.reduceBNe, reduceIte, Int.reduceEq, Int.reduceLT, Int.reduceLE, Int.reduceNeg, Int.reduceToNat, Int.reduceMul, Int.reduceAdd, Int.reduceSub, reduceCtorEq]
 exact ⟨_, rfl, jo gw⟩
end Go.Idl.Sb
namespace Go.Idl.Sb
open Go Go.Idl Go.Idl.En
variable {F : jn}
theorem jjr (h : F 51 = some jf8) {s : List UInt8} {p : Nat} {w : Re} {σ : List IObj} (hp : σ[p]? = some (w.rf s)) (g : Gd s w) :
   ∃ wr, cfw F (.f 51) [.ptr p 0] σ = some ⟨false, .agg [I (erc (w.fin s)), I (era (w.fin s))], σ, wr⟩ /\ Fl wr := by
 rw [jj jf8 h, callI]
 have lp0 := ja hp
 have lp := rE lp0
 have ln : (σ.length != p) = true := by simp; omega
 have lp1 : p < σ.length + 1 := by omega
 have lp2 : decide (p < σ.length + 1) = true := rE lp1
 obtain ⟨pos, er⟩ := w
 cases er with
 | some e =>
   obtain ⟨c, a⟩ := e
   have hc : c ≠ 0 := g.f rfl
   have hp' : σ[p]? = some (.cells [.str s, I pos, I c, I a]) := hp
   have b1 : ((c : Int) == 0) = false := by simpa using hc
   have e1 : Re.fin s ⟨pos, some (c, a)⟩ = some (c, a) := rfl
   rw [e1]
   rw [show I ((erc (some (c, a)) : Nat) : Int) = I c from rfl, show I ((era (some (c, a)) : Nat) : Int) = I a from rfl]
   have y1 := fun l => jm hp' l
   have sm : ∀ l, (σ ++ l).set p (.cells [.str s, I pos, I c, I a]) = σ ++ l := fun l => jx (y1 l)
   simp only [jf8, jd, tD, tZ, hp', y1, sm, lp, lp1, lp2, ln, b1, zV, zS, zD, simprocAttr]
   exact ⟨_, rfl, rfl⟩
 | none =>
   have hp' : σ[p]? = some (.cells [.str s, I pos, I 0, I 0]) := hp
   have b1 : ((0 : Int) == 0) = true := rfl
   have y1 := fun l => jm hp' l
   have sm : ∀ l, (σ ++ l).set p (.cells [.str s, I pos, I 0, I 0]) = σ ++ l := fun l => jx (y1 l)
   by_cases hl : pos < s.length
   . have d1 : decide ((pos : Int) < (s.length : Int)) = true := rE (by omega)
     have e1 : Re.fin s ⟨pos, none⟩ = some (4, pos) := by rw [Re.fin]; simp only [hl, if_true]
     have f1 : qw [.int .i64 0, .int .i64 0] [(0, 1, .int .i64 4), (1, 1, I pos)] = some [.int .i64 4, I pos] := rfl
     rw [e1]
     rw [show I ((erc (some (4, pos)) : Nat) : Int) = I 4 from rfl, show I ((era (some (4, pos)) : Nat) : Int) = I pos from rfl]
     simp only [jf8, jd, tD, tZ, hp', y1, sm, lp, lp1, lp2, ln, b1, d1, f1, tJ, tU, zV, zS, zD, simprocAttr]
     exact ⟨_, rfl, rfl⟩
   . have d1 : decide ((pos : Int) < (s.length : Int)) = false := rH (by omega)
     have e1 : Re.fin s ⟨pos, none⟩ = none := by rw [Re.fin]; simp only [hl, if_false]
     rw [e1]
     rw [show I ((erc none : Nat) : Int) = I 0 from rfl, show I ((era none : Nat) : Int) = I 0 from rfl]
     simp only [jf8, jd, tD, tZ, hp', y1, sm, lp, lp1, lp2, ln, b1, d1, zV, zS, zD, simprocAttr]
     exact ⟨_, rfl, rfl⟩
end Go.Idl.Sb
namespace Go.Idl.Sb
open Go Go.Idl Go.Idl.En
variable {F : jn}
def Rr (w w' : Re) : Prop := w = w' \/ (w.er.isSome = true /\ w.er = w'.er)
theorem Rr.er {w w' : Re} (h : Rr w w') : w.er = w'.er := h.elim (fun h => by rw [h]) (·.2)
theorem Rr.pos {w w' : Re} (h : Rr w w') (he : w.er = none) : w = w' := h.elim id fun h => by rw [he] at h; cases h.1
theorem Rr.some' {w w' : Re} (h : w.er.isSome = true /\ w.er = w'.er) : w'.er.isSome = true := by rw [<- h.2]; exact h.1
theorem Zx {s : List UInt8} {w w' : Re} {n lo hi : Int} (h : Rr w w') : Rr (Re.whole s w n lo hi).1 (w'.rwhole s lo hi).1 /\ ((Re.whole s w n lo hi).1.er = none -> (Re.whole s w n lo hi).2 = (w'.rwhole s lo hi).2) := by
 rcases h with rfl | h
 . rw [Re.whole, Re.rwhole]
   simp only []
   cases he : (w.u s).1.er with
   | some e =>
     have h1 : (w.u s).1.er.isSome = true := by rw [he]; rfl
     rw [qX h1]
     refine ⟨.inl (by simp), fun h => by rw [he] at h; cases h⟩
   | none =>
     have dn : (decide (JD (w.u s).2 < lo) || decide (JD (w.u s).2 > hi)) = !(decide (JD (w.u s).2 ≥ lo) && decide (JD (w.u s).2 <= hi)) := by
       rw [Bool.not_and, <- decide_not, <- decide_not]
       congr 1 <;> (rw [decide_eq_decide]; omega)
     rw [dn, Re.within, he]
     cases hd : (decide (JD (w.u s).2 ≥ lo) && decide (JD (w.u s).2 <= hi))
     . refine ⟨.inr ⟨by simp, by simp⟩, fun h => by simp at h⟩
     . refine ⟨.inl (by simp), fun _ => by simp [he]⟩
 . have hw := h.1
   have hw' := Rr.some' h
   rw [Re.whole, Re.rwhole, jhy hw, jhy hw', qX hw]
   simp only [hw, hw', if_true]
   exact ⟨.inr h, fun e => by rw [e] at hw; cases hw⟩
theorem Xd {s : List UInt8} {w w' : Re} {n most : Nat} (h : Rr w w') : Rr (Re.number s w n most).1 (w'.rnum s most).1 /\ ((Re.number s w n most).1.er = none -> (Re.number s w n most).2 = (w'.rnum s most).2) := by
 rcases h with rfl | h
 . rw [Re.number, Re.rnum]
   simp only []
   cases he : (w.u s).1.er with
   | some e =>
     have h1 : (w.u s).1.er.isSome = true := by rw [he]; rfl
     rw [qX h1]
     refine ⟨.inl (by simp), fun h => by rw [he] at h; cases h⟩
   | none =>
     have dn : decide ((w.u s).2 > most) = !decide (((w.u s).2 : Int) <= most) := by
       rw [<- decide_not, decide_eq_decide]; omega
     rw [dn, Re.within, he]
     cases hd : decide (((w.u s).2 : Int) <= most)
     . refine ⟨.inr ⟨by simp, by simp⟩, fun h => by simp at h⟩
     . refine ⟨.inl (by simp), fun _ => by simp [he]⟩
 . have hw := h.1
   have hw' := Rr.some' h
   rw [Re.number, Re.rnum, jhy hw, jhy hw', qX hw]
   simp only [hw, hw', if_true]
   exact ⟨.inr h, fun e => by rw [e] at hw; cases hw⟩
theorem jkR {s : List UInt8} {w w' : Re} (h : Rr w w') : Rr (w.b s).1 (w'.b s).1 /\ ((w.b s).1.er = none -> (w.b s).2 = (w'.b s).2) := by
 rcases h with rfl | h
 . exact ⟨.inl rfl, fun _ => rfl⟩
 . rw [Re.b, Re.b, if_pos h.1, if_pos (Rr.some' h)]
   exact ⟨.inr h, fun _ => rfl⟩
theorem jkS {s : List UInt8} {w w' : Re} (h : Rr w w') : Rr (w.t s).1 (w'.t s).1 /\ ((w.t s).1.er = none -> (w.t s).2 = (w'.t s).2) := by
 rcases h with rfl | h
 . exact ⟨.inl rfl, fun _ => rfl⟩
 . rw [Re.t, Re.t, if_pos h.1, if_pos (Rr.some' h)]
   exact ⟨.inr h, fun _ => rfl⟩
theorem ji3 {s : List UInt8} {w w' : Re} (h : Rr w w') : w.fin s = w'.fin s := by
 rcases h with rfl | h
 . rfl
 . rw [Re.fin, Re.fin, <- h.2]
   cases he : w.er with
   | none => rw [he] at h; cases h.1
   | some e => rfl
end Go.Idl.Sb
namespace Go.Idl.Sb
open Go Go.Idl Go.Idl.En
variable {F : jn}
def kx (s : List UInt8) (k : K) (w : Re) : Re × IVal :=
 match k with
 | .pl => ((w.rwhole s (-1152921504606846976) 1152921504606846976).1, I (w.rwhole s (-1152921504606846976) 1152921504606846976).2)
 | .wd => ((w.rwhole s (-2147483648) 2147483647).1, J (IntKind.i32.wrap (w.rwhole s (-2147483648) 2147483647).2))
 | .byt => ((w.b s).1, B (w.b s).2)
 | .tr => ((w.t s).1, .bool (w.t s).2)
 | .hf => ((w.rnum s 65535).1, .int .u16 (IntKind.u16.wrap (w.rnum s 65535).2))
 | .nm => ((w.rnum s 1152921504606846975).1, Q (w.rnum s 1152921504606846975).2)
def jB (s : List UInt8) : List (K × Nat) -> Re -> List IVal -> Re × List IVal
 | [], w, cs => (w, cs)
 | (k, o) :: L, w, cs => jB s L (kx s k w).1 (cs.set o (kx s k w).2)
theorem Gd.step {s : List UInt8} {w : Re} (k : K) (g : Gd s w) : Gd s (kx s k w).1 := by
 cases k with
 | pl => exact g.rwhole
 | wd => exact g.rwhole
 | byt => exact g.b
 | tr => exact g.t
 | hf => exact g.rnum
 | nm => exact g.rnum
theorem Gd.run {s : List UInt8} : ∀ (L : List (K × Nat)) (w : Re) (cs : List IVal), Gd s w -> Gd s (jB s L w cs).1
 | [], w, cs, g => g
 | (k, o) :: L, w, cs, g => Gd.run L _ _ (g.step k)
theorem jco {s : List UInt8} {x : Nat} {k : K} {w : (DR s x).W} {w' : Re} {v : IVal} (h : Rr w w') (hv : k.ty v) : Rr (jO (DR s x) k w v).1 (kx s k w').1 /\ (Re.er (jO (DR s x) k w v).1 = none -> (jO (DR s x) k w v).2 = (kx s k w').2) := by
 cases k with
 | pl =>
   obtain ⟨n, rfl, _⟩ := hv
   obtain ⟨h1, h2⟩ := Zx (s := s) (n := n) (lo := -1152921504606846976) (hi := 1152921504606846976) h
   exact ⟨h1, fun e => congrArg I (h2 e)⟩
 | wd =>
   obtain ⟨n, rfl, _⟩ := hv
   obtain ⟨h1, h2⟩ := Zx (s := s) (n := n) (lo := -2147483648) (hi := 2147483647) h
   exact ⟨h1, fun e => congrArg (fun z => J (IntKind.i32.wrap z)) (h2 e)⟩
 | byt =>
   obtain ⟨n, rfl, _⟩ := hv
   obtain ⟨h1, h2⟩ := jkR (s := s) h
   exact ⟨h1, fun e => congrArg (fun z : Nat => B z) (h2 e)⟩
 | tr =>
   obtain ⟨n, rfl⟩ := hv
   obtain ⟨h1, h2⟩ := jkS (s := s) h
   exact ⟨h1, fun e => congrArg IVal.bool (h2 e)⟩
 | hf =>
   obtain ⟨n, rfl, _⟩ := hv
   obtain ⟨h1, h2⟩ := Xd (s := s) (n := n) (most := 65535) h
   exact ⟨h1, fun e => congrArg (fun z : Nat => IVal.int .u16 (IntKind.u16.wrap z)) (h2 e)⟩
 | nm =>
   obtain ⟨n, rfl, _⟩ := hv
   obtain ⟨h1, h2⟩ := Xd (s := s) (n := n) (most := 1152921504606846975) h
   exact ⟨h1, fun e => congrArg (fun z : Nat => Q z) (h2 e)⟩
theorem Xe {s : List UInt8} {x : Nat} (W : Way F (DR s x)) : ∀ (L : List (K × Nat)) (w : (DR s x).W) (w' : Re) (cs cs' : List IVal), Rr w w' -> Ty L cs -> Sm L -> Rr (jk (DR s x) L w cs).1 (jB s L w' cs').1 /\ (Re.er (jk (DR s x) L w cs).1 = none -> cs = cs' -> (jk (DR s x) L w cs).2 = (jB s L w' cs').2)
 | [], w, w', cs, cs', h, _, _ => ⟨h, fun _ e => e⟩
 | (k, o) :: L, w, w', cs, cs', h, hT, hs => by
   obtain ⟨v, ho, hv⟩ := hT _ rT
   simp only [] at ho hv
   obtain ⟨a1, a2⟩ := jco (s := s) (x := x) h hv
   have T2 : Ty L (cs.set o (jO (DR s x) k w v).2) := vl (k := k) (fun q hq => hT q (rN _ hq)) (vW W hv) (fun q hq e => hs q (rN _ hq) (k, o) rT e)
   rw [jk, jp ho]
   obtain ⟨b1, b2⟩ := Xe W L (jO (DR s x) k w v).1 (kx s k w').1 (cs.set o (jO (DR s x) k w v).2) (cs'.set o (kx s k w').2) a1 T2 (jjw hs)
   refine ⟨b1, fun e he => b2 e ?_⟩
   rw [a2 (J7 L _ _ e), he]
end Go.Idl.Sb
namespace Go.Idl.Sb
open Go Go.Idl Go.Idl.En
variable {F : jn}
def qx (s : List UInt8) : Nat -> Re -> List IVal -> Re × List IVal
 | 0, w, ys => (w, ys)
 | d + 1, w, ys => if w.er.isSome then (w, ys) else qx s d (jB s (kT 0) w Z3).1 (ys ++ (jB s (kT 0) w Z3).2)
section
variable {s : List UInt8} {x : Nat}
theorem jfj : ∀ (L : List (K × Nat)) (w : (DR s x).W) (cs : List IVal), Re.er w ≠ none -> (jk (DR s x) L w cs).1 = w
 | [], w, cs, h => rfl
 | (k, o) :: L, w, cs, h => by
   have h1 : (Re.er w).isSome = true := by cases he : Re.er w with | none => exact absurd he h | some e => rfl
   rw [jk]
   have e := YQ (s := s) (x := x) (k := k) (w := w) (v := jv cs o) h1
   simp only [e]
   exact jfj L w _ h
theorem J1 : ∀ (d : Nat) (w : (DR s x).W) (ys : List IVal), Re.er w ≠ none -> (growW (DR s x) d w ys).1 = w
 | 0, w, ys, h => rfl
 | d + 1, w, ys, h => by
   have h1 : (Re.er w).isSome = true := by cases he : Re.er w with | none => exact absurd he h | some e => rfl
   rw [growW, YQ (s := s) (x := x) (k := .wd) (w := w) (v := J 0) h1]
   exact J1 d w _ h
theorem JZ : ∀ (d : Nat) (w : (DR s x).W) (ys : List IVal), Re.er w ≠ none -> (growR (DR s x) d w ys).1 = w
 | 0, w, ys, h => rfl
 | d + 1, w, ys, h => by
   rw [growR, jfj (s := s) (x := x) (kT 0) w Z3 h]
   exact JZ d w _ h
theorem zY : ∀ (d : Nat) (w : Re) (ys : List IVal), w.er.isSome = true -> (jS s d w ys).1 = w
 | 0, w, ys, h => rfl
 | d + 1, w, ys, h => by rw [jS, if_pos h]
theorem zX : ∀ (d : Nat) (w : Re) (ys : List IVal), w.er.isSome = true -> (qx s d w ys).1 = w
 | 0, w, ys, h => rfl
 | d + 1, w, ys, h => by rw [qx, if_pos h]
theorem Yv {d : Nat} {w : Re} {ys : List IVal} (h : w.er = none) : jS s (d + 1) w ys = jS s d (kx s .wd w).1 (ys ++ [(kx s .wd w).2]) := by
 rw [jS, if_neg (by rw [h]; decide)]; rfl
theorem Yu {d : Nat} {w : Re} {ys : List IVal} (h : w.er = none) : qx s (d + 1) w ys = qx s d (jB s (kT 0) w Z3).1 (ys ++ (jB s (kT 0) w Z3).2) := by
 rw [qx, if_neg (by rw [h]; decide)]
theorem jh5 {w w' : Re} (h : w.er.isSome = true /\ w.er = w'.er) : w.er ≠ none := fun e => by rw [e] at h; cases h.1
theorem jei : ∀ (d d' : Nat) (w : (DR s x).W) (w' : Re) (ys : List IVal), Rr w w' -> (Re.er w = none -> d = d') -> Rr (growW (DR s x) d w ys).1 (jS s d' w' ys).1 /\ (Re.er (growW (DR s x) d w ys).1 = none -> (growW (DR s x) d w ys).2 = (jS s d' w' ys).2) := by
 intro d
 induction d with
 | zero =>
   intro d' w w' ys h hd
   rcases h with rfl | h
   . cases he : Re.er w with
     | none => rw [<- hd he]; exact ⟨.inl rfl, fun _ => rfl⟩
     | some e =>
       refine ⟨.inl ?_, fun h => ?_⟩
       . exact (zY d' w ys (by rw [he]; rfl)).symm
       . exact absurd (he.symm.trans h) (by simp)
   . refine ⟨.inr ?_, fun e => absurd e (jh5 h)⟩
     rw [zY d' w' ys (Rr.some' h)]; exact h
 | succ d ih =>
   intro d' w w' ys h hd
   by_cases he : Re.er w = none
   . obtain rfl := h.pos he
     have es := Yv (s := s) (d := d) (ys := ys) he
     rw [<- hd he, growW, es]
     obtain ⟨a1, a2⟩ := jco (s := s) (x := x) (k := .wd) (v := J 0) (.inl rfl : Rr w w) J0
     cases hs : Re.er (jO (DR s x) .wd w (J 0)).1 with
     | none => rw [a2 hs]; exact ih d _ _ _ a1 (fun _ => rfl)
     | some e =>
       have n1 : Re.er (jO (DR s x) .wd w (J 0)).1 ≠ none := by rw [hs]; simp
       have n2 : Re.er (kx s .wd w).1 ≠ none := by rw [<- a1.er]; exact n1
       have g1 := J1 (s := s) (x := x) d (jO (DR s x) .wd w (J 0)).1 (ys ++ [(jO (DR s x) .wd w (J 0)).2]) n1
       rw [g1]
       have g2 := zY (s := s) d (kx s .wd w).1 (ys ++ [(kx s .wd w).2]) (by cases h : Re.er (kx s .wd w).1 with | none => exact absurd h n2 | some e => rfl)
       refine ⟨?_, fun h => absurd h n1⟩
       show Rr _ (jS s d (kx s .wd w).1 (ys ++ [(kx s .wd w).2])).1
       rw [g2]; exact a1
   . have hs : (Re.er w).isSome = true := by cases h : Re.er w with | none => exact absurd h he | some e => rfl
     have hs' : w'.er.isSome = true := by rw [<- h.er]; exact hs
     have g1 := J1 (s := s) (x := x) (d + 1) w ys he
     rw [g1, zY d' w' ys hs']
     exact ⟨h, fun e => absurd e he⟩
theorem jeh (W : Way F (DR s x)) : ∀ (d d' : Nat) (w : (DR s x).W) (w' : Re) (ys : List IVal), Rr w w' -> (Re.er w = none -> d = d') -> Rr (growR (DR s x) d w ys).1 (qx s d' w' ys).1 /\ (Re.er (growR (DR s x) d w ys).1 = none -> (growR (DR s x) d w ys).2 = (qx s d' w' ys).2) := by
 intro d
 induction d with
 | zero =>
   intro d' w w' ys h hd
   rcases h with rfl | h
   . cases he : Re.er w with
     | none => rw [<- hd he]; exact ⟨.inl rfl, fun _ => rfl⟩
     | some e =>
       refine ⟨.inl ?_, fun h => ?_⟩
       . exact (zX d' w ys (by rw [he]; rfl)).symm
       . exact absurd (he.symm.trans h) (by simp)
   . refine ⟨.inr ?_, fun e => absurd e (jh5 h)⟩
     rw [zX d' w' ys (Rr.some' h)]; exact h
 | succ d ih =>
   intro d' w w' ys h hd
   by_cases he : Re.er w = none
   . obtain rfl := h.pos he
     have es := Yu (s := s) (d := d) (ys := ys) he
     rw [<- hd he, growR, es]
     obtain ⟨a1, a2⟩ := Xe W (kT 0) w w Z3 Z3 (.inl rfl) jfE KG
     cases hs : Re.er (jk (DR s x) (kT 0) w Z3).1 with
     | none => rw [a2 hs rfl]; exact ih d _ _ _ a1 (fun _ => rfl)
     | some e =>
       have n1 : Re.er (jk (DR s x) (kT 0) w Z3).1 ≠ none := by rw [hs]; simp
       have n2 : Re.er (jB s (kT 0) w Z3).1 ≠ none := by rw [<- a1.er]; exact n1
       have g1 := JZ (s := s) (x := x) d (jk (DR s x) (kT 0) w Z3).1 (ys ++ (jk (DR s x) (kT 0) w Z3).2) n1
       rw [g1]
       have g2 := zX (s := s) d (jB s (kT 0) w Z3).1 (ys ++ (jB s (kT 0) w Z3).2) (by cases h : Re.er (jB s (kT 0) w Z3).1 with | none => exact absurd h n2 | some e => rfl)
       refine ⟨?_, fun h => absurd h n1⟩
       rw [g2]; exact a1
   . have hs : (Re.er w).isSome = true := by cases h : Re.er w with | none => exact absurd h he | some e => rfl
     have hs' : w'.er.isSome = true := by rw [<- h.er]; exact hs
     have g1 := JZ (s := s) (x := x) (d + 1) w ys he
     rw [g1, zX d' w' ys hs']
     exact ⟨h, fun e => absurd e he⟩
end
end Go.Idl.Sb
namespace Go.Idl.Sb
open Go Go.Idl Go.Idl.En
variable {F : jn}
theorem jb1 {s : List UInt8} {w : Re} {most : Nat} : (Re.number s w 0 most).2 <= most := by
 rw [Re.number]
 simp only []
 split
 . exact Nat.zero_le _
 . rename_i h
   rw [Re.within] at h
   split at h
   . rename_i h2
     rcases Bool.or_eq_true _ _ ▸ h2 with h3 | h3
     . exact absurd h3 h
     . have := of_decide_eq_true h3; omega
   . exact absurd rfl h
section
variable {s : List UInt8} {x : Nat}
theorem jeT {w : (DR s x).W} {w' : Re} {most : Nat} (h : Rr w w') (he : Re.er ((DR s x).number w 0 most).1 = none) : cnt (DR s x) w most = (w'.rnum s most).2 := by
 have e := (Xd (s := s) (n := 0) (most := most) h).2 he
 exact (Nat.min_eq_left (jb1 (s := s) (w := w) (most := most))).trans e
theorem jcn {w : (DR s x).W} {w' : Re} {most : Nat} (h : Rr w w') : Rr (growW (DR s x) (cnt (DR s x) w most) ((DR s x).number w 0 most).1 []).1 (jS s (w'.rnum s most).2 (w'.rnum s most).1 []).1 /\ (Re.er (growW (DR s x) (cnt (DR s x) w most) ((DR s x).number w 0 most).1 []).1 = none -> (growW (DR s x) (cnt (DR s x) w most) ((DR s x).number w 0 most).1 []).2 = (jS s (w'.rnum s most).2 (w'.rnum s most).1 []).2) :=
 jei _ _ _ _ [] (Xd (s := s) (n := 0) (most := most) h).1 (jeT h)
theorem jej (W : Way F (DR s x)) {w : (DR s x).W} {w' : Re} {most : Nat} (h : Rr w w') : Rr (growR (DR s x) (cnt (DR s x) w most) ((DR s x).number w 0 most).1 []).1 (qx s (w'.rnum s most).2 (w'.rnum s most).1 []).1 /\ (Re.er (growR (DR s x) (cnt (DR s x) w most) ((DR s x).number w 0 most).1 []).1 = none -> (growR (DR s x) (cnt (DR s x) w most) ((DR s x).number w 0 most).1 []).2 = (qx s (w'.rnum s most).2 (w'.rnum s most).1 []).2) :=
 jeh W _ _ _ _ [] (Xd (s := s) (n := 0) (most := most) h).1 (jeT h)
end
structure Rdr where
 w : Re
 cs : List IVal
 y1 : List IVal
 y2 : List IVal
 y3 : List IVal
def rdR (s : List UInt8) (w0 : Re) (cs : List IVal) : Rdr :=
 let rA := jB s lA w0 cs
 let g1 := jS s (rA.1.rnum s 512).2 (rA.1.rnum s 512).1 []
 let g2 := jS s (g1.1.rnum s 8000).2 (g1.1.rnum s 8000).1 []
 let rB := jB s lB g2.1 rA.2
 let g3 := qx s (rB.1.rnum s 8).2 (rB.1.rnum s 8).1 []
 let rC := jB s lC g3.1 rB.2
 ⟨rC.1, rC.2, g1.2, g2.2, g3.2⟩
theorem Vf {s : List UInt8} {x : Nat} {w : (DR s x).W} {most : Nat} (h : Re.er ((DR s x).number w 0 most).1 = none) : Re.er w = none := Yi (m0 := 0) (most := most) h
theorem jbm {s : List UInt8} {x : Nat} {d : Nat} {w : (DR s x).W} {ys : List IVal} (h : Re.er (growW (DR s x) d w ys).1 = none) : Re.er w = none := by
 cases he : Re.er w with
 | none => rfl
 | some e => rw [J1 (s := s) (x := x) d w ys (by rw [he]; simp), he] at h; cases h
theorem jf0 {s : List UInt8} {x : Nat} {d : Nat} {w : (DR s x).W} {ys : List IVal} (h : Re.er (growR (DR s x) d w ys).1 = none) : Re.er w = none := by
 cases he : Re.er w with
 | none => rfl
 | some e => rw [JZ (s := s) (x := x) d w ys (by rw [he]; simp), he] at h; cases h
theorem jg2 {s : List UInt8} {x : Nat} (W : Way F (DR s x)) : Rr (rdS (DR s x) (⟨0, none⟩ : Re) Z55).w (rdR s ⟨0, none⟩ Z55).w /\
   (Re.er (rdS (DR s x) (⟨0, none⟩ : Re) Z55).w = none -> (rdS (DR s x) (⟨0, none⟩ : Re) Z55).cs = (rdR s ⟨0, none⟩ Z55).cs /\ (rdS (DR s x) (⟨0, none⟩ : Re) Z55).y1 = (rdR s ⟨0, none⟩ Z55).y1 /\ (rdS (DR s x) (⟨0, none⟩ : Re) Z55).y2 = (rdR s ⟨0, none⟩ Z55).y2 /\ (rdS (DR s x) (⟨0, none⟩ : Re) Z55).y3 = (rdR s ⟨0, none⟩ Z55).y3) := by
 obtain ⟨A1, A2⟩ := Xe W lA (⟨0, none⟩ : Re) (⟨0, none⟩ : Re) Z55 Z55 (.inl rfl) (jI JG sA) smA
 have TA := kZ W lA (⟨0, none⟩ : Re) Z55 JG (jI JG sA) (fun q hq r hr => jz q hq r (sA r hr)) smA
 unfold rdS rdR
 simp only []
 generalize jk (DR s x) lA (⟨0, none⟩ : Re) Z55 = rA at *
 generalize jB s lA (⟨0, none⟩ : Re) Z55 = rA' at *
 obtain ⟨B1, B2⟩ := jcn (s := s) (x := x) (most := 512) A1
 have n1 := fun h => Vf (s := s) (x := x) (w := rA.1) (most := 512) (jbm (s := s) (x := x) (d := cnt (DR s x) rA.1 512) (ys := []) h)
 generalize growW (DR s x) (cnt (DR s x) rA.1 512) ((DR s x).number rA.1 0 512).1 [] = g1 at *
 generalize jS s (rA'.1.rnum s 512).2 (rA'.1.rnum s 512).1 [] = g1' at *
 obtain ⟨C1, C2⟩ := jcn (s := s) (x := x) (most := 8000) B1
 have n2 := fun h => Vf (s := s) (x := x) (w := g1.1) (most := 8000) (jbm (s := s) (x := x) (d := cnt (DR s x) g1.1 8000) (ys := []) h)
 generalize growW (DR s x) (cnt (DR s x) g1.1 8000) ((DR s x).number g1.1 0 8000).1 [] = g2 at *
 generalize jS s (g1'.1.rnum s 8000).2 (g1'.1.rnum s 8000).1 [] = g2' at *
 obtain ⟨D1, D2⟩ := Xe W lB g2.1 g2'.1 rA.2 rA'.2 C1 (jI TA sB) smB
 have TB := kZ W lB g2.1 rA.2 TA (jI TA sB) (fun q hq r hr => jz q hq r (sB r hr)) smB
 have n3 := J7 (s := s) (x := x) lB g2.1 rA.2
 generalize jk (DR s x) lB g2.1 rA.2 = rB at *
 generalize jB s lB g2'.1 rA'.2 = rB' at *
 obtain ⟨E1, E2⟩ := jej W (most := 8) D1
 have n4 := fun h => Vf (s := s) (x := x) (w := rB.1) (most := 8) (jf0 (s := s) (x := x) (d := cnt (DR s x) rB.1 8) (ys := []) h)
 generalize growR (DR s x) (cnt (DR s x) rB.1 8) ((DR s x).number rB.1 0 8).1 [] = g3 at *
 generalize qx s (rB'.1.rnum s 8).2 (rB'.1.rnum s 8).1 [] = g3' at *
 obtain ⟨F1, F2⟩ := Xe W lC g3.1 g3'.1 rB.2 rB'.2 E1 (jI TB sC) smC
 have n5 := J7 (s := s) (x := x) lC g3.1 rB.2
 refine ⟨F1, fun h => ?_⟩
 have h5 := n5 h
 have h4 := n4 h5
 have h3 := n3 h4
 have h2 := n2 h3
 have h1 := n1 h2
 exact ⟨F2 h (D2 h4 (A2 h1 rfl)), B2 h2, C2 h3, E2 h5⟩
end Go.Idl.Sb
namespace Go.Idl.Sb
open Go Go.Idl Go.Idl.En
variable {F : jn}
theorem jgr (h44 : F 44 = some je4) (h64 : F 64 = some X7) (h76 : F 76 = some Zg) (h65 : F 65 = some Q5) (h66 : F 66 = some Qb) (h67 : F 67 = some X8) (h40 : F 40 = some yX) {s : List UInt8} {p q b : Nat} {σ : List IObj} (hp : p < σ.length) (hb : b < σ.length) (hq : σ[q]? = some (.cells [.ptr p 0])) (hne : q ≠ p) (hbp : b ≠ p) (hbq : b ≠ q) (hs : s.length < 1000000) : ∀ (d i : Nat) (f0 : Nat -> Option (Nat × IVal)) (w : Re) (cs : List IVal) (v2 v3 : IVal) (wr : List (Nat × Bool)) (R : Option (IExit × St)),
   evw F (.loop Kr) ⟨E 12 14 5 [] (base f0), (σ.set p (w.rf s)).set b (.cells cs), wr⟩ = R -> i + d = 8 -> Gd s w -> cs.length = 55 -> Fl wr -> f0 2 = some (2, v2) -> f0 3 = some (3, v3) -> f0 4 = some (4, .ptr q 0) -> f0 5 = some (5, .ptr b 0) -> f0 6 = some (6, I i) ->
   ∃ f1 wr', R = some (.exit 0, ⟨E 12 14 5 [] (base f1), (σ.set p ((jB s ((List.range' i d).map fun i => (.wd, 5 + i)) w cs).1.rf s)).set b (.cells (jB s ((List.range' i d).map fun i => (.wd, 5 + i)) w cs).2), wr'⟩) /\ f1 2 = some (2, v2) /\ f1 3 = some (3, v3) /\ f1 4 = some (4, .ptr q 0) /\ f1 5 = some (5, .ptr b 0) /\ Fl wr' := by
 have y2 : ∀ a c, ((σ.set p a).set b c)[q]? = some (.cells [.ptr p 0]) := fun a c => jdD hq hne (tR hbq)
 have y3 : ∀ a c, ((σ.set p a).set b c)[b]? = some c := fun a c => (JU hp hb hbp).2
 intro d
 induction d with
 | zero =>
   intro i f0 w cs v2 v3 wr R hE hi g hl hw e2 e3 e4 e5 e6
   have l0 : decide ((i : Int) < 8) = false := rH (by omega)
   rw [jc] at hE
   subst hE
   simp only [Kr, e2, e3, e4, e5, e6, l0, zV, zS, zD, simprocAttr]
   exact ⟨_, _, rfl, (by first | exact e2 | rfl), (by first | exact e3 | rfl), (by first | exact e4 | rfl), (by first | exact e5 | rfl), hw⟩
 | succ d ih =>
   intro i f0 w cs v2 v3 wr R hE hi g hl hw e2 e3 e4 e5 e6
   have l0 : decide ((i : Int) < 8) = true := rE (by omega)
   have l1 : (i : Int) < ((8 : Nat) : Int) := by omega
   have l1' : (i : Int) < 8 := by omega
   have d1 : (0 : Int) <= (i : Int) := by omega
   have w1 := kM (n := i) (by omega)
   have o3 : 5 + i + 1 <= 55 := by omega
   have o4 : 5 + i <= 54 := by omega
   obtain ⟨wr1, u, g1⟩ := jcS h44 h64 h76 h65 h66 h67 h40 (σ := (σ.set p (w.rf s)).set b (.cells cs)) (JU hp hb hbp).1 (y2 _ _) hne hs g
   rw [ji4 hbp] at u
   have gb := g.step .wd
   have e : jB s ((List.range' i (d + 1)).map fun i => (.wd, 5 + i)) w cs = jB s ((List.range' (i + 1) d).map fun i => (.wd, 5 + i)) (kx s .wd w).1 (cs.set (5 + i) (kx s .wd w).2) := by rw [List.range'_succ, rU, jB]
   rw [e]
   have er : (kx s .wd w) = ((w.rwhole s (-2147483648) 2147483647).1, J (IntKind.i32.wrap (w.rwhole s (-2147483648) 2147483647).2)) := rfl
   rw [er] at gb ⊢
   generalize Re.rwhole s w (-2147483648) 2147483647 = rr at *
   have gg : Fl ((b, false) :: (wr1 ++ wr)) := by rw [Fl] at g1 hw ⊢; rw [tN, rQ, g1, hw]; rfl
   rw [jc] at hE
   simp only [Kr, jd, e2, e3, e4, e5, e6, l0, l1, l1', d1, w1, hl, o3, o4, hb, y2, y3, u, tE, rF, rL, zV, zS, zD, simprocAttr] at hE
   exact ih (i + 1) _ rr.1 (cs.set (5 + i) (J (IntKind.i32.wrap rr.2))) v2 v3 _ R hE (by omega) gb (by simpa using hl) gg (by first | exact e2 | rfl) (by first | exact e3 | rfl) (by first | exact e4 | rfl) (by first | exact e5 | rfl) (by rfl)
end Go.Idl.Sb
namespace Go.Idl.Sb
open Go Go.Idl Go.Idl.En
variable {F : jn}
theorem jgt (h50 : F 50 = some je6) (h65 : F 65 = some Q5) (h66 : F 66 = some Qb) (h67 : F 67 = some X8) (h40 : F 40 = some yX) {s : List UInt8} {p q b : Nat} {σ : List IObj} (hp : p < σ.length) (hb : b < σ.length) (hq : σ[q]? = some (.cells [.ptr p 0])) (hne : q ≠ p) (hbp : b ≠ p) (hbq : b ≠ q) (hs : s.length < 1000000) : ∀ (d i : Nat) (f0 : Nat -> Option (Nat × IVal)) (w : Re) (cs : List IVal) (v2 v3 : IVal) (wr : List (Nat × Bool)) (R : Option (IExit × St)),
   evw F (.loop Ks) ⟨E 12 14 5 [] (base f0), (σ.set p (w.rf s)).set b (.cells cs), wr⟩ = R -> i + d = 2 -> Gd s w -> cs.length = 55 -> Fl wr -> f0 2 = some (2, v2) -> f0 3 = some (3, v3) -> f0 4 = some (4, .ptr q 0) -> f0 5 = some (5, .ptr b 0) -> f0 10 = some (10, I i) ->
   ∃ f1 wr', R = some (.exit 4, ⟨E 12 14 5 [] (base f1), (σ.set p ((jB s ((List.range' i d).flatMap fun i => JX (41 + i * 3)) w cs).1.rf s)).set b (.cells (jB s ((List.range' i d).flatMap fun i => JX (41 + i * 3)) w cs).2), wr'⟩) /\ f1 2 = some (2, v2) /\ f1 3 = some (3, v3) /\ f1 4 = some (4, .ptr q 0) /\ f1 5 = some (5, .ptr b 0) /\ Fl wr' := by
 have y2 : ∀ a c, ((σ.set p a).set b c)[q]? = some (.cells [.ptr p 0]) := fun a c => jdD hq hne (tR hbq)
 have y3 : ∀ a c, ((σ.set p a).set b c)[b]? = some c := fun a c => (JU hp hb hbp).2
 intro d
 induction d with
 | zero =>
   intro i f0 w cs v2 v3 wr R hE hi g hl hw e2 e3 e4 e5 e6
   have l0 : decide ((i : Int) < 2) = false := rH (by omega)
   rw [jc] at hE
   subst hE
   simp only [Ks, e2, e3, e4, e5, e6, l0, zV, zS, zD, simprocAttr]
   exact ⟨_, _, rfl, (by first | exact e2 | rfl), (by first | exact e3 | rfl), (by first | exact e4 | rfl), (by first | exact e5 | rfl), hw⟩
 | succ d ih =>
   intro i f0 w cs v2 v3 wr R hE hi g hl hw e2 e3 e4 e5 e6
   have l0 : decide ((i : Int) < 2) = true := rE (by omega)
   have l1 : (i : Int) < ((2 : Nat) : Int) := by omega
   have l1' : (i : Int) < 2 := by omega
   have d1 : (0 : Int) <= (i : Int) := by omega
   have w1 := kM (n := i) (by omega)
   have nn : ∀ w cs, Gd s w -> ∃ wr, cfw F (.f 50) [.ptr q 0, .int .u64 65535] ((σ.set p (w.rf s)).set b (.cells cs)) = some ⟨false, Q (w.rnum s 65535).2, (σ.set p ((w.rnum s 65535).1.rf s)).set b (.cells cs), wr⟩ /\ Fl wr := fun w cs g => by
     obtain ⟨wr1, u, g1⟩ := jiQ (most := 65535) h50 h65 h66 h67 h40 (σ := (σ.set p (w.rf s)).set b (.cells cs)) (JU hp hb hbp).1 (y2 _ _) hne hs g
     rw [ji4 hbp] at u
     exact ⟨wr1, u, g1⟩
   have e : jB s ((List.range' i (d + 1)).flatMap fun i => JX (41 + i * 3)) w cs = jB s (JX (41 + i * 3) ++ (List.range' (i + 1) d).flatMap fun i => JX (41 + i * 3)) w cs := by rw [List.range'_succ, rR]
   rw [e]
   have step : ∀ w, kx s .hf w = ((w.rnum s 65535).1, .int .u16 (IntKind.u16.wrap (w.rnum s 65535).2)) := fun _ => rfl
   simp only [JX, tP, tQ, jB, step]
   obtain ⟨wr1, u1, g1⟩ := nn w cs g
   have gA := g.rnum (most := 65535)
   generalize Re.rnum s w 65535 = r1 at *
   obtain ⟨wr2, u2, g2⟩ := nn r1.1 (cs.set (41 + i * 3) (.int .u16 (IntKind.u16.wrap r1.2))) gA
   have gB := gA.rnum (most := 65535)
   generalize Re.rnum s r1.1 65535 = r2 at *
   obtain ⟨wr3, u3, g3⟩ := nn r2.1 ((cs.set (41 + i * 3) (.int .u16 (IntKind.u16.wrap r1.2))).set (41 + i * 3 + 1) (.int .u16 (IntKind.u16.wrap r2.2))) gB
   have gC := gB.rnum (most := 65535)
   generalize Re.rnum s r2.1 65535 = r3 at *
   have k0 : 41 + i * 3 <= 54 := by omega
   have k1 : 41 + i * 3 + 1 <= 54 := by omega
   have k2 : 41 + i * 3 + 2 <= 54 := by omega
   have k0' : 41 + i * 3 + 1 <= 55 := by omega
   have k1' : 41 + i * 3 + 1 + 1 <= 55 := by omega
   have k2' : 41 + i * 3 + 2 + 1 <= 55 := by omega
   have k1'' : 41 + i * 3 + 2 <= 55 := by omega
   have k2'' : 41 + i * 3 + 3 <= 55 := by omega
   have gg : Fl ((b, false) :: (wr3 ++ (b, false) :: (wr2 ++ (b, false) :: (wr1 ++ wr)))) := by
     rw [Fl] at g1 g2 g3 hw ⊢
     simp only [tN, rQ, g1, g2, g3, hw]; rfl
   rw [jc] at hE
   simp only [Ks, jd, e2, e3, e4, e5, e6, l0, l1, l1', d1, w1, hl, k0, k1, k2, k0', k1', k2', k1'', k2'', hb, y2, y3, u1, u2, u3, tE, rF, rL, zV, zS, zD, simprocAttr] at hE
   exact ih (i + 1) _ r3.1 _ v2 v3 _ R hE (by omega) gC (by simpa using hl) gg (by first | exact e2 | rfl) (by first | exact e3 | rfl) (by first | exact e4 | rfl) (by first | exact e5 | rfl) (by rfl)
end Go.Idl.Sb
namespace Go.Idl.Sb
open Go Go.Idl Go.Idl.En
variable {F : jn}
def ye (s : List UInt8) : Nat -> Re -> List IVal -> Re × List IVal
 | 0, w, ys => (w, ys)
 | d + 1, w, ys => if w.er.isSome then (w, ys) else ye s d (jB s (kT 0) w Z3).1 (ys ++ [.agg (jB s (kT 0) w Z3).2])
theorem jgs (h43 : F 43 = some jf7) (h47 : F 47 = some jdJ) (h48 : F 48 = some jbv) (h64 : F 64 = some X7) (h76 : F 76 = some Zg) (h65 : F 65 = some Q5) (h66 : F 66 = some Qb) (h67 : F 67 = some X8) (h40 : F 40 = some yX) {s : List UInt8} {p q b n : Nat} {σ : List IObj} {cs : List IVal} (hp : p < σ.length) (hb : b < σ.length) (hq : σ[q]? = some (.cells [.ptr p 0])) (hne : q ≠ p) (hbp : b ≠ p) (hbq : b ≠ q) (hs : s.length < 1000000) (hl : cs.length = 55) (hn : n < 1000) : ∀ (d i : Nat) (f0 : Nat -> Option (Nat × IVal)) (w : Re) (ys : List IVal) (r : Bool) (l : List IObj) (v2 v3 : IVal) (wr : List (Nat × Bool)) (R : Option (IExit × St)),
   evw F (.loop zi) ⟨E 12 14 5 [] (base f0), (σ.set p (w.rf s)).set b (.cells (cs.set 16 (.sl 3 r ys))) ++ l, wr⟩ = R -> i + d = n -> Gd s w -> (!ys.isEmpty && r) = false -> ys.length + d < 10000 -> Fl wr -> f0 2 = some (2, v2) -> f0 3 = some (3, v3) -> f0 4 = some (4, .ptr q 0) -> f0 5 = some (5, .ptr b 0) -> f0 7 = some (7, I n) -> f0 8 = some (8, I i) ->
   ∃ f1 wr' r' l', R = some (.exit 2, ⟨E 12 14 5 [] (base f1), (σ.set p ((ye s d w ys).1.rf s)).set b (.cells (cs.set 16 (.sl 3 r' (ye s d w ys).2))) ++ l', wr'⟩) /\ f1 2 = some (2, v2) /\ f1 3 = some (3, v3) /\ f1 4 = some (4, .ptr q 0) /\ f1 5 = some (5, .ptr b 0) /\ Fl wr' /\ (!(ye s d w ys).2.isEmpty && r') = false := by
 have bl : ∀ a c, ((σ.set p a).set b c).length = σ.length := fun a c => by simp
 have y1 : ∀ a c l, ((σ.set p a).set b c ++ l)[p]? = some a := fun a c l => jm (JU hp hb hbp).1 l
 have y2 : ∀ a c l, ((σ.set p a).set b c ++ l)[q]? = some (.cells [.ptr p 0]) := fun a c l => jm (jdD hq hne (tR hbq)) l
 have y3 : ∀ a c l, ((σ.set p a).set b c ++ l)[b]? = some c := fun a c l => jm (JU hp hb hbp).2 l
 have sp : ∀ a c l x, ((σ.set p a).set b c ++ l).set p x = (σ.set p x).set b c ++ l := fun a c l x => by rw [jF (by simpa using hp), ji4 hbp]
 have sb : ∀ a c l x, ((σ.set p a).set b c ++ l).set b x = (σ.set p a).set b x ++ l := fun a c l x => by rw [jF (by simpa using hb), tE]
 have ga : ∀ a c l o, ((σ.set p a).set b c ++ (l ++ [o]))[σ.length + l.length]? = some o := fun a c l o => by
   have := get_app (σ := (σ.set p a).set b c ++ l) (l := [o]) 0
   rw [rO, rI, bl] at this; exact this
 have sa : ∀ a c l o x, ((σ.set p a).set b c ++ (l ++ [o])).set (σ.length + l.length) x = (σ.set p a).set b c ++ (l ++ [x]) := fun a c l o x => by
   have := set_app (σ := (σ.set p a).set b c ++ l) (l := [o]) 0 x
   rw [rO, rI, bl, rO] at this; exact this
 intro d
 induction d with
 | zero =>
   intro i f0 w ys r l v2 v3 wr R hE hi g hr hy hw e2 e3 e4 e5 e7 e8
   have l0 : decide ((i : Int) < (n : Int)) = false := rH (by omega)
   rw [jc] at hE
   subst hE
   simp only [zi, e2, e3, e4, e5, e7, e8, l0, zV, zS, zD, simprocAttr]
   exact ⟨_, _, _, _, rfl, (by first | exact e2 | rfl), (by first | exact e3 | rfl), (by first | exact e4 | rfl), (by first | exact e5 | rfl), hw, hr⟩
 | succ d ih =>
   intro i f0 w ys r l v2 v3 wr R hE hi g hr hy hw e2 e3 e4 e5 e7 e8
   have l0 : decide ((i : Int) < (n : Int)) = true := rE (by omega)
   have w1 := kM (n := i) (by omega)
   rw [ye]
   have ob : w.rf s = .cells [.str s, I w.pos, I (erc w.er), I (era w.er)] := rfl
   cases he : w.er with
   | some e =>
     obtain ⟨c, a⟩ := e
     have hc : c ≠ 0 := by have := g.f (by rw [he]; rfl); rw [he] at this; exact this
     have b1 : (((erc (some (c, a)) : Nat) : Int) == 0) = false := by show ((c : Int) == 0) = false; simpa using hc
     simp only [Option.isSome, if_true]
     rw [jc] at hE
     subst hE
     rw [ob, he]
     simp only [zi, jd, e2, e3, e4, e5, e7, e8, l0, y1, y2, b1, zV, zS, zD, simprocAttr]
     exact ⟨_, _, _, _, rfl, (by first | exact e2 | rfl), (by first | exact e3 | rfl), (by first | exact e4 | rfl), (by first | exact e5 | rfl), hw, hr⟩
   | none =>
     have ob0 : w.rf s = .cells [.str s, I w.pos, I 0, I 0] := by rw [ob, he]; rfl
     have b1 : ((0 : Int) == 0) = true := rfl
     have pl : ∀ w c l, Gd s w -> ∃ wr, cfw F (.f 43) [.ptr q 0] ((σ.set p (w.rf s)).set b c ++ l) = some ⟨false, I (w.rwhole s (-1152921504606846976) 1152921504606846976).2, (σ.set p ((w.rwhole s (-1152921504606846976) 1152921504606846976).1.rf s)).set b c ++ l, wr⟩ /\ Fl wr := fun w c l g => by
       obtain ⟨wr1, u, g1⟩ := Yn h43 h64 h76 h65 h66 h67 h40 (y1 (w.rf s) c l) (y2 _ _ _) hne hs g
       rw [sp] at u
       exact ⟨wr1, u, g1⟩
     have tr : ∀ w c l, Gd s w -> ∃ wr, cfw F (.f 47) [.ptr p 0] ((σ.set p (w.rf s)).set b c ++ l) = some ⟨false, .bool (w.t s).2, (σ.set p ((w.t s).1.rf s)).set b c ++ l, wr⟩ /\ Fl wr := fun w c l g => by
       obtain ⟨wr1, u, g1⟩ := T47 h47 h48 h66 (y1 (w.rf s) c l) hs g.p g.f
       rw [sp] at u
       exact ⟨wr1, u, g1⟩
     have er : jB s (kT 0) w Z3 = ((((w.rwhole s (-1152921504606846976) 1152921504606846976).1.rwhole s (-1152921504606846976) 1152921504606846976).1.t s).1, [I (w.rwhole s (-1152921504606846976) 1152921504606846976).2, I ((w.rwhole s (-1152921504606846976) 1152921504606846976).1.rwhole s (-1152921504606846976) 1152921504606846976).2, .bool (((w.rwhole s (-1152921504606846976) 1152921504606846976).1.rwhole s (-1152921504606846976) 1152921504606846976).1.t s).2]) := rfl
     simp only [Option.isSome, tF, if_false]
     rw [er]
     obtain ⟨wr1, u1, g1⟩ := pl w (.cells (cs.set 16 (.sl 3 r ys))) l g
     rw [ob0] at u1
     have gA := g.rwhole (lo := -1152921504606846976) (hi := 1152921504606846976)
     generalize Re.rwhole s w (-1152921504606846976) 1152921504606846976 = r1 at *
     obtain ⟨wr2, u2, g2⟩ := pl r1.1 (.cells (cs.set 16 (.sl 3 r ys))) (l ++ [.cells [I r1.2, I 0, .bool false]]) gA
     have gB := gA.rwhole (lo := -1152921504606846976) (hi := 1152921504606846976)
     generalize Re.rwhole s r1.1 (-1152921504606846976) 1152921504606846976 = r2 at *
     obtain ⟨wr3, u3, g3⟩ := tr r2.1 (.cells (cs.set 16 (.sl 3 r ys))) (l ++ [.cells [I r1.2, I r2.2, .bool false]]) gB
     have gC := gB.t
     generalize r2.1.t s = r3 at *
     have f1 : qw [.int .i64 0, .int .i64 0, .bool false] [(0, 1, I r1.2)] = some [I r1.2, .int .i64 0, .bool false] := rfl
     have c16 : ∀ v, (cs.set 16 v)[16]? = some v := fun v => rK (by omega)
     have q1 : (ys.length + 1) * 24 <= 1099511627776 := by omega
     have q2 : ys.length + 1 <= 1099511627776 := by omega
     have q3 : nilOwn 3 (.sl 3 r ys) = .sl 3 r ys := nilOwn_self 3 r ys
     rw [jc, ob0] at hE
     generalize ICode.loop zi = LL at hE ih
     simp only [zi, jd, e2, e3, e4, e5, e7, e8, l0, y1, y2, y3, sp, sb, ga, sa, bl, b1, w1, u1, u2, u3, f1, c16, q1, q2, hr, hl, hb, tD, tJ, tU, tE, rF, rL, zV, zS, zD, simprocAttr] at hE
     have gg : ∀ k, Fl ((b, false) :: (b, false) :: (k, false) :: (wr3 ++ (k, false) :: (wr2 ++ (k, false) :: (wr1 ++ wr)))) := fun k => by
       rw [Fl] at g1 g2 g3 hw ⊢
       simp only [tN, rQ, g1, g2, g3, hw]; rfl
     have k1 := ih (i + 1) _ r3.1 (ys ++ [IVal.agg [I r1.2, I r2.2, .bool r3.2]]) false (l ++ [IObj.cells [I r1.2, I r2.2, .bool r3.2]]) v2 v3 _ R hE
     exact k1 (by omega) gC (Bool.and_false _) (by simp; omega) (gg _) (by first | exact e2 | rfl) (by first | exact e3 | rfl) (by first | exact e4 | rfl) (by first | exact e5 | rfl) (by first | exact e7 | rfl) (by rfl)
end Go.Idl.Sb
namespace Go.Idl.Sb
open Go Go.Idl Go.Idl.En
variable {F : jn}
theorem Zw (s : List UInt8) : ∀ (d : Nat) (w : Re) (ys zs : List IVal), ∃ t : List (Int × Int × Bool), (ye s d w ys).1 = (qx s d w zs).1 /\ (ye s d w ys).2 = ys ++ t.map Ra /\ (qx s d w zs).2 = zs ++ t.flatMap Rc
 | 0, w, ys, zs => ⟨[], rfl, (rP _).symm, (rP _).symm⟩
 | d + 1, w, ys, zs => by
   rw [ye, qx]
   split
   . exact ⟨[], rfl, (rP _).symm, (rP _).symm⟩
   . obtain ⟨a, b, c, e⟩ : ∃ a b c, (jB s (kT 0) w Z3).2 = [I a, I b, .bool c] := ⟨_, _, _, rfl⟩
     rw [e]
     obtain ⟨t, h1, h2, h3⟩ := Zw s d (jB s (kT 0) w Z3).1 (ys ++ [.agg [I a, I b, .bool c]]) (zs ++ [I a, I b, .bool c])
     refine ⟨(a, b, c) :: t, h1, ?_, ?_⟩
     . rw [h2, rO]; rfl
     . rw [h3, rO]; rfl
end Go.Idl.Sb
namespace Go.Idl.Sb
open Go Go.Idl Go.Idl.En
variable {F : jn}
theorem jiv {v u : IVal} {zs : List Int} {σ : List IObj} (h1 : LW σ v zs) (h2 : LW σ u zs) (hn : zs.length < 100000) : ∀ (d i : Nat) (f0 : Nat -> Option (Nat × IVal)) (R : Option (IExit × St)),
   evw F (.loop vL) ⟨E 6 9 4 [] (base f0), σ, []⟩ = R -> i + d = zs.length ->
   f0 0 = some (0, v) -> f0 1 = some (1, u) -> f0 5 = some (5, I i) ->
   ∃ f1, R = some (.exit 0, ⟨E 6 9 4 [] (base f1), σ, []⟩) := by
 intro d
 induction d with
 | zero =>
   intro i f0 R hE hi e0 e1 e5
   have l0 : decide ((i : Int) < (zs.length : Int)) = false := rH (by omega)
   rw [jc] at hE
   subst hE
   rcases id h1 with ⟨o, r, rfl⟩ | ⟨id1, rfl, hid1⟩
   . simp only [vL, e0, e1, e5, l0, zV, zS, zD, simprocAttr]
     exact ⟨_, rfl⟩
   . simp only [vL, e0, e1, e5, l0, zV, zS, zD, simprocAttr]
     exact ⟨_, rfl⟩
 | succ d ih =>
   intro i f0 R hE hi e0 e1 e5
   have l0 : decide ((i : Int) < (zs.length : Int)) = true := rE (by omega)
   have hi2 : i < zs.length := by omega
   have g1 : zs[i]? = some zs[i] := rJ hi2
   have d1 : (0 : Int) <= (i : Int) := by omega
   have d2 : (i : Int) < (zs.length : Int) := by omega
   have w1 := kM (n := i) (by omega)
   rw [jc] at hE
   rcases id h1 with ⟨o, r, rfl⟩ | ⟨id1, rfl, hid1⟩ <;> rcases id h2 with ⟨o', r', rfl⟩ | ⟨id2, rfl, hid2⟩
   . simp only [vL, jd, e0, e1, e5, l0, g1, d1, d2, w1, neI, rL, zV, zS, zD, simprocAttr] at hE
     exact ih (i + 1) _ R hE (by omega) (by first | exact e0 | rfl) (by first | exact e1 | rfl) (by rfl)
   . simp only [vL, jd, e0, e1, e5, l0, g1, d1, d2, w1, neI, hid2, rE (ja hid2), rL, zV, zS, zD, simprocAttr] at hE
     exact ih (i + 1) _ R hE (by omega) (by first | exact e0 | rfl) (by first | exact e1 | rfl) (by rfl)
   . simp only [vL, jd, e0, e1, e5, l0, g1, d1, d2, w1, neI, hid1, rE (ja hid1), rL, zV, zS, zD, simprocAttr] at hE
     exact ih (i + 1) _ R hE (by omega) (by first | exact e0 | rfl) (by first | exact e1 | rfl) (by rfl)
   . simp only [vL, jd, e0, e1, e5, l0, g1, d1, d2, w1, neI, hid1, hid2, rE (ja hid1), rE (ja hid2), rL, zV, zS, zD, simprocAttr] at hE
     exact ih (i + 1) _ R hE (by omega) (by first | exact e0 | rfl) (by first | exact e1 | rfl) (by rfl)
theorem jaR (h : F 54 = some jf9) {v u : IVal} {zs : List Int} {σ : List IObj} (h1 : LW σ v zs) (h2 : LW σ u zs) (hn : zs.length < 100000) : cfw F (.f 54) [v, u] σ = some ⟨false, .bool true, σ, []⟩ := by
 rw [jj jf9 h, callI]
 have lp := fun f0 R hE e0 e1 e5 => jiv (F := F) h1 h2 hn zs.length 0 f0 R hE (by omega) e0 e1 e5
 rcases h1 with ⟨o, r, rfl⟩ | ⟨id1, rfl, hid1⟩ <;> rcases h2 with ⟨o', r', rfl⟩ | ⟨id2, rfl, hid2⟩
 all_goals
   simp only [jf9, neI, zV, zS, zD, simprocAttr]
   generalize hE : evw F (ICode.loop vL) _ = R
   obtain ⟨f1, rfl⟩ := lp _ R hE (by rfl) (by rfl) (by rfl)
   simp only [zV, zS, zD, simprocAttr]
theorem jiw {v u : IVal} {zs : List (Int × Int × Bool)} {σ : List IObj} (h1 : LR σ v zs) (h2 : LR σ u zs) (hn : zs.length < 100000) : ∀ (d i : Nat) (f0 : Nat -> Option (Nat × IVal)) (R : Option (IExit × St)),
   evw F (.loop vM) ⟨E 6 9 4 [] (base f0), σ, []⟩ = R -> i + d = zs.length ->
   f0 0 = some (0, v) -> f0 1 = some (1, u) -> f0 5 = some (5, I i) ->
   ∃ f1, R = some (.exit 0, ⟨E 6 9 4 [] (base f1), σ, []⟩) := by
 intro d
 induction d with
 | zero =>
   intro i f0 R hE hi e0 e1 e5
   have l0 : decide ((i : Int) < (zs.length : Int)) = false := rH (by omega)
   rw [jc] at hE
   subst hE
   rcases id h1 with ⟨o, r, rfl⟩ | ⟨id1, rfl, hid1⟩
   . simp only [vM, e0, e1, e5, l0, zV, zS, zD, simprocAttr]
     exact ⟨_, rfl⟩
   . simp only [vM, e0, e1, e5, l0, zV, zS, zD, simprocAttr]
     exact ⟨_, rfl⟩
 | succ d ih =>
   intro i f0 R hE hi e0 e1 e5
   have l0 : decide ((i : Int) < (zs.length : Int)) = true := rE (by omega)
   have hi2 : i < zs.length := by omega
   have g1 : zs[i]? = some zs[i] := rJ hi2
   have tr := tkR hi2
   have d1 : (0 : Int) <= (i : Int) := by omega
   have d2 : (i : Int) < (zs.length : Int) := by omega
   have w1 := kM (n := i) (by omega)
   rw [jc] at hE
   rcases id h1 with ⟨o, r, rfl⟩ | ⟨id1, rfl, hid1⟩ <;> rcases id h2 with ⟨o', r', rfl⟩ | ⟨id2, rfl, hid2⟩
   . simp only [vM, jjq, tr, eq3, e0, e1, e5, l0, g1, d1, d2, w1, neI, rL, zV, zS, zD, simprocAttr] at hE
     exact ih (i + 1) _ R hE (by omega) (by first | exact e0 | rfl) (by first | exact e1 | rfl) (by rfl)
   . simp only [vM, jjq, tr, eq3, e0, e1, e5, l0, g1, d1, d2, w1, neI, hid2, rE (ja hid2), rL, zV, zS, zD, simprocAttr] at hE
     exact ih (i + 1) _ R hE (by omega) (by first | exact e0 | rfl) (by first | exact e1 | rfl) (by rfl)
   . simp only [vM, jjq, tr, eq3, e0, e1, e5, l0, g1, d1, d2, w1, neI, hid1, rE (ja hid1), rL, zV, zS, zD, simprocAttr] at hE
     exact ih (i + 1) _ R hE (by omega) (by first | exact e0 | rfl) (by first | exact e1 | rfl) (by rfl)
   . simp only [vM, jjq, tr, eq3, e0, e1, e5, l0, g1, d1, d2, w1, neI, hid1, hid2, rE (ja hid1), rE (ja hid2), rL, zV, zS, zD, simprocAttr] at hE
     exact ih (i + 1) _ R hE (by omega) (by first | exact e0 | rfl) (by first | exact e1 | rfl) (by rfl)
theorem jhG (h : F 55 = some jga) {v u : IVal} {zs : List (Int × Int × Bool)} {σ : List IObj} (h1 : LR σ v zs) (h2 : LR σ u zs) (hn : zs.length < 100000) : cfw F (.f 55) [v, u] σ = some ⟨false, .bool true, σ, []⟩ := by
 rw [jj jga h, callI]
 have lp := fun f0 R hE e0 e1 e5 => jiw (F := F) h1 h2 hn zs.length 0 f0 R hE (by omega) e0 e1 e5
 rcases h1 with ⟨o, r, rfl⟩ | ⟨id1, rfl, hid1⟩ <;> rcases h2 with ⟨o', r', rfl⟩ | ⟨id2, rfl, hid2⟩
 all_goals
   simp only [jga, neI, zV, zS, zD, simprocAttr]
   generalize hE : evw F (ICode.loop vM) _ = R
   obtain ⟨f1, rfl⟩ := lp _ R hE (by rfl) (by rfl) (by rfl)
   simp only [zV, zS, zD, simprocAttr]
end Go.Idl.Sb
namespace Go.Idl.Sb
open Go Go.Idl Go.Idl.En
variable {F : jn}
set_option maxRecDepth 100000 in
set_option maxHeartbeats 8000000 in
theorem jhJ (h : F 22 = some jhr) (h54 : F 54 = some jf9) (h55 : F 55 = some jga) {N : Nat -> Int} {b : Bool} {v1 v2 v3 w1 w2 w3 u1 u2 u3 x1 x2 x3 : IVal} {z1 z2 : List Int} {z3 : List (Int × Int × Bool)} {σ : List IObj} (C1 : Cl v1 w1) (C2 : Cl v2 w2) (C3 : Cl v3 w3) (D1 : Cl u1 x1) (D2 : Cl u2 x2) (D3 : Cl u3 x3)
   (L1 : LW σ w1 z1) (L2 : LW σ w2 z2) (L3 : LR σ w3 z3) (M1 : LW σ x1 z1) (M2 : LW σ x2 z2) (M3 : LR σ x3 z3) (n1 : z1.length < 100000) (n2 : z2.length < 100000) (n3 : z3.length < 100000) :
   cfw F (.f 22) [.agg (csM N b v1 v2 v3), .agg (csM N b u1 u2 u3)] σ = some ⟨false, .bool true, σ, []⟩ := by
 rw [jj jhr h, callI]
 have p1 := jaR h54 L1 M1 n1
 have p2 := jaR h54 L2 M2 n2
 have p3 := jhG h55 L3 M3 n3
 have eI : ∀ n : Int, j9 (.int .i64 n) (.int .i64 n) = some true := fun n => by simp [j9]
 have eJ : ∀ n : Int, j9 (.int .i32 n) (.int .i32 n) = some true := fun n => by simp [j9]
 have eB : ∀ n : Int, j9 (.int .u8 n) (.int .u8 n) = some true := fun n => by simp [j9]
 have eH : ∀ n : Int, j9 (.int .u16 n) (.int .u16 n) = some true := fun n => by simp [j9]
 have tf : (true != false) = true := rfl
 have eb : ∀ n : Bool, j9 (.bool n) (.bool n) = some true := fun n => by simp [j9]
 simp only [jhr, csM, jd, p1, p2, p3, C1.u, C2.u, C3.u, C1.ww, C2.ww, C3.ww, C1.c, C2.c, C3.c, C1.c', C2.c', C3.c', C1.n, C2.n, C3.n, C1.cl, C2.cl, C3.cl, C1.u3, C2.u3, C3.u3, C1.u2, C2.u2, C3.u2, D1.u, D2.u, D3.u, D1.ww, D2.ww, D3.ww, D1.c, D2.c, D3.c, D1.c', D2.c', D3.c', D1.n, D2.n, D3.n, D1.cl, D2.cl, D3.cl, D1.u3, D2.u3, D3.u3, D1.u2, D2.u2, D3.u2, tZ, tD, eqK, J2, eI, eJ, eB, eH, eb, tf, jkN, rL, zV, zS, zD, simprocAttr]
end Go.Idl.Sb
namespace Go.Idl.Sb
open Go Go.Idl Go.Idl.En
variable {F : jn}
structure Fs (F : jn) : Prop where
 h40 : F 40 = some yX
 h43 : F 43 = some jf7
 h44 : F 44 = some je4
 h45 : F 45 = some jii
 h46 : F 46 = some je5
 h47 : F 47 = some jdJ
 h48 : F 48 = some jbv
 h49 : F 49 = some jij
 h50 : F 50 = some je6
 h51 : F 51 = some jf8
 h64 : F 64 = some X7
 h65 : F 65 = some Q5
 h66 : F 66 = some Qb
 h67 : F 67 = some X8
 h76 : F 76 = some Zg
def SD (s : List UInt8) (p b : Nat) (σ : List IObj) (w : Re) (cs : List IVal) : List IObj := (σ.set p (w.rf s)).set b (.cells cs)
structure Pl (s : List UInt8) (p q b : Nat) (σ : List IObj) : Prop where
 hp : p < σ.length
 hb : b < σ.length
 hq : σ[q]? = some (.cells [.ptr p 0])
 hne : q ≠ p
 hbp : b ≠ p
 hbq : b ≠ q
 hs : s.length < 1000000
section
variable {s : List UInt8} {p q b : Nat} {σ : List IObj} {w w1 : Re} {cs c : List IVal}
theorem Pl.gp (P : Pl s p q b σ) : (SD s p b σ w cs)[p]? = some (w.rf s) := (JU P.hp P.hb P.hbp).1
theorem Pl.gb (P : Pl s p q b σ) : (SD s p b σ w cs)[b]? = some (.cells cs) := (JU P.hp P.hb P.hbp).2
theorem Pl.gq (P : Pl s p q b σ) : (SD s p b σ w cs)[q]? = some (.cells [.ptr p 0]) := jdD P.hq P.hne (tR P.hbq)
theorem Pl.sp (P : Pl s p q b σ) : (SD s p b σ w cs).set p (w1.rf s) = SD s p b σ w1 cs := ji4 P.hbp
theorem Pl.sb : (SD s p b σ w cs).set b (.cells c) = SD s p b σ w c := tE ..
theorem Pl.len : (SD s p b σ w cs).length = σ.length := by rw [SD, rF, rF]
theorem Pl.lb (P : Pl s p q b σ) : b < (SD s p b σ w cs).length := by rw [Pl.len]; exact P.hb
theorem Pl.app (P : Pl s p q b σ) {l : List IObj} : SD s p b σ w cs ++ l = SD s p b (σ ++ l) w cs := by
 rw [SD, SD, jF P.hp, jF (by rw [rF]; exact P.hb)]
theorem Pl.ext (P : Pl s p q b σ) (l : List IObj) : Pl s p q b (σ ++ l) :=
 ⟨by have := P.hp; rw [rI]; omega, by have := P.hb; rw [rI]; omega, jm P.hq _, P.hne, P.hbp, P.hbq, P.hs⟩
theorem Pl.gk {k : Nat} {o : IObj} (h : σ[k]? = some o) (h1 : k ≠ p) (h2 : k ≠ b) : (SD s p b σ w cs)[k]? = some o := jdD h h1 h2
theorem Pl.put {k : Nat} {o : IObj} (h1 : k ≠ p) (h2 : k ≠ b) : (SD s p b σ w cs).set k o = SD s p b (σ.set k o) w cs := by
 rw [SD, SD, List.set_comm _ _ (tR h2), List.set_comm _ _ (tR h1)]
theorem Pl.of (P : Pl s p q b σ) {k : Nat} {o : IObj} (h1 : k ≠ q) : Pl s p q b (σ.set k o) :=
 ⟨by rw [rF]; exact P.hp, by rw [rF]; exact P.hb, get_set P.hq h1, P.hne, P.hbp, P.hbq, P.hs⟩
theorem Pl.mk1 (P : Pl s p q b σ) {ca : Cal} {args : List IVal} {v : IVal} (h : ∀ cs, ∃ wr, cfw F ca args (SD s p b σ w cs) = some ⟨false, v, (SD s p b σ w cs).set p (w1.rf s), wr⟩ /\ Fl wr) :
   ∃ wr : List IVal -> List (Nat × Bool), (∀ cs, cfw F ca args (SD s p b σ w cs) = some ⟨false, v, SD s p b σ w1 cs, wr cs⟩) /\ ∀ cs, Fl (wr cs) := by
 obtain ⟨wr, hw⟩ := Classical.skolem.mp h
 exact ⟨wr, fun cs => by rw [(hw cs).1, P.sp], fun cs => (hw cs).2⟩
theorem Fs.pl (H : Fs F) (P : Pl s p q b σ) (g : Gd s w) : ∃ (w1 : Re) (n : Int) (wr : List IVal -> List (Nat × Bool)), kx s .pl w = (w1, I n) /\ Gd s w1 /\ (∀ cs, cfw F (.f 43) [.ptr q 0] (SD s p b σ w cs) = some ⟨false, I n, SD s p b σ w1 cs, wr cs⟩) /\ ∀ cs, Fl (wr cs) := by
 obtain ⟨wr, h1, h2⟩ := P.mk1 fun cs => Yn H.h43 H.h64 H.h76 H.h65 H.h66 H.h67 H.h40 (P.gp (w := w) (cs := cs)) P.gq P.hne P.hs g
 exact ⟨_, _, wr, rfl, g.step .pl, h1, h2⟩
theorem Fs.wd (H : Fs F) (P : Pl s p q b σ) (g : Gd s w) : ∃ (w1 : Re) (n : Int) (wr : List IVal -> List (Nat × Bool)), kx s .wd w = (w1, J n) /\ Gd s w1 /\ (∀ cs, cfw F (.f 44) [.ptr q 0] (SD s p b σ w cs) = some ⟨false, J n, SD s p b σ w1 cs, wr cs⟩) /\ ∀ cs, Fl (wr cs) := by
 obtain ⟨wr, h1, h2⟩ := P.mk1 fun cs => jcS H.h44 H.h64 H.h76 H.h65 H.h66 H.h67 H.h40 (P.gp (w := w) (cs := cs)) P.gq P.hne P.hs g
 exact ⟨_, _, wr, rfl, g.step .wd, h1, h2⟩
theorem Fs.byt (H : Fs F) (P : Pl s p q b σ) (g : Gd s w) : ∃ (w1 : Re) (n : Nat) (wr : List IVal -> List (Nat × Bool)), kx s .byt w = (w1, B n) /\ Gd s w1 /\ (∀ cs, cfw F (.f 48) [.ptr p 0] (SD s p b σ w cs) = some ⟨false, B n, SD s p b σ w1 cs, wr cs⟩) /\ ∀ cs, Fl (wr cs) := by
 obtain ⟨wr, h1, h2⟩ := P.mk1 fun cs => B48 H.h48 H.h66 (P.gp (w := w) (cs := cs)) P.hs g.p g.f
 exact ⟨_, _, wr, rfl, g.step .byt, h1, h2⟩
theorem Fs.tr (H : Fs F) (P : Pl s p q b σ) (g : Gd s w) : ∃ (w1 : Re) (n : Bool) (wr : List IVal -> List (Nat × Bool)), kx s .tr w = (w1, .bool n) /\ Gd s w1 /\ (∀ cs, cfw F (.f 47) [.ptr p 0] (SD s p b σ w cs) = some ⟨false, .bool n, SD s p b σ w1 cs, wr cs⟩) /\ ∀ cs, Fl (wr cs) := by
 obtain ⟨wr, h1, h2⟩ := P.mk1 fun cs => T47 H.h47 H.h48 H.h66 (P.gp (w := w) (cs := cs)) P.hs g.p g.f
 exact ⟨_, _, wr, rfl, g.step .tr, h1, h2⟩
theorem Fs.nm (H : Fs F) (P : Pl s p q b σ) (g : Gd s w) : ∃ (w1 : Re) (n : Nat) (wr : List IVal -> List (Nat × Bool)), kx s .nm w = (w1, Q n) /\ Gd s w1 /\ (∀ cs, cfw F (.f 50) [.ptr q 0, .int .u64 1152921504606846975] (SD s p b σ w cs) = some ⟨false, Q n, SD s p b σ w1 cs, wr cs⟩) /\ ∀ cs, Fl (wr cs) := by
 obtain ⟨wr, h1, h2⟩ := P.mk1 fun cs => jiQ (most := 1152921504606846975) H.h50 H.h65 H.h66 H.h67 H.h40 (P.gp (w := w) (cs := cs)) P.gq P.hne P.hs g
 exact ⟨_, _, wr, rfl, g.step .nm, h1, h2⟩
theorem Fs.mny (H : Fs F) (P : Pl s p q b σ) (g : Gd s w) : ∃ wr : List IVal -> List (Nat × Bool), Gd s (w.rnum s 8).1 /\ (∀ cs, cfw F (.f 46) [.ptr p 0, .int .i64 8] (SD s p b σ w cs) = some ⟨false, I (w.rnum s 8).2, SD s p b σ (w.rnum s 8).1 cs, wr cs⟩) /\ ∀ cs, Fl (wr cs) := by
 obtain ⟨wr, h1, h2⟩ := P.mk1 fun cs => jeO (most := 8) H.h46 H.h65 H.h66 H.h40 (P.gp (w := w) (cs := cs)) P.hs (by decide) g
 exact ⟨wr, g.rnum, h1, h2⟩
theorem Fs.fin (H : Fs F) (P : Pl s p q b σ) (g : Gd s w) : ∃ wr : List IVal -> List (Nat × Bool), (∀ cs, cfw F (.f 51) [.ptr p 0] (SD s p b σ w cs) = some ⟨false, .agg [I (erc (w.fin s)), I (era (w.fin s))], SD s p b σ w cs, wr cs⟩) /\ ∀ cs, Fl (wr cs) := by
 obtain ⟨wr, hw⟩ := Classical.skolem.mp fun cs => jjr H.h51 (P.gp (w := w) (cs := cs)) g
 exact ⟨wr, fun cs => (hw cs).1, fun cs => (hw cs).2⟩
end
end Go.Idl.Sb
namespace Go.Idl.Sb
open Go Go.Idl Go.Idl.En
variable {F : jn}
section
variable {s : List UInt8} {p q b : Nat} {σ : List IObj} {w : Re} {cs c : List IVal}
theorem Fs.que (H : Fs F) (P : Pl s p q b σ) (g : Gd s w) : ∃ (w0 : Re) (n : Int) (w1 : Re) (b1 : Nat) (w2 : Re) (b2 : Nat) (w3 : Re) (b3 : Nat) (w4 : Re) (b4 : Nat) (w5 : Re) (b5 : Nat) (w6 : Re) (b6 : Nat) (w7 : Re) (b7 : Nat) (w8 : Re) (b8 : Nat) (wr : List IVal -> List (Nat × Bool)), kx s .pl w = (w0, I n) /\ kx s .byt w0 = (w1, B b1) /\ kx s .byt w1 = (w2, B b2) /\ kx s .byt w2 = (w3, B b3) /\ kx s .byt w3 = (w4, B b4) /\ kx s .byt w4 = (w5, B b5) /\ kx s .byt w5 = (w6, B b6) /\ kx s .byt w6 = (w7, B b7) /\ kx s .byt w7 = (w8, B b8) /\ Gd s w8 /\
   (∀ cs, cfw F (.f 49) [.ptr q 0] (SD s p b σ w cs) = some ⟨false, .agg [I n, B b1, B b2, B b3, B b4, B b5, B b6, B b7, B b8], SD s p b σ w8 cs, wr cs⟩) /\ ∀ cs, Fl (wr cs) := by
 obtain ⟨wr, h1, h2⟩ := P.mk1 fun cs => jgW H.h49 H.h48 H.h43 H.h64 H.h76 H.h65 H.h66 H.h67 H.h40 (P.gp (w := w) (cs := cs)) P.gq P.hne P.hs g
 exact ⟨_, _, _, _, _, _, _, _, _, _, _, _, _, _, _, _, _, _, wr, rfl, rfl, rfl, rfl, rfl, rfl, rfl, rfl, rfl, g.rque, h1, h2⟩
theorem jeY {c a : Nat} (g : Gd s w) (h : w.fin s = some (c, a)) : c ≠ 0 := by
 rw [Re.fin] at h
 split at h
 . rename_i e he
   have := g.f (by rw [he]; rfl)
   rw [he] at this
   cases h
   exact this
 . split at h
   . cases h; decide
   . cases h
end
def Dn (s : List UInt8) (p b a2 a3 : Nat) (σ : List IObj) (r : Re × List IVal) (R : Option (IExit × St)) : Prop :=
 ∃ f1 wr' σ', R = some (.ret, ⟨E 12 14 5 [] (base f1), σ', wr'⟩) /\ f1 2 = some (2, .ptr a2 0) /\ f1 3 = some (3, .ptr a3 0) /\ Fl wr' /\ (∀ k, k ≠ p -> k ≠ b -> k ≠ a2 -> k ≠ a3 -> k < σ.length -> σ'[k]? = σ[k]?) /\
     σ'[a2]? = some (.cells (if (r.1.fin s).isSome then Z55 else r.2)) /\ σ'[a3]? = some (.cells [I (erc (r.1.fin s)), I (era (r.1.fin s))])
structure Rs (p q b a2 a3 : Nat) (σ : List IObj) : Prop where
 A2 : σ[a2]? = some (.cells Z55)
 A3 : σ[a3]? = some (.cells [I 0, I 0])
 n1 : a2 ≠ p
 n2 : a2 ≠ b
 n3 : a3 ≠ p
 n4 : a3 ≠ b
 n5 : a2 ≠ a3
theorem Rs.ext {p q b a2 a3 : Nat} {σ : List IObj} (r : Rs p q b a2 a3 σ) (l : List IObj) : Rs p q b a2 a3 (σ ++ l) := ⟨jm r.A2 l, jm r.A3 l, r.n1, r.n2, r.n3, r.n4, r.n5⟩
def Pr (cs : List IVal) : Prop := ∀ v ∈ cs, v.isCell = true /\ nr1 v = true
theorem Pr.run {s : List UInt8} : ∀ (L : List (K × Nat)) (w : Re) (cs : List IVal), Pr cs -> Pr (jB s L w cs).2
 | [], w, cs, h => h
 | (k, o) :: L, w, cs, h => Pr.run L _ _ (fun v hv => by
   rcases List.mem_or_eq_of_mem_set hv with h1 | h1
   . exact h v h1
   . subst h1; cases k <;> exact ⟨rfl, rfl⟩)
theorem qy {s : List UInt8} : ∀ (L : List (K × Nat)) (w : Re) (cs : List IVal), (jB s L w cs).2.length = cs.length
 | [], w, cs => rfl
 | (k, o) :: L, w, cs => (qy L _ _).trans (rF ..)
theorem z6 {s : List UInt8} : ∀ (L M : List (K × Nat)) (w : Re) (cs : List IVal), jB s (L ++ M) w cs = jB s M (jB s L w cs).1 (jB s L w cs).2
 | [], M, w, cs => rfl
 | (k, o) :: L, M, w, cs => z6 L M _ _
theorem z7 {s : List UInt8} {o : Nat} {v : IVal} : ∀ (L : List (K × Nat)) (w : Re) (cs : List IVal), (∀ q ∈ L, q.2 ≠ o) -> jB s L w (cs.set o v) = ((jB s L w cs).1, (jB s L w cs).2.set o v)
 | [], w, cs, h => rfl
 | (k, i) :: L, w, cs, h => by
   have := z7 (s := s) (o := o) (v := v) L (kx s k w).1 (cs.set i (kx s k w).2) (fun q hq => h q (rN _ hq))
   rw [List.set_comm _ _ (h (k, i) rT)] at this
   exact this
abbrev lD : List (K × Nat) := byL [47, 48, 49] ++ ((.nm, 50) :: (.nm, 51) :: plL [52, 53, 54])
theorem Fl.one {k : Nat} {b : List (Nat × Bool)} (hb : Fl b) : Fl ((k, false) :: b) := by rw [Fl] at *; rw [tN, hb]; rfl
theorem yC {s : List UInt8} {p q b a2 a3 : Nat} {σ l : List IObj} (r : Rs p q b a2 a3 σ) {w : Re} {cs : List IVal} {X Y : IObj} :
   (∀ k, k ≠ p -> k ≠ b -> k ≠ a2 -> k ≠ a3 -> k < σ.length -> (((SD s p b σ w cs).set a2 X).set a3 Y ++ l)[k]? = σ[k]?) /\ (((SD s p b σ w cs).set a2 X).set a3 Y ++ l)[a2]? = some X /\ (((SD s p b σ w cs).set a2 X).set a3 Y ++ l)[a3]? = some Y := by
 have la2 := ja r.A2
 have la3 := ja r.A3
 have ll : (((SD s p b σ w cs).set a2 X).set a3 Y).length = σ.length := by rw [rF, rF, Pl.len]
 refine ⟨fun k h1 h2 h3 h4 h5 => ?_, ?_, ?_⟩
 . rw [List.getElem?_append_left (by omega), rD (tR h4), rD (tR h3), SD, rD (tR h2), rD (tR h1)]
 . rw [List.getElem?_append_left (by omega), rD (tR r.n5), rK (by rw [Pl.len]; exact la2)]
 . rw [List.getElem?_append_left (by omega), rK (by rw [rF, Pl.len]; exact la3)]
theorem c20 (H : Fs F) {s : List UInt8} {p q b a2 a3 : Nat} {σ : List IObj} (P : Pl s p q b σ) (r : Rs p q b a2 a3 σ) {w : Re} {cs : List IVal} {f0 : Nat -> Option (Nat × IVal)} {wr : List (Nat × Bool)} {R : Option (IExit × St)}
   (hE : evw F Zd ⟨E 12 14 5 [] (base f0), SD s p b σ w cs, wr⟩ = R) (g : Gd s w) (hl : cs.length = 55) (hw : Fl wr) (hc : Pr cs)
   (e2 : f0 2 = some (2, .ptr a2 0)) (e3 : f0 3 = some (3, .ptr a3 0)) (e4 : f0 4 = some (4, .ptr q 0)) (e5 : f0 5 = some (5, .ptr b 0)) :
   Dn s p b a2 a3 σ (jB s lD w cs) R := by
 have hcf := hc.run (s := s) lD w
 have hlf := qy (s := s) lD w cs
 obtain ⟨w1, x1, wr1, E1, g1, u1, y1⟩ := H.byt P g
 obtain ⟨w2, x2, wr2, E2, g2, u2, y2⟩ := H.byt P g1
 obtain ⟨w3, x3, wr3, E3, g3, u3, y3⟩ := H.byt P g2
 obtain ⟨w4, x4, wr4, E4, g4, u4, y4⟩ := H.nm P g3
 obtain ⟨w5, x5, wr5, E5, g5, u5, y5⟩ := H.nm P g4
 obtain ⟨w6, x6, wr6, E6, g6, u6, y6⟩ := H.pl P g5
 obtain ⟨w7, x7, wr7, E7, g7, u7, y7⟩ := H.pl P g6
 obtain ⟨w8, x8, wr8, E8, g8, u8, y8⟩ := H.pl P g7
 obtain ⟨wr9, u9, y9⟩ := H.fin P g8
 have er : jB s lD w cs = (w8, (((((((cs.set 47 (B x1)).set 48 (B x2)).set 49 (B x3)).set 50 (Q x4)).set 51 (Q x5)).set 52 (I x6)).set 53 (I x7)).set 54 (I x8)) := by
   simp only [lD, byL, plL, rU, List.map_nil, tP, tQ, jB, E1, E2, E3, E4, E5, E6, E7, E8]
 rw [er] at hcf hlf ⊢
 simp only [] at hcf hlf
 have ac : List.all ((((((((cs.set 47 (B x1)).set 48 (B x2)).set 49 (B x3)).set 50 (Q x4)).set 51 (Q x5)).set 52 (I x6)).set 53 (I x7)).set 54 (I x8)) IVal.isCell = true := List.all_eq_true.2 fun v hv => (hcf v hv).1
 have an : List.all ((((((((cs.set 47 (B x1)).set 48 (B x2)).set 49 (B x3)).set 50 (Q x4)).set 51 (Q x5)).set 52 (I x6)).set 53 (I x7)).set 54 (I x8)) nr1 = true := List.all_eq_true.2 fun v hv => (hcf v hv).2
 have tk : List.take 55 ((((((((cs.set 47 (B x1)).set 48 (B x2)).set 49 (B x3)).set 50 (Q x4)).set 51 (Q x5)).set 52 (I x6)).set 53 (I x7)).set 54 (I x8)) = _ := rX (by rw [hlf, hl]; exact rS _)
 have pc : putCells Z55 0 ((((((((cs.set 47 (B x1)).set 48 (B x2)).set 49 (B x3)).set 50 (Q x4)).set 51 (Q x5)).set 52 (I x6)).set 53 (I x7)).set 54 (I x8)) = _ := Yp (by rw [hlf, hl]; rfl)
 have pz : putCells Z55 0 Z55 = Z55 := Yp rfl
 have lz : Z55.length = 55 := rfl
 have az : Z55.all IVal.isCell = true := rfl
 have nz : Z55.all nr1 = true := rfl
 have yq := fun w cs => P.gq (w := w) (cs := cs)
 have yb := fun w cs => P.gb (w := w) (cs := cs)
 have ys := fun w cs c => Pl.sb (s := s) (p := p) (b := b) (σ := σ) (w := w) (cs := cs) (c := c)
 have yl := fun w cs => Pl.len (s := s) (p := p) (b := b) (σ := σ) (w := w) (cs := cs)
 have hp := P.hp
 have hb := P.hb
 have la2 := ja r.A2
 have la3 := ja r.A3
 have n1 := r.n1
 have n2 := r.n2
 have n3 := r.n3
 have n4 := r.n4
 have n5 := r.n5
 have z2 := fun w cs l => jm (Pl.gk (s := s) (w := w) (cs := cs) r.A2 n1 n2) l
 have z3 := fun w cs l => jm (Pl.gk (s := s) (w := w) (cs := cs) r.A3 n3 n4) l
 have zb := fun w cs l => jm (yb w cs) l
 have t1 := fun w cs (o : IObj) => get_app (σ := SD s p b σ w cs) (l := [o]) 0
 have t2 := fun w cs (o x : IObj) => set_app (σ := SD s p b σ w cs) (l := [o]) 0 x
 simp only [yl, Nat.add_zero, List.getElem?_cons_zero, List.set_cons_zero] at t1 t2
 have sb := fun w cs c (l : List IObj) => (jF (l := l) (o := .cells c) (P.lb (w := w) (cs := cs))).trans (by rw [ys])
 have s2 := fun w cs (l : List IObj) o => jF (l := l) (o := o) (id := a2) (by rw [yl]; exact la2 : a2 < (SD s p b σ w cs).length)
 have s3 := fun w cs (l : List IObj) o o' => jF (σ := (SD s p b σ w cs).set a2 o') (l := l) (o := o) (id := a3) (by rw [rF, yl]; exact la3)
 have z3' := fun w cs l o' => jm (get_set (j := a2) (x := o') (Pl.gk (s := s) (w := w) (cs := cs) r.A3 n3 n4) n5) l
 have f1 : qw [.int .i64 0, .int .i64 0] [] = some [I 0, I 0] := rfl
 have fz : qw Z55 [] = some Z55 := rfl
 have ln : (a2 != σ.length) = true := by simp; omega
 cases hf : w8.fin s with
 | none =>
   rw [hf] at u9
   have b1 : ((0 : Int) != 0) = false := rfl
   have u9 : ∀ cs, cfw F (.f 51) [.ptr p 0] (SD s p b σ w8 cs) = some ⟨false, .agg [I 0, I 0], SD s p b σ w8 cs, wr9 cs⟩ := u9
   simp only [Zd, jd, e2, e3, e4, e5, u1, u2, u3, u4, u5, u6, u7, u8, u9, hl, b1, ln, yq, yb, ys, yl, z2, z3, z3', zb, t1, t2, sb, s2, s3, f1, fz, ac, an, tk, pc, pz, lz, az, nz, hb, rF, List.zip_nil_left, tD, zV, zS, zD, simprocAttr] at hE
   subst hE
   refine ⟨_, _, _, rfl, by rfl, by rfl, ?_, (yC r).1, ?_, ?_⟩
   . simp only [Fl] at y1 y2 y3 y4 y5 y6 y7 y8 y9 hw
     simp only [Fl, rQ, tN, y1, y2, y3, y4, y5, y6, y7, y8, y9, hw]; rfl
   . rw [show Re.fin s _ = none from hf]; exact (yC r).2.1
   . rw [show Re.fin s _ = none from hf]; exact (yC r).2.2
 | some e =>
   obtain ⟨c, a⟩ := e
   rw [hf] at u9
   have hc0 := jeY g8 hf
   have b1 : ((c : Int) != 0) = true := by simpa using hc0
   have u9 : ∀ cs, cfw F (.f 51) [.ptr p 0] (SD s p b σ w8 cs) = some ⟨false, .agg [I c, I a], SD s p b σ w8 cs, wr9 cs⟩ := u9
   simp only [Zd, jd, e2, e3, e4, e5, u1, u2, u3, u4, u5, u6, u7, u8, u9, hl, b1, ln, yq, yb, ys, yl, z2, z3, z3', zb, t1, t2, sb, s2, s3, f1, fz, ac, an, tk, pc, pz, lz, az, nz, hb, rF, List.zip_nil_left, tD, zV, zS, zD, simprocAttr] at hE
   subst hE
   refine ⟨_, _, _, rfl, by rfl, by rfl, ?_, (yC r).1, ?_, ?_⟩
   . simp only [Fl] at y1 y2 y3 y4 y5 y6 y7 y8 y9 hw
     simp only [Fl, rQ, tN, y1, y2, y3, y4, y5, y6, y7, y8, y9, hw]; rfl
   . rw [show Re.fin s _ = some (c, a) from hf]; exact (yC r).2.1
   . rw [show Re.fin s _ = some (c, a) from hf]; exact (yC r).2.2
end Go.Idl.Sb
namespace Go.Idl.Sb
open Go Go.Idl Go.Idl.En
variable {F : jn}
theorem b20 (H : Fs F) {s : List UInt8} {p q b a2 a3 : Nat} {σ : List IObj} (P : Pl s p q b σ) (r : Rs p q b a2 a3 σ) {w : Re} {cs : List IVal} {f0 : Nat -> Option (Nat × IVal)} {wr : List (Nat × Bool)} {R : Option (IExit × St)}
   (hE : evw F jbs ⟨E 12 14 5 [] (base f0), SD s p b σ w cs, wr⟩ = R) (g : Gd s w) (hl : cs.length = 55) (hw : Fl wr) (hc : Pr cs)
   (e2 : f0 2 = some (2, .ptr a2 0)) (e3 : f0 3 = some (3, .ptr a3 0)) (e4 : f0 4 = some (4, .ptr q 0)) (e5 : f0 5 = some (5, .ptr b 0)) :
   Dn s p b a2 a3 σ (jB s lC w cs) R := by
 have eC : lC = (byL [17, 18, 19] ++ (JK 20 ++ (JK 29 ++ ((.tr, 38) :: byL [39, 40])))) ++ ((List.range' 0 2).flatMap (fun i => JX (41 + i * 3)) ++ lD) := rfl
 rw [eC, z6]
 have hcB := hc.run (s := s) (byL [17, 18, 19] ++ (JK 20 ++ (JK 29 ++ ((.tr, 38) :: byL [39, 40])))) w
 have hlB := qy (s := s) (byL [17, 18, 19] ++ (JK 20 ++ (JK 29 ++ ((.tr, 38) :: byL [39, 40])))) w cs
 obtain ⟨w1, x1, wr1, E1, g1, u1, y1⟩ := H.byt P g
 obtain ⟨w2, x2, wr2, E2, g2, u2, y2⟩ := H.byt P g1
 obtain ⟨w3, x3, wr3, E3, g3, u3, y3⟩ := H.byt P g2
 obtain ⟨a0, m0, a1, m1, a2', m2, a3', m3, a4, m4, a5, m5, a6, m6, a7, m7, a8, m8, wr4, F0, F1, F2, F3, F4, F5, F6, F7, F8, g4, u4, y4⟩ := H.que P g3
 obtain ⟨b0, k0, b1, k1, b2, k2, b3, k3, b4, k4, b5, k5, b6, k6, b7, k7, b8, k8, wr5, G0, G1, G2, G3, G4, G5, G6, G7, G8, g5, u5, y5⟩ := H.que P g4
 obtain ⟨w6, x6, wr6, E6, g6, u6, y6⟩ := H.tr P g5
 obtain ⟨w7, x7, wr7, E7, g7, u7, y7⟩ := H.byt P g6
 obtain ⟨w8, x8, wr8, E8, g8, u8, y8⟩ := H.byt P g7
 have er : jB s (byL [17, 18, 19] ++ (JK 20 ++ (JK 29 ++ ((.tr, 38) :: byL [39, 40])))) w cs = (w8, ((((((((((((((((((((((((cs.set 17 (B x1)).set 18 (B x2)).set 19 (B x3)).set 20 (I m0)).set 21 (B m1)).set 22 (B m2)).set 23 (B m3)).set 24 (B m4)).set 25 (B m5)).set 26 (B m6)).set 27 (B m7)).set 28 (B m8)).set 29 (I k0)).set 30 (B k1)).set 31 (B k2)).set 32 (B k3)).set 33 (B k4)).set 34 (B k5)).set 35 (B k6)).set 36 (B k7)).set 37 (B k8)).set 38 (.bool x6)).set 39 (B x7)).set 40 (B x8))) := by
   simp only [JK, jaF, byL, plL, List.range', rU, List.map_nil, tP, tQ, Nat.reduceAdd, jB, E1, E2, E3, E6, E7, E8, F0, F1, F2, F3, F4, F5, F6, F7, F8, G0, G1, G2, G3, G4, G5, G6, G7, G8]
 rw [er] at hcB hlB ⊢
 simp only [] at hcB hlB ⊢
 have yq := fun w cs => P.gq (w := w) (cs := cs)
 have yb := fun w cs => P.gb (w := w) (cs := cs)
 have ys := fun w cs c => Pl.sb (s := s) (p := p) (b := b) (σ := σ) (w := w) (cs := cs) (c := c)
 have yl := fun w cs => Pl.len (s := s) (p := p) (b := b) (σ := σ) (w := w) (cs := cs)
 have hb := P.hb
 simp only [jbs, jd, e2, e3, e4, e5, u1, u2, u3, u4, u5, u6, u7, u8, hl, yq, yb, ys, yl, hb, rF, zV, zS, zD, simprocAttr] at hE
 generalize hL : evw F (ICode.loop Ks) _ = RL at hE
 simp only [Fl] at y1 y2 y3 y4 y5 y6 y7 y8 hw
 obtain ⟨f1, wr', rfl, z2, z3, z4, z5, gw⟩ := jgt H.h50 H.h65 H.h66 H.h67 H.h40 P.hp P.hb P.hq P.hne P.hbp P.hbq P.hs 2 0 _ w8 _ _ _ _ RL hL (by omega) g8 (hlB.trans hl) (by simp only [Fl, rQ, tN, y1, y2, y3, y4, y5, y6, y7, y8, hw]; rfl) (by exact e2) (by exact e3) (by exact e4) (by exact e5) (by rfl)
 simp only [zS, zD, simprocAttr] at hE
 rw [z6]
 exact c20 H P r hE (Gd.run _ _ _ g8) ((qy _ _ _).trans (hlB.trans hl)) gw (hcB.run _ _) z2 z3 z4 z5
end Go.Idl.Sb
namespace Go.Idl.Sb
open Go Go.Idl Go.Idl.En
variable {F : jn}
theorem jb0 : ∀ xs : List UInt8, (zn xs).2.2 ≠ 0 -> (zn xs).1 = 0
 | [], _ => rfl
 | x :: xs, h => by
   rw [zn] at h ⊢
   simp only [] at h ⊢
   split
   . rfl
   . rename_i h1
     rw [if_neg h1] at h
     split
     . rename_i h2
       rw [if_pos h2] at h
       exact absurd rfl h
     . rfl
section
variable {s : List UInt8} {w : Re} {most : Nat}
theorem jjg (h : (w.u s).1.er.isSome = true) : (w.u s).2 = 0 := by
 rw [Re.u] at h ⊢
 split at h
 . rename_i he; rw [if_pos he]
 . rename_i he
   rw [if_neg he]
   show (zn (s.drop w.pos)).1 = 0
   apply jb0
   intro e
   have h : (w.fail (zn (s.drop w.pos)).2.2 w.pos).er.isSome = true := h
   rw [Re.fail, e, if_pos (by simp)] at h
   exact he h
theorem jcl : (w.rnum s most).2 <= most := by
 rw [Re.rnum]
 split
 . rename_i h; show (w.u s).2 <= most; rw [jjg h]; exact Nat.zero_le _
 . split
   . exact Nat.zero_le _
   . rename_i h2; show (w.u s).2 <= most; simp at h2; omega
end
theorem Fs.wds (H : Fs F) {s : List UInt8} {p q b : Nat} {σ : List IObj} {w : Re} (P : Pl s p q b σ) (g : Gd s w) {most : Nat} (hm : most < 10000) : ∃ (wr : List IVal -> List (Nat × Bool)) (r : List IVal -> Bool), Gd s (jS s (w.rnum s most).2 (w.rnum s most).1 []).1 /\ (∀ cs, cfw F (.f 45) [.ptr q 0, I most] (SD s p b σ w cs) = some ⟨false, .sl 1 (r cs) (jS s (w.rnum s most).2 (w.rnum s most).1 []).2, SD s p b σ (jS s (w.rnum s most).2 (w.rnum s most).1 []).1 cs, wr cs⟩) /\ (∀ cs, Fl (wr cs)) /\ ∀ cs, (!(jS s (w.rnum s most).2 (w.rnum s most).1 []).2.isEmpty && r cs) = false := by
 have hn : (w.rnum s most).2 < 100000 := by have := jcl (s := s) (w := w) (most := most); omega
 obtain ⟨wr, hw⟩ := Classical.skolem.mp fun cs => jhk H.h45 H.h46 H.h44 H.h64 H.h76 H.h65 H.h66 H.h67 H.h40 (P.gp (w := w) (cs := cs)) P.gq P.hne P.hs hm g hn
 obtain ⟨r, hr⟩ := Classical.skolem.mp hw
 exact ⟨wr, r, Gd.growW _ _ _ g.rnum, fun cs => by rw [(hr cs).1, P.sp], fun cs => (hr cs).2.1, fun cs => (hr cs).2.2⟩
theorem Gd.growV {s : List UInt8} : ∀ (d : Nat) (w : Re) (ys : List IVal), Gd s w -> Gd s (ye s d w ys).1
 | 0, w, ys, g => g
 | d + 1, w, ys, g => by
   rw [ye]
   split
   . exact g
   . exact Gd.growV d _ _ (Gd.run _ _ _ g)
theorem Dn.of {s : List UInt8} {p b a2 a3 : Nat} {σ l : List IObj} {r : Re × List IVal} {R : Option (IExit × St)} (h : Dn s p b a2 a3 (σ ++ l) r R) : Dn s p b a2 a3 σ r R := by
 obtain ⟨f1, wr', σ', h1, h2, h3, h4, h5, h6, h7⟩ := h
 exact ⟨f1, wr', σ', h1, h2, h3, h4, fun k k1 k2 k3 k4 k5 => (h5 k k1 k2 k3 k4 (by rw [rI]; omega)).trans (List.getElem?_append_left k5), h6, h7⟩
theorem jcu {cs : List IVal} {i : Nat} {v : IVal} (h : cs[i]? = some v) : cs.set i v = cs := by
 obtain ⟨hi, e⟩ := List.getElem?_eq_some_iff.1 h
 rw [<- e]; exact List.set_getElem_self hi
theorem Pr.set {cs : List IVal} {i : Nat} {v : IVal} (h : Pr cs) (hv : v.isCell = true /\ nr1 v = true) : Pr (cs.set i v) := fun u hu => by
 rcases List.mem_or_eq_of_mem_set hu with h1 | h1
 . exact h u h1
 . subst h1; exact hv
theorem jct {cs : List IVal} {a b c d : IVal} : (((cs.set 13 a).set 14 b).set 15 c).set 16 d = (((cs.set 15 c).set 13 a).set 14 b).set 16 d := by
 rw [List.set_comm b c (by decide), List.set_comm a c (by decide)]
structure Rdl where
 cs : List IVal
 w : Re
 y1 : List IVal
 y2 : List IVal
 y3 : List IVal
def rdl (s : List UInt8) (w : Re) (cs : List IVal) : Rdl :=
 let g1 := jS s (w.rnum s 512).2 (w.rnum s 512).1 []
 let g2 := jS s (g1.1.rnum s 8000).2 (g1.1.rnum s 8000).1 []
 let rB := jB s lB g2.1 cs
 let g3 := ye s (rB.1.rnum s 8).2 (rB.1.rnum s 8).1 []
 let rC := jB s lC g3.1 rB.2
 ⟨rC.2, rC.1, g1.2, g2.2, g3.2⟩
theorem a20 (H : Fs F) {s : List UInt8} {p q b a2 a3 : Nat} {σ : List IObj} (P : Pl s p q b σ) (r : Rs p q b a2 a3 σ) {w : Re} {cs : List IVal} {f0 : Nat -> Option (Nat × IVal)} {wr : List (Nat × Bool)} {R : Option (IExit × St)}
   (hE : evw F jbr ⟨E 12 14 5 [] (base f0), SD s p b σ w cs, wr⟩ = R) (g : Gd s w) (hl : cs.length = 55) (hw : Fl wr) (hc : Pr cs) (c16 : cs[16]? = some (.sl 3 true []))
   (e2 : f0 2 = some (2, .ptr a2 0)) (e3 : f0 3 = some (3, .ptr a3 0)) (e4 : f0 4 = some (4, .ptr q 0)) (e5 : f0 5 = some (5, .ptr b 0)) :
   ∃ r1 r2 r3, Dn s p b a2 a3 σ ((rdl s w cs).w, (((rdl s w cs).cs.set 13 (.sl 1 r1 (rdl s w cs).y1)).set 14 (.sl 1 r2 (rdl s w cs).y2)).set 16 (.sl 3 r3 (rdl s w cs).y3)) R /\
     (!(rdl s w cs).y1.isEmpty && r1) = false /\ (!(rdl s w cs).y2.isEmpty && r2) = false /\ (!(rdl s w cs).y3.isEmpty && r3) = false := by
 unfold rdl
 simp only []
 obtain ⟨wr1, r1, g1, u1, y1, n1⟩ := H.wds P g (most := 512) (by decide)
 generalize jS s (w.rnum s 512).2 (w.rnum s 512).1 [] = x1 at *
 obtain ⟨wr2, r2, g2, u2, y2, n2⟩ := H.wds P g1 (most := 8000) (by decide)
 generalize jS s (x1.1.rnum s 8000).2 (x1.1.rnum s 8000).1 [] = x2 at *
 obtain ⟨w3, x3, wr3, E3, g3, u3, y3⟩ := H.pl P g2
 have eB : jB s lB x2.1 cs = (w3, cs.set 15 (I x3)) := by simp only [lB, plL, rU, List.map_nil, jB, E3]
 rw [eB]
 simp only []
 obtain ⟨wr4, g4, u4, y4⟩ := H.mny P g3
 have hn : (w3.rnum s 8).2 < 1000 := by have := jcl (s := s) (w := w3) (most := 8); omega
 generalize w3.rnum s 8 = x4 at *
 have yq := fun w cs => P.gq (w := w) (cs := cs)
 have yb := fun w cs => P.gb (w := w) (cs := cs)
 have ys := fun w cs c => Pl.sb (s := s) (p := p) (b := b) (σ := σ) (w := w) (cs := cs) (c := c)
 have yl := fun w cs => Pl.len (s := s) (p := p) (b := b) (σ := σ) (w := w) (cs := cs)
 have hb := P.hb
 have i1 : ∀ (e : Nat) (b : Bool) (l : List IVal), IVal.isCell (.sl e b l) = true := fun _ _ _ => rfl
 have u1 : ∀ cs, cfw F (.f 45) [.ptr q 0, .int .i64 512] (SD s p b σ w cs) = some ⟨false, .sl 1 (r1 cs) x1.2, SD s p b σ x1.1 cs, wr1 cs⟩ := u1
 have u2 : ∀ cs, cfw F (.f 45) [.ptr q 0, .int .i64 8000] (SD s p b σ x1.1 cs) = some ⟨false, .sl 1 (r2 cs) x2.2, SD s p b σ x2.1 cs, wr2 cs⟩ := u2
 have nn : ∀ {e : Nat} {b : Bool} {l : List IVal}, (!l.isEmpty && b) = false -> nr1 (.sl e b l) = true := fun {e b l} h => by
   show (!b || l.isEmpty) = true
   cases b <;> cases hl : l.isEmpty <;> simp_all
 have k1 := fun cs => nn (e := 1) (n1 cs)
 have k2 := fun cs => nn (e := 1) (n2 cs)
 simp only [jbr, jd, k1, k2, e2, e3, e4, e5, u1, u2, u3, u4, hl, yq, yb, ys, yl, hb, i1, rF, zV, zS, zD, simprocAttr] at hE
 generalize hL : evw F (ICode.loop zi) _ = RL at hE
 have P3 : Pr (((cs.set 13 (.sl 1 (r1 cs) x1.2)).set 14 (.sl 1 (r2 (cs.set 13 (.sl 1 (r1 cs) x1.2))) x2.2)).set 15 (I x3)) := ((hc.set ⟨rfl, k1 _⟩).set ⟨rfl, k2 _⟩).set ⟨rfl, rfl⟩
 have m16 : (((cs.set 13 (.sl 1 (r1 cs) x1.2)).set 14 (.sl 1 (r2 (cs.set 13 (.sl 1 (r1 cs) x1.2))) x2.2)).set 15 (I x3))[16]? = some (.sl 3 true []) := by
   rw [rD (by decide), rD (by decide), rD (by decide)]; exact c16
 have l3 : (((cs.set 13 (.sl 1 (r1 cs) x1.2)).set 14 (.sl 1 (r2 (cs.set 13 (.sl 1 (r1 cs) x1.2))) x2.2)).set 15 (I x3)).length = 55 := by rw [rF, rF, rF, hl]
 have st := fun w => (show SD s p b σ w (((cs.set 13 (.sl 1 (r1 cs) x1.2)).set 14 (.sl 1 (r2 (cs.set 13 (.sl 1 (r1 cs) x1.2))) x2.2)).set 15 (I x3)) = SD s p b σ w ((((cs.set 13 (.sl 1 (r1 cs) x1.2)).set 14 (.sl 1 (r2 (cs.set 13 (.sl 1 (r1 cs) x1.2))) x2.2)).set 15 (I x3)).set 16 (.sl 3 true [])) ++ [] by rw [rP, jcu m16])
 rw [st] at hL
 simp only [Fl] at y1 y2 y3 y4 hw
 obtain ⟨f1, wr', r3, l', rfl, z2, z3, z4, z5, gw, hr3⟩ := jgs H.h43 H.h47 H.h48 H.h64 H.h76 H.h65 H.h66 H.h67 H.h40 P.hp P.hb P.hq P.hne P.hbp P.hbq P.hs l3 hn x4.2 0 _ x4.1 [] true [] _ _ _ RL hL (by omega) g4 rfl (by simp; omega) (by simp only [Fl, rQ, tN, y1, y2, y3, y4, hw]; rfl) (by exact e2) (by exact e3) (by exact e4) (by exact e5) (by rfl) (by rfl)
 simp only [zS, zD, simprocAttr] at hE
 rw [show (σ.set p _).set b _ ++ l' = _ from P.app] at hE
 have D := b20 H (P.ext l') (r.ext l') hE (Gd.growV _ _ _ g4) (by rw [rF, l3]) gw (P3.set ⟨rfl, nn hr3⟩) z2 z3 z4 z5
 refine ⟨r1 cs, r2 (cs.set 13 (.sl 1 (r1 cs) x1.2)), r3, ?_, n1 cs, n2 _, hr3⟩
 rw [jct, z7 _ _ _ (by decide), z7 _ _ _ (by decide), z7 _ _ _ (by decide)] at D
 generalize jB s lC (ye s x4.2 x4.1 []).1 (cs.set 15 (I x3)) = z at D ⊢
 exact D.of
end Go.Idl.Sb
namespace Go.Idl.Sb
open Go Go.Idl Go.Idl.En
variable {F : jn}
theorem Zz {s : List UInt8} {o : Nat} : ∀ (L : List (K × Nat)) (w : Re) (cs : List IVal), (∀ q ∈ L, q.2 ≠ o) -> (jB s L w cs).2[o]? = cs[o]?
 | [], w, cs, h => rfl
 | (k, i) :: L, w, cs, h => (Zz L _ _ (fun q hq => h q (rN _ hq))).trans (rD (h (k, i) rT))
theorem h20 (H : Fs F) {s : List UInt8} {p q b a2 a3 : Nat} {σ : List IObj} (P : Pl s p q b σ) (r : Rs p q b a2 a3 σ) {w : Re} {cs : List IVal} {f0 : Nat -> Option (Nat × IVal)} {wr : List (Nat × Bool)} {R : Option (IExit × St)}
   (hE : evw F Ze ⟨E 12 14 5 [] (base f0), SD s p b σ w cs, wr⟩ = R) (g : Gd s w) (hl : cs.length = 55) (hw : Fl wr) (hc : Pr cs) (c16 : cs[16]? = some (.sl 3 true []))
   (e2 : f0 2 = some (2, .ptr a2 0)) (e3 : f0 3 = some (3, .ptr a3 0)) (e4 : f0 4 = some (4, .ptr q 0)) (e5 : f0 5 = some (5, .ptr b 0)) {rr : Rdl} (hr : rdl s (jB s lA w cs).1 (jB s lA w cs).2 = rr) :
   ∃ r1 r2 r3, Dn s p b a2 a3 σ (rr.w, ((rr.cs.set 13 (.sl 1 r1 rr.y1)).set 14 (.sl 1 r2 rr.y2)).set 16 (.sl 3 r3 rr.y3)) R /\ (!rr.y1.isEmpty && r1) = false /\ (!rr.y2.isEmpty && r2) = false /\ (!rr.y3.isEmpty && r3) = false := by
 have eA : lA = (plL [0, 1, 2, 3] ++ [(.wd, 4)]) ++ (List.range' 0 8).map fun i => (.wd, 5 + i) := rfl
 have n16 : ∀ q ∈ lA, q.2 ≠ 16 := by decide
 have c16' := (Zz (s := s) lA w cs n16).trans c16
 have PA := hc.run (s := s) lA w
 have lA' := (qy (s := s) lA w cs).trans hl
 have gA := g.run lA w cs
 obtain ⟨w1, x1, wr1, E1, g1, u1, y1⟩ := H.pl P g
 obtain ⟨w2, x2, wr2, E2, g2, u2, y2⟩ := H.pl P g1
 obtain ⟨w3, x3, wr3, E3, g3, u3, y3⟩ := H.pl P g2
 obtain ⟨w4, x4, wr4, E4, g4, u4, y4⟩ := H.pl P g3
 obtain ⟨w5, x5, wr5, E5, g5, u5, y5⟩ := H.wd P g4
 have er : jB s (plL [0, 1, 2, 3] ++ [(.wd, 4)]) w cs = (w5, ((((cs.set 0 (I x1)).set 1 (I x2)).set 2 (I x3)).set 3 (I x4)).set 4 (J x5)) := by
   simp only [plL, rU, List.map_nil, tP, tQ, jB, E1, E2, E3, E4, E5]
 rw [eA, z6, er] at c16' PA lA' gA hr
 have yq := fun w cs => P.gq (w := w) (cs := cs)
 have yb := fun w cs => P.gb (w := w) (cs := cs)
 have ys := fun w cs c => Pl.sb (s := s) (p := p) (b := b) (σ := σ) (w := w) (cs := cs) (c := c)
 have yl := fun w cs => Pl.len (s := s) (p := p) (b := b) (σ := σ) (w := w) (cs := cs)
 have hb := P.hb
 simp only [Ze, jd, e2, e3, e4, e5, u1, u2, u3, u4, u5, hl, yq, yb, ys, yl, hb, rF, zV, zS, zD, simprocAttr] at hE
 generalize hL : evw F (ICode.loop Kr) _ = RL at hE
 simp only [Fl] at y1 y2 y3 y4 y5 hw
 obtain ⟨f1, wr', rfl, z2, z3, z4, z5, gw⟩ := jgr H.h44 H.h64 H.h76 H.h65 H.h66 H.h67 H.h40 P.hp P.hb P.hq P.hne P.hbp P.hbq P.hs 8 0 _ w5 _ _ _ _ RL hL (by omega) g5 (by simpa using hl) (by simp only [Fl, rQ, tN, y1, y2, y3, y4, y5, hw]; rfl) (by exact e2) (by exact e3) (by exact e4) (by exact e5) (by rfl)
 simp only [zS, zD, simprocAttr] at hE
 have A := a20 H P r hE gA lA' gw PA c16' z2 z3 z4 z5
 simp only [] at hr
 rw [hr] at A
 exact A
theorem jgY {s : List UInt8} {w : Re} {cs : List IVal} : (rdl s w cs).cs.length = cs.length := by
 unfold rdl
 simp only []
 rw [qy, qy]
theorem jiZ {s : List UInt8} {w : Re} {cs : List IVal} (h : Pr cs) : Pr (rdl s w cs).cs := by
 unfold rdl
 simp only []
 exact (h.run _ _).run _ _
theorem Z55_pr : Pr Z55 := by unfold Pr; decide
theorem jbY {e : Nat} {b : Bool} {l : List IVal} (h : (!l.isEmpty && b) = false) : nr1 (.sl e b l) = true := by
 show (!b || l.isEmpty) = true
 cases b <;> cases hl : l.isEmpty <;> simp_all
theorem jc2 (h : F 20 = some jig) (H : Fs F) {s : List UInt8} {σ : List IObj} (hs : s.length < 1000000) {rr : Rdl} (hr : rdl s (jB s lA ⟨0, none⟩ Z55).1 (jB s lA ⟨0, none⟩ Z55).2 = rr) :
   ∃ r1 r2 r3 wr, cfw F (.f 20) [.str s] σ = some ⟨false, .tup [.agg (if (rr.w.fin s).isSome then Z55 else ((rr.cs.set 13 (.sl 1 r1 rr.y1)).set 14 (.sl 1 r2 rr.y2)).set 16 (.sl 3 r3 rr.y3)), .agg [I (erc (rr.w.fin s)), I (era (rr.w.fin s))]], σ, wr⟩ /\ Fl wr /\
     (!rr.y1.isEmpty && r1) = false /\ (!rr.y2.isEmpty && r2) = false /\ (!rr.y3.isEmpty && r3) = false := by
 rw [jj jig h, callI]
 have f1 : qw [.str [], .int .i64 0, .int .i64 0, .int .i64 0] [(0, 1, .str s)] = some [.str s, I 0, I 0, I 0] := rfl
 have f2 : qw [.prim (.pointer none)] [(0, 1, .ptr (σ.length + 2) 0)] = some [.ptr (σ.length + 2) 0] := rfl
 simp only [jig, jd, f1, f2, tJ, tU, zV, zS, zD, simprocAttr]
 generalize hE : evw F Ze _ = R
 obtain ⟨τ, ht⟩ : ∃ τ, τ = σ ++ [IObj.cells Z55, .cells [I 0, I 0], .cells [.str s, I 0, I 0, I 0], .cells [.ptr (σ.length + 2) 0], .cells Z55] := ⟨_, rfl⟩
 have t0 : τ[σ.length]? = some (.cells Z55) := by rw [ht, get_app0]; rfl
 have t1 : τ[σ.length + 1]? = some (.cells [I 0, I 0]) := by rw [ht, get_app]; rfl
 have t2 : τ[σ.length + 2]? = some (Re.rf s ⟨0, none⟩) := by rw [ht, get_app]; rfl
 have t3 : τ[σ.length + 3]? = some (.cells [.ptr (σ.length + 2) 0]) := by rw [ht, get_app]; rfl
 have t4 : τ[σ.length + 4]? = some (.cells Z55) := by rw [ht, get_app]; rfl
 have P : Pl s (σ.length + 2) (σ.length + 3) (σ.length + 4) τ := ⟨ja t2, ja t4, t3, by omega, by omega, by omega, hs⟩
 have r : Rs (σ.length + 2) (σ.length + 3) (σ.length + 4) σ.length (σ.length + 1) τ := ⟨t0, t1, by omega, by omega, by omega, by omega, by omega⟩
 have st : τ = SD s (σ.length + 2) (σ.length + 4) τ ⟨0, none⟩ Z55 := by rw [SD, jx t2, jx t4]
 have hk0 : ∀ k < σ.length, τ[k]? = σ[k]? := fun k hk => by rw [ht, List.getElem?_append_left hk]
 rw [show σ ++ _ = τ from ht.symm, st] at hE
 clear ht
 obtain ⟨r1, r2, r3, D, m1, m2, m3⟩ := h20 H P r hE ⟨Nat.zero_le _, fun h => by cases h⟩ rfl rfl Z55_pr rfl (by rfl) (by rfl) (by rfl) (by rfl) hr
 obtain ⟨f1, wr', σ', rfl, z2, z3, gw, hk, x2, x3⟩ := D
 simp only [] at x2 x3
 have lr : rr.cs.length = 55 := by rw [<- hr, jgY, qy]; rfl
 have pr : Pr rr.cs := by rw [<- hr]; exact jiZ (Z55_pr.run _ _)
 have hC : (if (rr.w.fin s).isSome = true then Z55 else ((rr.cs.set 13 (.sl 1 r1 rr.y1)).set 14 (.sl 1 r2 rr.y2)).set 16 (.sl 3 r3 rr.y3)).length = 55 /\ Pr (if (rr.w.fin s).isSome = true then Z55 else ((rr.cs.set 13 (.sl 1 r1 rr.y1)).set 14 (.sl 1 r2 rr.y2)).set 16 (.sl 3 r3 rr.y3)) := by
   split
   . exact ⟨rfl, Z55_pr⟩
   . exact ⟨by rw [rF, rF, rF, lr], ((pr.set ⟨rfl, jbY m1⟩).set ⟨rfl, jbY m2⟩).set ⟨rfl, jbY m3⟩⟩
 refine ⟨r1, r2, r3, ?_⟩
 generalize (if (rr.w.fin s).isSome = true then Z55 else ((rr.cs.set 13 (.sl 1 r1 rr.y1)).set 14 (.sl 1 r2 rr.y2)).set 16 (.sl 3 r3 rr.y3)) = C at *
 obtain ⟨lc, pc⟩ := hC
 have tk : C.take 55 = C := rX (by omega)
 have an : C.all nr1 = true := List.all_eq_true.2 fun v hv => (pc v hv).2
 have x3' := fun X => get_set (j := σ.length) (x := X) x3 (by omega)
 have tt : ∀ X Y, ((σ'.set σ.length X).set (σ.length + 1) Y).take σ.length = σ := fun X Y => by
   apply List.ext_getElem?
   intro k
   rw [tK]
   split
   . rename_i hlt
     rw [rD (by omega), rD (by omega), hk k (by omega) (by omega) (by omega) (by omega) (Nat.lt_trans hlt (ja t0)), hk0 k hlt]
   . rename_i hge
     rw [rY (by omega)]
 simp only [jd, z2, z3, x2, x3', lc, tk, an, tt, jr gw, List.drop_zero, tD, zV, zS, zD, simprocAttr]
 exact ⟨_, rfl, jo gw, m1, m2, m3⟩
end Go.Idl.Sb
namespace Go.Idl.Sb
open Go Go.Idl Go.Idl.En
variable {F : jn}
theorem jaQ (h : F 124 = some K9) {c a : Int} {σ : List IObj} : cfw F (.f 124) [.pv false [I c, I a] 0] σ = some ⟨false, .iface 83 (I c), σ, []⟩ := by
 rw [jj K9 h, callI]
 have n3 : nr3 (.iface 83 (I c)) = true := rfl
 simp only [K9, jd, n3, zV, zS, zD, simprocAttr]
set_option maxRecDepth 20000 in
theorem jkM (h : F 71 = some jdK) {c a : Int} {g : Nat} {x : IVal} {σ : List IObj} (hg : σ[g]? = some (.cells [.prim (.pointer none)])) (hx : nt x = true) :
   ∃ wr, cfw F (.f 71) [.iface 143 (.pv false [I c, I a] 0), x, .agg [Zb 1 145, .pv true [.ptr g 0] 0, .int .u64 150], rtI 186 1 143] σ = some ⟨false, .bool true, σ.set g (.cells [.pv false [I c, I a] 0]), wr⟩ /\ Fl wr := by
 rw [jj jdK h, callI]
 have lg := ja hg
 simp only [jdK, jd, hg, hx, Zb, rtI, zV, zS, zD, simprocAttr]
 rw [jc]
 simp only [jbw, jd, hg, hx, jcY, Vy, Zb, rtI, vh, List.find?, List.contains_cons, tD, tZ, zV, zS, zD, simprocAttr]
 have np : nr1 (.pv false [I c, I a] 0) = true := rfl
 rw [np, take_set]
 exact ⟨_, rfl, by cases decide (g < σ.length) <;> rfl⟩
set_option maxRecDepth 20000 in
theorem jkv (h : F 52 = some je7) (h71 : F 71 = some jdK) {c a : Int} {g : Nat} {σ : List IObj} (hg : σ[g]? = some (.cells [.prim (.pointer none)])) :
   ∃ wr, cfw F (.f 52) [.iface 143 (.pv false [I c, I a] 0), .iface 145 (.ptr g 0)] σ = some ⟨false, .bool true, σ.set g (.cells [.pv false [I c, I a] 0]), wr⟩ /\ Fl wr := by
 rw [jj je7 h, callI]
 obtain ⟨wr, u, gw⟩ := jkM h71 (c := c) (a := a) (x := .iface 145 (.ptr g 0)) (jm hg [.cells [Zb 1 145, .pv true [.ptr g 0] 0, .int .u64 150]]) rfl
 simp only [Zb, rtI] at u
 have b1 : ((22 : Int) != 20) = true := rfl
 have x1 : ext [.ptr g 0] = true := rfl
 have x2 : nr1 (.pv true [.ptr g 0] 0) = false := rfl
 simp only [je7, jd, hg, u, b1, x1, x2, jcY, Vy, Zb, rtI, vh, List.find?, List.contains_cons, tD, tZ, zV, zS, zD, simprocAttr]
 have fa : (wr ++ [(σ.length, true)]).all (fun p => !p.2 || decide (σ.length <= p.1)) = true := by rw [rQ, jr gw]; simp
 have tk : ∀ l, List.take σ.length (σ.set g (.cells [.pv false [I c, I a] 0]) ++ l) = σ.set g (.cells [.pv false [I c, I a] 0]) := fun l => by have := take_app (σ := σ.set g (.cells [.pv false [I c, I a] 0])) (l := l); rw [rF] at this; exact this
 rw [fa, jF (ja hg), tk]
 refine ⟨_, rfl, ?_⟩
 rw [List.filter_append, List.filter_cons_of_neg (by simp), List.filter_nil, rP]
 exact jo gw
set_option maxRecDepth 20000 in
theorem jkP (h : F 73 = some jdL) (h124 : F 124 = some K9) {c a : Int} {σ : List IObj} (hc : c ≠ 0) :
   cfw F (.f 73) [.iface 143 (.pv false [I c, I a] 0), .iface 83 (I c), .bool true] σ = some ⟨false, .bool true, σ, []⟩ := by
 rw [jj jdL h, callI]
 have u := jaQ h124 (c := c) (a := a) (σ := σ)
 simp only [jdL, jd, zV, zS, zD, simprocAttr]
 rw [jc]
 have np : nt (.iface 83 (I c)) = true := rfl
 simp only [jbx, jd, u, np, JR, jhu, List.contains_nil, jcY, Vy, Zb, rtI, vh, List.find?, List.contains_cons, tD, tZ, zV, zS, zD, simprocAttr]
 rw [jc]
 have eI : ∀ n : Int, j9 (.int .i64 n) (.int .i64 n) = some true := fun n => by simp [j9]
 have kI : ∀ n : Int, J2 0 (.int .i64 n) = true := fun n => rfl
 have tf : (true != false) = true := rfl
 simp only [jd, u, np, eI, kI, tf, jcY, List.find?, zV, zS, zD, simprocAttr]
set_option maxRecDepth 20000 in
theorem jkE (h : F 53 = some je8) (h73 : F 73 = some jdL) (h124 : F 124 = some K9) {c a : Int} {σ : List IObj} (hc : c ≠ 0) :
   cfw F (.f 53) [.iface 143 (.pv false [I c, I a] 0), .iface 83 (I c)] σ = some ⟨false, .bool true, σ, []⟩ := by
 rw [jj je8 h, callI]
 have u := jkP h73 h124 (c := c) (a := a) (σ := σ) hc
 simp only [je8, jd, u, jcY, Vy, Zb, rtI, vh, List.find?, List.contains_cons, tD, tZ, zV, zS, zD, simprocAttr]
set_option maxRecDepth 20000 in
theorem jja (h : F 21 = some je2) (h52 : F 52 = some je7) (h53 : F 53 = some je8) (h71 : F 71 = some jdK) (h73 : F 73 = some jdL) (h124 : F 124 = some K9) {e : Option (Nat × Nat)} (he : ∀ c a, e = some (c, a) -> c ≠ 0) {σ : List IObj} :
   ∃ wr, cfw F (.f 21) [erI e, .agg [I (erc e), I (era e)]] σ = some ⟨false, .bool true, σ, wr⟩ /\ Fl wr := by
 rw [jj je2 h, callI]
 cases e with
 | none =>
   have b0 : ((0 : Int) == 0) = true := rfl
   have i0 : erI none = .prim .nilIface := rfl
   have c0' : ((erc none : Nat) : Int) = 0 := rfl
   have a0' : ((era none : Nat) : Int) = 0 := rfl
   rw [i0, c0', a0']
   simp only [je2, jd, b0, tZ, tD, zV, zS, zD, simprocAttr]
   exact ⟨_, rfl, rfl⟩
 | some e =>
   obtain ⟨c, a⟩ := e
   have hc := he c a rfl
   have hc' : (c : Int) ≠ 0 := by omega
   have b0 : ((c : Int) == 0) = false := by simpa using hc'
   have i0 : erI (some (c, a)) = .iface 143 (.pv false [I c, I a] 0) := rfl
   have c0' : ((erc (some (c, a)) : Nat) : Int) = c := rfl
   have a0' : ((era (some (c, a)) : Nat) : Int) = a := rfl
   rw [i0, c0', a0']
   have ga : (σ ++ [IObj.cells [.prim (.pointer none)]])[σ.length]? = some (.cells [.prim (.pointer none)]) := by rw [get_app0]; rfl
   obtain ⟨wr, u, gw⟩ := jkv h52 h71 (c := c) (a := a) ga
   have sa : (σ ++ [IObj.cells [.prim (.pointer none)]]).set σ.length (.cells [.pv false [I c, I a] 0]) = σ ++ [.cells [.pv false [I c, I a] 0]] := by rw [set_app0]; rfl
   rw [sa] at u
   have u2 := fun τ => jkE h53 h73 h124 (c := c) (a := a) (σ := τ) hc'
   have eI : ∀ n : Int, j9 (.int .i64 n) (.int .i64 n) = some true := fun n => by simp [j9]
   have kI : ∀ n : Int, J2 0 (.int .i64 n) = true := fun n => rfl
   have tf : (true != false) = true := rfl
   simp only [je2, jd, b0, u, u2, eI, kI, tf, eqK, tZ, tD, zV, zS, zD, simprocAttr]
   rw [jr gw]
   exact ⟨_, rfl, jo gw⟩
end Go.Idl.Sb
namespace Go.Idl.Sb
open Go Go.Idl Go.Idl.En
variable {F : jn}
theorem LW.un {σ : List IObj} {v : IVal} {zs : List Int} (h : LW σ v zs) : LW σ (un1 v) zs /\ Cl v (un1 v) /\ Cl (un1 v) (un1 v) := by
 rcases h with ⟨o, r, rfl⟩ | ⟨id, rfl, hid⟩
 . exact ⟨.inl ⟨0, r, rfl⟩, ⟨rfl, rfl, rfl, rfl, rfl, rfl, rfl, rfl⟩, ⟨rfl, rfl, rfl, rfl, rfl, rfl, rfl, rfl⟩⟩
 . exact ⟨.inr ⟨id, rfl, hid⟩, ⟨rfl, rfl, rfl, rfl, rfl, rfl, rfl, rfl⟩, ⟨rfl, rfl, rfl, rfl, rfl, rfl, rfl, rfl⟩⟩
theorem LR.un {σ : List IObj} {v : IVal} {zs : List (Int × Int × Bool)} (h : LR σ v zs) : LR σ (un1 v) zs /\ Cl v (un1 v) /\ Cl (un1 v) (un1 v) := by
 rcases h with ⟨o, r, rfl⟩ | ⟨id, rfl, hid⟩
 . exact ⟨.inl ⟨0, r, rfl⟩, ⟨rfl, rfl, rfl, rfl, rfl, rfl, rfl, rfl⟩, ⟨rfl, rfl, rfl, rfl, rfl, rfl, rfl, rfl⟩⟩
 . exact ⟨.inr ⟨id, rfl, hid⟩, ⟨rfl, rfl, rfl, rfl, rfl, rfl, rfl, rfl⟩, ⟨rfl, rfl, rfl, rfl, rfl, rfl, rfl, rfl⟩⟩
theorem LW.old {σ : List IObj} {v : IVal} {zs : List Int} (h : LW σ v zs) (l : List IObj) : LW (σ ++ l) v zs := h.imp id fun ⟨id, e, hid⟩ => ⟨id, e, jm hid l⟩
theorem LR.old {σ : List IObj} {v : IVal} {zs : List (Int × Int × Bool)} (h : LR σ v zs) (l : List IObj) : LR (σ ++ l) v zs := h.imp id fun ⟨id, e, hid⟩ => ⟨id, e, jm hid l⟩
theorem jbl {n : Nat} {wr : List (Nat × Bool)} (h : wr.all (fun p => !p.2 || decide (n <= p.1)) = true) : Fl (wr.filter fun p => decide (p.1 < n)) := by
 rw [rG] at h
 rw [Fl, rG]
 intro q hq
 obtain ⟨h1, h2⟩ := List.mem_filter.mp hq
 have h3 := h q h1; simp at h2 h3 ⊢; rcases h3 with h | h
 . exact h
 . omega
set_option maxHeartbeats 8000000 in
theorem jfi (h : F 9 = some ir9) (h8 : F 8 = some ir8) (h21 : F 21 = some je2) (h22 : F 22 = some jhr) (h52 : F 52 = some je7) (h53 : F 53 = some je8) (h54 : F 54 = some jf9) (h55 : F 55 = some jga) (h71 : F 71 = some jdK) (h73 : F 73 = some jdL) (h124 : F 124 = some K9)
   {s : List UInt8} {σ l : List IObj} {N : Nat -> Int} {b : Bool} {v1 v2 v3 : IVal} {z1 z2 : List Int} {z3 : List (Int × Int × Bool)} {e : Option (Nat × Nat)} {wr1 : List (Nat × Bool)} (he : ∀ c a, e = some (c, a) -> c ≠ 0)
   (d19 : cfw F (.f 19) [.str s] σ = some ⟨false, .tup [.agg (csM N b v1 v2 v3), erI e], σ ++ l, wr1⟩) (f1 : Fl wr1)
   (d20 : ∀ τ, ∃ r1 r2 r3 wr, cfw F (.f 20) [.str s] τ = some ⟨false, .tup [.agg (csM N b (.sl 1 r1 (z1.map J)) (.sl 1 r2 (z2.map J)) (.sl 3 r3 (z3.map Ra))), .agg [I (erc e), I (era e)]], τ, wr⟩ /\ Fl wr)
   (L1 : LW (σ ++ l) v1 z1) (L2 : LW (σ ++ l) v2 z2) (L3 : LR (σ ++ l) v3 z3) (n1 : z1.length < 100000) (n2 : z2.length < 100000) (n3 : z3.length < 100000) :
   ∃ wr, cfw F (.f 9) [.str s] σ = some ⟨false, .bool true, σ, wr⟩ /\ Fl wr := by
 rw [jj ir9 h, callI]
 obtain ⟨U1, C1, D1⟩ := L1.un
 obtain ⟨U2, C2, D2⟩ := L2.un
 obtain ⟨U3, C3, D3⟩ := L3.un
 obtain ⟨r1, r2, r3, wr2, u2, f2⟩ := d20 (σ ++ (l ++ [.cells (csM N b v1 v2 v3)]))
 have k1 : ∀ τ r, LW τ (.sl 1 r (z1.map J)) z1 := fun τ r => .inl ⟨_, _, rfl⟩
 have k2 : ∀ τ r, LW τ (.sl 1 r (z2.map J)) z2 := fun τ r => .inl ⟨_, _, rfl⟩
 have k3 : ∀ τ r, LR τ (.sl 3 r (z3.map Ra)) z3 := fun τ r => .inl ⟨_, _, rfl⟩
 obtain ⟨wr21, h21'⟩ := Classical.skolem.mp (fun τ => jja (σ := τ) h21 h52 h53 h71 h73 h124 he)
 have u3 := fun τ => (h21' τ).1
 have f3 := fun τ => (h21' τ).2
 obtain ⟨e8, u4⟩ := Classical.skolem.mp (fun τ => as8 (N := N) (b := b) (σ := τ) h8 D1 D2 D3)
 have u5 : ∀ τ, cfw F (.f 22) [.agg (csM N b (un1 v1) (un1 v2) (un1 v3)), .agg (csM N b (.sl 0 r1 (z1.map J)) (.sl 0 r2 (z2.map J)) (.sl 0 r3 (z3.map Ra)))] (σ ++ (l ++ τ)) = some ⟨false, .bool true, σ ++ (l ++ τ), []⟩ := fun τ => jhJ h22 h54 h55 D1 D2 D3 (k1 (σ ++ (l ++ τ)) r1).un.2.2 (k2 (σ ++ (l ++ τ)) r2).un.2.2 (k3 (σ ++ (l ++ τ)) r3).un.2.2 (by rw [<- rO]; exact U1.old τ) (by rw [<- rO]; exact U2.old τ) (by rw [<- rO]; exact U3.old τ) (k1 _ r1).un.1 (k2 _ r2).un.1 (k3 _ r3).un.1 n1 n2 n3
 have A1 := (k1 [] r1).un.2.1
 have A2 := (k2 [] r2).un.2.1
 have A3 := (k3 [] r3).un.2.1
 have lt : decide (σ.length + (l.length + 1) < σ.length + (l.length + 3)) = true := rE (by omega)
 simp only [csM] at d19 u2 u4 u5
 simp only [ir9, Z55, jd, d19, u2, u3, u4, u5, lt, C1.u, C2.u, C3.u, D1.u, D2.u, D3.u, C1.c, C2.c, C3.c, D1.c, D2.c, D3.c, C1.n, C2.n, C3.n, D1.n, D2.n, D3.n, C1.u2, C2.u2, C3.u2, C1.u3, C2.u3, C3.u3, D1.u2, D2.u2, D3.u2, D1.u3, D2.u3, D3.u3, D1.cl, D2.cl, D3.cl, tZ, tD, zV, zS, zD, simprocAttr]
 have g1 : wr1.all (fun p => !p.2 || decide (σ.length <= p.1)) = true := jr f1
 have g2 : wr2.all (fun p => !p.2 || decide (σ.length <= p.1)) = true := jr f2
 have g3 : ∀ τ, (wr21 τ).all (fun p => !p.2 || decide (σ.length <= p.1)) = true := fun τ => jr (f3 τ)
 rw [if_pos (by simp only [rQ, tN, g1, g2, g3, Nat.le_add_right, decide_true, Bool.or_true, Bool.and_true])]
 exact ⟨_, rfl, jbl (by simp only [rQ, tN, g1, g2, g3, Nat.le_add_right, decide_true, Bool.or_true, Bool.and_true])⟩
end Go.Idl.Sb
namespace Go.Idl.Sb
open Go Go.Idl Go.Idl.En
variable {F : jn}
theorem jiS {s : List UInt8} {x k : Nat} {w : (DR s x).W} (h : (DR s x).ok w k) : Re.pos w <= s.length := And.left h
theorem jiY {s : List UInt8} {x : Nat} (W : Way F (DR s x)) (hs : s.length < 1000000) {r : Rd (DR s x)} (hr : rdS (DR s x) ⟨0, none⟩ Z55 = r) : Re.pos r.w <= s.length := by
 have ok0 : ∀ (w : (DR s x).W) (j k : Nat), (DR s x).ok w j -> (DR s x).ok w k := fun w j k h => h
 have TA := kZ W lA (⟨0, none⟩ : Re) Z55 JG (jI JG sA) (fun q hq r hr => jz q hq r (sA r hr)) smA
 have o0 : (DR s x).ok (⟨0, none⟩ : Re) 1000000 := ⟨Nat.zero_le _, hs⟩
 have oA := kv W lA (⟨0, none⟩ : Re) Z55 100000 (jI JG sA) smA (ok0 _ _ _ o0)
 unfold rdS at hr
 simp only [] at hr
 generalize jk (DR s x) lA (⟨0, none⟩ : Re) Z55 = rA at *
 have o1 := J3 W (cnt (DR s x) rA.1 512) ((DR s x).number rA.1 0 512).1 [] 0 (ok0 _ 0 _ (W.ok_number (k := 0) (ok0 _ _ _ oA)))
 generalize growW (DR s x) (cnt (DR s x) rA.1 512) ((DR s x).number rA.1 0 512).1 [] = g1 at *
 have o2 := J3 W (cnt (DR s x) g1.1 8000) ((DR s x).number g1.1 0 8000).1 [] 0 (ok0 _ 0 _ (W.ok_number (k := 0) (ok0 _ _ _ o1)))
 generalize growW (DR s x) (cnt (DR s x) g1.1 8000) ((DR s x).number g1.1 0 8000).1 [] = g2 at *
 have TB := kZ W lB g2.1 rA.2 TA (jI TA sB) (fun q hq r hr => jz q hq r (sB r hr)) smB
 have oB := kv W lB g2.1 rA.2 1000 (jI TA sB) smB (ok0 _ _ _ o2)
 generalize jk (DR s x) lB g2.1 rA.2 = rB at *
 have o3 := Zq W (cnt (DR s x) rB.1 8) ((DR s x).number rB.1 0 8).1 [] 0 (ok0 _ 0 _ (W.ok_number (k := 0) (ok0 _ _ _ oB)))
 generalize growR (DR s x) (cnt (DR s x) rB.1 8) ((DR s x).number rB.1 0 8).1 [] = g3 at *
 have oC := kv W lC g3.1 rB.2 1000 (jI TB sC) smC (ok0 _ _ _ o3)
 generalize jk (DR s x) lC g3.1 rB.2 = rC at *
 subst hr
 exact jiS oC
theorem jhB {n0 n : Nat} {lv : IVal} {zs : List Int} {σ : List IObj} (h : LC 1 n0 lv n (zs.map J) σ) (hn : n = zs.length) : LW σ lv zs := by
 subst hn
 rcases h with ⟨_, h2, e', rfl⟩ | ⟨id, h1, _, h3⟩
 . have : zs = [] := by simpa using h2
   subst this
   exact .inl ⟨e', true, rfl⟩
 . exact .inr ⟨id, h1, h3⟩
theorem QX {zs : List (Int × Int × Bool)} (h : zs.flatMap Rc = []) : zs = [] := by
 cases zs with
 | nil => rfl
 | cons z zs => rw [rR] at h; cases h
theorem jjv {n0 n : Nat} {lv : IVal} {zs : List (Int × Int × Bool)} {σ : List IObj} (h : LC 3 n0 lv n (zs.flatMap Rc) σ) (hn : n = zs.length) : LR σ lv zs := by
 subst hn
 rcases h with ⟨_, h2, e', rfl⟩ | ⟨id, h1, _, h3⟩
 . have := QX h2
   subst this
   exact .inl ⟨e', true, rfl⟩
 . exact .inr ⟨id, h1, h3⟩
theorem Y9 : ∀ {a b : List (Int × Int × Bool)}, a.flatMap Rc = b.flatMap Rc -> a = b
 | [], b, h => (QX h.symm).symm
 | a :: as, [], h => by cases QX (zs := a :: as) h
 | (x, y, z) :: as, (x', y', z') :: bs, h => by
   rw [rR, rR] at h
   simp only [Rc, tP, tQ, tX, IVal.int.injEq, IVal.bool.injEq, true_and] at h
   obtain ⟨rfl, rfl, rfl, h⟩ := h
   rw [Y9 h]
theorem XV {D : WayD} : ∀ (d : Nat) (w : D.W) (ys : List IVal), ∃ zs : List Int, (growW D d w ys).2 = ys ++ zs.map J /\ d = zs.length
 | 0, w, ys => ⟨[], (rP _).symm, rfl⟩
 | d + 1, w, ys => by
   obtain ⟨n, e⟩ : ∃ n : Int, (jO D .wd w (J 0)).2 = J n := ⟨_, rfl⟩
   rw [growW, e]
   obtain ⟨zs, h1, h2⟩ := XV d (jO D .wd w (J 0)).1 (ys ++ [J n])
   exact ⟨n :: zs, by rw [h1, rO]; rfl, congrArg (· + 1) h2⟩
theorem jbn {D : WayD} : ∀ (d : Nat) (w : D.W) (ys : List IVal), ∃ zs : List (Int × Int × Bool), (growR D d w ys).2 = ys ++ zs.flatMap Rc /\ d = zs.length
 | 0, w, ys => ⟨[], (rP _).symm, rfl⟩
 | d + 1, w, ys => by
   obtain ⟨a, b, c, e⟩ : ∃ (a b : Int) (c : Bool), (jk D (kT 0) w Z3).2 = [I a, I b, .bool c] := ⟨_, _, _, rfl⟩
   rw [growR, e]
   obtain ⟨zs, h1, h2⟩ := jbn d (jk D (kT 0) w Z3).1 (ys ++ [I a, I b, .bool c])
   exact ⟨(a, b, c) :: zs, by rw [h1, rO]; rfl, congrArg (· + 1) h2⟩
theorem lists {D : WayD} {w0 : D.W} {r : Rd D} (hr : rdS D w0 Z55 = r) : ∃ (z1 z2 : List Int) (z3 : List (Int × Int × Bool)), r.n1 = z1.length /\ r.y1 = z1.map J /\ r.n2 = z2.length /\ r.y2 = z2.map J /\ r.n3 = z3.length /\ r.y3 = z3.flatMap Rc /\ z1.length <= 512 /\ z2.length <= 8000 /\ z3.length <= 8 := by
 unfold rdS at hr
 simp only [] at hr
 generalize jk D lA w0 Z55 = rA at *
 obtain ⟨z1, a1, b1⟩ := XV (D := D) (cnt D rA.1 512) (D.number rA.1 0 512).1 []
 generalize growW D (cnt D rA.1 512) (D.number rA.1 0 512).1 [] = g1 at *
 obtain ⟨z2, a2, b2⟩ := XV (D := D) (cnt D g1.1 8000) (D.number g1.1 0 8000).1 []
 generalize growW D (cnt D g1.1 8000) (D.number g1.1 0 8000).1 [] = g2 at *
 generalize jk D lB g2.1 rA.2 = rB at *
 obtain ⟨z3, a3, b3⟩ := jbn (D := D) (cnt D rB.1 8) (D.number rB.1 0 8).1 []
 generalize growR D (cnt D rB.1 8) (D.number rB.1 0 8).1 [] = g3 at *
 have c1 : cnt D rA.1 512 <= 512 := Nat.min_le_right _ _
 have c2 : cnt D g1.1 8000 <= 8000 := Nat.min_le_right _ _
 have c3 : cnt D rB.1 8 <= 8 := Nat.min_le_right _ _
 subst hr
 exact ⟨z1, z2, z3, b1, a1, b2, a2, b3, a3, by omega, by omega, by omega⟩
structure Fp (F : jn) : Prop where
 f4 : F 4 = some ir4
 f6 : F 6 = some ir6
 f11 : F 11 = some jf5
 f12 : F 12 = some jcZ
 f19 : F 19 = some jdH
 f29 : F 29 = some jbt
 f30 : F 30 = some jbu
 f31 : F 31 = some Qa
 f32 : F 32 = some Q4
 f33 : F 33 = some X5
 f34 : F 34 = some XF
 f35 : F 35 = some X6
 f36 : F 36 = some jaG
 f37 : F 37 = some jaH
 f41 : F 41 = some je3
 f42 : F 42 = some jc1
 f61 : F 61 = some K3
 f62 : F 62 = some Qx
 f63 : F 63 = some Zf
 f99 : F 99 = some jhs
 f100 : F 100 = some Z8
 f101 : F 101 = some Z9
 f102 : F 102 = some jaa
 f103 : F 103 = some QZ
 f104 : F 104 = some XW
 f105 : F 105 = some XX
 f106 : F 106 = some yU
 f107 : F 107 = some yf
 f111 : F 111 = some Jp
 f112 : F 112 = some XY
 f113 : F 113 = some VT
 f114 : F 114 = some XZ
 f115 : F 115 = some X0
 f116 : F 116 = some vK
 f117 : F 117 = some Q0
 f118 : F 118 = some Kk
 f119 : F 119 = some Kl
 f120 : F 120 = some Km
 f121 : F 121 = some VU
 f122 : F 122 = some Jq
theorem Fp.L (f : Fp F) (x : Nat) : Way F (DL x) := jkU f.f99 f.f100 f.f101 f.f102 f.f103 f.f104 f.f105 f.f106 f.f107 x
theorem Fp.R (f : Fp F) (s : List UInt8) (x : Nat) : Way F (DR s x) := jkV f.f112 f.f113 f.f114 f.f115 f.f61 f.f62 f.f63 f.f106 f.f107 f.f111 f.f116 f.f117 f.f118 f.f119 f.f120 f.f121 f.f122 s x
structure Fl9 (F : jn) : Prop where
 g8 : F 8 = some ir8
 g9 : F 9 = some ir9
 g20 : F 20 = some jig
 g21 : F 21 = some je2
 g22 : F 22 = some jhr
 g52 : F 52 = some je7
 g53 : F 53 = some je8
 g54 : F 54 = some jf9
 g55 : F 55 = some jga
 g71 : F 71 = some jdK
 g73 : F 73 = some jdL
 g124 : F 124 = some K9
theorem jgZ {s : List UInt8} {w0 : Re} {cs : List IVal} : ∃ t : List (Int × Int × Bool), (rdl s (jB s lA w0 cs).1 (jB s lA w0 cs).2).w = (rdR s w0 cs).w /\ (rdl s (jB s lA w0 cs).1 (jB s lA w0 cs).2).cs = (rdR s w0 cs).cs /\ (rdl s (jB s lA w0 cs).1 (jB s lA w0 cs).2).y1 = (rdR s w0 cs).y1 /\ (rdl s (jB s lA w0 cs).1 (jB s lA w0 cs).2).y2 = (rdR s w0 cs).y2 /\
   (rdl s (jB s lA w0 cs).1 (jB s lA w0 cs).2).y3 = t.map Ra /\ (rdR s w0 cs).y3 = t.flatMap Rc := by
 unfold rdl rdR
 simp only []
 generalize jB s lA w0 cs = rA
 generalize jS s (rA.1.rnum s 512).2 (rA.1.rnum s 512).1 [] = g1
 generalize jS s (g1.1.rnum s 8000).2 (g1.1.rnum s 8000).1 [] = g2
 generalize jB s lB g2.1 rA.2 = rB
 obtain ⟨t, h1, h2, h3⟩ := Zw s (rB.1.rnum s 8).2 (rB.1.rnum s 8).1 [] []
 rw [h1]
 exact ⟨t, rfl, rfl, trivial, trivial, h2, h3⟩
theorem Gd.growR {s : List UInt8} : ∀ (d : Nat) (w : Re) (ys : List IVal), Gd s w -> Gd s (qx s d w ys).1
 | 0, w, ys, g => g
 | d + 1, w, ys, g => by
   rw [qx]
   split
   . exact g
   . exact Gd.growR d _ _ (Gd.run _ _ _ g)
theorem jic (s : List UInt8) : Gd s (rdR s ⟨0, none⟩ Z55).w := by
 unfold rdR
 simp only []
 exact Gd.run _ _ _ (Gd.growR _ _ _ (Gd.rnum (Gd.run _ _ _ (Gd.growW _ _ _ (Gd.rnum (Gd.growW _ _ _ (Gd.rnum (Gd.run _ _ _ ⟨Nat.zero_le _, fun h => by cases h⟩))))))))
theorem yI (f : Fp F) (H : Fs F) (G : Fl9 F) {s : List UInt8} (hs : s.length < 1000000) (σ : List IObj) : ∃ wr, cfw F (.f 9) [.str s] σ = some ⟨false, .bool true, σ, wr⟩ /\ Fl wr := by
 have W := f.R s (σ.length + 1)
 have hp := jiY W hs rfl
 obtain ⟨A, A2⟩ := jg2 (s := s) W
 have hfe := ji3 (s := s) A
 have d20 := fun τ => jc2 (σ := τ) G.g20 H hs rfl
 obtain ⟨t, t1, t2, t3, t4, t5, t6⟩ := jgZ (s := s) (w0 := ⟨0, none⟩) (cs := Z55)
 rw [t1, t2, t3, t4, t5, <- hfe] at d20
 generalize hr : rdS (DR s (σ.length + 1)) ⟨0, none⟩ Z55 = r at *
 cases hfin : Re.fin s r.w with
 | some er =>
   obtain ⟨c, a⟩ := er
   obtain ⟨wr, d19, f1⟩ := jdg f.f19 f.f41 f.f42 f.f12 f.f31 f.f32 f.f33 f.f34 f.f35 f.f36 f.f37 f.f61 f.f62 f.f63 W hs hr hp hfin
   rw [hfin] at d20
   have hc : c ≠ 0 := jeY (jic s) (hfe ▸ hfin)
   have d19 : cfw F (.f 19) [.str s] σ = some ⟨false, .tup [.agg (csM (fun _ => 0) false (.sl 1 true []) (.sl 1 true []) (.sl 3 true [])), erI (some (c, a))], σ ++ [], wr⟩ := by rw [rP]; exact d19
   exact jfi G.g9 G.g8 G.g21 G.g22 G.g52 G.g53 G.g54 G.g55 G.g71 G.g73 G.g124 (fun c' a' h => by cases h; exact hc) d19 f1
     (fun τ => by
       obtain ⟨r1, r2, r3, wr2, h1, h2, _⟩ := d20 τ
       exact ⟨true, true, true, wr2, h1, h2⟩) (z1 := []) (z2 := []) (z3 := []) (.inl ⟨1, true, rfl⟩) (.inl ⟨1, true, rfl⟩) (.inl ⟨3, true, rfl⟩) (by decide) (by decide) (by decide)
 | none =>
   have he := (jdA hp hfin).1
   obtain ⟨B1, B2, B3, B4⟩ := A2 he
   obtain ⟨wr, v1, v2, v3, e, d19, f1, L1, L2, L3⟩ := jdh f.f19 f.f41 f.f42 f.f12 f.f31 f.f32 f.f33 f.f34 f.f35 f.f36 f.f37 f.f61 f.f62 f.f63 W hs hr hp hfin
   obtain ⟨z1, z2, z3, m1, y1, m2, y2, m3, y3, ok1, ok2, ok3⟩ := lists hr
   rw [hfin] at d20
   rw [<- B1, <- B2, <- B3, y1, y2] at d20
   have et : t = z3 := Y9 (by rw [<- t6, <- B4, y3])
   subst et
   have hl := jcj (D := DR s (σ.length + 1)) ⟨0, none⟩
   rw [hr] at hl
   have ec := jhZ hl (hr ▸ jgX W ⟨0, none⟩) (rJ (by omega)) (rJ (by omega)) (rJ (by omega))
   generalize N r.cs = n at ec
   generalize bv (jv r.cs 38) = bb at ec
   rw [ec] at d19 d20
   rw [y1] at L1
   rw [y2] at L2
   rw [y3] at L3
   exact jfi G.g9 G.g8 G.g21 G.g22 G.g52 G.g53 G.g54 G.g55 G.g71 G.g73 G.g124 (N := n) (b := bb) (v1 := v1) (v2 := v2) (v3 := v3) (e := none) (fun c' a' h => by cases h) d19 f1
     (fun τ => by
       obtain ⟨r1, r2, r3, wr2, h1, h2, _⟩ := d20 τ
       exact ⟨r1, r2, r3, wr2, h1, h2⟩) (jhB L1 m1) (jhB L2 m2) (jjv L3 m3) (by omega) (by omega) (by omega)
end Go.Idl.Sb
namespace Go.Idl.Sb
open Go Go.Idl
/- plover/ploverlaw28.SnapTells -/
def jih : ICode := (.seq (.ops [oE 53 7, oK 54 9 53, oE 55 54, oQ 56 1 55, ov 57 9 56 55, oL 58 55 57, oE 59 58, oQ 60 8 59, ⟨(some 61), .mem .textR [(.t 60)], some (59, true)⟩, ov 62 9 61 59, oL 63 59 62, oE 64 63, oQ 65 7 64, oN 66 1 5 64, oM 67 66 64, xh 68 67 64, oQ 69 7 64, xR 70 69 64, xJ 71 70 64, ⟨(some 72), .bin .rem (.t 68) (.t 71), some (64, true)⟩, xM 73 65 72 64, ov 74 9 73 64, oL 75 64 74, oE 76 75, oQ 77 7 76, ⟨(some 78), .bin .add (.t 77) (.c (.str [120])), some (76, true)⟩, ov 79 9 78 76, oL 80 76 79, oE 81 80, oQ 82 7 81, oN 83 1 5 81, oM 84 83 81, xh 85 84 81, oQ 86 7 81, xR 87 86 81, xJ 88 87 81, ⟨(some 89), .bin .rem (.t 85) (.t 88), some (81, true)⟩, xM 90 82 89 81, oQ 91 1 81, ⟨(some 92), .bin .add (.t 90) (.t 91), some (81, true)⟩, ov 93 9 92 81, oL 94 81 93, oE 95 94, ⟨(some 96), .call 10 [], some (95, true)⟩, oL 97 95 96, oE 6 97])
 .ret)
def jdI : ICode := (.seq (.ops [oD 38 7, ⟨(some 39), .mem .bytesR [(.m 38)], none⟩, oE 8 39])
 (.seq (.draw [(0, oD 40 8), (1, oI 41 0 5), (2, oG 42 41), (3, om 43 42), (4, oD 44 8), (5, oU 45 44), (6, ⟨(some 46), .bin .rem (.m 43) (.m 45), none⟩), (7, oW 47 1 40 46), (8, oG 48 47), (9, oI 49 2 5), (10, oG 50 49), (11, xL 51 48 50), (12, oW 52 1 40 46), (13, oJ 1 52 51)] [])
 jih))
def ir3 : IFunc := ⟨98, 9, 45, 6, (.seq (.ops [oe 3 0, oe 5 2, oS 6])
 (.seq (.ops [oE 9 1, oE 10 1, wo 11 10, uZ 12 11 200, ⟨(some 13), .sliceS (.m 9) none (some (.t 12)), none⟩, oE 1 13])
 (.seq (.ops [oh 14 55 3, oK 15 5 14, oK 16 4 15, oE 7 16])
 (.seq (.seq (.draw [(0, oh 17 55 3), (3, oh 20 55 3), (1, oK 18 6 17), (2, oK 19 4 18), (4, oK 21 6 20), (5, oK 22 8 21), (6, oK 23 7 22), (7, ut 24 19 23), (8, oE 25 24), (9, ol 26 7 25), (10, xZ 27 55 3 25), (11, w9 28 5 27), (12, w9 29 8 28), (13, w9 30 7 29), (14, ⟨(some 31), .bin .neq (.t 26) (.t 30), some (25, false)⟩), (15, uG 32 25 31), (16, oE 33 32), (17, ol 34 7 33), (18, ⟨(some 35), .lenS (.t 34), some (33, false)⟩), (19, ⟨(some 36), .bin .eql (.t 35) (.c (.int .i64 0)), some (33, false)⟩), (20, uG 37 33 36)] [(3, 1), (3, 2)])
 (.cond (.t 37) (.seq (.ops [oS 6])
 .ret) .skip))
 jdI)))), [.t 6]⟩
end Go.Idl.Sb
namespace Go.Idl.Sb
open Go Go.Idl Go.Idl.En
variable {F : jn}
theorem jeB {x : Nat} (k : K) (l : (DL x).W) (v : IVal) : (La.bs (jO (DL x) k l v).1).length <= (La.bs l).length + 8 := by
 have hn : ∀ n, (nb n).length <= 8 := KC
 unfold jO
 split
 . show (La.bs l ++ nb _).length <= _
   rw [rI]; have := hn (zz (by assumption) % 4611686018427387904); omega
 . show (La.bs l ++ nb _).length <= _
   rw [rI]; have := hn (zz (by assumption) % 4611686018427387904); omega
 . show (La.bs l ++ [_]).length <= _
   rw [rI, List.length_singleton]; omega
 . show (La.bs l ++ [_]).length <= _
   rw [rI, List.length_singleton]; omega
 . rename_i n
   show (La.bs l ++ nb _).length <= _
   rw [rI]; have := hn (n.toNat % 4611686018427387904); omega
 . rename_i n
   show (La.bs l ++ nb _).length <= _
   rw [rI]; have := hn (n.toNat % 4611686018427387904); omega
 . show (La.bs l).length <= _
   omega
theorem z8 {x : Nat} : ∀ (L : List (K × Nat)) (l : (DL x).W) (cs : List IVal), (La.bs (jk (DL x) L l cs).1).length <= (La.bs l).length + 8 * L.length
 | [], l, cs => by show (La.bs l).length <= _; omega
 | (k, o) :: L, l, cs => by
   rw [jk]
   have h1 := z8 L (jO (DL x) k l (jv cs o)).1 (cs.set o (jO (DL x) k l (jv cs o)).2)
   have h2 := jeB k l (jv cs o)
   rw [tI]; omega
theorem Q8 : ∀ (zs : List Int) (l : La), (Qd l zs).bs.length <= l.bs.length + 8 * zs.length
 | [], l => by show l.bs.length <= _; omega
 | z :: zs, l => by
   rw [Qd]
   have h1 := Q8 zs (l.whole z (-2147483648) 2147483647)
   have h2 : (l.whole z (-2147483648) 2147483647).bs.length <= l.bs.length + 8 := by
     show (l.bs ++ nb _).length <= _
     rw [rI]; have := KC (zz z % 4611686018427387904); omega
   rw [tI]; omega
theorem Zi {x : Nat} : ∀ (zs : List (Int × Int × Bool)) (l : (DL x).W), (La.bs (Ya x l zs)).length <= (La.bs l).length + 24 * zs.length
 | [], l => by show (La.bs l).length <= _; omega
 | z :: zs, l => by
   rw [Ya]
   have h1 := Zi zs (jk (DL x) (kT 0) l (Rc z)).1
   have h2 := z8 (x := x) (kT 0) l (Rc z)
   have h3 : (kT 0).length = 3 := rfl
   rw [tI]; omega
theorem Jv (l : La) (n m : Nat) : (l.number n m).bs.length <= l.bs.length + 8 /\ 0 < (l.number n m).bs.length := by
 show (l.bs ++ nb _).length <= _ /\ 0 < (l.bs ++ nb _).length
 have h1 := KC (n % 4611686018427387904)
 have h2 : 0 < (nb (n % 4611686018427387904)).length := by rw [jbU]; exact Nat.pow_pos (by decide)
 rw [rI]; omega
theorem jfR {x : Nat} {cs : List IVal} {z1 z2 : List Int} {z3 : List (Int × Int × Bool)} (h : StOK cs z1 z2 z3) : 0 < (Qs x cs z1 z2 z3).bs.length /\ (Qs x cs z1 z2 z3).bs.length < 100000 := by
 rw [XQ h]
 have a0 := z8 (x := x) lA (⟨[], false⟩ : La) cs
 generalize (jk (DL x) lA (⟨[], false⟩ : La) cs).1 = A at *
 have a1 := Jv A z1.length 512
 have a2 := Q8 z1 (La.number A z1.length 512)
 generalize Qd (La.number A z1.length 512) z1 = A1 at *
 have a3 := Jv A1 z2.length 8000
 have a4 := Q8 z2 (La.number A1 z2.length 8000)
 generalize Qd (La.number A1 z2.length 8000) z2 = A2 at *
 have a5 := z8 (x := x) lB A2 cs
 generalize (jk (DL x) lB A2 cs).1 = A3 at *
 have a6 := Jv A3 z3.length 8
 have a7 := Zi (x := x) z3 (La.number A3 z3.length 8)
 have b7 := (jbE (x := x) z3 (La.number A3 z3.length 8)).1.length_le
 generalize Ya x (La.number A3 z3.length 8) z3 = A4 at *
 have a8 := z8 (x := x) lC A4 cs
 have b8 := (Zj (x := x) lC A4 cs).1.length_le
 have e1 : lA.length = 13 := rfl
 have e2 : lB.length = 1 := rfl
 have e3 : lC.length = 38 := rfl
 have n1 := h.n1
 have n2 := h.n2
 have n3 := h.n3
 have a0 : A.bs.length <= 0 + 8 * lA.length := a0
 refine ⟨by omega, by omega⟩
theorem jeQ {zs : List Int} (h : ∀ z ∈ zs, w3i z) : Ty (wdL 0 zs.length) (zs.map J) := by
 intro q hq
 obtain ⟨i, hi, rfl⟩ := List.mem_map.1 hq
 have hi : i < zs.length := by simpa [List.mem_range'_1] using hi
 exact ⟨J zs[i], by rw [rM, rJ hi]; rfl, jj4 (h _ (List.getElem_mem hi))⟩
theorem jc5 : ∀ (zs : List (Int × Int × Bool)) (i : Nat) (hi : i < zs.length) (j : Nat), j < 3 -> (zs.flatMap Rc)[i * 3 + j]? = (Rc zs[i])[j]?
 | [], i, hi, _, _ => by cases hi
 | z :: zs, 0, _, j, hj => by rw [rR, List.getElem?_append_left (by simpa using hj), Nat.zero_mul, t7]; rfl
 | z :: zs, i + 1, hi, j, hj => by
   rw [rR, rV (by simp; omega)]
   have e : (i + 1) * 3 + j - (Rc z).length = i * 3 + j := by simp; omega
   rw [e]
   exact jc5 zs i (by simpa using hi) j hj
theorem jhM {zs : List (Int × Int × Bool)} (h : ∀ z ∈ zs, r64 z) : Ty (raL 0 zs.length) (zs.flatMap Rc) := by
 intro q hq
 obtain ⟨i, hi, hq⟩ := List.mem_flatMap.1 hq
 have hi : i < zs.length := by simpa [List.mem_range'_1] using hi
 have hz := h _ (List.getElem_mem hi)
 simp at hq
 rcases hq with rfl | rfl | rfl
 . exact ⟨_, (jc5 zs i hi 0 (by decide)).trans rfl, _, rfl, hz.1⟩
 . exact ⟨_, (jc5 zs i hi 1 (by decide)).trans rfl, _, rfl, hz.2⟩
 . exact ⟨_, (jc5 zs i hi 2 (by decide)).trans rfl, _, rfl⟩
theorem jbb {x : Nat} {cs cs' : List IVal} {z1 z2 : List Int} {z3 : List (Int × Int × Bool)} (hT : Ty lAll cs) (he : ∀ q ∈ lAll, cs'[q.2]? = cs[q.2]?) : Qs x cs' z1 z2 z3 = Qs x cs z1 z2 z3 := by
 have a : (jk (DL x) lA (⟨[], false⟩ : La) cs').1 = (jk (DL x) lA (⟨[], false⟩ : La) cs).1 := yH (x := x) lA _ cs cs' (jI hT sA) (fun q hq => he q (sA q hq))
 have b : ∀ w : La, (jk (DL x) lB w cs').1 = (jk (DL x) lB w cs).1 := fun w => yH (x := x) lB w cs cs' (jI hT sB) (fun q hq => he q (sB q hq))
 have c : ∀ w : La, (jk (DL x) lC w cs').1 = (jk (DL x) lC w cs).1 := fun w => yH (x := x) lC w cs cs' (jI hT sC) (fun q hq => he q (sC q hq))
 rw [Qs, Qs, a, b]
 exact c _
theorem jjP {cs : List IVal} (hT : Ty lAll cs) : ∀ q ∈ lAll, (cs.map un1)[q.2]? = cs[q.2]? := by
 intro q hq
 obtain ⟨v, hv, hk⟩ := hT q hq
 rw [rM, hv]; simp [jfx hk]
structure Ft (F : jn) : Prop where
 g5 : F 5 = some ir5
 g7 : F 7 = some ir7
 g13 : F 13 = some jjn
 g14 : F 14 = some jdG
 g15 : F 15 = some jhp
 g16 : F 16 = some Zc
 g17 : F 17 = some jf6
 g18 : F 18 = some jhq
 g38 : F 38 = some jc0
 g39 : F 39 = some jab
 g40 : F 40 = some yX
def txt (cs : List IVal) (z1 z2 : List Int) (z3 : List (Int × Int × Bool)) : List UInt8 := if Qi cs z3 then jhw cs z1 z2 z3 else []
theorem ZK {cs cs' : List IVal} {z1 z2 : List Int} {z3 : List (Int × Int × Bool)} (hT : Ty lAll cs) (hT' : Ty lAll cs') (he : ∀ q ∈ lAll, cs'[q.2]? = cs[q.2]?) (n1 : z1.length <= 512) (n2 : z2.length <= 8000) (n3 : z3.length < 100) (w1 : ∀ z ∈ z1, w3i z) (w2 : ∀ z ∈ z2, w3i z) (w3 : ∀ z ∈ z3, r64 z) : txt cs' z1 z2 z3 = txt cs z1 z2 z3 := by
 rw [txt, txt, <- QT (x := 0) hT n1 n2 n3 w1 w2 w3, <- QT (x := 0) hT' n1 n2 n3 w1 w2 w3, jbb hT he]
theorem ji9 (h8 : F 8 = some ir8) {cs : List IVal} (hn : cs.length = 55) (hT : Ty lAll cs) {o1 o2 o3 : Nat} {r1 r2 r3 : Bool} {z1 z2 : List Int} {z3 : List (Int × Int × Bool)}
   (c1 : cs[13]? = some (.sl o1 r1 (z1.map J))) (c2 : cs[14]? = some (.sl o2 r2 (z2.map J))) (c3 : cs[16]? = some (.sl o3 r3 (z3.map Ra))) (σ : List IObj) :
   ∃ e, cfw F (.f 8) [.agg cs] σ = some ⟨false, .agg (cs.map un1), σ ++ e, []⟩ := by
 have ec := jhZ hn hT c1 c2 c3
 generalize N cs = n at ec
 generalize bv (jv cs 38) = b at ec
 subst ec
 obtain ⟨e, h⟩ := as8 (N := n) (b := b) (σ := σ) h8 (v1 := .sl o1 r1 (z1.map J)) (v2 := .sl o2 r2 (z2.map J)) (v3 := .sl o3 r3 (z3.map Ra)) ⟨rfl, rfl, rfl, rfl, rfl, rfl, rfl, rfl⟩ ⟨rfl, rfl, rfl, rfl, rfl, rfl, rfl, rfl⟩ ⟨rfl, rfl, rfl, rfl, rfl, rfl, rfl, rfl⟩
 exact ⟨e, h⟩
theorem jkq (f : Fp F) (t : Ft F) (h8 : F 8 = some ir8) {cs : List IVal} (hn : cs.length = 55) (hc : cs.all IVal.isCell = true) (hT : Ty lAll cs) {o1 o2 o3 : Nat} {r1 r2 r3 : Bool} {z1 z2 : List Int} {z3 : List (Int × Int × Bool)}
   (c1 : cs[13]? = some (.sl o1 r1 (z1.map J))) (c2 : cs[14]? = some (.sl o2 r2 (z2.map J))) (c3 : cs[16]? = some (.sl o3 r3 (z3.map Ra))) (n1 : z1.length <= 512) (n2 : z2.length <= 8000) (n3 : z3.length < 100) (w1 : ∀ z ∈ z1, w3i z) (w2 : ∀ z ∈ z2, w3i z) (w3 : ∀ z ∈ z3, r64 z) :
   (∀ σ, ∃ wr, cfw F (.f 4) [.agg cs] σ = some ⟨false, .str (txt cs z1 z2 z3), σ, wr⟩ /\ Fl wr) /\
   (∀ σ, ∃ e, cfw F (.f 8) [.agg cs] σ = some ⟨false, .agg (cs.map un1), σ ++ e, []⟩) /\
   (∀ σ, cfw F (.f 7) [.agg (cs.map un1)] σ = some ⟨false, .str (txt cs z1 z2 z3), σ, []⟩) /\
   (∀ σ, ∃ e, cfw F (.f 8) [.agg (cs.map un1)] σ = some ⟨false, .agg (cs.map un1), σ ++ e, []⟩) := by
 refine ⟨fun σ => ?_, fun σ => ?_, fun σ => ?_, fun σ => ?_⟩
 . have T3 : Ty (raL 0 (min z3.length 8)) (z3.flatMap Rc) := fun q hq => by
     obtain ⟨i, hi, hq'⟩ := List.mem_flatMap.1 hq
     have hi : i < min z3.length 8 := by simpa [List.mem_range'_1] using hi
     exact jhM w3 q (List.mem_flatMap.2 ⟨i, List.mem_range'_1.2 ⟨by omega, by omega⟩, hq'⟩)
   obtain ⟨wr, h, g⟩ := jfS f.f4 f.f11 f.f29 f.f30 f.f12 f.f31 f.f32 f.f33 f.f34 f.f35 f.f36 f.f37 f.L hn hc c1 c2 c3 (σ := σ) (.inl ⟨_, _, rfl⟩) (.inl ⟨_, _, rfl⟩) (.inl ⟨_, _, rfl⟩) n1 n2 n3 hT (jeQ w1) (jeQ w2) T3
   have e := QT (x := σ.length + 1) hT n1 n2 n3 w1 w2 w3
   exact ⟨wr, by rw [h]; rw [txt, <- e], g⟩
 . exact ji9 h8 hn hT c1 c2 c3 σ
 . have d1 : (cs.map un1)[13]? = some (.sl 0 r1 (z1.map J)) := by rw [rM, c1]; rfl
   have d2 : (cs.map un1)[14]? = some (.sl 0 r2 (z2.map J)) := by rw [rM, c2]; rfl
   have d3 : (cs.map un1)[16]? = some (.sl 0 r3 (z3.map Ra)) := by rw [rM, c3]; rfl
   have h := jfw (σ := σ) t.g7 t.g13 t.g38 t.g14 t.g15 t.g17 t.g18 t.g39 t.g16 t.g40 (by simpa using hn) (QS hc) (yr cs) d1 d2 d3 n1 n2 n3 (ZS hT) w1 w2 w3
   rw [<- ZK hT (ZS hT) (jjP hT) n1 n2 n3 w1 w2 w3]
   exact h
 . have h := ji9 h8 (cs := cs.map un1) (by simpa using hn) (ZS hT) (o1 := 0) (o2 := 0) (o3 := 0) (by rw [rM, c1]; rfl) (by rw [rM, c2]; rfl) (by rw [rM, c3]; rfl) σ
   rw [yr] at h
   exact h
end Go.Idl.Sb
namespace Go.Idl.Sb
open Go Go.Idl Go.Idl.En
variable {F : jn}
theorem neS (s : List UInt8) : (!(s == s)) = false := by simp
theorem KX : ∀ {l : List IVal} {s : List UInt8}, j7 l = some s -> s.length = l.length
 | [], s, h => by cases h; rfl
 | .int .u8 n :: xs, s, h => by
   rw [j7] at h
   cases hx : j7 xs with
   | none => rw [hx] at h; cases h
   | some t => rw [hx] at h; cases h; rw [tI, tI, KX hx]
theorem YT {A : List UInt8} {k : Nat} {n : Int} : ∃ s, j7 ((A.map fun c => IVal.int .u8 c.toNat).set k (.int .u8 n)) = some s := by
 induction A generalizing k with
 | nil => exact ⟨[], rfl⟩
 | cons a A ih =>
   cases k with
   | zero =>
     have h : ∀ A : List UInt8, ∃ s, j7 (A.map fun c => IVal.int .u8 c.toNat) = some s := fun A => by
       induction A with
       | nil => exact ⟨[], rfl⟩
       | cons a A ih => obtain ⟨s, h⟩ := ih; exact ⟨UInt8.ofNat (a.toNat : Int).toNat :: s, by rw [rU, j7, h]⟩
     obtain ⟨s, h⟩ := h A
     exact ⟨UInt8.ofNat n.toNat :: s, by rw [rU, List.set_cons_zero, j7, h]⟩
   | succ k =>
     obtain ⟨s, h⟩ := ih (k := k)
     exact ⟨UInt8.ofNat (a.toNat : Int).toNat :: s, by rw [rU, List.set_cons_succ, j7, h]⟩
set_option maxHeartbeats 8000000 in
theorem b3 (f : Fp F) (H : Fs F) (G : Fl9 F) (h10 : ∀ σ, cfw F (.f 10) [] σ = some ⟨false, .bool true, σ, []⟩) {A raw : List UInt8} (hA : 0 < A.length) (hA2 : A.length < 200000) (hr : raw.length <= 200) {ta tc yb : Nat} (ha : ta < 65536) (hc : tc < 65536) {τ : List IObj} {f0 : Nat -> Option (Nat × IVal)} {wr : List (Nat × Bool)} {R : Option (IExit × St)}
   (hE : evw F jdI ⟨E 9 45 6 [] (base f0), τ, wr⟩ = R) (e1 : f0 1 = some (1, .str raw)) (e5 : f0 5 = some (5, .pv false [.int .u16 ta, .int .u16 tc, .int .u8 yb] 0)) (e7 : f0 7 = some (7, .str A)) :
   ∃ f1 σ' wr', R = some (.ret, ⟨E 9 45 6 [] (base f1), σ', wr'⟩) /\ f1 6 = some (6, .bool true) := by
 have hk : ta % A.length < A.length := Nat.mod_lt _ hA
 have hk1 : ta % A.length + 1 <= A.length := hk
 have v10 : A.length <= 1099511627775 := by omega
 have v11 : (A.take (tc % (A.length + 1))).length + raw.length <= 1099511627776 := by rw [tL]; omega
 have v2 : IntKind.i64.wrap (ta : Int) = (ta : Int) := jP (by omega) (by omega)
 have v2' : IntKind.i64.wrap (tc : Int) = (tc : Int) := jP (by omega) (by omega)
 have v3 : ((A.length : Int) = 0) = False := eq_false (by omega)
 have v4 : (ta : Int).tmod (A.length : Int) = ((ta % A.length : Nat) : Int) := by rw [Int.tmod_eq_emod_of_nonneg (by omega)]; rfl
 have v5 : ∀ k : Nat, (0 : Int) <= (k : Int) := fun k => by omega
 have v6 : ((ta % A.length : Nat) : Int) < (A.length : Int) := by omega
 have v7 : IntKind.i64.wrap ((A.length : Int) + 1) = ((A.length + 1 : Nat) : Int) := by rw [jP (by omega) (by omega)]; omega
 have v8 : (tc : Int).tmod ((A.length + 1 : Nat) : Int) = ((tc % (A.length + 1) : Nat) : Int) := by rw [Int.tmod_eq_emod_of_nonneg (by omega)]; rfl
 have v9 : (((A.length + 1 : Nat) : Int) = 0) = False := eq_false (by omega)
 have hc1 : tc % (A.length + 1) <= A.length := by have := Nat.mod_lt tc (show 0 < A.length + 1 by omega); omega
 have gk : A[ta % A.length]? = some A[ta % A.length] := rJ hk
 have gm : (A.map fun c => IVal.int .u8 c.toNat)[ta % A.length]? = some (.int .u8 A[ta % A.length].toNat) := by rw [rM, gk]; rfl
 obtain ⟨s3, hs3⟩ := YT (A := A) (k := ta % A.length) (n := IntKind.u8.wrap ((BitVec.ofInt IntKind.u8.bits (A[ta % A.length].toNat : Int) ^^^ BitVec.ofInt IntKind.u8.bits (yb : Int)).toNat : Nat))
 have l3 := KX hs3
 rw [rF, XD] at l3
 have tk : ∀ n, ((A.map fun c => IVal.int .u8 c.toNat).set (ta % A.length) (.int .u8 n)).take A.length = (A.map fun c => IVal.int .u8 c.toNat).set (ta % A.length) (.int .u8 n) := fun n => rX (by simp)
 obtain ⟨wA, uA⟩ := Classical.skolem.mp (fun σ => yI f H G (s := A) (by omega) σ)
 obtain ⟨wB, uB⟩ := Classical.skolem.mp (fun σ => yI f H G (s := raw) (by omega) σ)
 obtain ⟨wC, uC⟩ := Classical.skolem.mp (fun σ => yI f H G (s := s3) (by omega) σ)
 obtain ⟨wD, uD⟩ := Classical.skolem.mp (fun σ => yI f H G (s := A.take (tc % (A.length + 1))) (by rw [tL]; omega) σ)
 obtain ⟨wE, uE⟩ := Classical.skolem.mp (fun σ => yI f H G (s := A ++ [120]) (by rw [rI, List.length_singleton]; omega) σ)
 obtain ⟨wF, uF⟩ := Classical.skolem.mp (fun σ => yI f H G (s := A.take (tc % (A.length + 1)) ++ raw) (by rw [rI, tL]; omega) σ)
 have u1 := fun σ => (uA σ).1
 have u2 := fun σ => (uB σ).1
 have u3 := fun σ => (uC σ).1
 have u4 := fun σ => (uD σ).1
 have u5 := fun σ => (uE σ).1
 have u6 := fun σ => (uF σ).1
 clear uA uB uC uD uE uF
 simp only [jdI, jih, Va, jd, e1, e5, e7, v2, v2', v3, v4, v5, v6, v7, v8, v9, gm, hs3, tk, u1, u2, u3, u4, u5, u6, h10, XM, hc1, hk1, v10, v11, XD, rF, Option.toList_some, Option.toList_none, kD, nat, rL, zV, zS, zD, simprocAttr] at hE
 subst hE
 exact ⟨_, _, _, rfl, by rfl⟩
end Go.Idl.Sb
namespace Go.Idl.Sb
open Go Go.Idl Go.Idl.En
variable {F : jn}
theorem Nr.far {M : List IVal} {z1 z2 : List Int} {y3 : List (Int × Int × Bool)} (ok : StOK M z1 z2 y3) (hN : Nr M) (hz : ∀ z ∈ y3, -100 < z.1 /\ z.1 < 100 /\ -100 < z.2.1 /\ z.2.1 < 100) : 0 < (txt M z1 z2 y3).length /\ (txt M z1 z2 y3).length < 100000 := by
 have e := QT (x := 0) ok.ty ok.n1 ok.n2 (Nat.lt_of_le_of_lt ok.n3 (by decide)) ok.w1 ok.w2 ok.w3
 have hf := jdo (x := 0) ok hN hz
 have hl := jfR (x := 0) ok
 rw [hf, if_neg (by decide)] at e
 rw [txt, <- e, U8s, XD]
 exact hl
set_option maxRecDepth 100000 in
set_option maxHeartbeats 8000000 in
theorem jdO (f : Fp F) (H : Fs F) (G : Fl9 F) (t : Ft F) (h3 : F 3 = some ir3) (h10 : ∀ σ, cfw F (.f 10) [] σ = some ⟨false, .bool true, σ, []⟩) {cs : List IVal} (hn : cs.length = 55) (hc : cs.all IVal.isCell = true) (hnr : cs.all nr1 = true) (hT : Ty lAll cs) {r1 r2 r3 : Bool} {z1 z2 : List Int} {z3 : List (Int × Int × Bool)}
   (c1 : cs[13]? = some (.sl 0 r1 (z1.map J))) (c2 : cs[14]? = some (.sl 0 r2 (z2.map J))) (c3 : cs[16]? = some (.sl 0 r3 (z3.map Ra))) (q1 : r1 = true -> z1 = []) (q2 : r2 = true -> z2 = []) (q3 : r3 = true -> z3 = []) (w1 : ∀ z ∈ z1, w3i z) (w2 : ∀ z ∈ z2, w3i z) (w3 : ∀ z ∈ z3, r64 z)
   {ta tc yb : Nat} (ha : ta < 65536) (hcu : tc < 65536) {raw : List UInt8} (σ : List IObj) :
   ∃ σ' wr, cfw F (.f 3) [.agg cs, .str raw, .agg [.int .u16 ta, .int .u16 tc, .int .u8 yb]] σ = some ⟨false, .bool true, σ', wr⟩ := by
 rw [jj ir3 h3, callI]
 have lb : (cs.map un1).length = 55 := by simpa using hn
 have kb := QS hc
 have kn := jgF hnr
 have b1 : (cs.map un1)[13]? = some (.sl 0 r1 (z1.map J)) := by rw [rM, c1]; rfl
 have b2 : (cs.map un1)[14]? = some (.sl 0 r2 (z2.map J)) := by rw [rM, c2]; rfl
 have b3 : (cs.map un1)[16]? = some (.sl 0 r3 (z3.map Ra)) := by rw [rM, c3]; rfl
 have uu := yr cs
 have tb := ZS hT
 generalize hB : cs.map un1 = bs at *
 have y1 : ∀ z ∈ z1.take 40, w3i z := fun z hz => w1 z (tG hz)
 have y2 : ∀ z ∈ z2.take 40, w3i z := fun z hz => w2 z (tG hz)
 have y3 : ∀ z ∈ z3.take 9, r64 z := fun z hz => w3 z (tG hz)
 have m1 : (z1.take 40).length <= 512 := by rw [tL]; omega
 have m2 : (z2.take 40).length <= 8000 := by rw [tL]; omega
 have m3 : (z3.take 9).length < 100 := by rw [tL]; omega
 -- few
 obtain ⟨o1, s1, o2, s2, o3, s3, f6, x1, x2, x3⟩ := jh8 f.f6 lb kb kn b1 b2 b3 q1 q2 q3
 rw [uu] at f6
 obtain ⟨f4, f8, f7, f8u⟩ := jkq f t G.g8 (cs := ((bs.set 13 (.sl o1 s1 ((z1.take 40).map J))).set 14 (.sl o2 s2 ((z2.take 40).map J))).set 16 (.sl o3 s3 ((z3.take 9).map Ra))) (by simpa using lb) (jL _ _ _ (jL _ _ _ (jL _ _ _ kb rfl) rfl) rfl) (qF (qF (qF tb (by decide)) (by decide)) (by decide))
   (by rw [rD (by decide), rD (by decide), rK (by omega)]) (by rw [rD (by decide), rK (by simp; omega)]) (rK (by simp; omega)) m1 m2 m3 y1 y2 y3
 generalize ((bs.set 13 (.sl o1 s1 ((z1.take 40).map J))).set 14 (.sl o2 s2 ((z2.take 40).map J))).set 16 (.sl o3 s3 ((z3.take 9).map Ra)) = C at *
 generalize txt C (z1.take 40) (z2.take 40) (z3.take 9) = B at *
 obtain ⟨wf4, f4⟩ := Classical.skolem.mp f4
 obtain ⟨ef8, f8⟩ := Classical.skolem.mp f8
 obtain ⟨eu6, f8u⟩ := Classical.skolem.mp f8u
 have f4' := fun σ => (f4 σ).1
 -- near
 obtain ⟨M, p1, p2, p3, p4, y, M1, M2, M3, M4, M5, M6, M7, hy, hz, n5⟩ := jjH t.g5 f.f6 lb kb kn tb b1 b2 b3 q1 q2 q3
 have hz64 : ∀ z ∈ y, r64 z := fun z h => by have := hz z h; exact ⟨⟨by omega, by omega⟩, ⟨by omega, by omega⟩⟩
 have ok : StOK M (z1.take 40) (z2.take 40) y := ⟨M4, m1, m2, hy, y1, y2, hz64⟩
 have hA := Nr.far ok M5 hz
 have tl := fun r => jkq f t G.g8 (cs := M.set 16 (.sl 3 r (y.map Ra))) (by simpa using M1) (jL _ _ _ M2 rfl) (qF M4 (by decide)) (by rw [rD (by decide)]; exact M6) (by rw [rD (by decide)]; exact M7) (rK (by omega)) m1 m2 (Nat.lt_of_le_of_lt hy (by decide)) y1 y2 hz64
 have te : ∀ r, txt (M.set 16 (.sl 3 r (y.map Ra))) (z1.take 40) (z2.take 40) y = txt M (z1.take 40) (z2.take 40) y := fun r =>
   ZK M4 (qF M4 (by decide)) (fun q hq => rD (tR ((by decide : ∀ q ∈ lAll, q.2 ≠ 16) q hq))) m1 m2 (Nat.lt_of_le_of_lt hy (by decide)) y1 y2 hz64
 simp only [te] at tl
 generalize txt M (z1.take 40) (z2.take 40) y = A at *
 obtain ⟨cN, hN⟩ : ∃ cN : Bool -> List IVal, cN = fun r => M.set 16 (.sl 3 r (y.map Ra)) := ⟨_, rfl⟩
 have hN : ∀ r, M.set 16 (.sl 3 r (y.map Ra)) = cN r := fun r => by rw [hN]
 simp only [hN] at tl n5
 obtain ⟨wn5, n5⟩ := Classical.skolem.mp n5
 obtain ⟨rn5, n5⟩ := Classical.skolem.mp n5
 have n5' := fun σ => (n5 σ).1
 have n4 := fun r => (tl r).1
 obtain ⟨wn4, n4⟩ := Classical.skolem.mp (fun r => Classical.skolem.mp (n4 r))
 have n4' := fun r σ => (n4 r σ).1
 obtain ⟨en8, n8⟩ := Classical.skolem.mp (fun r => Classical.skolem.mp (tl r).2.1)
 have n7 := fun r => (tl r).2.2.1
 obtain ⟨eu8, n8u⟩ := Classical.skolem.mp (fun r => Classical.skolem.mp (tl r).2.2.2)
 have mu := fun r => yr (cN r)
 have mC := yr C
 have v1 : ((A.length : Int) == 0) = false := by rw [beq_eq_false_iff_ne]; omega
 have v5 : ∀ k : Nat, (0 : Int) <= (k : Int) := fun k => by omega
 have mq := jbP raw.length 200
 have n200 : ((200 : Nat) : Int) = 200 := rfl
 rw [n200] at mq
 have pq := Nat.min_le_left raw.length 200
 have p0 : bs.take 55 = bs := rX (by omega)
 clear f4 n4 n5 tl te ok hz hy M1 M2 M3 M4 M5 M6 M7 hN
 simp only [ir3, jd, cells_agg, hB, kb, lb, uu, p0, f6, f4', f8, f7, n5', n4', n8, n8u, n7, f8u, mu, mC, v1, v5, mq, pq, XM, neS, Option.toList_some, Option.toList_none, kD, nat, rL, hc, hn, zV, zS, zD, simprocAttr]
 generalize hE : evw F jdI _ = R
 obtain ⟨g1, σ', wr', rfl, g6⟩ := Go.Idl.Sb.b3 f H G h10 (A := A) (raw := raw.take (min raw.length 200)) hA.1 (by omega) (by rw [tL]; omega) (yb := yb) ha hcu hE (by rfl) (by rfl) (by rfl)
 simp only [g6, zV, zS, zD, simprocAttr]
 split
 . exact ⟨_, _, rfl⟩
 . exact ⟨_, _, rfl⟩
end Go.Idl.Sb
