/- SnapTells: what the ideal machine makes of its functions, part C; no conditions. -/
import Derived.Test.YtgkedaeojkbaiaaGreatDoorSbB
set_option linter.unusedSectionVars false
set_option linter.unusedVariables false
set_option linter.unusedSimpArgs false
namespace Go.Idl.Sb
open Go Go.Idl Go.Idl.En
variable {F : jn}
def tyb : K -> IVal -> Bool
 | .pl, .int .i64 n => decide (-9223372036854775808 <= n /\ n < 9223372036854775808)
 | .wd, .int .i32 n => decide (-2147483648 <= n /\ n <= 2147483647)
 | .byt, .int .u8 n => decide (0 <= n /\ n < 256)
 | .tr, .bool _ => true
 | .hf, .int .u16 n => decide (0 <= n /\ n < 65536)
 | .nm, .int .u64 n => decide (0 <= n /\ n < 18446744073709551616)
 | _, _ => false
theorem jjc {k : K} {v : IVal} (h : tyb k v = true) : k.ty v := by
 unfold tyb at h
 split at h
 . have h := of_decide_eq_true h; exact ⟨_, rfl, h⟩
 . have h := of_decide_eq_true h; exact ⟨_, rfl, h⟩
 . rename_i n; have := of_decide_eq_true h; exact ⟨n.toNat, by congr 1; omega, by omega⟩
 . exact ⟨_, rfl⟩
 . rename_i n; have := of_decide_eq_true h; exact ⟨n.toNat, by congr 1; omega, by omega⟩
 . rename_i n; have := of_decide_eq_true h; exact ⟨n.toNat, by congr 1; omega, by omega⟩
 . cases h
def tys (l : List (K × Nat)) (cs : List IVal) : Bool := l.all fun q => match cs[q.2]? with | some v => tyb q.1 v | none => false
theorem jjd {l : List (K × Nat)} {cs : List IVal} (h : tys l cs = true) : Ty l cs := by
 intro q hq
 have := List.all_eq_true.mp h q hq
 cases hc : cs[q.2]? with
 | none => rw [hc] at this; cases this
 | some v => rw [hc] at this; exact ⟨v, rfl, jjc this⟩
theorem JG : Ty lAll Z55 := jjd (by decide +kernel)
theorem Xc (h18 : F 12 = some jcZ) (h33 : F 31 = some Qa) (h34 : F 32 = some Q4) (h35 : F 33 = some X5) (h36 : F 34 = some XF) (h37 : F 35 = some X6) (h38 : F 36 = some jaG) (h39 : F 37 = some jaH) {s : List UInt8} {x a : Nat} (W : Way F (DR s x)) {σ : List IObj} (hs : s.length < 1000000) (hx : σ[x]? = some (Re.ob s ⟨0, none⟩)) (ha : σ[a]? = some (.cells Z55)) (hne : a ≠ x) :
   ∃ wr v1 v2 v3 l, cfw F (.f 12) [.iface 128 (.agg [.ptr x 0]), .ptr a 0] σ = some ⟨false, .tup [], S (DR s x) σ a (rdS (DR s x) ⟨0, none⟩ Z55).w ((((rdS (DR s x) ⟨0, none⟩ Z55).cs.set 13 v1).set 14 v2).set 16 v3) l, wr⟩ /\ Fa a wr /\ (wr.all (fun p => !p.2 || decide (σ.length <= p.1)) = true -> l = []) /\
     LX 1 σ.length 1 v1 (rdS (DR s x) ⟨0, none⟩ Z55).n1 (rdS (DR s x) ⟨0, none⟩ Z55).y1 l /\ LX 1 σ.length 1 v2 (rdS (DR s x) ⟨0, none⟩ Z55).n2 (rdS (DR s x) ⟨0, none⟩ Z55).y2 l /\ LX 3 σ.length 3 v3 (rdS (DR s x) ⟨0, none⟩ Z55).n3 (rdS (DR s x) ⟨0, none⟩ Z55).y3 l := by
 have lx := ja hx
 have la := ja ha
 have ok0 : ∀ (w : (DR s x).W) (j k : Nat), (DR s x).ok w j -> (DR s x).ok w k := fun w j k h => h
 have z13 : Z55[13]? = some (.sl 1 true []) := rfl
 have z14 : Z55[14]? = some (.sl 1 true []) := rfl
 have z16 : Z55[16]? = some (.sl 3 true []) := rfl
 have sA : ∀ q ∈ lA, q ∈ lAll := by decide
 have sB : ∀ q ∈ lB, q ∈ lAll := by decide
 have sC : ∀ q ∈ lC, q ∈ lAll := by decide
 have n13 : ∀ q ∈ lAll, q.2 ≠ 13 := by decide
 have n14 : ∀ q ∈ lAll, q.2 ≠ 14 := by decide
 have n16 : ∀ q ∈ lAll, q.2 ≠ 16 := by decide
 have hT := JG
 have o0 : (DR s x).ok (⟨0, none⟩ : Re) 1000000 := ⟨Nat.zero_le _, hs⟩
 have oA := kv W lA (⟨0, none⟩ : Re) Z55 100000 (jI hT sA) (fun q hq r hr => jz q (sA q hq) r (sA r hr)) (ok0 _ _ _ o0)
 have a13 := Vk (D := DR s x) (o := 13) lA (⟨0, none⟩ : Re) Z55 (fun q hq => n13 q (sA q hq))
 have a14 := Vk (D := DR s x) (o := 14) lA (⟨0, none⟩ : Re) Z55 (fun q hq => n14 q (sA q hq))
 have a16 := Vk (D := DR s x) (o := 16) lA (⟨0, none⟩ : Re) Z55 (fun q hq => n16 q (sA q hq))
 rw [z13] at a13; rw [z14] at a14; rw [z16] at a16
 unfold rdS
 simp only []
 generalize hrA : jk (DR s x) lA (⟨0, none⟩ : Re) Z55 = rA at *
 obtain ⟨wr1, v1, l1, h13, f1, m1, X1⟩ := jfh (D := DR s x) (k := 0) (most := 512) (l := []) h35 h34 W lx la hne a13 (by decide) (ok0 _ _ _ oA)
 have o1 := J3 W (cnt (DR s x) rA.1 512) ((DR s x).number rA.1 0 512).1 [] 0 (ok0 _ 0 _ (W.ok_number (k := 0) (ok0 _ _ _ oA)))
 generalize hn1 : cnt (DR s x) rA.1 512 = c1 at *
 generalize hg1 : growW (DR s x) c1 ((DR s x).number rA.1 0 512).1 [] = g1 at *
 obtain ⟨wr2, v2, l2, h14, f2, m2, X2⟩ := jfh (D := DR s x) (k := 0) (most := 8000) (l := [] ++ l1) (acs := rA.2.set 13 v1) (o := 14) h35 h34 W lx la hne (by rw [rD (by decide)]; exact a14) (by decide) (ok0 _ _ _ o1)
 have o2 := J3 W (cnt (DR s x) g1.1 8000) ((DR s x).number g1.1 0 8000).1 [] 0 (ok0 _ 0 _ (W.ok_number (k := 0) (ok0 _ _ _ o1)))
 generalize hn2 : cnt (DR s x) g1.1 8000 = c2 at *
 generalize hg2 : growW (DR s x) c2 ((DR s x).number g1.1 0 8000).1 [] = g2 at *
 have eB : jk (DR s x) lB g2.1 ((rA.2.set 13 v1).set 14 v2) = ((jk (DR s x) lB g2.1 rA.2).1, ((jk (DR s x) lB g2.1 rA.2).2.set 13 v1).set 14 v2) := by
   rw [zZ _ _ _ (fun q hq => n14 q (sB q hq)), zZ _ _ _ (fun q hq => n13 q (sB q hq))]
 have T4 : Ty lAll rA.2 := by rw [<- hrA]; exact kZ W _ _ _ hT (jI hT sA) (fun q hq r hr => jz q hq r (sA r hr)) (fun q hq r hr => jz q (sA q hq) r (sA r hr))
 have oB := kv W lB g2.1 rA.2 1000 (jI T4 sB) (fun q hq r hr => jz q (sB q hq) r (sB r hr)) (ok0 _ _ _ o2)
 have b16 := Vk (D := DR s x) (o := 16) lB g2.1 rA.2 (fun q hq => n16 q (sB q hq))
 rw [a16] at b16
 generalize hrB : jk (DR s x) lB g2.1 rA.2 = rB at *
 obtain ⟨wr3, v3, l3, h16, f3, m3, X3⟩ := ji0 (D := DR s x) (k := 0) (most := 8) (l := ([] ++ l1) ++ l2) (acs := (rB.2.set 13 v1).set 14 v2) (o := 16) h36 h37 h33 W lx la hne (by rw [rD (by decide), rD (by decide)]; exact b16) (by decide) (ok0 _ _ _ oB)
 have o3 := Zq W (cnt (DR s x) rB.1 8) ((DR s x).number rB.1 0 8).1 [] 0 (ok0 _ 0 _ (W.ok_number (k := 0) (ok0 _ _ _ oB)))
 generalize hn3 : cnt (DR s x) rB.1 8 = c3 at *
 generalize hg3 : growR (DR s x) c3 ((DR s x).number rB.1 0 8).1 [] = g3 at *
 have eC : jk (DR s x) lC g3.1 (((rB.2.set 13 v1).set 14 v2).set 16 v3) = ((jk (DR s x) lC g3.1 rB.2).1, (((jk (DR s x) lC g3.1 rB.2).2.set 13 v1).set 14 v2).set 16 v3) := by
   rw [zZ _ _ _ (fun q hq => n16 q (sC q hq)), zZ _ _ _ (fun q hq => n14 q (sC q hq)), zZ _ _ _ (fun q hq => n13 q (sC q hq))]
 generalize hrC : jk (DR s x) lC g3.1 rB.2 = rC at *
 obtain ⟨wr, hmem, hf, h18'⟩ := jcC (D := DR s x) (k := 10) (w := (⟨0, none⟩ : Re)) (w1 := g1.1) (w2 := g2.1) (w3 := g3.1) (cs := Z55) (v1 := v1) (v2 := v2) (v3 := v3) (l1 := [] ++ l1) (l2 := ([] ++ l1) ++ l2) (l3 := (([] ++ l1) ++ l2) ++ l3) (wr1 := wr1) (wr2 := wr2) (wr3 := wr3) (wf := rC.1) (cf := ((rC.2.set 13 v1).set 14 v2).set 16 v3) h18 h33 h34 h38 h39 W hx ha hne hT (ok0 _ _ _ o0) (by rw [hrA]; exact h13) f1 (by rw [hrA]; exact h14) f2 (ok0 _ _ _ o2) (by rw [hrA, eB]; exact h16) f3 (ok0 _ _ _ o3) (by rw [hrA, eB]; exact eC)
 have zero : ∀ (c : Nat) (wr' : List (Nat × Bool)), (0 < c -> (a, true) ∈ wr') -> (∀ q ∈ wr', q ∈ wr) -> wr.all (fun p => !p.2 || decide (σ.length <= p.1)) = true -> c = 0 := by
   intro c wr' h1 h2 h3
   rcases Nat.eq_zero_or_pos c with h | h
   . exact h
   . rw [rG] at h3
     have := h3 _ (h2 _ (h1 h)); simp at this; omega
 have nil : ∀ {e k c : Nat} {v : IVal} {ys : List IVal} {l : List IObj}, LX e σ.length k v c ys l -> c = 0 -> LX e σ.length k v c ys [] := by
   intro e k c v ys l h hc
   rcases h with h | ⟨h, _⟩
   . exact .inl h
   . omega
 by_cases hall : wr.all (fun p => !p.2 || decide (σ.length <= p.1)) = true
 . rw [if_pos hall] at h18'
   have tS : ∀ (w : (DR s x).W) (c : List IVal) (l : List IObj), (S (DR s x) σ a w c l).take σ.length = S (DR s x) σ a w c [] := fun w c l => by
     show ((((σ.set _ _).set _ _) ++ l).take σ.length) = ((σ.set _ _).set _ _) ++ []
     rw [kH, rP]
   rw [tS] at h18'
   exact ⟨_, v1, v2, v3, [], h18', qu hf, fun _ => rfl, nil X1 (zero _ _ m1 (fun q hq => hmem q (.inl hq)) hall), nil X2 (zero _ _ m2 (fun q hq => hmem q (.inr (.inl hq))) hall), nil X3 (zero _ _ m3 (fun q hq => hmem q (.inr (.inr hq))) hall)⟩
 . rw [if_neg hall] at h18'
   refine ⟨_, v1, v2, v3, _, h18', qu hf, ?_, jaM (jaM X1), jaM X2, X3⟩
   intro h
   refine absurd ?_ hall
   rw [rG] at h ⊢
   intro q hq
   by_cases hlt : q.1 < σ.length
   . exact h q (List.mem_filter.mpr ⟨hq, by simpa using hlt⟩)
   . simp; exact .inr (by omega)
end Go.Idl.Sb
namespace Go.Idl.Sb
open Go Go.Idl Go.Idl.En
abbrev U8s (bs : List Nat) : List UInt8 := bs.map UInt8.ofNat
theorem jkJ {n : Nat} (h : n < 256) : (UInt8.ofNat n).toNat = n := by rw [UInt8.toNat_ofNat']; omega
end Go.Idl.Sb
namespace Go.Idl.Sb
open Go Go.Idl Go.Idl.En
structure Rel (s : List UInt8) (l : La) (w : Re) : Prop where
 far : l.far = false
 er : w.er = none
 pos : w.pos = l.bs.length
 pre : U8s l.bs <+: s
theorem Rel.le {s : List UInt8} {l : La} {w : Re} (R : Rel s l w) : w.pos <= s.length := by
 have := R.pre.length_le
 rw [U8s, XD, <- R.pos] at this; exact this
theorem yi (a b : List Nat) : U8s (a ++ b) = U8s a ++ U8s b := List.map_append
theorem jhy {s : List UInt8} {w : Re} (h : w.er.isSome = true) : w.u s = (w, 0) := by rw [Re.u, h]; rfl
theorem qX {w : Re} {is : Bool} {a : Nat} (h : w.er.isSome = true) : w.within is a = w := by rw [Re.within, h]; rfl
theorem YQ {s : List UInt8} {x : Nat} {k : K} {w : Re} {v : IVal} (h : w.er.isSome = true) : (jO (DR s x) k w v).1 = w := by
 have hu := jhy (s := s) h
 have hw : ∀ n lo hi, (Re.whole s w n lo hi).1 = w := fun n lo hi => by rw [Re.whole, hu]; exact qX h
 have hn : ∀ n m, (Re.number s w n m).1 = w := fun n m => by rw [Re.number, hu]; exact qX h
 have hb : (w.b s).1 = w := by rw [Re.b, h]; rfl
 have ht : (w.t s).1 = w := by rw [Re.t, h]; rfl
 unfold jO
 split
 . rename_i n; exact hw n (-1152921504606846976) 1152921504606846976
 . rename_i n; exact hw n (-2147483648) 2147483647
 . exact hb
 . exact ht
 . rename_i n; exact hn n.toNat 65535
 . rename_i n; exact hn n.toNat 1152921504606846975
 . rfl
theorem jcD {s : List UInt8} {x : Nat} {k : K} {w : Re} {v : IVal} (h : (jO (DR s x) k w v).1.er = none) : w.er = none := by
 cases he : w.er with
 | none => rfl
 | some e =>
   rw [YQ (by rw [he]; rfl), he] at h; cases h
end Go.Idl.Sb
namespace Go.Idl.Sb
open Go Go.Idl Go.Idl.En
abbrev Sm (L : List (K × Nat)) : Prop := ∀ q ∈ L, ∀ r ∈ L, q.2 = r.2 -> q.1 = r.1
theorem jjw {q : K × Nat} {L : List (K × Nat)} (h : Sm (q :: L)) : Sm L := fun a ha b hb => h a (rN _ ha) b (rN _ hb)
abbrev Le (a b : La) : Prop := a.bs <+: b.bs /\ (b.far = false -> a.far = false)
theorem Le.refl (a : La) : Le a a := ⟨List.prefix_refl _, fun h => h⟩
theorem Le.trans {a b c : La} (h1 : Le a b) (h2 : Le b c) : Le a c := ⟨h1.1.trans h2.1, fun h => h1.2 (h2.2 h)⟩
theorem Zk (l : La) (n lo hi : Int) : Le l (l.whole n lo hi) := ⟨List.prefix_append _ _, fun h => (Bool.or_eq_false_iff.1 h).1⟩
theorem V2 (l : La) (n m : Nat) : Le l (l.number n m) := ⟨List.prefix_append _ _, fun h => (Bool.or_eq_false_iff.1 h).1⟩
theorem jgj {x : Nat} (k : K) (l : La) (v : IVal) : Le l (jO (DL x) k l v).1 := by
 unfold jO
 split
 . exact Zk _ _ _ _
 . exact Zk _ _ _ _
 . exact ⟨List.prefix_append _ _, fun h => h⟩
 . exact ⟨List.prefix_append _ _, fun h => h⟩
 . exact V2 _ _ _
 . exact V2 _ _ _
 . exact Le.refl _
theorem Zj {x : Nat} : ∀ (L : List (K × Nat)) (l : (DL x).W) (cs : List IVal), Le l (jk (DL x) L l cs).1
 | [], l, cs => Le.refl _
 | (k, o) :: L, l, cs => (jgj (x := x) k l (jv cs o)).trans (Zj L _ _)
theorem J7 {s : List UInt8} {x : Nat} : ∀ (L : List (K × Nat)) (w : (DR s x).W) (cs : List IVal), Re.er (jk (DR s x) L w cs).1 = none -> Re.er w = none
 | [], w, cs, h => h
 | (k, o) :: L, w, cs, h => jcD (J7 L _ _ h)
theorem Yc {x : Nat} {k : K} {l : (DL x).W} {v : IVal} (hv : k.ty v) : (jO (DL x) k l v).2 = v := by
 have e1 := qI (x := x) [(k, 0)] l [v] (fun q hq => by
   simp at hq; subst hq; exact ⟨v, rfl, hv⟩)
 rw [jk, jk] at e1
 simpa [jv] using e1
abbrev w3i (z : Int) : Prop := -2147483648 <= z /\ z <= 2147483647
def Qd : La -> List Int -> La
 | l, [] => l
 | l, z :: zs => Qd (l.whole z (-2147483648) 2147483647) zs
theorem jj4 {z : Int} (h : w3i z) : K.wd.ty (J z) := ⟨z, rfl, h.1, h.2⟩
theorem Y7 {x : Nat} : ∀ (zs pre : List Int) (l : (DL x).W), (∀ z ∈ pre ++ zs, w3i z) -> (jk (DL x) (wdL pre.length zs.length) l ((pre ++ zs).map J)).1 = Qd l zs
 | [], pre, l, _ => rfl
 | z :: zs, pre, l, h => by
   have hz : w3i z := h z (by simp)
   have ho : ((pre ++ z :: zs).map J)[pre.length]? = some (J z) := by simp
   rw [tI, Vu, jk, jp ho]
   have e1 := Yc (x := x) (l := l) (jj4 hz)
   simp only [e1, za ho]
   have e2 : pre ++ z :: zs = (pre ++ [z]) ++ zs := by simp
   have e3 : pre.length + 1 = (pre ++ [z]).length := by simp
   rw [e2, e3]
   exact Y7 zs (pre ++ [z]) _ (by rw [<- e2]; exact h)
abbrev r64 (z : Int × Int × Bool) : Prop := i64 z.1 /\ i64 z.2.1
theorem jfC {z : Int × Int × Bool} (h : r64 z) : Ty (kT 0) (Rc z) := by
 intro q hq
 simp at hq
 rcases hq with rfl | rfl | rfl
 . exact ⟨_, rfl, _, rfl, h.1⟩
 . exact ⟨_, rfl, _, rfl, h.2⟩
 . exact ⟨_, rfl, _, rfl⟩
def Ya (x : Nat) : (DL x).W -> List (Int × Int × Bool) -> (DL x).W
 | l, [] => l
 | l, z :: zs => Ya x (jk (DL x) (kT 0) l (Rc z)).1 zs
theorem jbE {x : Nat} : ∀ (zs : List (Int × Int × Bool)) (l : (DL x).W), Le l (Ya x l zs)
 | [], l => Le.refl _
 | z :: zs, l => (Zj (x := x) (kT 0) l (Rc z)).trans (jbE zs _)
theorem Y6 {x : Nat} : ∀ (zs pre : List (Int × Int × Bool)) (l : (DL x).W), (∀ z ∈ pre ++ zs, r64 z) -> (jk (DL x) (raL pre.length zs.length) l ((pre ++ zs).flatMap Rc)).1 = Ya x l zs
 | [], pre, l, _ => rfl
 | z :: zs, pre, l, h => by
   have hz : r64 z := h z (by simp)
   rw [tI, zW, kl]
   have e0 : kT (pre.length * 3) = (kT 0).map fun q => (q.1, (pre.flatMap Rc).length + q.2) := by
     rw [jbG]; rfl
   have e4 : (pre ++ z :: zs).flatMap Rc = pre.flatMap Rc ++ (Rc z ++ zs.flatMap Rc) := by simp
   have sh := QA (D := DL x) (pre.flatMap Rc) (kT 0) l (Rc z ++ zs.flatMap Rc)
   have tz : Ty (kT 0) (Rc z ++ zs.flatMap Rc) := by
     intro q hq
     obtain ⟨v, h1, h2⟩ := jfC hz q hq
     exact ⟨v, by rw [List.getElem?_append_left (by rcases Nat.lt_or_ge q.2 (Rc z).length with h | h; exact h; rw [rY h] at h1; cases h1)]; exact h1, h2⟩
   have e5 := qI (x := x) (kT 0) l (Rc z ++ zs.flatMap Rc) tz
   have e6 : (jk (DL x) (kT 0) l (Rc z ++ zs.flatMap Rc)).1 = (jk (DL x) (kT 0) l (Rc z)).1 := rfl
   rw [e4, e0, sh, e5, <- e4, e6]
   have e2 : pre ++ z :: zs = (pre ++ [z]) ++ zs := by simp
   have e3 : pre.length + 1 = (pre ++ [z]).length := by simp
   rw [e2, e3]
   exact Y6 zs (pre ++ [z]) _ (by rw [<- e2]; exact h)
end Go.Idl.Sb
namespace Go.Idl.Sb
open Go Go.Idl Go.Idl.En
variable {F : jn}
theorem jgX {s : List UInt8} {x : Nat} (W : Way F (DR s x)) (w0 : Re) : Ty lAll (rdS (DR s x) w0 Z55).cs := by
 have sA : ∀ q ∈ lA, q ∈ lAll := by decide
 have sB : ∀ q ∈ lB, q ∈ lAll := by decide
 have sC : ∀ q ∈ lC, q ∈ lAll := by decide
 have hT := JG
 have T1 := kZ W lA w0 Z55 hT (jI hT sA) (fun q hq r hr => jz q hq r (sA r hr)) (fun q hq r hr => jz q (sA q hq) r (sA r hr))
 unfold rdS
 simp only []
 generalize jk (DR s x) lA w0 Z55 = rA at *
 generalize growW (DR s x) (cnt (DR s x) (growW (DR s x) (cnt (DR s x) rA.1 512) ((DR s x).number rA.1 0 512).1 []).1 8000) _ [] = g2
 have T2 := kZ W lB g2.1 rA.2 T1 (jI T1 sB) (fun q hq r hr => jz q hq r (sB r hr)) (fun q hq r hr => jz q (sB q hq) r (sB r hr))
 generalize jk (DR s x) lB g2.1 rA.2 = rB at *
 generalize growR (DR s x) _ _ [] = g3
 exact kZ W lC g3.1 rB.2 T2 (jI T2 sC) (fun q hq r hr => jz q hq r (sC r hr)) (fun q hq r hr => jz q (sC q hq) r (sC r hr))
theorem jcj {D : WayD} (w0 : D.W) : (rdS D w0 Z55).cs.length = 55 := by
 unfold rdS
 simp only [Zy]
 rfl
theorem jhA {k : K} {v : IVal} (h : k.ty v) : v.isCell = true := by
 cases k with
 | pl => obtain ⟨n, rfl, _⟩ := h; rfl
 | wd => obtain ⟨n, rfl, _⟩ := h; rfl
 | byt => obtain ⟨n, rfl, _⟩ := h; rfl
 | tr => obtain ⟨b, rfl⟩ := h; rfl
 | hf => obtain ⟨n, rfl, _⟩ := h; rfl
 | nm => obtain ⟨n, rfl, _⟩ := h; rfl
theorem jaT : ∀ i < 55, i = 13 \/ i = 14 \/ i = 16 \/ i ∈ lAll.map (·.2) := by decide
theorem ZE {cs : List IVal} {v1 v2 v3 : IVal} (hl : cs.length = 55) (hT : Ty lAll cs) (h1 : v1.isCell = true) (h2 : v2.isCell = true) (h3 : v3.isCell = true) : (((cs.set 13 v1).set 14 v2).set 16 v3).all IVal.isCell = true := by
 rw [rG]
 intro v hv
 obtain ⟨i, hi, rfl⟩ := List.mem_iff_getElem.1 hv
 simp only [rF, hl] at hi
 have e := rJ (l := ((cs.set 13 v1).set 14 v2).set 16 v3) (i := i) (by simpa [hl] using hi)
 rcases jaT i hi with rfl | rfl | rfl | hm
 . rw [rD (by decide), rD (by decide), rK (by omega)] at e
   rw [<- tB e]; exact h1
 . rw [rD (by decide), rK (by simp; omega)] at e
   rw [<- tB e]; exact h2
 . rw [rK (by simp; omega)] at e
   rw [<- tB e]; exact h3
 . obtain ⟨q, hq, rfl⟩ := List.mem_map.1 hm
   obtain ⟨v, hv, hk⟩ := hT q hq
   have n13 : q.2 ≠ 13 := (by decide : ∀ q ∈ lAll, q.2 ≠ 13) q hq
   have n14 : q.2 ≠ 14 := (by decide : ∀ q ∈ lAll, q.2 ≠ 14) q hq
   have n16 : q.2 ≠ 16 := (by decide : ∀ q ∈ lAll, q.2 ≠ 16) q hq
   rw [rD (tR n16), rD (tR n14), rD (tR n13), hv] at e
   rw [<- tB e]; exact jhA hk
theorem jhH {s : List UInt8} {σ l : List IObj} {a b c : IObj} {w : (DR s (σ.length + 1)).W} {cs : List IVal} : S (DR s (σ.length + 1)) (σ ++ [a, b, c]) (σ.length + 2) w cs l = σ ++ a :: Re.ob s w :: .cells cs :: l := by
 show ((σ ++ [a, b, c]).set (σ.length + 1) (Re.ob s w)).set (σ.length + 2) (.cells cs) ++ l = _
 rw [set_app 1, set_app 2, rO]; rfl
theorem Jk {esz b k n : Nat} {lv : IVal} {ys : List IVal} {l : List IObj} (h : LX esz b k lv n ys l) : lv.isCell = true := by
 rcases h with ⟨_, _, e', rfl⟩ | ⟨_, j, rfl, _⟩ <;> rfl
theorem jfA {esz k n : Nat} {lv : IVal} {ys : List IVal} {σ l : List IObj} {a b c : IObj} (h : LX esz (σ.length + 3) k lv n ys l) : LC esz σ.length lv n ys (σ ++ a :: b :: c :: l) := by
 rcases h with ⟨h1, h2, e', rfl⟩ | ⟨_, j, rfl, h3, _⟩
 . exact .inl ⟨h1, h2, e', rfl⟩
 . refine .inr ⟨σ.length + 3 + j, rfl, by omega, ?_⟩
   have e : σ.length + 3 + j = σ.length + (j + 3) := by omega
   rw [e, get_app]
   simpa using h3
theorem jfB {esz b k n : Nat} {lv : IVal} {ys : List IVal} {l : List IObj} {m : Nat} {σ : List IObj} (h : LX esz b k lv n ys l) (hn : nr1 lv = true) : LC esz m lv n ys σ := by
 rcases h with ⟨h1, h2, e', rfl⟩ | ⟨_, j, rfl, _⟩
 . exact .inl ⟨h1, h2, e', rfl⟩
 . cases hn
theorem jdg (h7 : F 19 = some jdH) (h19 : F 41 = some je3) (h20 : F 42 = some jc1) (h18 : F 12 = some jcZ) (h33 : F 31 = some Qa) (h34 : F 32 = some Q4) (h35 : F 33 = some X5) (h36 : F 34 = some XF) (h37 : F 35 = some X6) (h38 : F 36 = some jaG) (h39 : F 37 = some jaH) (h40 : F 61 = some K3) (h41 : F 62 = some Qx) (h42 : F 63 = some Zf)
   {s : List UInt8} {σ : List IObj} (W : Way F (DR s (σ.length + 1))) (hs : s.length < 1000000) {r : Rd (DR s (σ.length + 1))} (hr : rdS (DR s (σ.length + 1)) ⟨0, none⟩ Z55 = r) (hpos : Re.pos r.w <= s.length) {c a : Nat} (hfin : Re.fin s r.w = some (c, a)) :
   ∃ wr, cfw F (.f 19) [.str s] σ = some ⟨false, .tup [.agg Z55, erI (some (c, a))], σ, wr⟩ /\ Fl wr := by
 rw [jj jdH h7, callI]
 have n0 := jiN h19 s (σ ++ [.cells Z55])
 rw [rO, rI] at n0
 have n0 : cfw F (.f 41) [.str s] (σ ++ [.cells Z55]) = some ⟨false, .ptr (σ.length + 1) 0, σ ++ [.cells Z55, Re.ob s ⟨0, none⟩], []⟩ := n0
 have hx : (σ ++ [.cells Z55, Re.ob s ⟨0, none⟩, .cells Z55])[σ.length + 1]? = some (Re.ob s ⟨0, none⟩) := by rw [get_app]; rfl
 have ha : (σ ++ [.cells Z55, Re.ob s ⟨0, none⟩, .cells Z55])[σ.length + 2]? = some (.cells Z55) := by rw [get_app]; rfl
 obtain ⟨wr, v1, v2, v3, l, st, hf, _, X1, X2, X3⟩ := Xc h18 h33 h34 h35 h36 h37 h38 h39 W hs hx ha (by omega)
 have hl := jcj (D := DR s (σ.length + 1)) ⟨0, none⟩
 have hT := jgX W ⟨0, none⟩
 rw [hr] at st X1 X2 X3 hl hT
 rw [jhH] at st
 have ll : (σ ++ [IObj.cells Z55, Re.ob s ⟨0, none⟩, .cells Z55]).length = σ.length + 3 := by simp
 rw [ll] at X1 X2 X3
 obtain ⟨wA, cA, n1, w1, y1, n2, w2, y2, wB, cB, n3, w3, y3, w, cs⟩ := r
 simp only [] at st X1 X2 X3 hl hT hpos ⊢
 have c1 := Jk X1
 have c2 := Jk X2
 have c3 := Jk X3
 have r2 := ZE hl hT c1 c2 c3
 have r1 : (((cs.set 13 v1).set 14 v2).set 16 v3).length = 55 := by simpa using hl
 have g16 : (((cs.set 13 v1).set 14 v2).set 16 v3)[16]? = some v3 := by rw [rK (by simp; omega)]
 have g14 : (((cs.set 13 v1).set 14 v2).set 16 v3)[14]? = some v2 := by rw [rD (by decide), rK (by simp; omega)]
 have g13 : (((cs.set 13 v1).set 14 v2).set 16 v3)[13]? = some v1 := by rw [rD (by decide), rD (by decide), rK (by omega)]
 generalize hb3 : ((cs.set 13 v1).set 14 v2).set 16 v3 = b3 at *
 have r3 : b3.take 55 = b3 := rX (by omega)
 have r4 : putCells Z55 0 b3 = b3 := Yp (by rw [r1]; rfl)
 have r6 : putCells Z55 0 Z55 = Z55 := Yp rfl
 have r7 : Z55.take 55 = Z55 := rfl
 have r8 : Z55.all IVal.isCell = true := rfl
 have r9 : Z55.all nr1 = true := rfl
 have f0 : qw Z55 [] = some Z55 := rfl
 have fp : qw [IVal.prim (.pointer none)] [(0, 1, .ptr (σ.length + 1) 0)] = some [.ptr (σ.length + 1) 0] := rfl
 have e0 := jh4 h20 h40 h41 h42 (s := s) (x := σ.length + 1) (w := w) (σ := σ ++ IObj.cells Z55 :: w.ob s :: .cells b3 :: l) (by rw [get_app]; rfl) hs hpos
 have t0 : (σ ++ IObj.cells Z55 :: Re.ob s w :: IObj.cells b3 :: l).take σ.length = σ := take_app
 rw [hfin] at e0
 have i2 : isNil 1 (erI (some (c, a))) = some false := rfl
 have u3 : un3 (erI (some (c, a))) = erI (some (c, a)) := rfl
 have u4 : nt (erI (some (c, a))) = true := rfl
 have u5 : nr3 (erI (some (c, a))) = true := rfl
 have z1 : Z55.length = 55 := rfl
 simp only [jdH, jd, n0, st, e0, i2, u3, u4, u5, z1, f0, fp, r6, r7, r8, r9, tJ, tU, List.zip_nil_left, zV, zS, zD, simprocAttr]
 have fw : ((wr.all fun p => !p.2 || decide (σ.length <= p.1)) = true) := by
   rw [Fa, rG] at hf
   rw [rG]
   intro q hq; have := hf q hq; simp at this ⊢; rcases this with h | h
   . exact .inl h
   . exact .inr (by omega)
 have ff : Fl (wr.filter fun p => decide (p.1 < σ.length)) := by
   rw [Fa, rG] at hf
   rw [Fl, rG]
   intro q hq
   obtain ⟨h1, h2⟩ := List.mem_filter.mp hq
   have h3 := hf q h1; simp at h2 h3 ⊢; rcases h3 with h | h
   . exact h
   . omega
 have u6 : nr2 (erI (some (c, a))) = true := rfl
 rw [u6, fw]
 exact ⟨_, rfl, ff⟩
theorem jdh (h7 : F 19 = some jdH) (h19 : F 41 = some je3) (h20 : F 42 = some jc1) (h18 : F 12 = some jcZ) (h33 : F 31 = some Qa) (h34 : F 32 = some Q4) (h35 : F 33 = some X5) (h36 : F 34 = some XF) (h37 : F 35 = some X6) (h38 : F 36 = some jaG) (h39 : F 37 = some jaH) (h40 : F 61 = some K3) (h41 : F 62 = some Qx) (h42 : F 63 = some Zf)
   {s : List UInt8} {σ : List IObj} (W : Way F (DR s (σ.length + 1))) (hs : s.length < 1000000) {r : Rd (DR s (σ.length + 1))} (hr : rdS (DR s (σ.length + 1)) ⟨0, none⟩ Z55 = r) (hpos : Re.pos r.w <= s.length) (hfin : Re.fin s r.w = none) :
   ∃ wr v1 v2 v3 e, cfw F (.f 19) [.str s] σ = some ⟨false, .tup [.agg (((r.cs.set 13 v1).set 14 v2).set 16 v3), .prim .nilIface], σ ++ e, wr⟩ /\ Fl wr /\
       LC 1 σ.length v1 r.n1 r.y1 (σ ++ e) /\ LC 1 σ.length v2 r.n2 r.y2 (σ ++ e) /\ LC 3 σ.length v3 r.n3 r.y3 (σ ++ e) := by
 rw [jj jdH h7, callI]
 have n0 := jiN h19 s (σ ++ [.cells Z55])
 rw [rO, rI] at n0
 have n0 : cfw F (.f 41) [.str s] (σ ++ [.cells Z55]) = some ⟨false, .ptr (σ.length + 1) 0, σ ++ [.cells Z55, Re.ob s ⟨0, none⟩], []⟩ := n0
 have hx : (σ ++ [.cells Z55, Re.ob s ⟨0, none⟩, .cells Z55])[σ.length + 1]? = some (Re.ob s ⟨0, none⟩) := by rw [get_app]; rfl
 have ha : (σ ++ [.cells Z55, Re.ob s ⟨0, none⟩, .cells Z55])[σ.length + 2]? = some (.cells Z55) := by rw [get_app]; rfl
 obtain ⟨wr, v1, v2, v3, l, st, hf, _, X1, X2, X3⟩ := Xc h18 h33 h34 h35 h36 h37 h38 h39 W hs hx ha (by omega)
 have hl := jcj (D := DR s (σ.length + 1)) ⟨0, none⟩
 have hT := jgX W ⟨0, none⟩
 rw [hr] at st X1 X2 X3 hl hT
 rw [jhH] at st
 have ll : (σ ++ [IObj.cells Z55, Re.ob s ⟨0, none⟩, .cells Z55]).length = σ.length + 3 := by simp
 rw [ll] at X1 X2 X3
 obtain ⟨wA, cA, n1, w1, y1, n2, w2, y2, wB, cB, n3, w3, y3, w, cs⟩ := r
 simp only [] at st X1 X2 X3 hl hT hpos ⊢
 have c1 := Jk X1
 have c2 := Jk X2
 have c3 := Jk X3
 have r2 := ZE hl hT c1 c2 c3
 have r1 : (((cs.set 13 v1).set 14 v2).set 16 v3).length = 55 := by simpa using hl
 have g16 : (((cs.set 13 v1).set 14 v2).set 16 v3)[16]? = some v3 := by rw [rK (by simp; omega)]
 have g14 : (((cs.set 13 v1).set 14 v2).set 16 v3)[14]? = some v2 := by rw [rD (by decide), rK (by simp; omega)]
 have g13 : (((cs.set 13 v1).set 14 v2).set 16 v3)[13]? = some v1 := by rw [rD (by decide), rD (by decide), rK (by omega)]
 generalize hb3 : ((cs.set 13 v1).set 14 v2).set 16 v3 = b3 at *
 have r3 : b3.take 55 = b3 := rX (by omega)
 have r4 : putCells Z55 0 b3 = b3 := Yp (by rw [r1]; rfl)
 have r6 : putCells Z55 0 Z55 = Z55 := Yp rfl
 have r7 : Z55.take 55 = Z55 := rfl
 have r8 : Z55.all IVal.isCell = true := rfl
 have r9 : Z55.all nr1 = true := rfl
 have f0 : qw Z55 [] = some Z55 := rfl
 have fp : qw [IVal.prim (.pointer none)] [(0, 1, .ptr (σ.length + 1) 0)] = some [.ptr (σ.length + 1) 0] := rfl
 have e0 := jh4 h20 h40 h41 h42 (s := s) (x := σ.length + 1) (w := w) (σ := σ ++ IObj.cells Z55 :: w.ob s :: .cells b3 :: l) (by rw [get_app]; rfl) hs hpos
 have t0 : (σ ++ IObj.cells Z55 :: Re.ob s w :: IObj.cells b3 :: l).take σ.length = σ := take_app
 rw [hfin] at e0
 have i2 : isNil 1 (erI none) = some true := rfl
 have u3 : un3 (erI none) = erI none := rfl
 have u4 : nt (erI none) = true := rfl
 have z1 : Z55.length = 55 := rfl
 simp only [jdH, jd, n0, st, e0, i2, u3, u4, z1, f0, fp, r1, r2, r3, r4, r6, r7, r8, r9, cells_agg, tJ, tU, List.zip_nil_left, zV, zS, zD, simprocAttr]
 have fw : ((wr.all fun p => !p.2 || decide (σ.length <= p.1)) = true) := by
   rw [Fa, rG] at hf
   rw [rG]
   intro q hq; have := hf q hq; simp at this ⊢; rcases this with h | h
   . exact .inl h
   . exact .inr (by omega)
 have ff : Fl (wr.filter fun p => decide (p.1 < σ.length)) := by
   rw [Fa, rG] at hf
   rw [Fl, rG]
   intro q hq
   obtain ⟨h1, h2⟩ := List.mem_filter.mp hq
   have h3 := hf q h1; simp at h2 h3 ⊢; rcases h3 with h | h
   . exact h
   . omega
 have mem : ∀ {o : Nat} {v : IVal}, b3[o]? = some v -> v ∈ b3 := fun h => List.mem_of_getElem? h
 rw [fw]
 by_cases hall : b3.all nr1 = true
 . rw [hall]
   rw [rG] at hall
   exact ⟨_, v1, v2, v3, [], by rw [hb3, rP]; rfl, ff, jfB X1 (hall _ (mem g13)), jfB X2 (hall _ (mem g14)), jfB X3 (hall _ (mem g16))⟩
 . rw [Bool.not_eq_true] at hall
   rw [hall]
   exact ⟨_, v1, v2, v3, _, by rw [hb3]; rfl, ff, jfA X1, jfA X2, jfA X3⟩
end Go.Idl.Sb
namespace Go.Idl.Sb
open Go Go.Idl Go.Idl.En
variable {F : jn}
structure StOK (cs : List IVal) (z1 z2 : List Int) (z3 : List (Int × Int × Bool)) : Prop where
 ty : Ty lAll cs
 n1 : z1.length <= 512
 n2 : z2.length <= 8000
 n3 : z3.length <= 8
 w1 : ∀ z ∈ z1, w3i z
 w2 : ∀ z ∈ z2, w3i z
 w3 : ∀ z ∈ z3, r64 z
theorem Yi {s : List UInt8} {w : Re} {m0 most : Nat} (h : (Re.number s w m0 most).1.er = none) : w.er = none := by
 cases hh : w.er with
 | none => rfl
 | some e =>
   have h1 : w.er.isSome = true := by rw [hh]; rfl
   rw [Re.number, jhy h1] at h
   simp only [] at h
   rw [qX h1, hh] at h; cases h
theorem sA : ∀ q ∈ lA, q ∈ lAll := by decide
theorem sB : ∀ q ∈ lB, q ∈ lAll := by decide
theorem sC : ∀ q ∈ lC, q ∈ lAll := by decide
theorem smA : Sm lA := fun q hq r hr => jz q (sA q hq) r (sA r hr)
theorem smB : Sm lB := fun q hq r hr => jz q (sB q hq) r (sB r hr)
theorem smC : Sm lC := fun q hq r hr => jz q (sC q hq) r (sC r hr)
theorem jbc {x : Nat} {l : La} {zs : List Int} {most : Nat} (h : ∀ z ∈ zs, w3i z) : jcX x l zs.length most (zs.map J) = Qd (l.number zs.length most) zs := Y7 (x := x) zs [] _ h
theorem jfQ {x : Nat} {l : La} {zs : List (Int × Int × Bool)} {most : Nat} (hm : zs.length <= most) (h : ∀ z ∈ zs, r64 z) : jdn x l zs.length most (zs.flatMap Rc) = Ya x (l.number zs.length most) zs := by
 rw [jdn, Nat.min_eq_left hm]
 exact Y6 (x := x) zs [] _ h
theorem XQ {x : Nat} {cs : List IVal} {z1 z2 : List Int} {z3 : List (Int × Int × Bool)} (h : StOK cs z1 z2 z3) :
   Qs x cs z1 z2 z3 = (jk (DL x) lC (Ya x (La.number (jk (DL x) lB (Qd (La.number (Qd (La.number (jk (DL x) lA ⟨[], false⟩ cs).1 z1.length 512) z1) z2.length 8000) z2) cs).1 z3.length 8) z3) cs).1 := by
 rw [Qs]
 rw [show jcX x (jk (DL x) lA (⟨[], false⟩ : La) cs).1 z1.length 512 (z1.map J) = Qd (La.number (jk (DL x) lA (⟨[], false⟩ : La) cs).1 z1.length 512) z1 from jbc h.w1]
 generalize Qd (La.number (jk (DL x) lA (⟨[], false⟩ : La) cs).1 z1.length 512) z1 = A1
 rw [show jcX x A1 z2.length 8000 (z2.map J) = Qd (La.number A1 z2.length 8000) z2 from jbc h.w2]
 generalize Qd (La.number A1 z2.length 8000) z2 = A2
 rw [show jdn x (jk (DL x) lB A2 cs).1 z3.length 8 (z3.flatMap Rc) = Ya x (La.number (jk (DL x) lB A2 cs).1 z3.length 8) z3 from jfQ h.n3 h.w3]
end Go.Idl.Sb
namespace Go.Idl.Sb
open Go Go.Idl Go.Idl.En
variable {F : jn}
theorem neI (z : Int) : (z != z) = false := bne_self_eq_false z
theorem eq3 (a b : Int) (c : Bool) : eqK [0, 0, 2] [I a, I b, .bool c] [I a, I b, .bool c] = some true := by
 simp [eqK, J2, j9]
theorem tkR {zs : List (Int × Int × Bool)} {i : Nat} (h : i < zs.length) : jd (some 3) (zs.flatMap Rc) (i * 3) = some (Ra zs[i]) := by
 have hl := jbG zs
 rw [jd, if_pos (by omega)]
 have e := Y2 zs
 have e2 : (qN 3 zs.length (zs.flatMap Rc))[i]? = some (Ra zs[i]) := by rw [e, rM, rJ h]; rfl
 rw [qN, rM, List.getElem?_range h] at e2
 exact e2
theorem jjq (a b c : IVal) : jd (some 3) [a, b, c] 0 = some (.agg [a, b, c]) := rfl
def kk : K -> Nat
 | .tr => 2
 | _ => 0
theorem QS {cs : List IVal} (hc : cs.all IVal.isCell = true) : (cs.map un1).all IVal.isCell = true := by
 rw [rG] at hc ⊢
 intro v hv
 obtain ⟨u, hu, rfl⟩ := List.mem_map.mp hv
 have := hc u hu
 cases u <;> first | rfl | cases this
theorem YR {cs : List IVal} {o n : Nat} (h : cs.map un1 = cs) : (((cs.drop o).take n).map un1) = (cs.drop o).take n := by
 rw [List.map_take, List.map_drop, h]
theorem jj5 {cs : List IVal} (hT : Ty lAll cs) {o : Nat} (h : (.nm, o) ∈ lAll) : ∃ n : Nat, cs[o]? = some (Q n) := by
 obtain ⟨v, hv, n, rfl, _⟩ := hT (.nm, o) h
 exact ⟨n, hv⟩
theorem jkN (z : Int) : (z == z) = true := beq_self_eq_true z
end Go.Idl.Sb
namespace Go.Idl.Sb
open Go Go.Idl Go.Idl.En
variable {F : jn}
theorem jL {p : IVal -> Bool} (l : List IVal) (o : Nat) (v : IVal) (h1 : l.all p = true) (h2 : p v = true) : (l.set o v).all p = true := by
 rw [rG] at h1 ⊢
 intro u hu
 rcases List.mem_or_eq_of_mem_set hu with h | h
 . exact h1 u h
 . rw [h]; exact h2
theorem jgF {cs : List IVal} (hc : cs.all nr1 = true) : (cs.map un1).all nr1 = true := by
 rw [rG] at hc ⊢
 intro v hv
 obtain ⟨u, hu, rfl⟩ := List.mem_map.mp hv
 have := hc u hu
 cases u <;> exact this
theorem jcE {α β : Type} {r : Bool} {zs : List α} {k : Nat} (q : r = true -> zs = []) : QK r 0 (min zs.length k) zs.length = true -> zs.take k = [] := by
 intro h
 rw [QK, Bool.and_eq_true] at h
 rw [q h.1, List.take_nil]
theorem jah {α : Type} {f : α -> IVal} {o : Nat} {r : Bool} {zs : List α} (q : r = true -> zs = []) : nr1 (.sl o r (zs.map f)) = true := by
 rw [nr1_sl]
 cases r with
 | false => rfl
 | true => rw [q rfl]; rfl
theorem jbP (n : Nat) (k : Nat) : (if (k : Int) < (n : Int) then (k : Int) else (n : Int)) = ((min n k : Nat) : Int) := by split <;> omega
theorem jid (zs : List Int) : JI 1 (zs.map J) = true := by cases zs <;> rfl
theorem jie (zs : List (Int × Int × Bool)) : JI 3 (zs.map Ra) = true := by cases zs <;> rfl
theorem Vs {α β : Type} (f : α -> β) (zs : List α) (k : Nat) : (zs.map f).take (min zs.length k) = (zs.take k).map f := by
 rw [<- List.map_take]
 congr 1
 rcases Nat.le_total zs.length k with h | h
 . rw [Nat.min_eq_left h, List.take_length, rX h]
 . rw [Nat.min_eq_right h]
set_option maxHeartbeats 2000000 in
theorem jh8 (h : F 6 = some ir6) {cs : List IVal} (hn : cs.length = 55) (hc : cs.all IVal.isCell = true) (hnr : cs.all nr1 = true) {r1 r2 r3 : Bool} {z1 z2 : List Int} {z3 : List (Int × Int × Bool)}
   (c1 : cs[13]? = some (.sl 0 r1 (z1.map J))) (c2 : cs[14]? = some (.sl 0 r2 (z2.map J))) (c3 : cs[16]? = some (.sl 0 r3 (z3.map Ra))) (q1 : r1 = true -> z1 = []) (q2 : r2 = true -> z2 = []) (q3 : r3 = true -> z3 = []) :
   ∃ o1 r1' o2 r2' o3 r3', (∀ σ, cfw F (.f 6) [.agg cs] σ = some ⟨false, .agg ((((cs.map un1).set 13 (.sl o1 r1' ((z1.take 40).map J))).set 14 (.sl o2 r2' ((z2.take 40).map J))).set 16 (.sl o3 r3' ((z3.take 9).map Ra))), σ, []⟩) /\ (r1' = true -> z1.take 40 = []) /\ (r2' = true -> z2.take 40 = []) /\ (r3' = true -> z3.take 9 = []) := by
 have lb : (cs.map un1).length = 55 := by simpa using hn
 have kb := QS hc
 have kn := jgF hnr
 have b1 : (cs.map un1)[13]? = some (.sl 0 r1 (z1.map J)) := by rw [rM, c1]; rfl
 have b2 : (cs.map un1)[14]? = some (.sl 0 r2 (z2.map J)) := by rw [rM, c2]; rfl
 have b3 : (cs.map un1)[16]? = some (.sl 0 r3 (z3.map Ra)) := by rw [rM, c3]; rfl
 have uu := yr cs
 generalize hB : cs.map un1 = bs at *
 have m1 := jbP z1.length 40
 have m2 := jbP z2.length 40
 have m3 := jbP z3.length 9
 have t1 := Vs J z1 40
 have t2 := Vs J z2 40
 have t3 := Vs Ra z3 9
 have x1 := jid z1
 have x2 := jid z2
 have x3 := jie z3
 have n40 : ((40 : Nat) : Int) = 40 := rfl
 have n9 : ((9 : Nat) : Int) = 9 := rfl
 rw [n40] at m1 m2
 rw [n9] at m3
 have g1 : bs.set 13 (.sl 0 r1 (z1.map J)) = bs := za b1
 have p1 := Nat.min_le_left z1.length 40
 have p2 := Nat.min_le_left z2.length 40
 have p3 := Nat.min_le_left z3.length 9
 have nn1 : ∀ k : Nat, (0 : Int) <= (k : Int) := fun k => by omega
 have k1 : ∀ v, (bs.set 13 v)[14]? = some (.sl 0 r2 (z2.map J)) := fun v => by rw [rD (by decide), b2]
 have k2 : ∀ v, (bs.set 13 v).set 14 (.sl 0 r2 (z2.map J)) = bs.set 13 v := fun v => za (k1 v)
 have k3 : ∀ v w, ((bs.set 13 v).set 14 w)[16]? = some (.sl 0 r3 (z3.map Ra)) := fun v w => by rw [rD (by decide), rD (by decide), b3]
 have k4 : ∀ v w, ((bs.set 13 v).set 14 w).set 16 (.sl 0 r3 (z3.map Ra)) = (bs.set 13 v).set 14 w := fun v w => za (k3 v w)
 have k5 : ∀ o r xs o' r' xs' o'' r'' xs'', (((bs.set 13 (.sl o r xs)).set 14 (.sl o' r' xs')).set 16 (.sl o'' r'' xs'')).all IVal.isCell = true := fun _ _ _ _ _ _ _ _ _ => jL _ _ _ (jL _ _ _ (jL _ _ _ kb rfl) rfl) rfl
 have k6 : ∀ u v w, (((bs.set 13 u).set 14 v).set 16 w).take 55 = ((bs.set 13 u).set 14 v).set 16 w := fun u v w => rX (by simp; omega)
 have k7 : ∀ u v w, putCells Z55 0 (((bs.set 13 u).set 14 v).set 16 w) = ((bs.set 13 u).set 14 v).set 16 w := fun u v w => Yp (by simp [lb]; rfl)
 have w1 := jcE (k := 40) (β := Nat) q1
 have w2 := jcE (k := 40) (β := Nat) q2
 have w3 := jcE (k := 9) (β := Nat) q3
 have k8 := fun o o' o'' => jL (p := nr1) _ 16 _ (jL (p := nr1) _ 14 _ (jL (p := nr1) bs 13 _ kn (jah (f := J) (o := o) w1)) (jah (f := J) (o := o') w2)) (jah (f := Ra) (o := o'') w3)
 have z55 : Z55.length = 55 := rfl
 refine ⟨Jt 0 1 0 (min z1.length 40) z1.length, QK r1 0 (min z1.length 40) z1.length, Jt 0 1 0 (min z2.length 40) z2.length, QK r2 0 (min z2.length 40) z2.length, Jt 0 3 0 (min z3.length 9) z3.length, QK r3 0 (min z3.length 9) z3.length, fun σ => ?_, w1, w2, w3⟩
 rw [jj ir6 h, callI]
 simp only [ir6, jd, cells_agg, hB, kb, lb, uu, b1, b2, b3, m1, m2, m3, t1, t2, t3, x1, x2, x3, p1, p2, p3, g1, k1, k2, k3, k4, k5, k6, k7, k8, z55, nn1, rF, Option.toList_some, Option.toList_none, kD, nat, rL, zV, zS, zD, simprocAttr]
end Go.Idl.Sb
namespace Go.Idl.Sb
open Go Go.Idl Go.Idl.En
variable {F : jn}
def jht : IVal -> IVal
 | .int k n => .int k (n.tmod 1152921504606846976)
 | v => v
def Yf (cs : List IVal) : List Nat -> List IVal
 | [] => cs
 | o :: os => Yf (cs.set o (jht (jv cs o))) os
theorem Vt {n m : Int} (hm : 0 < m) : -m < n.tmod m /\ n.tmod m < m := by
 refine ⟨Int.lt_tmod_of_pos n hm, Int.tmod_lt_of_pos n hm⟩
theorem jfb {v : IVal} (h : K.pl.ty v) : K.pl.ty (jht v) := by
 obtain ⟨n, rfl, _⟩ := h
 have := Vt (n := n) (m := 1152921504606846976) (by decide)
 exact ⟨_, rfl, by unfold i64; omega⟩
theorem jix {a e b : Nat} {r : Bool} {σ : List IObj} {os : List Nat} (ha : a < σ.length) (hlen : os.length < 1000) : ∀ (d i : Nat) (f0 : Nat -> Option (Nat × IVal)) (cs : List IVal) (wr : List (Nat × Bool)) (R : Option (IExit × St)),
   evw F (.loop VV) ⟨E 28 23 6 [] (base f0), σ.set a (.cells cs), wr⟩ = R -> i + d = os.length -> Ty (plL os) cs -> Fl wr ->
   f0 1 = some (1, .ptr a 0) -> f0 2 = some (2, .ptr b 0) -> f0 25 = some (25, .sl e r (Ps a os)) -> f0 26 = some (26, I os.length) -> f0 27 = some (27, I i) ->
   ∃ f1 wr', R = some (.exit 0, ⟨E 28 23 6 [] (base f1), σ.set a (.cells (Yf cs (os.drop i))), wr'⟩) /\ Fl wr' /\ f1 1 = some (1, .ptr a 0) /\ f1 2 = some (2, .ptr b 0) := by
 intro d
 induction d with
 | zero =>
   intro i f0 cs wr R hE hi hT hw e1 e2 e25 e26 e27
   have l0 : decide ((i : Int) < (os.length : Int)) = false := rH (by omega)
   rw [jc] at hE
   subst hE
   simp only [VV, e25, e26, e27, l0, zV, zS, zD, simprocAttr]
   rw [tV (by omega)]
   exact ⟨_, _, rfl, hw, (by first | exact e1 | rfl), (by first | exact e2 | rfl)⟩
 | succ d ih =>
   intro i f0 cs wr R hE hi hT hw e1 e2 e25 e26 e27
   have l0 : decide ((i : Int) < (os.length : Int)) = true := rE (by omega)
   have hi2 : i < os.length := by omega
   obtain ⟨v, hv, hk⟩ := hT (.pl, os[i]) (List.mem_map.2 ⟨_, List.getElem_mem hi2, rfl⟩)
   simp only [] at hv hk
   have hm := jfb hk
   have hc := jp hv
   obtain ⟨n, rfl, hn⟩ := hk
   have g1 : os[i]? = some os[i] := rJ hi2
   have d1 : (0 : Int) <= (i : Int) := by omega
   have w1 := kM (n := i) (by omega)
   have y2 := kB (σ := σ) (o := .cells cs) ha
   have o1 := kJ hv
   have la := rE ha
   rw [tA hi2, Yf, hc]
   rw [jc] at hE
   simp only [VV, jd, e1, e2, e25, e26, e27, l0, g1, d1, w1, y2, hv, o1, ha, tE, rF, rL, zV, zS, zD, simprocAttr] at hE
   exact ih (i + 1) _ _ _ R hE (by omega) (vl (k := .pl) hT hm (fun q hq _ => by obtain ⟨o, _, rfl⟩ := List.mem_map.1 hq; rfl)) (by rw [Fl] at hw ⊢; simp [hw]) (by first | exact e1 | rfl) (by first | exact e2 | rfl) (by first | exact e25 | rfl) (by first | exact e26 | rfl) (by rfl)
def jaJ (z : Int × Int × Bool) : Int × Int × Bool := (z.1.tmod 100, z.2.1.tmod 100, z.2.2)
set_option maxHeartbeats 2000000 in
theorem jiy {a b o : Nat} {r : Bool} {σ : List IObj} {zs : List (Int × Int × Bool)} (ha : a < σ.length) (hlen : zs.length < 1000) : ∀ (d i : Nat) (f0 : Nat -> Option (Nat × IVal)) (cs : List IVal) (ys : List IVal) (rr : Bool) (wr : List (Nat × Bool)) (R : Option (IExit × St)),
   evw F (.loop VW) ⟨E 28 23 6 [] (base f0), σ.set a (.cells (cs.set 16 (.sl 3 rr ys))), wr⟩ = R -> i + d = zs.length -> cs.length = 55 -> (!ys.isEmpty && rr) = false -> ys.length + d < 1000 -> Fl wr ->
   f0 1 = some (1, .ptr a 0) -> f0 2 = some (2, .ptr b 0) -> f0 5 = some (5, .sl o r (zs.map Ra)) -> f0 6 = some (6, I i) ->
   ∃ f1 rr' wr', R = some (.exit 2, ⟨E 28 23 6 [] (base f1), σ.set a (.cells (cs.set 16 (.sl 3 rr' (ys ++ (zs.drop i).map (fun z => Ra (jaJ z)))))), wr'⟩) /\ (!(ys ++ (zs.drop i).map (fun z => Ra (jaJ z))).isEmpty && rr') = false /\ Fl wr' /\ f1 1 = some (1, .ptr a 0) /\ f1 2 = some (2, .ptr b 0) := by
 intro d
 induction d with
 | zero =>
   intro i f0 cs ys rr wr R hE hi hl hr hy hw e1 e2 e5 e6
   have l0 : decide ((i : Int) < (zs.length : Int)) = false := rH (by omega)
   rw [jc] at hE
   subst hE
   simp only [VW, e5, e6, l0, zV, zS, zD, simprocAttr]
   rw [tV (by omega), List.map_nil, rP]
   exact ⟨_, rr, _, rfl, hr, hw, (by first | exact e1 | rfl), (by first | exact e2 | rfl)⟩
 | succ d ih =>
   intro i f0 cs ys rr wr R hE hi hl hr hy hw e1 e2 e5 e6
   have l0 : decide ((i : Int) < (zs.length : Int)) = true := rE (by omega)
   have hi2 : i < zs.length := by omega
   have g1 : zs[i]? = some zs[i] := rJ hi2
   have d1 : (0 : Int) <= (i : Int) := by omega
   have w1 := kM (n := i) (by omega)
   have y2 := fun c => kB (σ := σ) (o := .cells c) ha
   have la := rE ha
   have c16 : ∀ v, (cs.set 16 v)[16]? = some v := fun v => rK (by omega)
   have o1 : 17 <= cs.length := by omega
   have fl : ∀ x y : Int, ∀ b : Bool, qw [.int .i64 0, .int .i64 0, .bool false] [(0, 1, I x), (1, 1, I y), (2, 1, .bool b)] = some [I x, I y, .bool b] := fun _ _ _ => rfl
   have q1 : (ys.length + 1) * 24 <= 1099511627776 := by omega
   have q2 : ys.length + 1 <= 1099511627776 := by omega
   rw [jc] at hE
   simp only [VW, jd, e1, e2, e5, e6, l0, g1, d1, w1, y2, c16, o1, hl, ha, la, fl, q1, q2, hr, tJ, tU, tE, rF, rL, zV, zS, zD, simprocAttr] at hE
   have e : (zs.drop i).map (fun z => Ra (jaJ z)) = Ra (jaJ zs[i]) :: (zs.drop (i + 1)).map (fun z => Ra (jaJ z)) := by rw [tA hi2, rU]
   have e' : ys ++ (zs.drop i).map (fun z => Ra (jaJ z)) = (ys ++ [Ra (jaJ zs[i])]) ++ (zs.drop (i + 1)).map (fun z => Ra (jaJ z)) := by rw [e, rO]; rfl
   rw [e']
   exact ih (i + 1) _ cs (ys ++ [Ra (jaJ zs[i])]) false _ R hE (by omega) hl (Bool.and_false _) (by simp; omega) (by rw [Fl] at hw ⊢; simp [hw]) (by first | exact e1 | rfl) (by first | exact e2 | rfl) (by first | exact e5 | rfl) (by rfl)
end Go.Idl.Sb
namespace Go.Idl.Sb
open Go Go.Idl Go.Idl.En
variable {F : jn}
abbrev vr : List Nat := [0, 1, 2, 3, 15, 52, 53, 54, 20, 29]
theorem Zm : ∀ (os : List Nat) (cs : List IVal), (Yf cs os).length = cs.length
 | [], cs => rfl
 | o :: os, cs => by rw [Yf, Zm os]; simp
theorem KB : ∀ (os : List Nat) (cs : List IVal) (o : Nat), o ∉ os -> (Yf cs os)[o]? = cs[o]?
 | [], cs, o, _ => rfl
 | p :: os, cs, o, h => by
   rw [Yf, KB os _ _ (fun h2 => h (rN _ h2)), rD (fun e => h (by rw [<- e]; exact rT))]
theorem jbQ : ∀ (os : List Nat) (cs : List IVal) (o : Nat), os.Nodup -> o ∈ os -> o < cs.length -> (Yf cs os)[o]? = some (jht (jv cs o))
 | [], cs, o, _, h, _ => by cases h
 | p :: os, cs, o, hn, h, hl => by
   rw [List.nodup_cons] at hn
   rw [Yf]
   rcases List.mem_cons.1 h with rfl | h
   . rw [KB os _ _ hn.1, rK hl]
   . have hne : o ≠ p := fun e => hn.1 (e ▸ h)
     have e : jv (cs.set p (jht (jv cs p))) o = jv cs o := by
       show (match (cs.set p (jht (jv cs p)))[o]? with | some v => v | none => undefI) = _
       rw [rD (tR hne)]; rfl
     rw [jbQ os _ o hn.2 h (by simpa using hl), e]
theorem jbR : ∀ (os : List Nat) (cs : List IVal), Ty lAll cs -> (∀ o ∈ os, (K.pl, o) ∈ lAll) -> Ty lAll (Yf cs os)
 | [], cs, h, _ => h
 | o :: os, cs, h, ho => by
   rw [Yf]
   have hm := ho o rT
   obtain ⟨v, hv, hk⟩ := h _ hm
   refine jbR os _ (vl (k := .pl) h (by rw [jp hv]; exact jfb hk) (fun q hq e => jz q hq _ hm e)) (fun p hp => ho p (rN _ hp))
theorem Vc {p : IVal -> Bool} (hp : ∀ v, p v = true -> p (jht v) = true) : ∀ (os : List Nat) (cs : List IVal), cs.all p = true -> (∀ o ∈ os, o < cs.length) -> (Yf cs os).all p = true
 | [], cs, h, _ => h
 | o :: os, cs, h, ho => by
   rw [Yf]
   refine Vc hp os _ (jL _ _ _ h (hp _ ?_)) (fun q hq => by simpa using ho q (rN _ hq))
   have hlt := ho o rT
   have e : jv cs o = cs[o] := jp (rJ hlt)
   rw [e]
   rw [rG] at h
   exact h _ (List.getElem_mem hlt)
theorem jkQ {n : Nat} : ((n : Int).tmod 1152921504606846976) = ((n % 1152921504606846976 : Nat) : Int) := by rw [Int.tmod_eq_emod_of_nonneg (by omega)]; rfl
structure Nr (cs : List IVal) : Prop where
 pl : ∀ o, (K.pl, o) ∈ lAll -> ∃ n : Int, cs[o]? = some (I n) /\ -1152921504606846976 <= n /\ n <= 1152921504606846976
 nm : ∀ o, (K.nm, o) ∈ lAll -> ∃ n : Nat, cs[o]? = some (Q n) /\ n <= 1152921504606846975
set_option maxRecDepth 100000 in
set_option maxHeartbeats 8000000 in
theorem jjH (h : F 5 = some ir5) (h16 : F 6 = some ir6) {cs : List IVal} (hn : cs.length = 55) (hc : cs.all IVal.isCell = true) (hnr : cs.all nr1 = true) (hT : Ty lAll cs) {r1 r2 r3 : Bool} {z1 z2 : List Int} {z3 : List (Int × Int × Bool)}
   (c1 : cs[13]? = some (.sl 0 r1 (z1.map J))) (c2 : cs[14]? = some (.sl 0 r2 (z2.map J))) (c3 : cs[16]? = some (.sl 0 r3 (z3.map Ra))) (q1 : r1 = true -> z1 = []) (q2 : r2 = true -> z2 = []) (q3 : r3 = true -> z3 = []) :
   ∃ (M : List IVal) (o1 : Nat) (r1' : Bool) (o2 : Nat) (r2' : Bool) (z3' : List (Int × Int × Bool)), M.length = 55 /\ M.all IVal.isCell = true /\ M.all nr1 = true /\ Ty lAll M /\ Nr M /\ M[13]? = some (.sl o1 r1' ((z1.take 40).map J)) /\ M[14]? = some (.sl o2 r2' ((z2.take 40).map J)) /\ z3'.length <= 8 /\ (∀ z ∈ z3', -100 < z.1 /\ z.1 < 100 /\ -100 < z.2.1 /\ z.2.1 < 100) /\
     ∀ σ, ∃ wr rr, cfw F (.f 5) [.agg cs] σ = some ⟨false, .agg (M.set 16 (.sl 3 rr (z3'.map Ra))), σ, wr⟩ /\ Fl wr /\ nr1 (.sl 3 rr (z3'.map Ra)) = true := by
 have lb : (cs.map un1).length = 55 := by simpa using hn
 have kb := QS hc
 have kn := jgF hnr
 have b1 : (cs.map un1)[13]? = some (.sl 0 r1 (z1.map J)) := by rw [rM, c1]; rfl
 have b2 : (cs.map un1)[14]? = some (.sl 0 r2 (z2.map J)) := by rw [rM, c2]; rfl
 have b3 : (cs.map un1)[16]? = some (.sl 0 r3 (z3.map Ra)) := by rw [rM, c3]; rfl
 have uu := yr cs
 have tb := ZS hT
 generalize hB : cs.map un1 = bs at *
 obtain ⟨o1, r1', o2, r2', o3, r3', f0, w1, w2, w3⟩ := jh8 h16 lb kb kn b1 b2 b3 q1 q2 q3
 rw [uu] at f0
 have k5 : (((bs.set 13 (.sl o1 r1' ((z1.take 40).map J))).set 14 (.sl o2 r2' ((z2.take 40).map J))).set 16 (.sl o3 r3' ((z3.take 9).map Ra))).all IVal.isCell = true := jL _ _ _ (jL _ _ _ (jL _ _ _ kb rfl) rfl) rfl
 have k8 := jL (p := nr1) _ 16 _ (jL (p := nr1) _ 14 _ (jL (p := nr1) bs 13 _ kn (jah (f := J) (o := o1) w1)) (jah (f := J) (o := o2) w2)) (jah (f := Ra) (o := o3) w3)
 have t8 : Ty lAll (((bs.set 13 (.sl o1 r1' ((z1.take 40).map J))).set 14 (.sl o2 r2' ((z2.take 40).map J))).set 16 (.sl o3 r3' ((z3.take 9).map Ra))) := qF (qF (qF tb (by decide)) (by decide)) (by decide)
 have l8 : (((bs.set 13 (.sl o1 r1' ((z1.take 40).map J))).set 14 (.sl o2 r2' ((z2.take 40).map J))).set 16 (.sl o3 r3' ((z3.take 9).map Ra))).length = 55 := by simpa using lb
 have g16 : (((bs.set 13 (.sl o1 r1' ((z1.take 40).map J))).set 14 (.sl o2 r2' ((z2.take 40).map J))).set 16 (.sl o3 r3' ((z3.take 9).map Ra)))[16]? = some (.sl o3 r3' ((z3.take 9).map Ra)) := by rw [rK (by simp; omega)]
 have g14 : (((bs.set 13 (.sl o1 r1' ((z1.take 40).map J))).set 14 (.sl o2 r2' ((z2.take 40).map J))).set 16 (.sl o3 r3' ((z3.take 9).map Ra)))[14]? = some (.sl o2 r2' ((z2.take 40).map J)) := by rw [rD (by decide), rK (by simp; omega)]
 have g13 : (((bs.set 13 (.sl o1 r1' ((z1.take 40).map J))).set 14 (.sl o2 r2' ((z2.take 40).map J))).set 16 (.sl o3 r3' ((z3.take 9).map Ra)))[13]? = some (.sl o1 r1' ((z1.take 40).map J)) := by rw [rD (by decide), rD (by decide), rK (by omega)]
 generalize hb8 : ((bs.set 13 (.sl o1 r1' ((z1.take 40).map J))).set 14 (.sl o2 r2' ((z2.take 40).map J))).set 16 (.sl o3 r3' ((z3.take 9).map Ra)) = b8 at *
 generalize hy3 : z3.take 9 = y3 at *
 have k6 : b8.take 55 = b8 := rX (by omega)
 have tk0 : bs.take 55 = bs := rX (by omega)
 have k7 : putCells bs 0 b8 = b8 := Yp (by omega)
 have k7' : putCells bs 0 bs = bs := Yp rfl
 have ml := Zm vr b8
 have mt := jbR vr b8 t8 (by decide)
 have mc := Vc (p := IVal.isCell) (fun v h => by cases v <;> first | rfl | cases h) vr b8 k5 (fun o ho => by rw [l8]; exact (by decide : ∀ o ∈ vr, o < 55) o ho)
 have mn := Vc (p := nr1) (fun v h => by cases v <;> first | rfl | exact h) vr b8 k8 (fun o ho => by rw [l8]; exact (by decide : ∀ o ∈ vr, o < 55) o ho)
 have m16 := (KB vr b8 16 (by decide)).trans g16
 have m14 := (KB vr b8 14 (by decide)).trans g14
 have m13 := (KB vr b8 13 (by decide)).trans g13
 have mr : ∀ o ∈ vr, ∃ n : Int, (Yf b8 vr)[o]? = some (I n) /\ -1152921504606846976 <= n /\ n <= 1152921504606846976 := by
   intro o ho
   have hm := jbQ vr b8 o (by decide) ho (by rw [l8]; exact (by decide : ∀ o ∈ vr, o < 55) o ho)
   obtain ⟨v, hv, n, rfl, _⟩ := t8 _ ((by decide : ∀ o ∈ vr, (K.pl, o) ∈ lAll) o ho)
   simp only [] at hv
   rw [jp hv] at hm
   have := Vt (n := n) (m := 1152921504606846976) (by decide)
   exact ⟨_, hm, by omega, by omega⟩
 rw [l8] at ml
 generalize hm : Yf b8 vr = m at *
 obtain ⟨j50, i50⟩ := jj5 mt (o := 50) (by decide)
 obtain ⟨j51, i51⟩ := jj5 mt (o := 51) (by decide)
 have i51' : ∀ v, (m.set 50 v)[51]? = some (Q j51) := fun v => by rw [rD (by decide), i51]
 have i16' : ∀ v w, ((m.set 50 v).set 51 w)[16]? = some (.sl o3 r3' (y3.map Ra)) := fun v w => by rw [rD (by decide), rD (by decide), m16]
 have mq := jbP y3.length 8
 have n8 : ((8 : Nat) : Int) = 8 := rfl
 rw [n8] at mq
 have t3 := Vs Ra y3 8
 have x3 := jie y3
 have p3 := Nat.min_le_left y3.length 8
 have nn1 : ∀ k : Nat, (0 : Int) <= (k : Int) := fun k => by omega
 have M1 : Ty lAll ((m.set 50 (Q ((j50 % 1152921504606846976 : Nat) : Int))).set 51 (Q ((j51 % 1152921504606846976 : Nat) : Int))) :=
   vl (k := .nm) (vl (k := .nm) mt ⟨_, rfl, by omega⟩ (fun q hq e => jz q hq (.nm, 50) (by decide) e)) ⟨_, rfl, by omega⟩ (fun q hq e => jz q hq (.nm, 51) (by decide) e)
 have M2 : ((m.set 50 (Q ((j50 % 1152921504606846976 : Nat) : Int))).set 51 (Q ((j51 % 1152921504606846976 : Nat) : Int))).length = 55 := by simpa using ml
 have M3 : ((m.set 50 (Q ((j50 % 1152921504606846976 : Nat) : Int))).set 51 (Q ((j51 % 1152921504606846976 : Nat) : Int))).all IVal.isCell = true := jL _ _ _ (jL _ _ _ mc rfl) rfl
 have M4 : ((m.set 50 (Q ((j50 % 1152921504606846976 : Nat) : Int))).set 51 (Q ((j51 % 1152921504606846976 : Nat) : Int))).all nr1 = true := jL _ _ _ (jL _ _ _ mn rfl) rfl
 have M5 : ∀ o, o ≠ 50 -> o ≠ 51 -> ((m.set 50 (Q ((j50 % 1152921504606846976 : Nat) : Int))).set 51 (Q ((j51 % 1152921504606846976 : Nat) : Int)))[o]? = m[o]? := fun o h1 h2 => by rw [rD (tR h2), rD (tR h1)]
 have M6 : ((m.set 50 (Q ((j50 % 1152921504606846976 : Nat) : Int))).set 51 (Q ((j51 % 1152921504606846976 : Nat) : Int)))[50]? = some (Q ((j50 % 1152921504606846976 : Nat) : Int)) := by rw [rD (by decide), rK (by omega)]
 have M7 : ((m.set 50 (Q ((j50 % 1152921504606846976 : Nat) : Int))).set 51 (Q ((j51 % 1152921504606846976 : Nat) : Int)))[51]? = some (Q ((j51 % 1152921504606846976 : Nat) : Int)) := by rw [rK (by simp; omega)]
 generalize hM : (m.set 50 (Q ((j50 % 1152921504606846976 : Nat) : Int))).set 51 (Q ((j51 % 1152921504606846976 : Nat) : Int)) = M at *
 have ez : (y3.take 8).map (fun z => Ra (jaJ z)) = ((y3.take 8).map jaJ).map Ra := by rw [List.map_map]; rfl
 generalize hz : (y3.take 8).map jaJ = zz3 at *
 have hNr : Nr M := by
   refine ⟨fun o ho => ?_, fun o ho => ?_⟩
   . have hin : o ∈ vr := by
       have : ∀ q ∈ lAll, q.1 = .pl -> q.2 ∈ vr := by decide
       exact this _ ho rfl
     have hne : ∀ o ∈ vr, o ≠ 50 /\ o ≠ 51 := by decide
     obtain ⟨h1, h2⟩ := hne o hin
     rw [M5 o h1 h2]
     exact mr o hin
   . have hin : o = 50 \/ o = 51 := by
       have : ∀ q ∈ lAll, q.1 = .nm -> q.2 = 50 \/ q.2 = 51 := by decide
       exact this _ ho rfl
     rcases hin with rfl | rfl
     . exact ⟨_, M6, by omega⟩
     . exact ⟨_, M7, by omega⟩
 have hz8 : zz3.length <= 8 := by rw [<- hz, XD, tL]; omega
 have hzr : ∀ z ∈ zz3, -100 < z.1 /\ z.1 < 100 /\ -100 < z.2.1 /\ z.2.1 < 100 := by
   intro z hzm
   rw [<- hz] at hzm
   obtain ⟨y, _, rfl⟩ := List.mem_map.1 hzm
   have h1 := Vt (n := y.1) (m := 100) (by decide)
   have h2 := Vt (n := y.2.1) (m := 100) (by decide)
   exact ⟨h1.1, h1.2, h2.1, h2.2⟩
 refine ⟨M, o1, r1', o2, r2', zz3, M2, M3, M4, M1, hNr, (M5 13 (by decide) (by decide)).trans m13, (M5 14 (by decide) (by decide)).trans m14, hz8, hzr, fun σ => ?_⟩
 rw [jj ir5 h, callI]
 simp only [ir5, jd, cells_agg, hB, kb, lb, uu, f0, k5, k6, k7, k7', k8, l8, tk0, rF, zV, zS, zD, simprocAttr]
 generalize hE : evw F (ICode.loop VV) _ = R
 have sa : (σ ++ [IObj.cells b8, .cells Z55]).set σ.length (.cells b8) = σ ++ [.cells b8, .cells Z55] := set_app0 _
 rw [<- sa] at hE
 obtain ⟨f9, wr9, rfl, hw9, a1, a2⟩ := jix (a := σ.length) (b := σ.length + 1) (σ := σ ++ [IObj.cells b8, .cells Z55]) (os := vr) (by simp) (by decide) 10 0 _ b8 _ R hE rfl (fun q hq => by
   obtain ⟨o, ho, rfl⟩ := List.mem_map.1 hq
   exact t8 _ ((by decide : ∀ o ∈ vr, (K.pl, o) ∈ lAll) o ho)) rfl (by rfl) (by rfl) (by rfl) (by rfl) (by rfl)
 rw [List.drop_zero, set_app0, hm]
 have b0 : ((σ ++ [IObj.cells m, .cells Z55]).length) = σ.length + 2 := by simp
 simp only [jd, a1, a2, i50, i51, i51', i16', ml, mq, t3, x3, p3, nn1, jkQ, rF, Option.toList_some, Option.toList_none, kD, nat, rL, zV, zS, zD, simprocAttr]
 rw [hM]
 generalize hE : evw F (ICode.loop VW) _ = R
 have sb : (σ ++ [IObj.cells M, .cells Z55]).set σ.length (.cells (M.set 16 (.sl 3 true []))) = σ ++ [.cells (M.set 16 (.sl 3 true [])), .cells Z55] := set_app0 _
 rw [<- sb] at hE
 obtain ⟨f8, rr, wr8, rfl, hrr, hw8, a1', a2'⟩ := jiy (a := σ.length) (b := σ.length + 1) (σ := σ ++ [IObj.cells M, .cells Z55]) (zs := y3.take 8) (by simp) (by rw [tL]; omega) (y3.take 8).length 0 _ M [] true _ R hE (by omega) M2 rfl (by rw [tL]; simp; omega) (by rw [Fl] at hw9 ⊢; simp [hw9]) (by first | exact a1 | rfl) (by first | exact a2 | rfl) (by rfl) (by rfl)
 rw [List.drop_zero, tQ, ez] at hrr ⊢
 rw [set_app0]
 have nrr : nr1 (.sl 3 rr (zz3.map Ra)) = true := by
   rw [nr1_sl]
   cases hq : (zz3.map Ra).isEmpty
   . rw [hq] at hrr; have : rr = false := by simpa using hrr
     rw [this]; rfl
   . simp
 have N2 : (M.set 16 (.sl 3 rr (zz3.map Ra))).length = 55 := by simpa using M2
 have N3 : (M.set 16 (.sl 3 rr (zz3.map Ra))).all IVal.isCell = true := jL _ _ _ M3 rfl
 have N4 : (M.set 16 (.sl 3 rr (zz3.map Ra))).all nr1 = true := jL _ _ _ M4 nrr
 generalize hN : M.set 16 (.sl 3 rr (zz3.map Ra)) = N at *
 have P1 : N.take 55 = N := rX (by omega)
 have P2 : putCells Z55 0 N = N := Yp (by rw [N2]; rfl)
 have z55 : Z55.length = 55 := rfl
 have fp : (wr8.all fun p => !p.2 || decide (σ.length <= p.1)) = true := jr hw8
 simp only [jd, a1', a2', N2, N3, N4, P1, P2, z55, fp, zV, zS, zD, simprocAttr]
 exact ⟨_, rr, by rw [hN], jo hw8, nrr⟩
end Go.Idl.Sb
namespace Go.Idl.Sb
open Go Go.Idl Go.Idl.En
variable {F : jn}
def Nk : K -> IVal -> Prop
 | .pl, .int _ n => -1152921504606846976 <= n /\ n <= 1152921504606846976
 | .nm, .int _ n => n <= 1152921504606846975
 | _, _ => True
theorem jeA {x : Nat} {k : K} {l : (DL x).W} {v : IVal} (hv : k.ty v) (hn : Nk k v) (hf : La.far l = false) : La.far (jO (DL x) k l v).1 = false := by
 cases k with
 | pl =>
   obtain ⟨n, rfl, _⟩ := hv
   have hn : -1152921504606846976 <= n /\ n <= 1152921504606846976 := hn
   show (La.far l || (decide (n < -1152921504606846976) || decide (n > 1152921504606846976))) = false
   rw [hf, rH (by omega), rH (by omega)]; rfl
 | wd =>
   obtain ⟨n, rfl, h1, h2⟩ := hv
   show (La.far l || (decide (n < -2147483648) || decide (n > 2147483647))) = false
   rw [hf, rH (by omega), rH (by omega)]; rfl
 | byt => obtain ⟨n, rfl, _⟩ := hv; exact hf
 | tr => obtain ⟨b, rfl⟩ := hv; exact hf
 | hf =>
   obtain ⟨n, rfl, hn⟩ := hv
   show (La.far l || decide (((n : Int).toNat : Int) > ((65535 : Nat) : Int))) = false
   rw [hf, rH (by omega)]; rfl
 | nm =>
   obtain ⟨n, rfl, _⟩ := hv
   have hn : (n : Int) <= 1152921504606846975 := hn
   show (La.far l || decide (((n : Int).toNat : Int) > ((1152921504606846975 : Nat) : Int))) = false
   rw [hf, rH (by omega)]; rfl
theorem KO {x : Nat} : ∀ (L : List (K × Nat)) (l : (DL x).W) (cs : List IVal), Ty L cs -> (∀ q ∈ L, ∀ v, cs[q.2]? = some v -> Nk q.1 v) -> La.far l = false -> La.far (jk (DL x) L l cs).1 = false
 | [], l, cs, _, _, hf => hf
 | (k, o) :: L, l, cs, hT, hN, hf => by
   obtain ⟨v, ho, hv⟩ := hT _ rT
   simp only [] at ho hv
   have e1 := Yc (x := x) (l := l) hv
   have u : jk (DL x) ((k, o) :: L) l cs = jk (DL x) L (jO (DL x) k l v).1 cs := by rw [jk, jp ho, e1, za ho]
   rw [u]
   exact KO L _ cs (fun q hq => hT q (rN _ hq)) (fun q hq => hN q (rN _ hq)) (jeA hv (hN _ rT v ho) hf)
theorem Q7 : ∀ (zs : List Int) (l : La), (∀ z ∈ zs, w3i z) -> l.far = false -> (Qd l zs).far = false
 | [], l, _, hf => hf
 | z :: zs, l, h, hf => by
   refine Q7 zs _ (fun u hu => h u (rN _ hu)) ?_
   have hz : w3i z := h z rT
   show (l.far || (decide (z < -2147483648) || decide (z > 2147483647))) = false
   rw [hf, rH (by omega), rH (by omega)]; rfl
theorem Zh {x : Nat} : ∀ (zs : List (Int × Int × Bool)) (l : (DL x).W), (∀ z ∈ zs, -100 < z.1 /\ z.1 < 100 /\ -100 < z.2.1 /\ z.2.1 < 100) -> La.far l = false -> La.far (Ya x l zs) = false
 | [], l, _, hf => hf
 | z :: zs, l, h, hf => by
   have hz := h z rT
   refine Zh zs _ (fun u hu => h u (rN _ hu)) (KO (kT 0) l (Rc z) (jfC ⟨⟨by omega, by omega⟩, ⟨by omega, by omega⟩⟩) ?_ hf)
   intro q hq v hv
   simp at hq
   rcases hq with rfl | rfl | rfl
   . obtain rfl := tB hv.symm
     show -1152921504606846976 <= z.1 /\ z.1 <= 1152921504606846976
     omega
   . obtain rfl := tB hv.symm
     show -1152921504606846976 <= z.2.1 /\ z.2.1 <= 1152921504606846976
     omega
   . exact trivial
theorem jdo {x : Nat} {cs : List IVal} {z1 z2 : List Int} {z3 : List (Int × Int × Bool)} (h : StOK cs z1 z2 z3) (hN : Nr cs) (hz : ∀ z ∈ z3, -100 < z.1 /\ z.1 < 100 /\ -100 < z.2.1 /\ z.2.1 < 100) : (Qs x cs z1 z2 z3).far = false := by
 have hq : ∀ q ∈ lAll, ∀ v, cs[q.2]? = some v -> Nk q.1 v := by
   intro q hq v hv
   obtain ⟨k, o⟩ := q
   cases k with
   | pl => obtain ⟨n, h1, h2⟩ := hN.pl o hq; rw [hv] at h1; cases h1; exact h2
   | nm => obtain ⟨n, h1, h2⟩ := hN.nm o hq; rw [hv] at h1; cases h1; show (n : Int) <= 1152921504606846975; omega
   | wd => exact trivial
   | byt => exact trivial
   | tr => exact trivial
   | hf => exact trivial
 rw [XQ h]
 have num : ∀ (l : La) (n m : Nat), l.far = false -> n <= m -> (l.number n m).far = false := fun l n m hf hn => by
   show (l.far || decide ((n : Int) > m)) = false
   rw [hf, rH (by omega)]; rfl
 refine KO lC _ cs (jI h.ty sC) (fun q hq' => hq q (sC q hq')) (Zh z3 _ hz (num _ _ _ (KO lB _ cs (jI h.ty sB) (fun q hq' => hq q (sB q hq')) (Q7 z2 _ h.w2 (num _ _ _ (Q7 z1 _ h.w1 (num _ _ _ ?_ h.n1)) h.n2))) h.n3))
 exact KO lA _ cs (jI h.ty sA) (fun q hq' => hq q (sA q hq')) rfl
theorem jdA {s : List UInt8} {w : Re} (hp : w.pos <= s.length) (h : Re.fin s w = none) : w.er = none /\ w.pos = s.length := by
 rw [Re.fin] at h
 cases he : w.er with
 | some e => rw [he] at h; cases h
 | none =>
   rw [he] at h
   simp only [] at h
   refine ⟨rfl, ?_⟩
   split at h
   . cases h
   . omega
end Go.Idl.Sb
namespace Go.Idl.Sb
open Go Go.Idl Go.Idl.En
variable {F : jn}
theorem jfn (h : F 40 = some yX) (n : Nat) (σ : List IObj) : cfw F (.f 40) [Q n] σ = some ⟨false, I ((2 ^ srt n : Nat) : Int), σ, []⟩ := by
 rw [jj yX h, callI]
 by_cases a1 : n < 64
 . have d1 : decide ((n : Int) < 64) = true := rE (by omega)
   have e : srt n = 0 := by simp [srt, a1]
   simp only [yX, e, d1, zV, zS, zD, simprocAttr]
 have d1 : decide ((n : Int) < 64) = false := rH (by omega)
 by_cases a2 : n < 16384
 . have d2 : decide ((n : Int) < 16384) = true := rE (by omega)
   have e : srt n = 1 := by simp [srt, a1, a2]
   simp only [yX, e, d1, d2, zV, zS, zD, simprocAttr]
 have d2 : decide ((n : Int) < 16384) = false := rH (by omega)
 by_cases a3 : n < 1073741824
 . have d3 : decide ((n : Int) < 1073741824) = true := rE (by omega)
   have e : srt n = 2 := by simp [srt, a1, a2, a3]
   simp only [yX, e, d1, d2, d3, zV, zS, zD, simprocAttr]
 . have d3 : decide ((n : Int) < 1073741824) = false := rH (by omega)
   have e : srt n = 3 := by simp [srt, a1, a2, a3]
   simp only [yX, e, d1, d2, d3, zV, zS, zD, simprocAttr]
theorem jgp {t : Nat} {σ : List IObj} (ht : t < 4) : ∀ (d s : Nat) (f0 : Nat -> Option (Nat × IVal)) (R : Option (IExit × St)), evw F (.loop Kp) ⟨E 8 11 5 [] (base f0), σ, []⟩ = R -> s + d = t -> f0 3 = some (3, I ((2 ^ t : Nat) : Int)) -> f0 4 = some (4, Q s) -> f0 5 = some (5, I ((2 ^ s : Nat) : Int)) ->
   ∃ f1, R = some (.exit 0, ⟨E 8 11 5 [] (base f1), σ, []⟩) /\ f1 4 = some (4, Q t) /\ f1 0 = f0 0 /\ f1 3 = f0 3 := by
 intro d
 induction d with
 | zero =>
   intro s f0 R hE hs e3 e4 e5
   obtain rfl : s = t := by omega
   have l0 : decide (((2 ^ s : Nat) : Int) < ((2 ^ s : Nat) : Int)) = false := rH (by omega)
   rw [jc] at hE
   subst hE
   simp only [Kp, e3, e4, e5, l0, zV, zS, zD, simprocAttr]
   exact ⟨_, rfl, (by first | exact e4 | rfl), (by rfl), (by first | exact e3 | rfl)⟩
 | succ d ih =>
   intro s f0 R hE hs e3 e4 e5
   have hst : s < t := by omega
   have hp : 2 ^ s < 2 ^ t := Nat.pow_lt_pow_right (by decide) hst
   have l0 : decide (((2 ^ s : Nat) : Int) < ((2 ^ t : Nat) : Int)) = true := rE (by omega)
   have w1 : IntKind.u64.wrap ((s : Int) + 1) = ((s + 1 : Nat) : Int) := by rw [jt (by omega) (by omega)]; omega
   have h8 : 2 ^ s <= 8 := by
     have : 2 ^ s <= 2 ^ 3 := Nat.pow_le_pow_right (by decide) (by omega)
     omega
   have w2 : IntKind.i64.wrap (2 * ((2 ^ s : Nat) : Int)) = ((2 ^ (s + 1) : Nat) : Int) := by
     rw [Nat.pow_succ]
     generalize 2 ^ s = p at h8 ⊢
     rw [jP (by omega) (by omega)]; omega
   rw [jc] at hE
   simp only [Kp, e3, e4, e5, l0, w1, w2, zV, zS, zD, simprocAttr] at hE
   obtain ⟨f1, h1, h2, h3, h4⟩ := ih (s + 1) _ R hE (by omega) (by first | exact e3 | rfl) (by rfl) (by rfl)
   exact ⟨f1, h1, h2, by rw [h3]; rfl, by rw [h4]; rfl⟩
theorem jgq {m t : Nat} {σ : List IObj} (ht : t <= 8) (hm : m < 18446744073709551616) : ∀ (d i : Nat) (f0 : Nat -> Option (Nat × IVal)) (R : Option (IExit × St)), evw F (.loop Kq) ⟨E 8 11 5 [] (base f0), σ, []⟩ = R -> i + d = t -> f0 0 = some (0, Q ((m / 256 ^ i : Nat) : Int)) -> f0 3 = some (3, I t) -> f0 6 = some (6, .str (U8s (be m i))) -> f0 7 = some (7, I i) ->
   ∃ f1, R = some (.exit 2, ⟨E 8 11 5 [] (base f1), σ, []⟩) /\ f1 6 = some (6, .str (U8s (be m t))) /\ f1 4 = f0 4 := by
 intro d
 induction d with
 | zero =>
   intro i f0 R hE hs e0 e3 e6 e7
   obtain rfl : i = t := by omega
   have l0 : decide ((i : Int) < (i : Int)) = false := rH (by omega)
   rw [jc] at hE
   subst hE
   simp only [Kq, e0, e3, e6, e7, l0, zV, zS, zD, simprocAttr]
   exact ⟨_, rfl, (by first | exact e6 | rfl), rfl⟩
 | succ d ih =>
   intro i f0 R hE hs e0 e3 e6 e7
   have l0 : decide ((i : Int) < (t : Int)) = true := rE (by omega)
   have w1 := kM (n := i) (by omega)
   generalize hq : m / 256 ^ i = q at *
   have m1 : ((q : Nat) : Int).tmod 256 = ((q % 256 : Nat) : Int) := by rw [Int.tmod_eq_emod_of_nonneg (by omega)]; rfl
   have m2 : ((q : Nat) : Int).tdiv 256 = ((q / 256 : Nat) : Int) := by rw [Int.tdiv_eq_ediv_of_nonneg (by omega)]; rfl
   have hbig : q < 18446744073709551616 := Nat.lt_of_le_of_lt (hq ▸ Nat.div_le_self m (256 ^ i)) hm
   have w2 : IntKind.u64.wrap ((q / 256 : Nat) : Int) = ((q / 256 : Nat) : Int) := jt (by omega) (by omega)
   have w3 : IntKind.u8.wrap ((q % 256 : Nat) : Int) = ((q % 256 : Nat) : Int) := by rw [Vw]; omega
   have b1 : j7 [B (q % 256)] = some [UInt8.ofNat (q % 256)] := toB [q % 256]
   have q1 : 1 + (be m i).length <= 1099511627776 := by rw [YY]; omega
   rw [jc] at hE
   simp only [Kq, e0, e3, e6, e7, l0, w1, w2, w3, m1, m2, b1, XM, q1, zV, zS, zD, simprocAttr] at hE
   obtain ⟨f1, h1, h2, h3⟩ := ih (i + 1) _ R hE (by omega) (by rw [Nat.pow_succ, <- Nat.div_div_eq_div_mul, hq]; exact (by rfl)) (by first | exact e3 | rfl) (by rw [be, hq]; exact (by rfl)) (by rfl)
   exact ⟨f1, h1, h2, by rw [h3]; rfl⟩
theorem jeR : ∀ (k L m c : Nat), k <= L -> be (m + c * 256 ^ L) k = be m k
 | 0, _, _, _, _ => rfl
 | k + 1, L, m, c, h => by
   rw [be, be, jeR k L m c (by omega)]
   congr 1
   obtain ⟨j, rfl⟩ : ∃ j, L = k + 1 + j := ⟨L - k - 1, by omega⟩
   have e : c * 256 ^ (k + 1 + j) = (c * 256 ^ j) * 256 * 256 ^ k := by rw [Nat.pow_add, Nat.pow_succ]; ac_rfl
   rw [e, Nat.add_mul_div_right _ _ (Nat.pow_pos (by decide))]
   omega
theorem jfv {n : Nat} (h : n < 256) : IntKind.u8.wrap (n : Int) = (n : Int) := by rw [Vw]; omega
theorem ZR (h : F 16 = some Zc) (h40 : F 40 = some yX) (n : Nat) (σ : List IObj) : cfw F (.f 16) [Q n] σ = some ⟨false, .str (U8s (nb (n % 4611686018427387904))), σ, []⟩ := by
 rw [jj Zc h, callI]
 generalize hm : n % 4611686018427387904 = m
 have hm2 : m < 4611686018427387904 := by omega
 have hs := Xv m
 have m0 : ((n : Nat) : Int).tmod 4611686018427387904 = ((m : Nat) : Int) := by rw [Int.tmod_eq_emod_of_nonneg (by omega)]; omega
 have s0 := fun σ => jfn h40 m σ
 simp only [Zc, m0, s0, zV, zS, zD, simprocAttr]
 generalize hE : evw F (ICode.loop Kp) _ = R
 obtain ⟨f1, rfl, a4, a0, a3⟩ := jgp hs (srt m) 0 _ R hE (by omega) (by rfl) (by rfl) (by rfl)
 have a0 : f1 0 = some (0, Q m) := a0
 have a3 : f1 3 = some (3, I ((2 ^ srt m : Nat) : Int)) := a3
 simp only [a0, a3, a4, zV, zS, zD, simprocAttr]
 generalize hE : evw F (ICode.loop Kq) _ = R
 have k8 : 2 ^ srt m <= 8 := by rcases Jc m with e | e | e | e <;> rw [e] <;> decide
 obtain ⟨f2, rfl, b6, b4⟩ := jgq (m := m) k8 (by omega) (2 ^ srt m) 0 _ R hE (by omega) (by rw [Nat.pow_zero, Nat.div_one]; exact (by first | exact a0 | rfl)) (by first | exact a3 | rfl) (by rfl) (by rfl)
 have b4 : f2 4 = some (4, Q (srt m)) := by rw [b4]; exact (by first | exact a4 | rfl)
 have hb := Xu hm2
 obtain ⟨L, hL⟩ : ∃ L, 2 ^ srt m = L + 1 := ⟨2 ^ srt m - 1, by have : 0 < 2 ^ srt m := Nat.pow_pos (by decide); omega⟩
 have k1 : 8 * 2 ^ srt m - 2 = 6 + 8 * L := by omega
 have k2 : 2 ^ (6 + 8 * L) = 64 * 256 ^ L := by rw [Nat.pow_add, Nat.pow_mul]
 have hp : 0 < 256 ^ L := Nat.pow_pos (by decide)
 have el : lay m = m + srt m * 64 * 256 ^ L := by rw [lay, k1, k2, Nat.mul_assoc]
 have e0 : nb m = (m / 256 ^ L + srt m * 64) % 256 :: be m L := by
   rw [nb, hL, be, el, jeR L L _ _ (rS _), Nat.add_mul_div_right _ _ hp]
 rw [k1, k2, <- Nat.div_lt_iff_lt_mul hp] at hb
 generalize hq : m / 256 ^ L = q at *
 generalize ht : srt m = t at *
 have eb : be m (2 ^ t) = q :: be m L := by rw [hL, be, hq]; congr 1; omega
 have w1 : IntKind.u64.wrap (64 * (t : Int)) = ((64 * t : Nat) : Int) := by rw [jt (by omega) (by omega)]; omega
 have w2 : IntKind.u8.wrap ((64 * t : Nat) : Int) = ((64 * t : Nat) : Int) := jfv (by omega)
 have w3 : IntKind.u8.wrap (((UInt8.ofNat q).toNat : Int) + ((64 * t : Nat) : Int)) = (((q + t * 64) % 256 : Nat) : Int) := by rw [jkJ (by omega), Vw]; omega
 have b1 : j7 [B ((q + t * 64) % 256)] = some [UInt8.ofNat ((q + t * 64) % 256)] := toB [(q + t * 64) % 256]
 have q1 : 1 + (be m L).length <= 1099511627776 := by rw [YY]; omega
 have dt : List.drop 1 (List.take ((be m L).length + 1) (UInt8.ofNat q :: List.map UInt8.ofNat (be m L))) = List.map UInt8.ofNat (be m L) := by rw [tD, tZ, List.drop_zero, rX (by simp)]
 simp only [b4, b6, eb, e0, w1, w2, w3, dt, b1, q1, U8s, rU, tI, XM, Option.toList_some, Option.toList_none, kD, nat, rL, zV, zS, zD, simprocAttr]
end Go.Idl.Sb
namespace Go.Idl.Sb
open Go Go.Idl Go.Idl.En
variable {F : jn}
theorem jhm {n : Int} (h : i64 n) (h0 : 0 <= n) : IntKind.u64.wrap (2 * IntKind.u64.wrap n) = ((zz n : Nat) : Int) := by
 obtain ⟨h1, h2⟩ := h
 have e : zz n = (2 * n).toNat := by unfold zz; rw [if_pos h0]
 rw [jt h0 (by omega), jt (by omega) (by omega), e]; omega
theorem jhn {n : Int} (h : i64 n) (h0 : n < 0) : IntKind.u64.wrap (IntKind.u64.wrap (2 * IntKind.u64.wrap (IntKind.i64.wrap (0 - (IntKind.i64.wrap (n + 1))))) + 1) = ((zz n : Nat) : Int) := by
 obtain ⟨h1, h2⟩ := h
 have e : zz n = (-2 * n - 1).toNat := by unfold zz; rw [if_neg (by omega)]
 rw [jP (n := n + 1) (by omega) (by omega), jP (n := 0 - (n + 1)) (by omega) (by omega), jt (n := 0 - (n + 1)) (by omega) (by omega), jt (n := 2 * (0 - (n + 1))) (by omega) (by omega), jt (by omega) (by omega), e]; omega
def zb (n : Int) : List UInt8 := U8s (nb (zz n % 4611686018427387904))
theorem jhz (h : F 39 = some jab) (h16 : F 16 = some Zc) (h40 : F 40 = some yX) {n : Int} (hn : i64 n) (σ : List IObj) : cfw F (.f 39) [I n] σ = some ⟨false, .str (zb n), σ, []⟩ := by
 rw [jj jab h, callI]
 have p1 := fun σ => ZR h16 h40 (zz n) σ
 by_cases h0 : 0 <= n
 . have z1 := jhm hn h0
   have d1 : decide (n ≥ 0) = true := rE h0
   simp only [jab, zb, p1, z1, d1, zV, zS, zD, simprocAttr]
 . have z1 := jhn hn (by omega)
   have d1 : decide (n ≥ 0) = false := rH (by omega)
   simp only [jab, zb, p1, z1, d1, zV, zS, zD, simprocAttr]
theorem jaP (h : F 17 = some jf6) (b : Bool) (σ : List IObj) : cfw F (.f 17) [.bool b] σ = some ⟨false, .str [if b then 1 else 0], σ, []⟩ := by
 rw [jj jf6 h, callI]
 cases b <;> simp only [jf6, zV, zS, zD, simprocAttr] <;> rfl
theorem JE (h : F 14 = some jdG) (h39 : F 39 = some jab) (h16 : F 16 = some Zc) (h40 : F 40 = some yX) {n : Int} (hn : i64 n) (σ : List IObj) : cfw F (.f 14) [I n] σ = some ⟨false, .str (zb n), σ, []⟩ := by
 rw [jj jdG h, callI]
 have p1 := fun σ => jhz h39 h16 h40 hn σ
 simp only [jdG, p1, zV, zS, zD, simprocAttr]
theorem jiM (h : F 38 = some jc0) (n : Int) (σ : List IObj) : cfw F (.f 38) [I n] σ = some ⟨false, .bool (decide (-1152921504606846976 <= n) && decide (n <= 1152921504606846976)), σ, []⟩ := by
 rw [jj jc0 h, callI]
 by_cases d1 : -1152921504606846976 <= n
 . have e1 : decide (n ≥ -1152921504606846976) = true := rE d1
   have e2 : decide (-1152921504606846976 <= n) = true := rE d1
   simp only [jc0, e1, e2, zV, zS, zD, simprocAttr]
 . have e1 : decide (n ≥ -1152921504606846976) = false := rH d1
   have e2 : decide (-1152921504606846976 <= n) = false := rH d1
   simp only [jc0, e1, e2, zV, zS, zD, simprocAttr]
end Go.Idl.Sb
namespace Go.Idl.Sb
open Go Go.Idl Go.Idl.En
variable {F : jn}
theorem ya (n : Int) : (zb n).length <= 8 := by rw [zb, U8s, XD]; exact KC _
theorem jio (h39 : F 39 = some jab) (h16 : F 16 = some Zc) (h40 : F 40 = some yX) {z : List Int} {e : Nat} {r : Bool} {σ : List IObj} (hz : ∀ n ∈ z, w3i n) (hl : z.length < 100000) : ∀ (d i : Nat) (f0 : Nat -> Option (Nat × IVal)) (out : List UInt8) (R : Option (IExit × St)),
   evw F (.loop Ko) ⟨E 5 8 4 [] (base f0), σ, []⟩ = R -> i + d = z.length -> out.length + 8 * d < 1000000000 -> f0 0 = some (0, .sl e r (z.map J)) -> f0 3 = some (3, .str out) -> f0 4 = some (4, I i) ->
   ∃ f1, R = some (.exit 0, ⟨E 5 8 4 [] (base f1), σ, []⟩) /\ f1 3 = some (3, .str (out ++ (z.drop i).flatMap zb)) := by
 intro d
 induction d with
 | zero =>
   intro i f0 out R hE hi ho e0 e3 e4
   have l0 : decide ((i : Int) < (z.length : Int)) = false := rH (by omega)
   rw [jc] at hE
   subst hE
   simp only [Ko, e0, e3, e4, l0, zV, zS, zD, simprocAttr]
   rw [tV (by omega), List.flatMap_nil, rP]
   exact ⟨_, rfl, (by first | exact e3 | rfl)⟩
 | succ d ih =>
   intro i f0 out R hE hi ho e0 e3 e4
   have l0 : decide ((i : Int) < (z.length : Int)) = true := rE (by omega)
   have hi2 : i < z.length := by omega
   have g1 : z[i]? = some z[i] := rJ hi2
   have d1 : (0 : Int) <= (i : Int) := by omega
   have w1 := kM (n := i) (by omega)
   have hw := hz z[i] (List.getElem_mem hi2)
   have w2 : IntKind.i64.wrap z[i] = z[i] := jP (by omega) (by omega)
   have p1 := fun σ => jhz h39 h16 h40 (n := z[i]) ⟨by omega, by omega⟩ σ
   have zl := ya z[i]
   have q1 : out.length + (zb z[i]).length <= 1099511627776 := by omega
   rw [jc] at hE
   simp only [Ko, jd, e0, e3, e4, l0, g1, d1, w1, w2, p1, q1, XM, rL, zV, zS, zD, simprocAttr] at hE
   have e : (z.drop i).flatMap zb = zb z[i] ++ (z.drop (i + 1)).flatMap zb := by rw [tA hi2, rR]
   rw [e, <- rO]
   exact ih (i + 1) _ (out ++ zb z[i]) R hE (by omega) (by rw [rI]; omega) (by first | exact e0 | rfl) (by rfl) (by rfl)
def wb (z : List Int) : List UInt8 := U8s (nb z.length) ++ z.flatMap zb
theorem jcT (h : F 15 = some jhp) (h39 : F 39 = some jab) (h16 : F 16 = some Zc) (h40 : F 40 = some yX) {z : List Int} {e : Nat} {r : Bool} (hz : ∀ n ∈ z, w3i n) (hl : z.length < 100000) (σ : List IObj) : cfw F (.f 15) [.sl e r (z.map J)] σ = some ⟨false, .str (wb z), σ, []⟩ := by
 rw [jj jhp h, callI]
 have w1 : IntKind.u64.wrap (z.length : Int) = (z.length : Int) := jt (by omega) (by omega)
 have p1 := fun σ => ZR h16 h40 z.length σ
 have em : z.length % 4611686018427387904 = z.length := Nat.mod_eq_of_lt (by omega)
 rw [em] at p1
 simp only [jhp, w1, p1, zV, zS, zD, simprocAttr]
 generalize hE : evw F (ICode.loop Ko) _ = R
 have nl := KC z.length
 obtain ⟨f1, rfl, a3⟩ := jio h39 h16 h40 hz hl z.length 0 _ (U8s (nb z.length)) R hE (by omega) (by rw [U8s, XD]; omega) (by rfl) (by rfl) (by rfl)
 rw [List.drop_zero] at a3
 simp only [a3, wb, zV, zS, zD, simprocAttr]
theorem jcg (h : F 18 = some jhq) (h14 : F 14 = some jdG) (h39 : F 39 = some jab) (h16 : F 16 = some Zc) (h40 : F 40 = some yX) {n : Int} (hn : i64 n) {bs : List Nat} (hb : bs.length = 8) (σ : List IObj) : cfw F (.f 18) [.agg (I n :: bs.map B)] σ = some ⟨false, .str (zb n ++ U8s bs), σ, []⟩ := by
 rw [jj jhq h, callI]
 have p1 := fun σ => JE h14 h39 h16 h40 hn σ
 have zl := ya n
 match bs, hb with
 | [a0, a1, a2, a3, a4, a5, a6, a7], _ =>
   have q1 : (zb n).length + 8 <= 1099511627776 := by omega
   have tb := toB [a0, a1, a2, a3, a4, a5, a6, a7]
   simp only [rU, List.map_nil] at tb
   simp only [jhq, jd, p1, q1, tb, XM, tZ, tD, zV, zS, zD, simprocAttr]
end Go.Idl.Sb
namespace Go.Idl.Sb
open Go Go.Idl Go.Idl.En
variable {F : jn}
def nr (n : Int) : Bool := decide (-1152921504606846976 <= n) && decide (n <= 1152921504606846976)
abbrev vp (z : Int × Int × Bool) : List Int := [z.1, z.2.1]
set_option maxHeartbeats 2000000 in
theorem jgn {cs : List IVal} {rr r : Bool} {o : Nat} {z : List (Int × Int × Bool)} {σ : List IObj} (c16 : cs[16]? = some (.sl o r (z.map Ra))) (hl : z.length < 1000) : ∀ (d i : Nat) (f0 : Nat -> Option (Nat × IVal)) (xs : List Int) (r' : Bool) (R : Option (IExit × St)),
   evw F (.loop Jr) ⟨E 7 27 6 [] (base f0), σ, []⟩ = R -> i + d = z.length -> (!xs.isEmpty && r') = false -> xs.length + 2 * d < 100000 -> f0 1 = some (1, .pv rr cs 0) -> f0 4 = some (4, .sl 1 r' (xs.map I)) -> f0 5 = some (5, I i) ->
   ∃ f1 r'', R = some (.exit 0, ⟨E 7 27 6 [] (base f1), σ, []⟩) /\ f1 4 = some (4, .sl 1 r'' ((xs ++ (z.drop i).flatMap vp).map I)) /\ f1 3 = f0 3 := by
 intro d
 induction d with
 | zero =>
   intro i f0 xs r' R hE hi hr hx e1 e4 e5
   have l0 : decide ((i : Int) < (z.length : Int)) = false := rH (by omega)
   rw [jc] at hE
   subst hE
   simp only [Jr, jd, c16, e1, e4, e5, l0, zV, zS, zD, simprocAttr]
   rw [tV (by omega), List.flatMap_nil, rP]
   exact ⟨_, _, rfl, (by first | exact e4 | rfl), (by rfl)⟩
 | succ d ih =>
   intro i f0 xs r' R hE hi hr hx e1 e4 e5
   have l0 : decide ((i : Int) < (z.length : Int)) = true := rE (by omega)
   have hi2 : i < z.length := by omega
   have g1 : z[i]? = some z[i] := rJ hi2
   have d1 : (0 : Int) <= (i : Int) := by omega
   have w1 := kM (n := i) (by omega)
   have q1 : (xs.length + 2) * 8 <= 1099511627776 := by omega
   have q2 : xs.length + 2 <= 1099511627776 := by omega
   have q3 : (xs.map I).isEmpty = xs.isEmpty := by cases xs <;> rfl
   have q4 : JI 1 (xs.map I) = true := by cases xs <;> rfl
   have ex : ∀ a b : Int, ext [I a, I b] = false := fun _ _ => rfl
   rw [jc] at hE
   simp only [Jr, jd, c16, e1, e4, e5, l0, g1, d1, w1, q1, q2, q3, q4, hr, ex, rL, zV, zS, zD, simprocAttr] at hE
   have e : (z.drop i).flatMap vp = vp z[i] ++ (z.drop (i + 1)).flatMap vp := by rw [tA hi2, rR]
   have em : xs.map I ++ [IVal.int .i64 z[i].1, .int .i64 z[i].2.1] = (xs ++ vp z[i]).map I := by rw [List.map_append]; rfl
   rw [e, <- rO]
   obtain ⟨f1, r'', h1, h2, h3⟩ := ih (i + 1) _ (xs ++ vp z[i]) false R hE (by omega) (Bool.and_false _) (by simp; omega) (by first | exact e1 | rfl) (by rw [<- em]; exact (by rfl)) (by rfl)
   exact ⟨f1, r'', h1, h2, by rw [h3]; rfl⟩
theorem jgo (h38 : F 38 = some jc0) {xs : List Int} {e : Nat} {r : Bool} {σ : List IObj} (hl : xs.length < 100000) : ∀ (d i : Nat) (f0 : Nat -> Option (Nat × IVal)) (b : Bool) (R : Option (IExit × St)),
   evw F (.loop zh) ⟨E 7 27 6 [] (base f0), σ, []⟩ = R -> i + d = xs.length -> f0 3 = some (3, .bool b) -> f0 4 = some (4, .sl e r (xs.map I)) -> f0 6 = some (6, I i) ->
   ∃ f1, R = some (.exit 2, ⟨E 7 27 6 [] (base f1), σ, []⟩) /\ f1 3 = some (3, .bool (b && (xs.drop i).all nr)) := by
 intro d
 induction d with
 | zero =>
   intro i f0 b R hE hi e3 e4 e6
   have l0 : decide ((i : Int) < (xs.length : Int)) = false := rH (by omega)
   rw [jc] at hE
   subst hE
   simp only [zh, e3, e4, e6, l0, zV, zS, zD, simprocAttr]
   rw [tV (by omega), List.all_nil, Bool.and_true]
   exact ⟨_, rfl, (by first | exact e3 | rfl)⟩
 | succ d ih =>
   intro i f0 b R hE hi e3 e4 e6
   have l0 : decide ((i : Int) < (xs.length : Int)) = true := rE (by omega)
   have hi2 : i < xs.length := by omega
   have g1 : xs[i]? = some xs[i] := rJ hi2
   have d1 : (0 : Int) <= (i : Int) := by omega
   have w1 := kM (n := i) (by omega)
   have p1 : ∀ σ, cfw F (.f 38) [I xs[i]] σ = some ⟨false, .bool (nr xs[i]), σ, []⟩ := fun σ => jiM h38 xs[i] σ
   rw [jc] at hE
   rw [tA hi2, tN, <- Bool.and_assoc]
   cases b
   . simp only [zh, jd, e3, e4, e6, l0, g1, d1, w1, rL, zV, zS, zD, simprocAttr] at hE
     exact ih (i + 1) _ false R hE (by omega) (by rfl) (by first | exact e4 | rfl) (by rfl)
   . simp only [zh, jd, e3, e4, e6, l0, g1, d1, w1, p1, rL, zV, zS, zD, simprocAttr] at hE
     exact ih (i + 1) _ (nr xs[i]) R hE (by omega) (by rfl) (by first | exact e4 | rfl) (by rfl)
end Go.Idl.Sb
namespace Go.Idl.Sb
open Go Go.Idl Go.Idl.En
variable {F : jn}
def iv : IVal -> Int
 | .int _ n => n
 | _ => 0
def bv : IVal -> Bool
 | .bool b => b
 | _ => false
abbrev N (cs : List IVal) (o : Nat) : Int := iv (jv cs o)
section
variable {cs : List IVal} {o : Nat}
theorem JW (hT : Ty lAll cs) (h : (K.pl, o) ∈ lAll) : cs[o]? = some (I (N cs o)) /\ i64 (N cs o) := by
 obtain ⟨v, hv, n, rfl, hn⟩ := hT _ h
 simp only [] at hv
 rw [N, jp hv]; exact ⟨hv, hn⟩
theorem jcQ (hT : Ty lAll cs) (h : (K.wd, o) ∈ lAll) : cs[o]? = some (J (N cs o)) /\ w3i (N cs o) := by
 obtain ⟨v, hv, n, rfl, hn⟩ := hT _ h
 simp only [] at hv
 rw [N, jp hv]; exact ⟨hv, hn⟩
theorem yR (hT : Ty lAll cs) (h : (K.byt, o) ∈ lAll) : cs[o]? = some (B (N cs o).toNat) /\ (N cs o).toNat < 256 := by
 obtain ⟨v, hv, n, rfl, hn⟩ := hT _ h
 simp only [] at hv
 rw [N, jp hv]; exact ⟨hv, hn⟩
theorem jkt (hT : Ty lAll cs) (h : (K.tr, o) ∈ lAll) : cs[o]? = some (.bool (bv (jv cs o))) := by
 obtain ⟨v, hv, n, rfl⟩ := hT _ h
 simp only [] at hv
 rw [jp hv]; exact hv
theorem jf2 (hT : Ty lAll cs) (h : (K.hf, o) ∈ lAll) : cs[o]? = some (.int .u16 (N cs o).toNat) /\ (N cs o).toNat < 65536 := by
 obtain ⟨v, hv, n, rfl, hn⟩ := hT _ h
 simp only [] at hv
 rw [N, jp hv]; exact ⟨hv, hn⟩
theorem jhv (hT : Ty lAll cs) (h : (K.nm, o) ∈ lAll) : cs[o]? = some (Q (N cs o).toNat) /\ (N cs o).toNat < 18446744073709551616 := by
 obtain ⟨v, hv, n, rfl, hn⟩ := hT _ h
 simp only [] at hv
 rw [N, jp hv]; exact ⟨hv, hn⟩
end
theorem jft : ∀ z : List (Int × Int × Bool), (z.flatMap vp).length = 2 * z.length
 | [] => rfl
 | a :: l => by rw [rR, rI, jft l]; simp; omega
def plc (cs : List IVal) (z3 : List (Int × Int × Bool)) : List Int := [N cs 0, N cs 1, N cs 2, N cs 3, N cs 15, N cs 52, N cs 53, N cs 54, N cs 20, N cs 29] ++ z3.flatMap vp
def jiH (n : Nat) : Bool := decide (n < 1152921504606846976)
theorem jbK (n : Nat) : decide ((n : Int) < 1152921504606846976) = jiH n := by rw [jiH, decide_eq_decide]; omega
def Qi (cs : List IVal) (z3 : List (Int × Int × Bool)) : Bool := (decide (z3.length <= 8) && jiH (N cs 50).toNat && jiH (N cs 51).toNat) && (plc cs z3).all nr
set_option maxHeartbeats 4000000 in
theorem jfD {K : Int} (h : F 13 = some (jdF K)) (h38 : F 38 = some jc0) {cs : List IVal} {σ : List IObj} (hn : cs.length = 55) (hc : cs.all IVal.isCell = true) (uu : cs.map un1 = cs) {e1 e2 e3 : Nat} {r1 r2 r3 : Bool} {z1 z2 : List Int} {z3 : List (Int × Int × Bool)}
   (c1 : cs[13]? = some (.sl e1 r1 (z1.map J))) (c2 : cs[14]? = some (.sl e2 r2 (z2.map J))) (c3 : cs[16]? = some (.sl e3 r3 (z3.map Ra))) (n1 : z1.length <= 512) (n2 : z2.length <= 8000) (n3 : z3.length < 100) (hT : Ty lAll cs) {b4 b5 : Bool} (t4 : decide (((N cs 50).toNat : Int) < K) = b4) (t5 : decide (((N cs 51).toNat : Int) < K) = b5) :
   cfw F (.f 13) [.agg cs] σ = some ⟨false, .bool ((decide (z3.length <= 8) && b4 && b5) && (plc cs z3).all nr), σ, []⟩ := by
 rw [jj (jdF K) h, callI]
 have a0 := (JW hT (o := 0) (by decide)).1
 have a1 := (JW hT (o := 1) (by decide)).1
 have a2 := (JW hT (o := 2) (by decide)).1
 have a3 := (JW hT (o := 3) (by decide)).1
 have a15 := (JW hT (o := 15) (by decide)).1
 have a52 := (JW hT (o := 52) (by decide)).1
 have a53 := (JW hT (o := 53) (by decide)).1
 have a54 := (JW hT (o := 54) (by decide)).1
 have a20 := (JW hT (o := 20) (by decide)).1
 have a29 := (JW hT (o := 29) (by decide)).1
 have a50 := (jhv hT (o := 50) (by decide)).1
 have a51 := (jhv hT (o := 51) (by decide)).1
 have d1 : decide ((z1.length : Int) <= 512) = true := rE (by omega)
 have d2 : decide ((z2.length : Int) <= 8000) = true := rE (by omega)
 have ex : ext [I (N cs 0), I (N cs 1), I (N cs 2), I (N cs 3), I (N cs 15), I (N cs 52), I (N cs 53), I (N cs 54), I (N cs 20), I (N cs 29)] = false := rfl
 have key : ∀ (f0 : Nat -> Option (Nat × IVal)) (b : Bool) (R : Option (IExit × St)) (rr : Bool), evw F (.loop Jr) ⟨E 7 27 6 [] (base f0), σ, []⟩ = R -> f0 1 = some (1, .pv rr cs 0) -> f0 3 = some (3, .bool b) -> f0 4 = some (4, .sl 1 false ([N cs 0, N cs 1, N cs 2, N cs 3, N cs 15, N cs 52, N cs 53, N cs 54, N cs 20, N cs 29].map I)) -> f0 5 = some (5, I (0 : Nat)) ->
     ∃ f1 r, R = some (.exit 0, ⟨E 7 27 6 [] (base f1), σ, []⟩) /\ f1 4 = some (4, .sl 1 r ((plc cs z3).map I)) /\ f1 3 = some (3, .bool b) := by
   intro f0 b R rr hE e1 e3 e4 e5
   obtain ⟨f1, r, h1, h2, h3⟩ := jgn c3 (by omega) z3.length 0 f0 _ false R hE (by omega) (Bool.and_false _) (by simp; omega) e1 e4 e5
   exact ⟨f1, r, h1, h2, by rw [h3]; exact e3⟩
 have key2 : ∀ (f0 : Nat -> Option (Nat × IVal)) (b : Bool) (R : Option (IExit × St)) (r : Bool), evw F (.loop zh) ⟨E 7 27 6 [] (base f0), σ, []⟩ = R -> f0 3 = some (3, .bool b) -> f0 4 = some (4, .sl 1 r ((plc cs z3).map I)) -> f0 6 = some (6, I (0 : Nat)) ->
     ∃ f1, R = some (.exit 2, ⟨E 7 27 6 [] (base f1), σ, []⟩) /\ f1 3 = some (3, .bool (b && (plc cs z3).all nr)) := by
   intro f0 b R r hE e3 e4 e6
   have hl : (plc cs z3).length < 100000 := by
     have := jft z3
     rw [plc, rI, this]; simp; omega
   exact jgo h38 hl _ 0 f0 b R hE (t7 _) e3 e4 e6
 have t3 : decide ((z3.length : Int) <= 8) = decide (z3.length <= 8) := by rw [decide_eq_decide]; omega
 generalize decide (z3.length <= 8) = b3 at *
 cases b3 <;> cases b4 <;> cases b5
 all_goals
   simp only [jdF, jd, cells_agg, uu, hc, hn, c1, c2, c3, a0, a1, a2, a3, a15, a52, a53, a54, a20, a29, a50, a51, d1, d2, t3, t4, t5, ex, zV, zS, zD, simprocAttr]
   generalize hE : evw F (ICode.loop Jr) _ = R
   obtain ⟨f1, r, rfl, b4, b3⟩ := key _ _ R _ hE (by rfl) (by rfl) (by rfl) (by rfl)
   simp only [b3, b4, zV, zS, zD, simprocAttr]
   generalize hE : evw F (ICode.loop zh) _ = R
   obtain ⟨f2, rfl, b3'⟩ := key2 _ _ R _ hE (by first | exact b3 | rfl) (by first | exact b4 | rfl) (by rfl)
   simp only [b3', zV, zS, zD, simprocAttr]
theorem jhL (h : F 13 = some jjn) (h38 : F 38 = some jc0) {cs : List IVal} {σ : List IObj} (hn : cs.length = 55) (hc : cs.all IVal.isCell = true) (uu : cs.map un1 = cs) {e1 e2 e3 : Nat} {r1 r2 r3 : Bool} {z1 z2 : List Int} {z3 : List (Int × Int × Bool)}
   (c1 : cs[13]? = some (.sl e1 r1 (z1.map J))) (c2 : cs[14]? = some (.sl e2 r2 (z2.map J))) (c3 : cs[16]? = some (.sl e3 r3 (z3.map Ra))) (n1 : z1.length <= 512) (n2 : z2.length <= 8000) (n3 : z3.length < 100) (hT : Ty lAll cs) :
   cfw F (.f 13) [.agg cs] σ = some ⟨false, .bool (Qi cs z3), σ, []⟩ := jfD h h38 hn hc uu c1 c2 c3 n1 n2 n3 hT (jbK _) (jbK _)
end Go.Idl.Sb
namespace Go.Idl.Sb
open Go Go.Idl Go.Idl.En
variable {F : jn}
theorem jiB (h14 : F 14 = some jdG) (h39 : F 39 = some jab) (h16 : F 16 = some Zc) (h40 : F 40 = some yX) {a : Nat} {cs : List IVal} {σ : List IObj} (ha : σ[a]? = some (.cells cs)) (hT : Ty lAll cs) : ∀ (d i : Nat) (f0 : Nat -> Option (Nat × IVal)) (out : List UInt8) (R : Option (IExit × St)),
   evw F (.loop VX) ⟨E 8 37 6 [] (base f0), σ, []⟩ = R -> i + d = 8 -> out.length + 8 * d < 1000000000 -> f0 1 = some (1, .ptr a 0) -> f0 3 = some (3, .str out) -> f0 4 = some (4, I i) ->
   ∃ f1, R = some (.exit 0, ⟨E 8 37 6 [] (base f1), σ, []⟩) /\ f1 3 = some (3, .str (out ++ (List.range' (5 + i) d).flatMap fun o => zb (N cs o))) /\ f1 1 = some (1, .ptr a 0) := by
 intro d
 induction d with
 | zero =>
   intro i f0 out R hE hi ho e1 e3 e4
   have l0 : decide ((i : Int) < 8) = false := rH (by omega)
   rw [jc] at hE
   subst hE
   simp only [VX, e1, e3, e4, l0, zV, zS, zD, simprocAttr]
   rw [List.range'_zero, List.flatMap_nil, rP]
   exact ⟨_, rfl, (by first | exact e3 | rfl), (by first | exact e1 | rfl)⟩
 | succ d ih =>
   intro i f0 out R hE hi ho e1 e3 e4
   have l0 : decide ((i : Int) < 8) = true := rE (by omega)
   have l1 : (i : Int) < ((8 : Nat) : Int) := by omega
   have l1' : (i : Int) < 8 := by omega
   have d1 : (0 : Int) <= (i : Int) := by omega
   have w1 := kM (n := i) (by omega)
   obtain ⟨c1, c2⟩ := jcQ hT (o := 5 + i) ((by decide : ∀ i < 8, (K.wd, 5 + i) ∈ lAll) i (by omega))
   generalize hN : N cs (5 + i) = n at *
   have w2 : IntKind.i64.wrap n = n := jP (by omega) (by omega)
   have p1 := fun σ => JE h14 h39 h16 h40 (n := n) ⟨by omega, by omega⟩ σ
   have zl := ya n
   have q1 : out.length + (zb n).length <= 1099511627776 := by omega
   rw [jc] at hE
   simp only [VX, jd, ha, c1, e1, e3, e4, l0, l1, l1', d1, w1, w2, p1, q1, XM, rL, zV, zS, zD, simprocAttr] at hE
   have e : (List.range' (5 + i) (d + 1)).flatMap (fun o => zb (N cs o)) = zb n ++ (List.range' (5 + (i + 1)) d).flatMap (fun o => zb (N cs o)) := by rw [List.range'_succ, rR, hN]; rfl
   rw [e, <- rO]
   exact ih (i + 1) _ (out ++ zb n) R hE (by omega) (by rw [rI]; omega) (by first | exact e1 | rfl) (by rfl) (by rfl)
def tb (b : Bool) : Nat := if b then 1 else 0
def rb (z : Int × Int × Bool) : List UInt8 := zb z.1 ++ (zb z.2.1 ++ [UInt8.ofNat (tb z.2.2)])
theorem jiC (h14 : F 14 = some jdG) (h17 : F 17 = some jf6) (h39 : F 39 = some jab) (h16 : F 16 = some Zc) (h40 : F 40 = some yX) {a o : Nat} {r : Bool} {cs : List IVal} {z : List (Int × Int × Bool)} {σ : List IObj} (ha : σ[a]? = some (.cells cs)) (c16 : cs[16]? = some (.sl o r (z.map Ra))) (hz : ∀ q ∈ z, r64 q) (hl : z.length < 1000) : ∀ (d i : Nat) (f0 : Nat -> Option (Nat × IVal)) (out : List UInt8) (R : Option (IExit × St)),
   evw F (.loop VY) ⟨E 8 37 6 [] (base f0), σ, []⟩ = R -> i + d = z.length -> out.length + 17 * d < 1000000000 -> f0 1 = some (1, .ptr a 0) -> f0 3 = some (3, .str out) -> f0 5 = some (5, I i) ->
   ∃ f1, R = some (.exit 2, ⟨E 8 37 6 [] (base f1), σ, []⟩) /\ f1 3 = some (3, .str (out ++ (z.drop i).flatMap rb)) /\ f1 1 = some (1, .ptr a 0) := by
 intro d
 induction d with
 | zero =>
   intro i f0 out R hE hi ho e1 e3 e5
   have l0 : decide ((i : Int) < (z.length : Int)) = false := rH (by omega)
   rw [jc] at hE
   subst hE
   simp only [VY, jd, ha, c16, e1, e3, e5, l0, zV, zS, zD, simprocAttr]
   rw [tV (by omega), List.flatMap_nil, rP]
   exact ⟨_, rfl, (by first | exact e3 | rfl), (by first | exact e1 | rfl)⟩
 | succ d ih =>
   intro i f0 out R hE hi ho e1 e3 e5
   have l0 : decide ((i : Int) < (z.length : Int)) = true := rE (by omega)
   have hi2 : i < z.length := by omega
   have g1 : z[i]? = some z[i] := rJ hi2
   have d1 : (0 : Int) <= (i : Int) := by omega
   have w1 := kM (n := i) (by omega)
   obtain ⟨h1, h2⟩ := hz z[i] (List.getElem_mem hi2)
   have p1 := fun σ => JE h14 h39 h16 h40 h1 σ
   have p2 := fun σ => JE h14 h39 h16 h40 h2 σ
   have p3 : ∀ b σ, cfw F (.f 17) [.bool b] σ = some ⟨false, .str [UInt8.ofNat (tb b)], σ, []⟩ := fun b σ => by
     rw [jaP h17 b σ]; cases b <;> rfl
   have zl := ya z[i].1
   have zm := ya z[i].2.1
   have q1 : out.length + (zb z[i].1).length <= 1099511627776 := by omega
   have q2 : out.length + (zb z[i].1).length + (zb z[i].2.1).length <= 1099511627776 := by omega
   have la := rE (ja ha)
   have q3 : out.length + ((zb z[i].1).length + (zb z[i].2.1).length) + 1 <= 1099511627776 := by omega
   rw [jc] at hE
   simp only [VY, jd, ha, la, c16, e1, e3, e5, l0, g1, d1, w1, p1, p2, p3, q1, q2, q3, XM, rL, zV, zS, zD, simprocAttr] at hE
   have e : (z.drop i).flatMap rb = rb z[i] ++ (z.drop (i + 1)).flatMap rb := by rw [tA hi2, rR]
   rw [e, <- rO]
   have er : (rb z[i]).length <= 17 := by rw [rb]; simp; omega
   exact ih (i + 1) _ (out ++ rb z[i]) R hE (by omega) (by rw [rI]; omega) (by first | exact e1 | rfl) (by rfl) (by rfl)
def hb (cs : List IVal) (o : Nat) : List UInt8 := U8s (nb (N cs o).toNat)
theorem jdE (cs : List IVal) (o : Nat) : (hb cs o).length <= 8 := by rw [hb, U8s, XD]; exact KC _
theorem jiD (h16 : F 16 = some Zc) (h40 : F 40 = some yX) {b : Nat} {cs bs : List IVal} {σ : List IObj} (hb' : σ[b]? = some (.cells bs)) (hT : Ty lAll cs) (hbs : ∀ o, o < 32 -> bs[o]? = cs[17 + o]?) : ∀ (d i : Nat) (f0 : Nat -> Option (Nat × IVal)) (out : List UInt8) (v1 : IVal) (R : Option (IExit × St)) (wr : List (Nat × Bool)),
   evw F (.loop VZ) ⟨E 8 37 6 [] (base f0), σ, wr⟩ = R -> i + d = 2 -> out.length + 24 * d < 1000000000 -> f0 1 = some (1, v1) -> f0 6 = some (6, .ptr b 0) -> f0 3 = some (3, .str out) -> f0 7 = some (7, I i) ->
   ∃ f1, R = some (.exit 4, ⟨E 8 37 6 [] (base f1), σ, wr⟩) /\ f1 3 = some (3, .str (out ++ (List.range' (3 * i) (3 * d)).flatMap fun o => hb cs (41 + o))) /\ f1 1 = some (1, v1) /\ f1 6 = some (6, .ptr b 0) := by
 intro d
 induction d with
 | zero =>
   intro i f0 out v1 R wr hE hi ho e1 e6 e3 e7
   have l0 : decide ((i : Int) < 2) = false := rH (by omega)
   rw [jc] at hE
   subst hE
   simp only [VZ, e1, e3, e6, e7, l0, zV, zS, zD, simprocAttr]
   rw [List.range'_zero, List.flatMap_nil, rP]
   exact ⟨_, rfl, (by first | exact e3 | rfl), (by first | exact e1 | rfl), (by first | exact e6 | rfl)⟩
 | succ d ih =>
   intro i f0 out v1 R wr hE hi ho e1 e6 e3 e7
   have l0 : decide ((i : Int) < 2) = true := rE (by omega)
   have l1 : (i : Int) < 2 := by omega
   have d1 : (0 : Int) <= (i : Int) := by omega
   have w1 := kM (n := i) (by omega)
   have cell : ∀ j, j < 3 -> bs[24 + i * 3 + j]? = some (.int .u16 (N cs (41 + (3 * i + j))).toNat) /\ (N cs (41 + (3 * i + j))).toNat < 65536 := by
     intro j hj
     have e : 17 + (24 + i * 3 + j) = 41 + (3 * i + j) := by omega
     rw [hbs _ (by omega), e]
     exact jf2 hT ((by decide : ∀ k < 6, (K.hf, 41 + k) ∈ lAll) (3 * i + j) (by omega))
   obtain ⟨c0, b0⟩ := cell 0 (by decide)
   obtain ⟨c1, b1⟩ := cell 1 (by decide)
   obtain ⟨c2, b2⟩ := cell 2 (by decide)
   rw [Nat.add_zero] at c0
   have pp : ∀ j, (N cs (41 + (3 * i + j))).toNat < 65536 -> ∀ σ, cfw F (.f 16) [Q (N cs (41 + (3 * i + j))).toNat] σ = some ⟨false, .str (hb cs (41 + (3 * i + j))), σ, []⟩ := by
     intro j hj σ
     rw [ZR h16 h40, Nat.mod_eq_of_lt (by omega)]; rfl
   have p0 := pp 0 b0
   have p1 := pp 1 b1
   have p2 := pp 2 b2
   have k0 : IntKind.u64.wrap ((N cs (41 + (3 * i + 0))).toNat : Int) = ((N cs (41 + (3 * i + 0))).toNat : Int) := jt (by omega) (by omega)
   have k1 : IntKind.u64.wrap ((N cs (41 + (3 * i + 1))).toNat : Int) = ((N cs (41 + (3 * i + 1))).toNat : Int) := jt (by omega) (by omega)
   have k2 : IntKind.u64.wrap ((N cs (41 + (3 * i + 2))).toNat : Int) = ((N cs (41 + (3 * i + 2))).toNat : Int) := jt (by omega) (by omega)
   have z0 := jdE cs (41 + (3 * i + 0))
   have z1 := jdE cs (41 + (3 * i + 1))
   have z2 := jdE cs (41 + (3 * i + 2))
   have e : (List.range' (3 * i) (3 * (d + 1))).flatMap (fun o => hb cs (41 + o)) = (hb cs (41 + (3 * i + 0)) ++ (hb cs (41 + (3 * i + 1)) ++ hb cs (41 + (3 * i + 2)))) ++ (List.range' (3 * (i + 1)) (3 * d)).flatMap (fun o => hb cs (41 + o)) := by
     have e1 : 3 * (d + 1) = 3 * d + 1 + 1 + 1 := by omega
     rw [e1, List.range'_succ, List.range'_succ, List.range'_succ]
     simp [rO, Nat.mul_add]
   rw [e, <- rO]
   generalize hs0 : hb cs (41 + (3 * i + 0)) = s0 at *
   generalize hs1 : hb cs (41 + (3 * i + 1)) = s1 at *
   generalize hs2 : hb cs (41 + (3 * i + 2)) = s2 at *
   generalize hn0 : (N cs (41 + (3 * i + 0))).toNat = n0 at *
   generalize hn1 : (N cs (41 + (3 * i + 1))).toNat = n1 at *
   generalize hn2 : (N cs (41 + (3 * i + 2))).toNat = n2 at *
   have la := rE (ja hb')
   have q0 : out.length + s0.length <= 1099511627776 := by omega
   have q1 : out.length + s0.length + s1.length <= 1099511627776 := by omega
   have q2 : out.length + (s0.length + s1.length) + s2.length <= 1099511627776 := by omega
   rw [jc] at hE
   simp only [VZ, jd, hb', la, c0, c1, c2, e1, e3, e6, e7, l0, l1, d1, w1, k0, k1, k2, p0, p1, p2, q0, q1, q2, XM, rL, zV, zS, zD, simprocAttr] at hE
   exact ih (i + 1) _ (out ++ (s0 ++ (s1 ++ s2))) v1 R wr hE (by omega) (by simp only [rI]; omega) (by first | exact e1 | rfl) (by first | exact e6 | rfl) (by rfl) (by rfl)
end Go.Idl.Sb
namespace Go.Idl.Sb
open Go Go.Idl Go.Idl.En
variable {F : jn}
theorem by3 (a b c : Nat) : j7 [B a, B b, B c] = some (U8s [a, b, c]) := toB [a, b, c]
theorem by2 (a b : Nat) : j7 [B a, B b] = some (U8s [a, b]) := toB [a, b]
def qb (cs : List IVal) (o : Nat) : List UInt8 := zb (N cs o) ++ U8s ((List.range' (o + 1) 8).map fun j => (N cs j).toNat)
def s1R (cs : List IVal) : List UInt8 := zb (N cs 0) ++ (zb (N cs 1) ++ (zb (N cs 2) ++ (zb (N cs 3) ++ zb (N cs 4))))
def s2R (cs : List IVal) : List UInt8 := s1R cs ++ (List.range' 5 8).flatMap fun o => zb (N cs o)
def s3R (cs : List IVal) (z1 z2 : List Int) (n3 : Nat) : List UInt8 := s2R cs ++ (wb z1 ++ (wb z2 ++ (zb (N cs 15) ++ U8s (nb n3))))
def s4R (cs : List IVal) (z1 z2 : List Int) (z3 : List (Int × Int × Bool)) : List UInt8 := s3R cs z1 z2 z3.length ++ z3.flatMap rb
def bt (cs : List IVal) (o : Nat) : Nat := (N cs o).toNat
def s5R (cs : List IVal) : List UInt8 := U8s [bt cs 17, bt cs 18, bt cs 19] ++ (qb cs 20 ++ (qb cs 29 ++ ([UInt8.ofNat (tb (bv (jv cs 38)))] ++ U8s [bt cs 39, bt cs 40])))
def s6R (cs : List IVal) : List UInt8 := (List.range' 0 6).flatMap fun o => hb cs (41 + o)
def mb (cs : List IVal) (o : Nat) : List UInt8 := U8s (nb ((N cs o).toNat % 4611686018427387904))
def s7R (cs : List IVal) : List UInt8 := U8s [bt cs 47, bt cs 48, bt cs 49] ++ (mb cs 50 ++ mb cs 51)
def s8R (cs : List IVal) : List UInt8 := zb (N cs 52) ++ (zb (N cs 53) ++ zb (N cs 54))
def jhw (cs : List IVal) (z1 z2 : List Int) (z3 : List (Int × Int × Bool)) : List UInt8 := s4R cs z1 z2 z3 ++ (s5R cs ++ (s6R cs ++ (s7R cs ++ s8R cs)))
theorem jjj {z : List Int} (h : z.length < 10000) : (wb z).length < 100000 := by
 have e : ∀ z : List Int, (z.flatMap zb).length <= 8 * z.length := by
   intro z
   induction z with
   | nil => exact rS _
   | cons a z ih =>
     have := ya a
     rw [rR, rI, tI]; omega
 have := e z
 have := KC z.length
 rw [wb, rI, U8s, XD]; omega
theorem QW {α : Type} (f : α -> List UInt8) (k : Nat) (h : ∀ a, (f a).length <= k) : ∀ l : List α, (l.flatMap f).length <= k * l.length
 | [] => by simp
 | a :: l => by
   have := h a
   have := QW f k h l
   rw [rR, rI, tI, Nat.mul_add]; omega
theorem jjK (z : Int × Int × Bool) : (rb z).length <= 17 := by
 have := ya z.1
 have := ya z.2.1
 rw [rb]; simp only [rI, tI, List.length_nil]; omega
theorem jiW (cs : List IVal) (o : Nat) : (qb cs o).length <= 16 := by
 have := ya (N cs o)
 rw [qb, rI, U8s, XD, XD, List.length_range']; omega
theorem jiI (cs : List IVal) (o : Nat) : (mb cs o).length <= 8 := by rw [mb, U8s, XD]; exact KC _
theorem jex {cs : List IVal} {o n : Nat} {f : Nat -> IVal} (h : ∀ i < n, cs[o + i]? = some (f i)) : (cs.drop o).take n = (List.range n).map f := by
 apply List.ext_getElem?
 intro i
 by_cases hi : i < n
 . rw [List.getElem?_take_of_lt hi, tH, h i hi, rM, List.getElem?_range hi]; rfl
 . rw [rY (by rw [tL]; omega), rY (by simp; omega)]
theorem q9 {cs : List IVal} {o : Nat} (hT : Ty lAll cs) (h0 : (K.pl, o) ∈ lAll) (h8 : ∀ i < 8, (K.byt, o + 1 + i) ∈ lAll) : (cs.drop o).take 9 = I (N cs o) :: (((List.range' (o + 1) 8).map fun j => (N cs j).toNat).map B) := by
 rw [jex (f := fun i => match i with | 0 => I (N cs o) | i + 1 => B (N cs (o + 1 + i)).toNat)]
 . rfl
 . intro i hi
   match i, hi with
   | 0, _ => exact (JW hT h0).1
   | i + 1, hi =>
     have e : o + (i + 1) = o + 1 + i := by omega
     rw [e]
     exact (yR hT (h8 i (by omega))).1
theorem jgU (cs : List IVal) : ∀ (n o : Nat), o + n <= cs.length -> putCells cs o ((cs.drop o).take n) = cs := by
 intro n
 induction n with
 | zero => intro o _; rfl
 | succ n ih =>
   intro o h
   have ho : o < cs.length := by omega
   rw [tA ho, tD, putCells, List.set_getElem_self]
   exact ih (o + 1) (by omega)
def Z32 : List IVal := [(.int .u8 0), (.int .u8 0), (.int .u8 0), (.int .i64 0), (.int .u8 0), (.int .u8 0), (.int .u8 0), (.int .u8 0), (.int .u8 0), (.int .u8 0), (.int .u8 0), (.int .u8 0), (.int .i64 0), (.int .u8 0), (.int .u8 0), (.int .u8 0), (.int .u8 0), (.int .u8 0), (.int .u8 0), (.int .u8 0), (.int .u8 0), (.bool false), (.int .u8 0), (.int .u8 0), (.int .u16 0), (.int .u16 0), (.int .u16 0), (.int .u16 0), (.int .u16 0), (.int .u16 0), (.int .u8 0), (.int .u8 0)]
set_option maxHeartbeats 8000000 in
theorem jfw (h : F 7 = some ir7) (h13 : F 13 = some jjn) (h38 : F 38 = some jc0) (h14 : F 14 = some jdG) (h15 : F 15 = some jhp) (h17 : F 17 = some jf6) (h18 : F 18 = some jhq) (h39 : F 39 = some jab) (h16 : F 16 = some Zc) (h40 : F 40 = some yX) {cs : List IVal} {σ : List IObj} (hn : cs.length = 55) (hc : cs.all IVal.isCell = true) (uu : cs.map un1 = cs) {r1 r2 r3 : Bool} {z1 z2 : List Int} {z3 : List (Int × Int × Bool)}
   (c1 : cs[13]? = some (.sl 0 r1 (z1.map J))) (c2 : cs[14]? = some (.sl 0 r2 (z2.map J))) (c3 : cs[16]? = some (.sl 0 r3 (z3.map Ra))) (n1 : z1.length <= 512) (n2 : z2.length <= 8000) (n3 : z3.length < 100) (hT : Ty lAll cs) (w1 : ∀ q ∈ z1, w3i q) (w2 : ∀ q ∈ z2, w3i q) (w3 : ∀ q ∈ z3, r64 q) :
   cfw F (.f 7) [.agg cs] σ = some ⟨false, .str (if Qi cs z3 then jhw cs z1 z2 z3 else []), σ, []⟩ := by
 rw [jj ir7 h, callI]
 have tt : ∀ σ, cfw F (.f 13) [.agg cs] σ = some ⟨false, .bool (Qi cs z3), σ, []⟩ := fun σ => jhL h13 h38 hn hc uu c1 c2 c3 n1 n2 n3 hT
 have pl : ∀ o, (K.pl, o) ∈ lAll -> cs[o]? = some (I (N cs o)) /\ ∀ σ, cfw F (.f 14) [I (N cs o)] σ = some ⟨false, .str (zb (N cs o)), σ, []⟩ := fun o ho => ⟨(JW hT ho).1, fun σ => JE h14 h39 h16 h40 (JW hT ho).2 σ⟩
 obtain ⟨a0, p0⟩ := pl 0 (by decide)
 obtain ⟨a1, p1⟩ := pl 1 (by decide)
 obtain ⟨a2, p2⟩ := pl 2 (by decide)
 obtain ⟨a3, p3⟩ := pl 3 (by decide)
 obtain ⟨a15, p15⟩ := pl 15 (by decide)
 obtain ⟨a52, p52⟩ := pl 52 (by decide)
 obtain ⟨a53, p53⟩ := pl 53 (by decide)
 obtain ⟨a54, p54⟩ := pl 54 (by decide)
 obtain ⟨a4, b4⟩ := jcQ hT (o := 4) (by decide)
 have k4 : IntKind.i64.wrap (N cs 4) = N cs 4 := jP (by omega) (by omega)
 have p4 : ∀ σ, cfw F (.f 14) [I (N cs 4)] σ = some ⟨false, .str (zb (N cs 4)), σ, []⟩ := fun σ => JE h14 h39 h16 h40 ⟨by omega, by omega⟩ σ
 have W1 : ∀ σ, cfw F (.f 15) [.sl 0 r1 (z1.map J)] σ = some ⟨false, .str (wb z1), σ, []⟩ := fun σ => jcT h15 h39 h16 h40 w1 (by omega) σ
 have W2 : ∀ σ, cfw F (.f 15) [.sl 0 r2 (z2.map J)] σ = some ⟨false, .str (wb z2), σ, []⟩ := fun σ => jcT h15 h39 h16 h40 w2 (by omega) σ
 have W3 : ∀ σ, cfw F (.f 16) [Q z3.length] σ = some ⟨false, .str (U8s (nb z3.length)), σ, []⟩ := fun σ => by
   rw [ZR h16 h40, Nat.mod_eq_of_lt (by omega)]
 have k3 : IntKind.u64.wrap (z3.length : Int) = (z3.length : Int) := jt (by omega) (by omega)
 have r3 : cs.take 55 = cs := rX (by omega)
 have r3 : cs.take 55 = cs := rX (by omega)
 cases ht : Qi cs z3
 . simp only [ir7, jd, cells_agg, uu, hc, hn, r3, tt, ht, zV, zS, zD, simprocAttr]
 . rw [show jhw cs z1 z2 z3 = s4R cs z1 z2 z3 ++ (s5R cs ++ (s6R cs ++ (s7R cs ++ s8R cs))) from rfl]
   have L0 := ya (N cs 0)
   have L1 := ya (N cs 1)
   have L2 := ya (N cs 2)
   have L3 := ya (N cs 3)
   have L4 := ya (N cs 4)
   have S1 : zb (N cs 0) ++ (zb (N cs 1) ++ (zb (N cs 2) ++ (zb (N cs 3) ++ zb (N cs 4)))) = s1R cs := rfl
   generalize hs0 : zb (N cs 0) = s0 at *
   generalize hs1 : zb (N cs 1) = s1 at *
   generalize hs2 : zb (N cs 2) = s2 at *
   generalize hs3 : zb (N cs 3) = s3 at *
   generalize hs4 : zb (N cs 4) = s4 at *
   have qa1 : s0.length + s1.length <= 1099511627776 := by omega
   have qa2 : s0.length + s1.length + s2.length <= 1099511627776 := by omega
   have qa3 : s0.length + (s1.length + s2.length) + s3.length <= 1099511627776 := by omega
   have qa4 : s0.length + (s1.length + (s2.length + s3.length)) + s4.length <= 1099511627776 := by omega
   have S1l : (s1R cs).length <= 40 := by rw [<- S1]; simp only [rI]; omega
   simp only [ir7, jd, cells_agg, uu, hc, hn, r3, tt, ht, a0, a1, a2, a3, a4, k4, p0, p1, p2, p3, p4, qa1, qa2, qa3, qa4, S1, XM, zV, zS, zD, simprocAttr]
   generalize hE : evw F (ICode.loop VX) _ = R
   obtain ⟨f1, rfl, b3, b1⟩ := jiB h14 h39 h16 h40 (get_app0 (σ := σ) (l := [IObj.cells cs])) hT 8 0 _ (s1R cs) R hE (by omega) (by omega) (by rfl) (by rfl) (by rfl)
   have S2 : s1R cs ++ (List.range' (5 + 0) 8).flatMap (fun o => zb (N cs o)) = s2R cs := rfl
   rw [S2] at b3
   have S2l : (s2R cs).length <= 1000 := by
     have := QW (fun o => zb (N cs o)) 8 (fun o => ya _) (List.range' 5 8)
     rw [List.length_range'] at this
     rw [s2R, rI]; omega
   have X1 := jjj (z := z1) (by omega)
   have X2 := jjj (z := z2) (by omega)
   have X3 := ya (N cs 15)
   have X4 : (U8s (nb z3.length)).length <= 8 := by rw [U8s, XD]; exact KC _
   have S3 : s2R cs ++ (wb z1 ++ (wb z2 ++ (zb (N cs 15) ++ U8s (nb z3.length)))) = s3R cs z1 z2 z3.length := rfl
   generalize hx1 : wb z1 = x1 at *
   generalize hx2 : wb z2 = x2 at *
   generalize hx3 : zb (N cs 15) = x3 at *
   generalize hx4 : U8s (nb z3.length) = x4 at *
   generalize ho2 : s2R cs = o2 at *
   have qb1 : o2.length + x1.length <= 1099511627776 := by omega
   have qb2 : o2.length + x1.length + x2.length <= 1099511627776 := by omega
   have qb3 : o2.length + (x1.length + x2.length) + x3.length <= 1099511627776 := by omega
   have qb4 : o2.length + (x1.length + (x2.length + x3.length)) + x4.length <= 1099511627776 := by omega
   have S3l : (s3R cs z1 z2 z3.length).length <= 300000 := by rw [<- S3]; simp only [rI]; omega
   simp only [jd, b1, b3, c1, c2, c3, a15, k3, W1, W2, W3, p15, qb1, qb2, qb3, qb4, S3, XM, zV, zS, zD, simprocAttr]
   generalize hE : evw F (ICode.loop VY) _ = R
   obtain ⟨f2, rfl, d3, d1⟩ := jiC h14 h17 h39 h16 h40 (get_app0 (σ := σ) (l := [IObj.cells cs])) c3 w3 (by omega) z3.length 0 _ (s3R cs z1 z2 z3.length) R hE (by omega) (by omega) (by first | exact b1 | rfl) (by rfl) (by rfl)
   have S4 : s3R cs z1 z2 z3.length ++ (z3.drop 0).flatMap rb = s4R cs z1 z2 z3 := rfl
   rw [S4] at d3
   have S4l : (s4R cs z1 z2 z3).length <= 400000 := by
     have := QW rb 17 jjK z3
     rw [s4R, rI]; omega
   have bl : ((cs.drop 17).take 32).length = 32 := by rw [tL, List.length_drop]; omega
   have bg : ∀ o, o < 32 -> ((cs.drop 17).take 32)[o]? = cs[17 + o]? := fun o ho => by rw [List.getElem?_take_of_lt ho, tH]
   have bu : ((cs.drop 17).take 32).map un1 = (cs.drop 17).take 32 := YR uu
   have bc : ((cs.drop 17).take 32).all IVal.isCell = true := by
     rw [rG] at hc ⊢
     exact fun v hv => hc v (tM (tG hv))
   have q20 : (((cs.drop 17).take 32).drop 3).take 9 = (cs.drop 20).take 9 := by rw [List.drop_take, List.drop_drop, List.take_take]; rfl
   have q29 : (((cs.drop 17).take 32).drop 12).take 9 = (cs.drop 29).take 9 := by rw [List.drop_take, List.drop_drop, List.take_take]; rfl
   have v20 : ((cs.drop 20).take 9).map un1 = (cs.drop 20).take 9 := YR uu
   have v29 : ((cs.drop 29).take 9).map un1 = (cs.drop 29).take 9 := YR uu
   have m20 : ((cs.drop 20).take 9).all IVal.isCell = true := by
     rw [rG] at hc ⊢
     exact fun v hv => hc v (tM (tG hv))
   have m29 : ((cs.drop 29).take 9).all IVal.isCell = true := by
     rw [rG] at hc ⊢
     exact fun v hv => hc v (tM (tG hv))
   have Q20 : ∀ σ, cfw F (.f 18) [.agg ((cs.drop 20).take 9)] σ = some ⟨false, .str (qb cs 20), σ, []⟩ := fun σ => by
     rw [q9 hT (by decide) (by decide)]
     exact jcg h18 h14 h39 h16 h40 (JW hT (by decide)).2 (by simp) σ
   have Q29 : ∀ σ, cfw F (.f 18) [.agg ((cs.drop 29).take 9)] σ = some ⟨false, .str (qb cs 29), σ, []⟩ := fun σ => by
     rw [q9 hT (by decide) (by decide)]
     exact jcg h18 h14 h39 h16 h40 (JW hT (by decide)).2 (by simp) σ
   generalize (cs.drop 20).take 9 = w20 at *
   generalize (cs.drop 29).take 9 = w29 at *
   have po : putCells cs 17 ((cs.drop 17).take 32) = cs := jgU cs 32 17 (by omega)
   generalize hbk : (cs.drop 17).take 32 = bk at *
   have g0 : bk[0]? = some (B (bt cs 17)) := (bg 0 (by decide)).trans (yR hT (by decide)).1
   have g1 : bk[1]? = some (B (bt cs 18)) := (bg 1 (by decide)).trans (yR hT (by decide)).1
   have g2 : bk[2]? = some (B (bt cs 19)) := (bg 2 (by decide)).trans (yR hT (by decide)).1
   have g21 : bk[21]? = some (.bool (bv (jv cs 38))) := (bg 21 (by decide)).trans (jkt hT (by decide))
   have g22 : bk[22]? = some (B (bt cs 39)) := (bg 22 (by decide)).trans (yR hT (by decide)).1
   have g23 : bk[23]? = some (B (bt cs 40)) := (bg 23 (by decide)).trans (yR hT (by decide)).1
   have g30 : bk[30]? = some (B (bt cs 47)) := (bg 30 (by decide)).trans (yR hT (by decide)).1
   have g31 : bk[31]? = some (B (bt cs 48)) := (bg 31 (by decide)).trans (yR hT (by decide)).1
   have a49 : cs[49]? = some (B (bt cs 49)) := (yR hT (by decide)).1
   have T38 : ∀ σ, cfw F (.f 17) [.bool (bv (jv cs 38))] σ = some ⟨false, .str [UInt8.ofNat (tb (bv (jv cs 38)))], σ, []⟩ := fun σ => by
     rw [jaP h17 _ σ]; cases bv (jv cs 38) <;> rfl
   have S5 : U8s [bt cs 17, bt cs 18, bt cs 19] ++ (qb cs 20 ++ (qb cs 29 ++ ([UInt8.ofNat (tb (bv (jv cs 38)))] ++ U8s [bt cs 39, bt cs 40]))) = s5R cs := rfl
   have Y1 := by3 (bt cs 17) (bt cs 18) (bt cs 19)
   have Y5 := by2 (bt cs 39) (bt cs 40)
   have Y1l : (U8s [bt cs 17, bt cs 18, bt cs 19]).length = 3 := rfl
   have Y5l : (U8s [bt cs 39, bt cs 40]).length = 2 := rfl
   have Y4l : [UInt8.ofNat (tb (bv (jv cs 38)))].length = 1 := rfl
   have Y2l := jiW cs 20
   have Y3l := jiW cs 29
   generalize hy1 : U8s [bt cs 17, bt cs 18, bt cs 19] = y1 at *
   generalize hy2 : qb cs 20 = y2 at *
   generalize hy3 : qb cs 29 = y3 at *
   generalize hy4 : [UInt8.ofNat (tb (bv (jv cs 38)))] = y4 at *
   generalize hy5 : U8s [bt cs 39, bt cs 40] = y5 at *
   generalize ho4 : s4R cs z1 z2 z3 = o4 at *
   have qc1 : o4.length + y1.length <= 1099511627776 := by omega
   have qc2 : o4.length + y1.length + y2.length <= 1099511627776 := by omega
   have qc3 : o4.length + (y1.length + y2.length) + y3.length <= 1099511627776 := by omega
   have qc4 : o4.length + (y1.length + (y2.length + y3.length)) + y4.length <= 1099511627776 := by omega
   have qc5 : o4.length + (y1.length + (y2.length + (y3.length + y4.length))) + y5.length <= 1099511627776 := by omega
   have S5l : (o4 ++ s5R cs).length <= 500000 := by rw [<- S5]; simp only [rI]; omega
   have pk : ∀ c, c = Z32 -> putCells c 0 bk = bk := fun c hcz => Yp (by rw [hcz, bl]; rfl)
   simp only [Z32, forall_eq] at pk
   simp only [jd, d1, d3, hn, hbk, bl, bu, bc, pk, po, q20, q29, v20, v29, m20, m29, Q20, Q29, T38, g0, g1, g2, g21, g22, g23, Y1, Y5, qc1, qc2, qc3, qc4, qc5, S5, XM, zV, zS, zD, simprocAttr]
   generalize hE : evw F (ICode.loop VZ) _ = R
   obtain ⟨f3, rfl, e3, e1, e6⟩ := jiD h16 h40 (get_app (σ := σ) (l := [IObj.cells cs, .cells bk]) 1) hT bg 2 0 _ (o4 ++ s5R cs) _ R _ hE (by omega) (by omega) (by first | exact d1 | rfl) (by rfl) (by rfl) (by rfl)
   have S6 : o4 ++ s5R cs ++ (List.range' (3 * 0) (3 * 2)).flatMap (fun o => hb cs (41 + o)) = o4 ++ (s5R cs ++ s6R cs) := by rw [rO]; rfl
   rw [S6] at e3
   have S6l : (o4 ++ (s5R cs ++ s6R cs)).length <= 600000 := by
     have := QW (fun o => hb cs (41 + o)) 8 (fun o => jdE _ _) (List.range' 0 6)
     rw [List.length_range'] at this
     rw [<- rO, rI, s6R]; omega
   have M50 : ∀ σ, cfw F (.f 16) [Q (N cs 50).toNat] σ = some ⟨false, .str (mb cs 50), σ, []⟩ := fun σ => ZR h16 h40 _ σ
   have M51 : ∀ σ, cfw F (.f 16) [Q (N cs 51).toNat] σ = some ⟨false, .str (mb cs 51), σ, []⟩ := fun σ => ZR h16 h40 _ σ
   have a50 := (jhv hT (o := 50) (by decide)).1
   have a51 := (jhv hT (o := 51) (by decide)).1
   have S7 : U8s [bt cs 47, bt cs 48, bt cs 49] ++ (mb cs 50 ++ mb cs 51) = s7R cs := rfl
   have S8 : zb (N cs 52) ++ (zb (N cs 53) ++ zb (N cs 54)) = s8R cs := rfl
   have U1 := by3 (bt cs 47) (bt cs 48) (bt cs 49)
   have U1l : (U8s [bt cs 47, bt cs 48, bt cs 49]).length = 3 := rfl
   have U2l := jiI cs 50
   have U3l := jiI cs 51
   have U4l := ya (N cs 52)
   have U5l := ya (N cs 53)
   have U6l := ya (N cs 54)
   generalize ho6 : o4 ++ (s5R cs ++ s6R cs) = o6 at *
   generalize hu1 : U8s [bt cs 47, bt cs 48, bt cs 49] = u1 at *
   generalize hu2 : mb cs 50 = u2 at *
   generalize hu3 : mb cs 51 = u3 at *
   generalize hu4 : zb (N cs 52) = u4 at *
   generalize hu5 : zb (N cs 53) = u5 at *
   generalize hu6 : zb (N cs 54) = u6 at *
   have qd1 : o6.length + u1.length <= 1099511627776 := by omega
   have qd2 : o6.length + u1.length + u2.length <= 1099511627776 := by omega
   have qd3 : o6.length + (u1.length + u2.length) + u3.length <= 1099511627776 := by omega
   have qd4 : o6.length + (u1.length + (u2.length + u3.length)) + u4.length <= 1099511627776 := by omega
   have qd5 : o6.length + (u1.length + (u2.length + (u3.length + u4.length))) + u5.length <= 1099511627776 := by omega
   have qd6 : o6.length + (u1.length + (u2.length + (u3.length + (u4.length + u5.length)))) + u6.length <= 1099511627776 := by omega
   have fin : o4 ++ (s5R cs ++ (s6R cs ++ (s7R cs ++ s8R cs))) = o6 ++ (u1 ++ (u2 ++ (u3 ++ (u4 ++ (u5 ++ u6))))) := by
     rw [<- S7, <- S8, <- ho6]; simp only [rO]
   rw [fin]
   simp only [jd, e1, e3, e6, a49, a50, a51, a52, a53, a54, g30, g31, U1, M50, M51, p52, p53, p54, qd1, qd2, qd3, qd4, qd5, qd6, XM, zV, zS, zD, simprocAttr]
end Go.Idl.Sb
namespace Go.Idl.Sb
open Go Go.Idl Go.Idl.En
variable {F : jn}
def fk : K -> IVal -> Bool
 | .pl, v => !nr (iv v)
 | .nm, v => !jiH (iv v).toNat
 | _, _ => false
def kb : K -> IVal -> List UInt8
 | .pl, v => zb (iv v)
 | .wd, v => zb (iv v)
 | .byt, v => [UInt8.ofNat (iv v).toNat]
 | .tr, v => [UInt8.ofNat (tb (bv v))]
 | .hf, v => U8s (nb (iv v).toNat)
 | .nm, v => U8s (nb ((iv v).toNat % 4611686018427387904))
theorem jiP (n : Int) : (decide (n < -1152921504606846976) || decide (n > 1152921504606846976)) = !nr n := by
 rw [nr, Bool.not_and, <- decide_not, <- decide_not]
 congr 1 <;> (rw [decide_eq_decide]; omega)
theorem jhd {x : Nat} {k : K} {l : (DL x).W} {v : IVal} (hv : k.ty v) : La.far (jO (DL x) k l v).1 = (La.far l || fk k v) /\ U8s (La.bs (jO (DL x) k l v).1) = U8s (La.bs l) ++ kb k v := by
 cases k with
 | pl =>
   obtain ⟨n, rfl, _⟩ := hv
   refine ⟨?_, yi _ _⟩
   show (La.far l || (decide (n < -1152921504606846976) || decide (n > 1152921504606846976))) = _
   rw [jiP]; rfl
 | wd =>
   obtain ⟨n, rfl, h1, h2⟩ := hv
   refine ⟨?_, yi _ _⟩
   show (La.far l || (decide (n < -2147483648) || decide (n > 2147483647))) = _
   rw [rH (by omega), rH (by omega)]; rfl
 | byt =>
   obtain ⟨n, rfl, _⟩ := hv
   exact ⟨(Bool.or_false _).symm, yi _ _⟩
 | tr =>
   obtain ⟨b, rfl⟩ := hv
   refine ⟨(Bool.or_false _).symm, (yi _ _).trans ?_⟩
   cases b <;> rfl
 | hf =>
   obtain ⟨n, rfl, hn⟩ := hv
   refine ⟨?_, (yi _ _).trans ?_⟩
   . show (La.far l || decide (((n : Int).toNat : Int) > ((65535 : Nat) : Int))) = _
     rw [rH (by omega)]; rfl
   . show U8s (La.bs l) ++ U8s (nb ((n : Int).toNat % 4611686018427387904)) = U8s (La.bs l) ++ U8s (nb (n : Int).toNat)
     rw [Nat.mod_eq_of_lt (by omega)]
 | nm =>
   obtain ⟨n, rfl, _⟩ := hv
   refine ⟨?_, yi _ _⟩
   show (La.far l || decide (((n : Int).toNat : Int) > ((1152921504606846975 : Nat) : Int))) = (La.far l || !jiH (n : Int).toNat)
   rw [jiH, <- decide_not]
   congr 1
   rw [decide_eq_decide]; omega
theorem Xi {x : Nat} : ∀ (L : List (K × Nat)) (l : (DL x).W) (cs : List IVal), Ty L cs -> La.far (jk (DL x) L l cs).1 = (La.far l || L.any fun q => fk q.1 (jv cs q.2)) /\ U8s (La.bs (jk (DL x) L l cs).1) = U8s (La.bs l) ++ L.flatMap fun q => kb q.1 (jv cs q.2)
 | [], l, cs, _ => ⟨(Bool.or_false _).symm, (rP _).symm⟩
 | (k, o) :: L, l, cs, hT => by
   obtain ⟨v, ho, hv⟩ := hT _ rT
   simp only [] at ho hv
   have e1 := Yc (x := x) (l := l) hv
   have u : jk (DL x) ((k, o) :: L) l cs = jk (DL x) L (jO (DL x) k l v).1 cs := by rw [jk, jp ho, e1, za ho]
   obtain ⟨a1, a2⟩ := jhd (x := x) (l := l) hv
   obtain ⟨b1, b2⟩ := Xi (x := x) L (jO (DL x) k l v).1 cs (fun q hq => hT q (rN _ hq))
   rw [u, b1, b2, a1, a2, List.any_cons, rR, jp ho, Bool.or_assoc, rO]
   exact ⟨rfl, rfl⟩
theorem Yb : ∀ (zs : List Int) (l : La), (∀ z ∈ zs, w3i z) -> (Qd l zs).far = l.far /\ U8s (Qd l zs).bs = U8s l.bs ++ zs.flatMap zb
 | [], l, _ => ⟨rfl, (rP _).symm⟩
 | z :: zs, l, h => by
   obtain ⟨b1, b2⟩ := Yb zs (l.whole z (-2147483648) 2147483647) (fun u hu => h u (rN _ hu))
   have hz : w3i z := h z rT
   rw [Qd, b1, b2, rR, <- rO]
   refine ⟨?_, congrArg (· ++ _) (yi _ _)⟩
   show (l.far || (decide (z < -2147483648) || decide (z > 2147483647))) = l.far
   rw [rH (by omega), rH (by omega)]; exact Bool.or_false _
theorem jbA {x : Nat} : ∀ (zs : List (Int × Int × Bool)) (l : (DL x).W), (∀ z ∈ zs, r64 z) -> La.far (Ya x l zs) = (La.far l || zs.any fun z => !nr z.1 || !nr z.2.1) /\ U8s (La.bs (Ya x l zs)) = U8s (La.bs l) ++ zs.flatMap rb
 | [], l, _ => ⟨(Bool.or_false _).symm, (rP _).symm⟩
 | z :: zs, l, h => by
   obtain ⟨a1, a2⟩ := Xi (x := x) (kT 0) l (Rc z) (jfC (h z rT))
   obtain ⟨b1, b2⟩ := jbA (x := x) zs (jk (DL x) (kT 0) l (Rc z)).1 (fun u hu => h u (rN _ hu))
   have e1 : ((kT 0).any fun q => fk q.1 (jv (Rc z) q.2)) = (!nr z.1 || !nr z.2.1) := by
     show (!nr z.1 || (!nr z.2.1 || (false || false))) = _
     simp
   have e2 : ((kT 0).flatMap fun q => kb q.1 (jv (Rc z) q.2)) = rb z := by
     show zb z.1 ++ (zb z.2.1 ++ ([UInt8.ofNat (tb z.2.2)] ++ [])) = rb z
     rw [rb]; rfl
   exact ⟨by rw [Ya, b1, a1, e1, List.any_cons, Bool.or_assoc, Bool.or_assoc], by rw [Ya, b2, a2, e2, rR, rO]⟩
theorem Zp (l : La) {n m : Nat} (h : n < 4611686018427387904) : (l.number n m).far = (l.far || !decide (n <= m)) /\ U8s (l.number n m).bs = U8s l.bs ++ U8s (nb n) := by
 refine ⟨?_, ?_⟩
 . show (l.far || decide ((n : Int) > m)) = _
   rw [<- decide_not]
   congr 1
   rw [decide_eq_decide]; omega
 . show U8s (l.bs ++ nb (n % 4611686018427387904)) = _
   rw [Nat.mod_eq_of_lt h]; exact yi _ _
theorem jfs : ∀ z : List (Int × Int × Bool), (z.flatMap vp).all nr = !(z.any fun z => !nr z.1 || !nr z.2.1)
 | [] => rfl
 | a :: l => by
   rw [rR, rQ, jfs l, List.any_cons, Bool.not_or]
   congr 1
   simp [vp, Bool.not_or]
theorem jhQ (cs : List IVal) : (lA.any fun q => fk q.1 (jv cs q.2)) = (!nr (N cs 0) || (!nr (N cs 1) || (!nr (N cs 2) || !nr (N cs 3)))) := by
 show (!nr (N cs 0) || (!nr (N cs 1) || (!nr (N cs 2) || (!nr (N cs 3) || (false || (false || (false || (false || (false || (false || (false || (false || (false || false))))))))))))) = _
 simp only [Bool.or_false, Bool.false_or]
theorem jhR (cs : List IVal) : (lB.any fun q => fk q.1 (jv cs q.2)) = !nr (N cs 15) := by
 show (!nr (N cs 15) || false) = _
 simp only [Bool.or_false, Bool.false_or]
theorem jhS (cs : List IVal) : (lC.any fun q => fk q.1 (jv cs q.2)) = (!nr (N cs 20) || (!nr (N cs 29) || (!jiH (N cs 50).toNat || (!jiH (N cs 51).toNat || (!nr (N cs 52) || (!nr (N cs 53) || !nr (N cs 54))))))) := by
 show (false || (false || (false || (!nr (N cs 20) || (false || (false || (false || (false || (false || (false || (false || (false || (!nr (N cs 29) || (false || (false || (false || (false || (false || (false || (false || (false || (false || (false || (false || (false || (false || (false || (false || (false || (false || (false || (false || (false || (!jiH (N cs 50).toNat || (!jiH (N cs 51).toNat || (!nr (N cs 52) || (!nr (N cs 53) || (!nr (N cs 54) || false)))))))))))))))))))))))))))))))))))))) = _
 simp only [Bool.or_false, Bool.false_or]
theorem jjy (cs : List IVal) : (lA.flatMap fun q => kb q.1 (jv cs q.2)) = s1R cs ++ (List.range' 5 8).flatMap fun o => zb (N cs o) := by
 show (zb (N cs 0) ++ (zb (N cs 1) ++ (zb (N cs 2) ++ (zb (N cs 3) ++ (zb (N cs 4) ++ (zb (N cs 5) ++ (zb (N cs 6) ++ (zb (N cs 7) ++ (zb (N cs 8) ++ (zb (N cs 9) ++ (zb (N cs 10) ++ (zb (N cs 11) ++ (zb (N cs 12) ++ []))))))))))))) = (zb (N cs 0) ++ (zb (N cs 1) ++ (zb (N cs 2) ++ (zb (N cs 3) ++ zb (N cs 4))))) ++ (zb (N cs 5) ++ (zb (N cs 6) ++ (zb (N cs 7) ++ (zb (N cs 8) ++ (zb (N cs 9) ++ (zb (N cs 10) ++ (zb (N cs 11) ++ (zb (N cs 12) ++ []))))))))
 simp only [rO]
theorem jjz (cs : List IVal) : (lB.flatMap fun q => kb q.1 (jv cs q.2)) = zb (N cs 15) := rP _
theorem jjA (cs : List IVal) : (lC.flatMap fun q => kb q.1 (jv cs q.2)) = s5R cs ++ (s6R cs ++ (s7R cs ++ s8R cs)) := by
 show ([UInt8.ofNat (bt cs 17)] ++ ([UInt8.ofNat (bt cs 18)] ++ ([UInt8.ofNat (bt cs 19)] ++ (zb (N cs 20) ++ ([UInt8.ofNat (bt cs 21)] ++ ([UInt8.ofNat (bt cs 22)] ++ ([UInt8.ofNat (bt cs 23)] ++ ([UInt8.ofNat (bt cs 24)] ++ ([UInt8.ofNat (bt cs 25)] ++ ([UInt8.ofNat (bt cs 26)] ++ ([UInt8.ofNat (bt cs 27)] ++ ([UInt8.ofNat (bt cs 28)] ++ (zb (N cs 29) ++ ([UInt8.ofNat (bt cs 30)] ++ ([UInt8.ofNat (bt cs 31)] ++ ([UInt8.ofNat (bt cs 32)] ++ ([UInt8.ofNat (bt cs 33)] ++ ([UInt8.ofNat (bt cs 34)] ++ ([UInt8.ofNat (bt cs 35)] ++ ([UInt8.ofNat (bt cs 36)] ++ ([UInt8.ofNat (bt cs 37)] ++ ([UInt8.ofNat (tb (bv (jv cs 38)))] ++ ([UInt8.ofNat (bt cs 39)] ++ ([UInt8.ofNat (bt cs 40)] ++ (hb cs 41 ++ (hb cs 42 ++ (hb cs 43 ++ (hb cs 44 ++ (hb cs 45 ++ (hb cs 46 ++ ([UInt8.ofNat (bt cs 47)] ++ ([UInt8.ofNat (bt cs 48)] ++ ([UInt8.ofNat (bt cs 49)] ++ (mb cs 50 ++ (mb cs 51 ++ (zb (N cs 52) ++ (zb (N cs 53) ++ (zb (N cs 54) ++ [])))))))))))))))))))))))))))))))))))))) = ([UInt8.ofNat (bt cs 17), UInt8.ofNat (bt cs 18), UInt8.ofNat (bt cs 19)] ++ ((zb (N cs 20) ++ [UInt8.ofNat (bt cs 21), UInt8.ofNat (bt cs 22), UInt8.ofNat (bt cs 23), UInt8.ofNat (bt cs 24), UInt8.ofNat (bt cs 25), UInt8.ofNat (bt cs 26), UInt8.ofNat (bt cs 27), UInt8.ofNat (bt cs 28)]) ++ ((zb (N cs 29) ++ [UInt8.ofNat (bt cs 30), UInt8.ofNat (bt cs 31), UInt8.ofNat (bt cs 32), UInt8.ofNat (bt cs 33), UInt8.ofNat (bt cs 34), UInt8.ofNat (bt cs 35), UInt8.ofNat (bt cs 36), UInt8.ofNat (bt cs 37)]) ++ ([UInt8.ofNat (tb (bv (jv cs 38)))] ++ [UInt8.ofNat (bt cs 39), UInt8.ofNat (bt cs 40)])))) ++ ((hb cs 41 ++ (hb cs 42 ++ (hb cs 43 ++ (hb cs 44 ++ (hb cs 45 ++ (hb cs 46 ++ [])))))) ++ (([UInt8.ofNat (bt cs 47), UInt8.ofNat (bt cs 48), UInt8.ofNat (bt cs 49)] ++ (mb cs 50 ++ mb cs 51)) ++ (zb (N cs 52) ++ (zb (N cs 53) ++ zb (N cs 54)))))
 simp only [rO, tP, tQ, rP]
theorem jeX {x : Nat} {L : List (K × Nat)} {l : La} {cs : List IVal} (h : La.far (jk (DL x) L l cs).1 = false) : La.far l = false := (Zj (x := x) L l cs).2 h
theorem jfZ {x n m : Nat} {l : La} {ys : List IVal} (h : La.far (jdn x l n m ys) = false) : La.far (La.number l n m) = false := jeX (x := x) (L := raL 0 (min n m)) (cs := ys) h
theorem QT {x : Nat} {cs : List IVal} {z1 z2 : List Int} {z3 : List (Int × Int × Bool)} (hT : Ty lAll cs) (n1 : z1.length <= 512) (n2 : z2.length <= 8000) (n3 : z3.length < 100) (w1 : ∀ z ∈ z1, w3i z) (w2 : ∀ z ∈ z2, w3i z) (w3 : ∀ z ∈ z3, r64 z) :
   (if (Qs x cs z1 z2 z3).far then [] else U8s (Qs x cs z1 z2 z3).bs) = if Qi cs z3 then jhw cs z1 z2 z3 else [] := by
 by_cases h8 : z3.length <= 8
 . have ok : StOK cs z1 z2 z3 := ⟨hT, n1, n2, h8, w1, w2, w3⟩
   rw [XQ ok]
   obtain ⟨f1, b1⟩ := Xi (x := x) lA (⟨[], false⟩ : La) cs (jI hT sA)
   generalize (jk (DL x) lA (⟨[], false⟩ : La) cs).1 = A1 at *
   obtain ⟨f2, b2⟩ := Zp A1 (n := z1.length) (m := 512) (by omega)
   obtain ⟨f3, b3⟩ := Yb z1 (La.number A1 z1.length 512) w1
   obtain ⟨f4, b4⟩ := Zp (Qd (La.number A1 z1.length 512) z1) (n := z2.length) (m := 8000) (by omega)
   obtain ⟨f5, b5⟩ := Yb z2 (La.number (Qd (La.number A1 z1.length 512) z1) z2.length 8000) w2
   generalize hA2 : Qd (La.number (Qd (La.number A1 z1.length 512) z1) z2.length 8000) z2 = A2 at *
   obtain ⟨f6, b6⟩ := Xi (x := x) lB A2 cs (jI hT sB)
   generalize (jk (DL x) lB A2 cs).1 = A3 at *
   obtain ⟨f7, b7⟩ := Zp A3 (n := z3.length) (m := 8) (by omega)
   obtain ⟨f8, b8⟩ := jbA (x := x) z3 (La.number A3 z3.length 8) w3
   generalize Ya x (La.number A3 z3.length 8) z3 = A4 at *
   obtain ⟨f9, b9⟩ := Xi (x := x) lC A4 cs (jI hT sC)
   generalize (jk (DL x) lC A4 cs).1 = A5 at *
   have hf : La.far A5 = !Qi cs z3 := by
     rw [f9, f8, f7, f6, f5, f4, f3, f2, f1, jhQ, jhR, jhS, Qi, plc, rQ, jfs, rE n1, rE n2, rE h8]
     simp only [Bool.or_false, Bool.false_or, Bool.not_true, tN, List.all_nil, Bool.and_true, Bool.true_and, Bool.not_and, Bool.not_not]
     ac_rfl
   have hb : U8s A5.bs = jhw cs z1 z2 z3 := by
     rw [b9, b8, b7, b6, b5, b4, b3, b2, b1, jjy, jjz, jjA, jhw, s4R, s3R, s2R, wb, wb]
     show [] ++ _ ++ _ ++ _ ++ _ ++ _ ++ _ ++ _ ++ _ ++ _ = _
     simp only [rO, tQ]
   rw [hf, hb]
   cases Qi cs z3 <;> rfl
 . have ht : Qi cs z3 = false := by rw [Qi, rH h8]; rfl
   have hf : (Qs x cs z1 z2 z3).far = true := by
     cases hf : (Qs x cs z1 z2 z3).far with
     | true => rfl
     | false =>
       obtain ⟨A, hA⟩ : ∃ A, Qs x cs z1 z2 z3 = (jk (DL x) lC (jdn x A z3.length 8 (z3.flatMap Rc)) cs).1 := ⟨_, rfl⟩
       rw [hA] at hf
       have h1 := jeX hf
       have h2 := jfZ h1
       have h3 := (Zp A (n := z3.length) (m := 8) (by omega)).1
       rw [rH h8] at h3
       rw [h2] at h3
       rw [Bool.not_false, Bool.or_true] at h3; cases h3
   rw [hf, ht]; rfl
end Go.Idl.Sb
namespace Go.Idl.Sb
open Go Go.Idl Go.Idl.En
variable {F : jn}
abbrev csM (N : Nat -> Int) (b : Bool) (v1 v2 v3 : IVal) : List IVal := [I (N 0), I (N 1), I (N 2), I (N 3), J (N 4), J (N 5), J (N 6), J (N 7), J (N 8), J (N 9), J (N 10), J (N 11), J (N 12), v1, v2, I (N 15), v3, B (N 17).toNat, B (N 18).toNat, B (N 19).toNat, I (N 20), B (N 21).toNat, B (N 22).toNat, B (N 23).toNat, B (N 24).toNat, B (N 25).toNat, B (N 26).toNat, B (N 27).toNat, B (N 28).toNat, I (N 29), B (N 30).toNat, B (N 31).toNat, B (N 32).toNat, B (N 33).toNat, B (N 34).toNat, B (N 35).toNat, B (N 36).toNat, B (N 37).toNat, .bool b, B (N 39).toNat, B (N 40).toNat, .int .u16 (N 41).toNat, .int .u16 (N 42).toNat, .int .u16 (N 43).toNat, .int .u16 (N 44).toNat, .int .u16 (N 45).toNat, .int .u16 (N 46).toNat, B (N 47).toNat, B (N 48).toNat, B (N 49).toNat, Q (N 50).toNat, Q (N 51).toNat, I (N 52), I (N 53), I (N 54)]
theorem jhZ {cs : List IVal} {v1 v2 v3 : IVal} (hn : cs.length = 55) (hT : Ty lAll cs) (c1 : cs[13]? = some v1) (c2 : cs[14]? = some v2) (c3 : cs[16]? = some v3) : cs = csM (N cs) (bv (jv cs 38)) v1 v2 v3 := by
 apply List.ext_getElem?
 intro i
 match i, Nat.lt_or_ge i 55 with
 | 0, _ => exact (JW hT (by decide)).1
 | 1, _ => exact (JW hT (by decide)).1
 | 2, _ => exact (JW hT (by decide)).1
 | 3, _ => exact (JW hT (by decide)).1
 | 4, _ => exact (jcQ hT (by decide)).1
 | 5, _ => exact (jcQ hT (by decide)).1
 | 6, _ => exact (jcQ hT (by decide)).1
 | 7, _ => exact (jcQ hT (by decide)).1
 | 8, _ => exact (jcQ hT (by decide)).1
 | 9, _ => exact (jcQ hT (by decide)).1
 | 10, _ => exact (jcQ hT (by decide)).1
 | 11, _ => exact (jcQ hT (by decide)).1
 | 12, _ => exact (jcQ hT (by decide)).1
 | 13, _ => exact c1
 | 14, _ => exact c2
 | 15, _ => exact (JW hT (by decide)).1
 | 16, _ => exact c3
 | 17, _ => exact (yR hT (by decide)).1
 | 18, _ => exact (yR hT (by decide)).1
 | 19, _ => exact (yR hT (by decide)).1
 | 20, _ => exact (JW hT (by decide)).1
 | 21, _ => exact (yR hT (by decide)).1
 | 22, _ => exact (yR hT (by decide)).1
 | 23, _ => exact (yR hT (by decide)).1
 | 24, _ => exact (yR hT (by decide)).1
 | 25, _ => exact (yR hT (by decide)).1
 | 26, _ => exact (yR hT (by decide)).1
 | 27, _ => exact (yR hT (by decide)).1
 | 28, _ => exact (yR hT (by decide)).1
 | 29, _ => exact (JW hT (by decide)).1
 | 30, _ => exact (yR hT (by decide)).1
 | 31, _ => exact (yR hT (by decide)).1
 | 32, _ => exact (yR hT (by decide)).1
 | 33, _ => exact (yR hT (by decide)).1
 | 34, _ => exact (yR hT (by decide)).1
 | 35, _ => exact (yR hT (by decide)).1
 | 36, _ => exact (yR hT (by decide)).1
 | 37, _ => exact (yR hT (by decide)).1
 | 38, _ => exact jkt hT (by decide)
 | 39, _ => exact (yR hT (by decide)).1
 | 40, _ => exact (yR hT (by decide)).1
 | 41, _ => exact (jf2 hT (by decide)).1
 | 42, _ => exact (jf2 hT (by decide)).1
 | 43, _ => exact (jf2 hT (by decide)).1
 | 44, _ => exact (jf2 hT (by decide)).1
 | 45, _ => exact (jf2 hT (by decide)).1
 | 46, _ => exact (jf2 hT (by decide)).1
 | 47, _ => exact (yR hT (by decide)).1
 | 48, _ => exact (yR hT (by decide)).1
 | 49, _ => exact (yR hT (by decide)).1
 | 50, _ => exact (jhv hT (by decide)).1
 | 51, _ => exact (jhv hT (by decide)).1
 | 52, _ => exact (JW hT (by decide)).1
 | 53, _ => exact (JW hT (by decide)).1
 | 54, _ => exact (JW hT (by decide)).1
 | i + 55, _ => rw [rY (by omega), rY (by simp)]
structure Cl (v w : IVal) : Prop where
 u : un1 v = w
 ww : un1 w = w
 c : v.isCell = true
 c' : w.isCell = true
 n : nt w = true
 cl : w.cells = [w]
 u3 : un3 w = w
 u2 : un2 w = w
set_option maxHeartbeats 8000000 in
theorem as8 (h : F 8 = some ir8) {N : Nat -> Int} {b : Bool} {v1 v2 v3 w1 w2 w3 : IVal} {σ : List IObj} (C1 : Cl v1 w1) (C2 : Cl v2 w2) (C3 : Cl v3 w3) :
   ∃ e, cfw F (.f 8) [.agg (csM N b v1 v2 v3)] σ = some ⟨false, .agg (csM N b w1 w2 w3), σ ++ e, []⟩ := by
 rw [jj ir8 h, callI]
 have x1 := C1.u
 have x2 := C2.u
 have x3 := C3.u
 have y1 := C1.ww
 have y2 := C2.ww
 have y3 := C3.ww
 have i1 := C1.c
 have i2 := C2.c
 have i3 := C3.c
 have j1 := C1.c'
 have j2 := C2.c'
 have j3 := C3.c'
 have n1 := C1.n
 have n2 := C2.n
 have n3 := C3.n
 have l1 := C1.cl
 have l2 := C2.cl
 have l3 := C3.cl
 have t1 := C1.u3
 have t2 := C2.u3
 have t3 := C3.u3
 have s1 := C1.u2
 have s2 := C2.u2
 have s3 := C3.u2
 have ne2 : (σ.length + 2 != σ.length) = true := by simp
 have ne3 : (σ.length + 3 != σ.length + 2) = true := by simp
 cases hnr : (nr1 w1 && (nr1 w2 && nr1 w3))
 . simp only [ir8, Z55, csM, ne2, ne3, hnr, jd, qw, tZ, tD, tJ, tU, x1, x2, x3, y1, y2, y3, i1, i2, i3, j1, j2, j3, n1, n2, n3, l1, l2, l3, t1, t2, t3, s1, s2, s3, rL, zV, zS, zD, simprocAttr]
   exact ⟨_, rfl⟩
 . simp only [ir8, Z55, csM, ne2, ne3, hnr, jd, qw, tZ, tD, tJ, tU, x1, x2, x3, y1, y2, y3, i1, i2, i3, j1, j2, j3, n1, n2, n3, l1, l2, l3, t1, t2, t3, s1, s2, s3, rL, zV, zS, zD, simprocAttr]
   exact ⟨[], by rw [rP]⟩
end Go.Idl.Sb
namespace Go.Idl.Sb
open Go Go.Idl Go.Idl.En
variable {F : jn}
def erc : Option (Nat × Nat) -> Nat
 | none => 0
 | some (c, _) => c
def era : Option (Nat × Nat) -> Nat
 | none => 0
 | some (_, a) => a
def Re.rf (s : List UInt8) (w : Re) : IObj := .cells [.str s, I w.pos, I (erc w.er), I (era w.er)]
def Re.fo (w : Re) : Prop := w.er.isSome = true -> erc w.er ≠ 0
theorem VL (h : F 66 = some Qb) {s : List UInt8} {p pos c c0 a0 : Nat} {σ : List IObj} (hp : σ[p]? = some (.cells [.str s, I pos, I c0, I a0])) :
   ∃ wr, cfw F (.f 66) [.ptr p 0, I c] σ = some ⟨false, .tup [], σ.set p (.cells [.str s, I pos, I c, I pos]), wr⟩ /\ Fl wr := by
 rw [jj Qb h, callI]
 have l0 := ja hp
 have l4 := rE l0
 have f2 : qw [.int .i64 0, .int .i64 0] [(0, 1, I c), (1, 1, I pos)] = some [I c, I pos] := rfl
 simp only [Qb, jd, hp, l0, l4, f2, tJ, tU, take_set, rF, zV, zS, zD, simprocAttr]
 exact ⟨_, rfl, rfl⟩
theorem jeL (h : F 67 = some X8) {s : List UInt8} {p pos c a : Nat} {σ : List IObj} (hp : σ[p]? = some (.cells [.str s, I pos, I (0 : Nat), I (0 : Nat)])) (hc : c ≠ 0) :
   ∃ wr, cfw F (.f 67) [.ptr p 0, I c, I a] σ = some ⟨false, .tup [], σ.set p (.cells [.str s, I pos, I c, I a]), wr⟩ /\ Fl wr := by
 rw [jj X8 h, callI]
 have l0 := ja hp
 have l4 := rE l0
 have f2 : qw [.int .i64 0, .int .i64 0] [(0, 1, I c), (1, 1, I a)] = some [I c, I a] := rfl
 have b0 : (((0 : Nat) : Int) == 0) = true := rfl
 have b1 : ((c : Int) != 0) = true := by simpa using hc
 simp only [X8, jd, hp, l0, l4, f2, b0, b1, tJ, tU, take_set, rF, zV, zS, zD, simprocAttr]
 exact ⟨_, rfl, rfl⟩
theorem jgx {s : List UInt8} {p pos t : Nat} {x : UInt8} {rest : List IVal} {σ : List IObj} (hp : σ[p]? = some (.cells (.str s :: I pos :: rest))) (hx : s[pos]? = some x) (ht : x.toNat / 64 = t) : ∀ (d k : Nat) (f0 : Nat -> Option (Nat × IVal)) (R : Option (IExit × St)),
   evw F (.loop Kx) ⟨E 7 15 5 [] (base f0), σ, []⟩ = R -> k + d = t -> f0 0 = some (0, .ptr p 0) -> f0 3 = some (3, I ((2 ^ k : Nat) : Int)) -> f0 4 = some (4, I k) ->
   ∃ f1, R = some (.exit 0, ⟨E 7 15 5 [] (base f1), σ, []⟩) /\ f1 0 = some (0, .ptr p 0) /\ f1 3 = some (3, I ((2 ^ t : Nat) : Int)) := by
 have x4 : x.toNat < 256 := x.toNat_lt
 have lp := rE (ja hp)
 have q1 : ((x.toNat : Nat) : Int).tdiv 64 = ((t : Nat) : Int) := by rw [Int.tdiv_eq_ediv_of_nonneg (by omega)]; omega
 have q2 : IntKind.u8.wrap (t : Int) = (t : Int) := jfv (by omega)
 have q3 : IntKind.i64.wrap (t : Int) = (t : Int) := jP (by omega) (by omega)
 have z1 : (0 : Int) <= (pos : Int) := by omega
 have z2 : (pos : Int) < (s.length : Int) := by
   rcases Nat.lt_or_ge pos s.length with h | h
   . omega
   . rw [rY h] at hx; cases hx
 intro d
 induction d with
 | zero =>
   intro k f0 R hE hk e0 e3 e4
   obtain rfl : k = t := by omega
   have l0 : decide ((k : Int) < (k : Int)) = false := rH (by omega)
   rw [jc] at hE
   subst hE
   simp only [Kx, jd, hp, lp, hx, e0, e3, e4, l0, q1, q2, q3, z1, z2, rL, zV, zS, zD, simprocAttr]
   exact ⟨_, rfl, (by first | exact e0 | rfl), (by first | exact e3 | rfl)⟩
 | succ d ih =>
   intro k f0 R hE hk e0 e3 e4
   have l0 : decide ((k : Int) < (t : Int)) = true := rE (by omega)
   have w1 := kM (n := k) (by omega)
   have h8 : 2 ^ k <= 8 := by
     have : 2 ^ k <= 2 ^ 3 := Nat.pow_le_pow_right (by decide) (by omega)
     omega
   have w2 : IntKind.i64.wrap (2 * ((2 ^ k : Nat) : Int)) = ((2 ^ (k + 1) : Nat) : Int) := by
     rw [Nat.pow_succ]
     generalize 2 ^ k = p at h8 ⊢
     rw [jP (by omega) (by omega)]; omega
   rw [jc] at hE
   simp only [Kx, jd, hp, lp, hx, e0, e3, e4, l0, q1, q2, q3, z1, z2, w1, w2, rL, zV, zS, zD, simprocAttr] at hE
   exact ih (k + 1) _ R hE (by omega) (by first | exact e0 | rfl) (by rfl) (by rfl)
theorem jgy {s : List UInt8} {p pos m : Nat} {rest : List IVal} {σ : List IObj} (hp : σ[p]? = some (.cells (.str s :: I pos :: rest))) (hm : m <= 8) (hl : pos + m <= s.length) (hs : s.length < 1000000) : ∀ (d i a : Nat) (f0 : Nat -> Option (Nat × IVal)) (R : Option (IExit × St)),
   evw F (.loop Ky) ⟨E 7 15 5 [] (base f0), σ, []⟩ = R -> i + d = m -> a < 256 ^ i -> f0 0 = some (0, .ptr p 0) -> f0 3 = some (3, I m) -> f0 5 = some (5, Q a) -> f0 6 = some (6, I i) ->
   ∃ f1, R = some (.exit 2, ⟨E 7 15 5 [] (base f1), σ, []⟩) /\ f1 0 = some (0, .ptr p 0) /\ f1 3 = some (3, I m) /\ f1 5 = some (5, Q (val ((s.drop (pos + i)).take d) a)) := by
 have lp := rE (ja hp)
 intro d
 induction d with
 | zero =>
   intro i a f0 R hE hi ha e0 e3 e5 e6
   obtain rfl : i = m := by omega
   have l0 : decide ((i : Int) < (i : Int)) = false := rH (by omega)
   rw [jc] at hE
   subst hE
   simp only [Ky, e0, e3, e5, e6, l0, zV, zS, zD, simprocAttr]
   exact ⟨_, rfl, (by first | exact e0 | rfl), (by first | exact e3 | rfl), (by first | exact e5 | rfl)⟩
 | succ d ih =>
   intro i a f0 R hE hi ha e0 e3 e5 e6
   have l0 : decide ((i : Int) < (m : Int)) = true := rE (by omega)
   have hi2 : pos + i < s.length := by omega
   have g1 : s[pos + i]? = some s[pos + i] := rJ hi2
   have w1 := kM (n := i) (by omega)
   have w2 : IntKind.i64.wrap ((pos : Int) + (i : Int)) = ((pos + i : Nat) : Int) := by rw [jP (by omega) (by omega)]; omega
   have z1 : (0 : Int) <= ((pos + i : Nat) : Int) := by omega
   have z2 : ((pos + i : Nat) : Int) < (s.length : Int) := by omega
   have c2 := s[pos + i].toNat_lt
   have ha2 : a < 2 ^ 56 := by
     have : 256 ^ i <= 256 ^ 7 := Nat.pow_le_pow_right (by decide) (by omega)
     simp at this ⊢; omega
   have w3 : IntKind.u64.wrap ((a : Int) * 256) = ((a * 256 : Nat) : Int) := by
     have : a < 72057594037927936 := ha2
     rw [jt (by omega) (by omega)]; omega
   have w4 : IntKind.u64.wrap (s[pos + i].toNat : Int) = (s[pos + i].toNat : Int) := jt (by omega) (by omega)
   have w5 : IntKind.u64.wrap (((a * 256 : Nat) : Int) + (s[pos + i].toNat : Int)) = ((a * 256 + s[pos + i].toNat : Nat) : Int) := by
     have : a < 72057594037927936 := ha2
     rw [jt (by omega) (by omega)]; omega
   rw [tA hi2, tD, val]
   rw [jc] at hE
   simp only [Ky, jd, hp, lp, e0, e3, e5, e6, l0, g1, w1, w2, w3, w4, w5, z1, z2, rL, zV, zS, zD, simprocAttr] at hE
   exact ih (i + 1) _ _ R hE (by omega) (by rw [Nat.pow_succ]; omega) (by first | exact e0 | rfl) (by first | exact e3 | rfl) (by rfl) (by rfl)
end Go.Idl.Sb
namespace Go.Idl.Sb
open Go Go.Idl Go.Idl.En
variable {F : jn}
theorem jcN {x : UInt8} {xs : List UInt8} {L t : Nat} (hL : 2 ^ t = L + 1) (ht : x.toNat / 64 = t) (hl : L <= xs.length) : val ((x :: xs).take (2 ^ t)) 0 % 2 ^ (8 * 2 ^ t - 2) = val (xs.take L) (x.toNat % 64) /\ val (xs.take L) (x.toNat % 64) < 4611686018427387904 := by
 have ht4 : t < 4 := by have := x.toNat_lt; omega
 have l1 : (xs.take L).length = L := by rw [tL]; omega
 have v1 := jcO (xs.take L)
 have k1 : 8 * (L + 1) - 2 = 6 + 8 * L := by omega
 have k2 : 2 ^ (6 + 8 * L) = 64 * 256 ^ L := by rw [Nat.pow_add, Nat.pow_mul]
 have h8 : L <= 7 := by
   have : 2 ^ t <= 2 ^ 3 := Nat.pow_le_pow_right (by decide) (by omega)
   omega
 have x1 : x.toNat = 64 * t + x.toNat % 64 := by omega
 have x2 : x.toNat % 64 < 64 := Nat.mod_lt _ (by decide)
 have e2 := QM (xs.take L) (x.toNat % 64)
 rw [l1] at v1 e2
 have r1 : x.toNat % 64 * 256 ^ L + val (xs.take L) 0 < 64 * 256 ^ L := by
   have h3 : (x.toNat % 64 + 1) * 256 ^ L <= 64 * 256 ^ L := XB _ (by omega)
   rw [tO] at h3; omega
 refine ⟨?_, ?_⟩
 . rw [hL, tD, val, QM, l1, k1, k2, Nat.zero_mul, t7, e2]
   have e : x.toNat * 256 ^ L + val (xs.take L) 0 = 64 * 256 ^ L * t + (x.toNat % 64 * 256 ^ L + val (xs.take L) 0) := by
     conv => lhs; rw [x1]
     rw [tO, Nat.add_assoc, Nat.mul_right_comm]
   rw [e, Nat.mul_add_mod, Nat.mod_eq_of_lt r1]
 . have b2 : 256 ^ L <= 256 ^ 7 := Nat.pow_le_pow_right (by decide) h8
   rw [e2]
   have : (256 : Nat) ^ 7 = 72057594037927936 := by decide
   omega
theorem jhc {a b : Nat} : (((2 ^ a : Nat) : Int) != ((2 ^ b : Nat) : Int)) = !decide (a = b) := by
 by_cases h : a = b
 . subst h; simp
 . have : 2 ^ a ≠ 2 ^ b := fun e => h ((Nat.pow_right_inj (by decide : 1 < 2)).1 e)
   rw [rH h]
   simp only [bne_iff_ne, ne_eq, Bool.not_false]
   omega
theorem U65 (h : F 65 = some Q5) (h66 : F 66 = some Qb) (h40 : F 40 = some yX) {s : List UInt8} {p : Nat} {w : Re} {σ : List IObj} (hp : σ[p]? = some (w.rf s)) (hs : s.length < 1000000) (hpos : w.pos <= s.length) (fo : w.fo) :
   ∃ wr, cfw F (.f 65) [.ptr p 0] σ = some ⟨false, Q (w.u s).2, σ.set p ((w.u s).1.rf s), wr⟩ /\ Fl wr := by
 rw [jj Q5 h, callI]
 have lp := rE (ja hp)
 have l0 := ja hp
 obtain ⟨pos, er⟩ := w
 have hpos : pos <= s.length := hpos
 cases er with
 | some e =>
   obtain ⟨c, a⟩ := e
   have hc : c ≠ 0 := fo rfl
   have hp' : σ[p]? = some (.cells [.str s, I pos, I c, I a]) := hp
   have b1 : ((c : Int) != 0) = true := by simpa using hc
   have e1 : Re.u s ⟨pos, some (c, a)⟩ = (⟨pos, some (c, a)⟩, 0) := rfl
   rw [e1, jx hp]
   simp only [Q5, jd, hp', lp, b1, zV, zS, zD, simprocAttr]
   exact ⟨_, rfl, rfl⟩
 | none =>
   have hp' : σ[p]? = some (.cells [.str s, I pos, I (0 : Nat), I (0 : Nat)]) := hp
   have b1 : (((0 : Nat) : Int) != 0) = false := rfl
   obtain ⟨wr3, u3, g3⟩ := VL (c := 3) h66 hp'
   obtain ⟨wr5, u5, g5⟩ := VL (c := 5) h66 hp'
   have u3 : cfw F (.f 66) [.ptr p 0, I 3] σ = some ⟨false, .tup [], σ.set p (.cells [.str s, I pos, I 3, I pos]), wr3⟩ := u3
   have u5 : cfw F (.f 66) [.ptr p 0, I 5] σ = some ⟨false, .tup [], σ.set p (.cells [.str s, I pos, I 5, I pos]), wr5⟩ := u5
   cases hd : s.drop pos with
   | nil =>
     have hl : s.length <= pos := by
       rcases Nat.lt_or_ge pos s.length with h | h
       . rw [tA h] at hd; cases hd
       . exact h
     have e1 : Re.u s ⟨pos, none⟩ = (⟨pos, some (3, pos)⟩, 0) := by rw [Re.u]; simp only [hd]; rfl
     have d1 : decide ((pos : Int) ≥ (s.length : Int)) = true := rE (by omega)
     rw [e1]
     simp only [Q5, jd, hp', lp, b1, d1, u3, jr g3, take_set, zV, zS, zD, simprocAttr]
     exact ⟨_, rfl, jo g3⟩
   | cons x xs =>
     have hl : pos < s.length := by
       rcases Nat.lt_or_ge pos s.length with h | h
       . exact h
       . rw [tV h] at hd; cases hd
     have hd2 := hd
     rw [tA hl] at hd2
     injection hd2 with hx1 hx2
     have hx : s[pos]? = some x := by rw [rJ hl, hx1]
     have hlen : s.length = pos + 1 + xs.length := by
       have := congrArg List.length hx2
       rw [List.length_drop] at this; omega
     have d1 : decide ((pos : Int) ≥ (s.length : Int)) = false := rH (by omega)
     have hx256 : x.toNat < 256 := x.toNat_lt
     generalize ht : x.toNat / 64 = t at *
     have ht4 : t < 4 := by omega
     have k8 : 2 ^ t <= 8 := by
       have : 2 ^ t <= 2 ^ 3 := Nat.pow_le_pow_right (by decide) (by omega)
       omega
     obtain ⟨L, hL⟩ : ∃ L, 2 ^ t = L + 1 := ⟨2 ^ t - 1, by have : 0 < 2 ^ t := Nat.pow_pos (by decide); omega⟩
     have w1 : IntKind.i64.wrap ((s.length : Int) - (pos : Int)) = ((xs.length + 1 : Nat) : Int) := by rw [jP (by omega) (by omega)]; omega
     have z1 : (0 : Int) <= (pos : Int) := by omega
     have z2 : (pos : Int) < (s.length : Int) := by omega
     simp only [Q5, jd, hp', lp, b1, d1, zV, zS, zD, simprocAttr]
     generalize hE : evw F (ICode.loop Kx) _ = R
     obtain ⟨f1, rfl, a0, a3⟩ := jgx hp' hx ht t 0 _ R hE (by omega) (by rfl) (by rfl) (by rfl)
     by_cases hsh : xs.length + 1 < 2 ^ t
     . have d2 : decide (((xs.length + 1 : Nat) : Int) < ((2 ^ t : Nat) : Int)) = true := rE (by omega)
       have e1 : Re.u s ⟨pos, none⟩ = (⟨pos, some (3, pos)⟩, 0) := by
         rw [Re.u]; simp only [hd, zn, ht, hsh, if_true]; rfl
       rw [e1]
       simp only [jd, hp', lp, a0, a3, w1, d2, u3, jr g3, take_set, zV, zS, zD, simprocAttr]
       exact ⟨_, rfl, jo g3⟩
     . have d2 : decide (((xs.length + 1 : Nat) : Int) < ((2 ^ t : Nat) : Int)) = false := rH (by omega)
       have m1 : ((x.toNat : Nat) : Int).tmod 64 = ((x.toNat % 64 : Nat) : Int) := by rw [Int.tmod_eq_emod_of_nonneg (by omega)]; rfl
       have m2 : IntKind.u64.wrap ((x.toNat % 64 : Nat) : Int) = ((x.toNat % 64 : Nat) : Int) := jt (by omega) (by omega)
       simp only [jd, hp', lp, hx, a0, a3, w1, d2, m1, m2, z1, z2, rL, zV, zS, zD, simprocAttr]
       generalize hE : evw F (ICode.loop Ky) _ = R
       obtain ⟨f2, rfl, b0, b3, b5⟩ := jgy hp' k8 (by omega) hs L 1 (x.toNat % 64) _ R hE (by omega) (by omega) (by first | exact a0 | rfl) (by first | exact a3 | rfl) (by rfl) (by rfl)
       rw [hx2] at b5
       obtain ⟨v1, v2⟩ := jcN hL ht (xs := xs) (by omega)
       have sz := fun σ => jfn h40 (val (xs.take L) (x.toNat % 64)) σ
       have ne := jhc (a := srt (val (xs.take L) (x.toNat % 64))) (b := t)
       have e1 : Re.u s ⟨pos, none⟩ = if srt (val (xs.take L) (x.toNat % 64)) = t then (⟨pos + 2 ^ t, none⟩, val (xs.take L) (x.toNat % 64)) else (⟨pos, some (5, pos)⟩, 0) := by
         rw [Re.u]
         by_cases hq : srt (val (xs.take L) (x.toNat % 64)) = t
         . simp only [hd, zn, ht, hsh, if_false, v1, hq, if_true]; rfl
         . simp only [hd, zn, ht, hsh, if_false, v1, hq]; rfl
       rw [e1]
       generalize val (xs.take L) (x.toNat % 64) = n at *
       by_cases hst : srt n = t
       . rw [if_pos hst]
         rw [rE hst] at ne
         have w2 : IntKind.i64.wrap ((pos : Int) + ((2 ^ t : Nat) : Int)) = ((pos + 2 ^ t : Nat) : Int) := by rw [jP (by omega) (by omega)]; omega
         simp only [jd, hp', lp, b0, b3, b5, sz, ne, w2, take_set, rF, zV, zS, zD, simprocAttr]
         exact ⟨_, rfl, rfl⟩
       . rw [if_neg hst]
         rw [rH hst] at ne
         simp only [jd, hp', lp, b0, b3, b5, sz, ne, u5, jr g5, take_set, zV, zS, zD, simprocAttr]
         exact ⟨_, rfl, jo g5⟩
end Go.Idl.Sb
namespace Go.Idl.Sb
open Go Go.Idl Go.Idl.En
variable {F : jn}
theorem I76 (h : F 76 = some Zg) (h65 : F 65 = some Q5) (h66 : F 66 = some Qb) (h40 : F 40 = some yX) {s : List UInt8} {p : Nat} {w : Re} {σ : List IObj} (hp : σ[p]? = some (w.rf s)) (hs : s.length < 1000000) (hpos : w.pos <= s.length) (fo : w.fo) :
   ∃ wr, cfw F (.f 76) [.ptr p 0] σ = some ⟨false, I (JD (w.u s).2), σ.set p ((w.u s).1.rf s), wr⟩ /\ Fl wr := by
 rw [jj Zg h, callI]
 obtain ⟨wr, u, g⟩ := U65 h65 h66 h40 hp hs hpos fo
 have ul : (w.u s).2 < 4611686018427387904 := jje s w
 generalize (w.u s).1 = w1 at *
 generalize (w.u s).2 = n at *
 have m1 : ((n : Nat) : Int).tmod 2 = ((n % 2 : Nat) : Int) := by rw [Int.tmod_eq_emod_of_nonneg (by omega)]; rfl
 have m2 : ((n : Nat) : Int).tdiv 2 = ((n / 2 : Nat) : Int) := by rw [Int.tdiv_eq_ediv_of_nonneg (by omega)]; rfl
 have m3 : IntKind.u64.wrap ((n / 2 : Nat) : Int) = ((n / 2 : Nat) : Int) := jt (by omega) (by omega)
 have m4 : IntKind.i64.wrap ((n / 2 : Nat) : Int) = ((n / 2 : Nat) : Int) := jP (by omega) (by omega)
 have m5 : IntKind.i64.wrap (0 - ((n / 2 : Nat) : Int)) = 0 - ((n / 2 : Nat) : Int) := jP (by omega) (by omega)
 have m6 : IntKind.i64.wrap (0 - ((n / 2 : Nat) : Int) - 1) = 0 - ((n / 2 : Nat) : Int) - 1 := jP (by omega) (by omega)
 by_cases hn : n % 2 = 0
 . have b1 : (((n % 2 : Nat) : Int) == 0) = true := by rw [hn]; rfl
   have e : JD n = ((n / 2 : Nat) : Int) := by unfold JD; split <;> omega
   rw [e]
   simp only [Zg, u, m1, m2, m3, m4, b1, jr g, take_set, zV, zS, zD, simprocAttr]
   exact ⟨_, rfl, jo g⟩
 . have b1 : (((n % 2 : Nat) : Int) == 0) = false := by rw [show n % 2 = 1 by omega]; rfl
   have e : JD n = 0 - ((n / 2 : Nat) : Int) - 1 := by unfold JD; split <;> omega
   rw [e]
   simp only [Zg, u, m1, m2, m3, m4, m5, m6, b1, jr g, take_set, zV, zS, zD, simprocAttr]
   exact ⟨_, rfl, jo g⟩
theorem B48 (h : F 48 = some jbv) (h66 : F 66 = some Qb) {s : List UInt8} {p : Nat} {w : Re} {σ : List IObj} (hp : σ[p]? = some (w.rf s)) (hs : s.length < 1000000) (hpos : w.pos <= s.length) (fo : w.fo) :
   ∃ wr, cfw F (.f 48) [.ptr p 0] σ = some ⟨false, B (w.b s).2, σ.set p ((w.b s).1.rf s), wr⟩ /\ Fl wr := by
 rw [jj jbv h, callI]
 have lp := rE (ja hp)
 have l0 := ja hp
 obtain ⟨pos, er⟩ := w
 have hpos : pos <= s.length := hpos
 cases er with
 | some e =>
   obtain ⟨c, a⟩ := e
   have hc : c ≠ 0 := fo rfl
   have hp' : σ[p]? = some (.cells [.str s, I pos, I c, I a]) := hp
   have b1 : ((c : Int) != 0) = true := by simpa using hc
   have e1 : Re.b s ⟨pos, some (c, a)⟩ = (⟨pos, some (c, a)⟩, 0) := rfl
   rw [e1, jx hp]
   simp only [jbv, jd, hp', lp, b1, zV, zS, zD, simprocAttr]
   exact ⟨_, rfl, rfl⟩
 | none =>
   have hp' : σ[p]? = some (.cells [.str s, I pos, I (0 : Nat), I (0 : Nat)]) := hp
   have b1 : (((0 : Nat) : Int) != 0) = false := rfl
   obtain ⟨wr3, u3, g3⟩ := VL (c := 3) h66 hp'
   have u3 : cfw F (.f 66) [.ptr p 0, I 3] σ = some ⟨false, .tup [], σ.set p (.cells [.str s, I pos, I 3, I pos]), wr3⟩ := u3
   cases hx : s[pos]? with
   | none =>
     have hl : s.length <= pos := List.getElem?_eq_none_iff.1 hx
     have e1 : Re.b s ⟨pos, none⟩ = (⟨pos, some (3, pos)⟩, 0) := by rw [Re.b]; simp only [hx]; rfl
     have d1 : decide ((pos : Int) ≥ (s.length : Int)) = true := rE (by omega)
     rw [e1]
     simp only [jbv, jd, hp', lp, b1, d1, u3, jr g3, take_set, zV, zS, zD, simprocAttr]
     exact ⟨_, rfl, jo g3⟩
   | some x =>
     have hl : pos < s.length := by
       rcases Nat.lt_or_ge pos s.length with h | h
       . exact h
       . rw [rY h] at hx; cases hx
     have e1 : Re.b s ⟨pos, none⟩ = (⟨pos + 1, none⟩, x.toNat) := by rw [Re.b]; simp only [hx]; rfl
     have d1 : decide ((pos : Int) ≥ (s.length : Int)) = false := rH (by omega)
     have w1 : IntKind.i64.wrap ((pos : Int) + 1) = ((pos + 1 : Nat) : Int) := by rw [jP (by omega) (by omega)]; omega
     have w2 : IntKind.i64.wrap (((pos + 1 : Nat) : Int) - 1) = (pos : Int) := by rw [jP (by omega) (by omega)]; omega
     have z1 : (0 : Int) <= (pos : Int) := by omega
     have z2 : (pos : Int) < (s.length : Int) := by omega
     have y1 : ∀ o, (σ.set p o)[p]? = some o := fun o => kB l0
     rw [e1]
     simp only [jbv, jd, hp', lp, hx, y1, b1, d1, w1, w2, z1, z2, take_set, rF, rL, zV, zS, zD, simprocAttr]
     exact ⟨_, rfl, rfl⟩
theorem T47 (h : F 47 = some jdJ) (h48 : F 48 = some jbv) (h66 : F 66 = some Qb) {s : List UInt8} {p : Nat} {w : Re} {σ : List IObj} (hp : σ[p]? = some (w.rf s)) (hs : s.length < 1000000) (hpos : w.pos <= s.length) (fo : w.fo) :
   ∃ wr, cfw F (.f 47) [.ptr p 0] σ = some ⟨false, .bool (w.t s).2, σ.set p ((w.t s).1.rf s), wr⟩ /\ Fl wr := by
 rw [jj jdJ h, callI]
 have lp := rE (ja hp)
 have l0 := ja hp
 obtain ⟨wr, u, g⟩ := B48 h48 h66 hp hs hpos fo
 have y1 : ∀ o, (σ.set p o)[p]? = some o := fun o => kB l0
 have d0 : decide ((0 : Int) > 1) = false := rfl
 have d0' : ((0 : Int) == 1) = false := rfl
 obtain ⟨pos, er⟩ := w
 cases er with
 | some e =>
   obtain ⟨c, a⟩ := e
   have hp' : σ[p]? = some (.cells [.str s, I pos, I c, I a]) := hp
   have e1 : Re.t s ⟨pos, some (c, a)⟩ = (⟨pos, some (c, a)⟩, false) := rfl
   have e2 : Re.b s ⟨pos, some (c, a)⟩ = (⟨pos, some (c, a)⟩, 0) := rfl
   rw [e2] at u
   rw [e1]
   simp only [jdJ, jd, hp', lp, u, d0, d0', jr g, take_set, zV, zS, zD, simprocAttr]
   exact ⟨_, rfl, jo g⟩
 | none =>
   have hp' : σ[p]? = some (.cells [.str s, I pos, I (0 : Nat), I (0 : Nat)]) := hp
   cases hx : s[pos]? with
   | none =>
     have e1 : Re.t s ⟨pos, none⟩ = (⟨pos, some (3, pos)⟩, false) := by rw [Re.t]; simp only [hx]; rfl
     have e2 : Re.b s ⟨pos, none⟩ = (⟨pos, some (3, pos)⟩, 0) := by rw [Re.b]; simp only [hx]; rfl
     rw [e2] at u
     rw [e1]
     simp only [jdJ, jd, hp', lp, u, d0, d0', jr g, take_set, zV, zS, zD, simprocAttr]
     exact ⟨_, rfl, jo g⟩
   | some x =>
     have e2 : Re.b s ⟨pos, none⟩ = (⟨pos + 1, none⟩, x.toNat) := by rw [Re.b]; simp only [hx]; rfl
     rw [e2] at u
     by_cases h1 : x.toNat > 1
     . have e1 : Re.t s ⟨pos, none⟩ = (⟨pos, some (5, pos)⟩, false) := by rw [Re.t]; simp only [hx, h1, if_true]; rfl
       have d1 : decide ((x.toNat : Int) > 1) = true := rE (by omega)
       have d2 : ((x.toNat : Int) == 1) = false := by simp; omega
       obtain ⟨wr5, u5, g5⟩ := VL (c := 5) (σ := σ.set p (.cells [.str s, I pos, I (0 : Nat), I (0 : Nat)])) h66 (y1 _)
       rw [tE] at u5
       have u5 : cfw F (.f 66) [.ptr p 0, I 5] (σ.set p (.cells [.str s, I pos, I 0, I 0])) = some ⟨false, .tup [], σ.set p (.cells [.str s, I pos, I 5, I pos]), wr5⟩ := u5
       have ob : Re.rf s ⟨pos + 1, none⟩ = .cells [.str s, I (pos + 1 : Nat), I 0, I 0] := rfl
       rw [ob] at u
       have gg : Fl (wr5 ++ (p, false) :: wr) := by rw [Fl] at g g5 ⊢; rw [rQ, g5, tN, g]; rfl
       rw [e1]
       simp only [jdJ, jd, hp', lp, u, u5, y1, d1, d2, jr gg, take_set, tE, rF, zV, zS, zD, simprocAttr]
       exact ⟨_, rfl, jo gg⟩
     . have e1 : Re.t s ⟨pos, none⟩ = (⟨pos + 1, none⟩, x.toNat == 1) := by rw [Re.t]; simp only [hx, h1, if_false]; rfl
       have d1 : decide ((x.toNat : Int) > 1) = false := rH (by omega)
       have d2 : ((x.toNat : Int) == 1) = (x.toNat == 1) := by
         rw [Bool.eq_iff_iff, beq_iff_eq, beq_iff_eq]; omega
       rw [e1]
       simp only [jdJ, jd, hp', lp, u, d1, d2, jr g, take_set, zV, zS, zD, simprocAttr]
       exact ⟨_, rfl, jo g⟩
end Go.Idl.Sb
