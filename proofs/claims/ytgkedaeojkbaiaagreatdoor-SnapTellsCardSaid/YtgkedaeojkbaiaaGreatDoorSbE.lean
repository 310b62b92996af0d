/- SnapTells: what the ideal machine makes of its functions, part E; no conditions. -/
import Derived.Test.YtgkedaeojkbaiaaGreatDoorSbD
import Derived.OpenShut
set_option linter.unusedSectionVars false
set_option linter.unusedVariables false
set_option linter.unusedSimpArgs false
namespace Go.Idl
open Go.RowKit (Below)
open Go.ChangeShapes
section
variable {P : Program} {w : World}
inductive Lf where
 | int (k : IntKind)
 | bool
 | sl (t : TypeId)
def JJ (P : Program) : Nat -> TypeId -> Nat -> Option Lf
 | 0, _, _ => none
 | n + 1, t, j => match P.underlying t with
   | some .bool => if j = 0 then some .bool else none
   | some (.int k) => if j = 0 then some (.int k) else none
   | some (.slice _) => if j = 0 then some (.sl t) else none
   | some (.struct fs) => match fs.toList.find? (fun f => decide (f.offset <= j) && decide (j < f.offset + P.cellsOf f.type)) with
     | some f => JJ P n f.type (j - f.offset)
     | none => none
   | some (.array m e) => if j / P.cellsOf e < m then JJ P n e (j % P.cellsOf e) else none
   | _ => none
def jkF {H : Type} (enc : TypeId × Value -> H) (P : Program) (w : World) (base : Nat) (held : Bool) : Lf -> Value -> Prop
 | .int k, c => ∃ n, c = .int k n /\ (Lit.int k n).wf = true
 | .bool, c => ∃ b, c = .bool b
 | .sl t, c => ∃ m y, DataW.trod enc P w base (fun _ => true) held m t [c] = some y
theorem jcG {cs : List Value} {o s i : Nat} {c : Value} (h : ((cs.drop o).take s)[i]? = some c) : i < s /\ cs[o + i]? = some c := by
 have hi : i < s := by
   rcases Nat.lt_or_ge i s with h1 | h1
   . exact h1
   . rw [rY (by rw [tL]; omega)] at h; cases h
 rw [List.getElem?_take_of_lt hi, tH] at h
 exact ⟨hi, h⟩
theorem qP {H : Type} {enc : TypeId × Value -> H} {base : Nat} {held : Bool} : ∀ (m n : Nat) (t : TypeId) (cs : List Value) (x : DataW H × List MemPlace) (j : Nat) (lf : Lf),
   JJ P m t j = some lf -> DataW.trod enc P w base (fun _ => true) held n t cs = some x -> ∃ c, cs[j]? = some c /\ jkF enc P w base held lf c := by
 intro m
 induction m with
 | zero => intro n t cs x j lf h _; cases h
 | succ m ih =>
   intro n t cs x j lf h hx
   rw [JJ] at h
   split at h
   . rename_i ht
     split at h
     . rename_i hj; subst hj
       obtain rfl := tB h
       obtain ⟨b, rfl, _⟩ := DataW.trod_bool ht hx
       exact ⟨_, rfl, b, rfl⟩
     . cases h
   . rename_i k ht
     split at h
     . rename_i hj; subst hj
       obtain rfl := tB h
       obtain ⟨z, rfl, _, hz⟩ := DataW.trod_int ht hx
       exact ⟨_, rfl, z, rfl, hz⟩
     . cases h
   . rename_i e ht
     split at h
     . rename_i hj; subst hj
       obtain rfl := tB h
       rcases Go.Deep.open_slice ht hx with ⟨rfl, _⟩ | ⟨a, len, cap, m', n', D, Pl, rfl, _⟩
       . exact ⟨_, rfl, n, x, hx⟩
       . exact ⟨_, rfl, n, x, hx⟩
     . cases h
   . rename_i fs ht
     split at h
     . rename_i f hf
       obtain ⟨xs, n', _, _, _, hl, hd⟩ := DataW.trod_struct ht hx
       have hp := List.find?_some hf
       have hm := List.mem_of_find?_eq_some hf
       rw [Bool.and_eq_true, decide_eq_true_eq, decide_eq_true_eq] at hp
       obtain ⟨i, hi⟩ := List.getElem?_of_mem hm
       have hi2 : fs[i]? = some f := by simpa using hi
       have hlt : i < fs.size := by
         rcases Nat.lt_or_ge i fs.size with h1 | h1
         . exact h1
         . rw [Array.getElem?_eq_none h1] at hi2; cases hi2
       have := hd i f hi2
       rw [rJ (by omega)] at this
       obtain ⟨c, hc, hok⟩ := ih n' f.type _ _ (j - f.offset) lf h this
       obtain ⟨h1, h2⟩ := jcG hc
       have e : f.offset + (j - f.offset) = j := by omega
       rw [e] at h2
       exact ⟨c, h2, hok⟩
     . cases h
   . rename_i k e ht
     split at h
     . rename_i hj
       obtain ⟨xs, n', _, _, _, hl, hd⟩ := DataW.trod_array ht hx
       have := hd _ hj
       rw [rJ (by omega)] at this
       obtain ⟨c, hc, hok⟩ := ih n' e _ _ (j % P.cellsOf e) lf h this
       obtain ⟨h1, h2⟩ := jcG hc
       rw [Nat.div_add_mod'] at h2
       exact ⟨c, h2, hok⟩
     . cases h
   . cases h
theorem QI {H : Type} {enc : TypeId × Value -> H} {base n : Nat} {held : Bool} {t : TypeId} {fs : Array Field} {cs : List Value} {x : DataW H × List MemPlace} (ht : P.underlying t = some (.struct fs)) (hx : DataW.trod enc P w base (fun _ => true) held n t cs = some x) : cs.length = P.cellsOf t := by
 obtain ⟨xs, n', _, _, h, _⟩ := DataW.trod_struct ht hx
 exact h
end
end Go.Idl
namespace Go.Idl.Sb
open Go Go.Idl Go.Idl.En
section
variable [Globs] {P : Program} {w : World}
def i8 : Lf := .int .i64
def i4 : Lf := .int .i32
def b1 : Lf := .int .u8
def h2 : Lf := .int .u16
def q8 : Lf := .int .u64
def stL (tw tr : TypeId) : List Lf := [i8, i8, i8, i8, i4, i4, i4, i4, i4, i4, i4, i4, i4, .sl tw, .sl tw, i8, .sl tr, b1, b1, b1, i8, b1, b1, b1, b1, b1, b1, b1, b1, i8, b1, b1, b1, b1, b1, b1, b1, b1, .bool, b1, b1, h2, h2, h2, h2, h2, h2, b1, b1, b1, q8, q8, i8, i8, i8]
def lfB : K -> Lf -> Bool
 | .pl, .int .i64 => true
 | .wd, .int .i32 => true
 | .byt, .int .u8 => true
 | .tr, .bool => true
 | .hf, .int .u16 => true
 | .nm, .int .u64 => true
 | _, _ => false
theorem ji7 (tw tr : TypeId) : ∀ q ∈ lAll, ∃ l, (stL tw tr)[q.2]? = some l /\ lfB q.1 l = true := by
 intro q hq
 have h : ∀ q ∈ lAll, (match (stL 0 0)[q.2]? with | some l => lfB q.1 l | none => false) = true := by decide +kernel
 have e : (stL tw tr)[q.2]? = (stL 0 0)[q.2]? := by
   have n13 : q.2 ≠ 13 := (by decide : ∀ q ∈ lAll, q.2 ≠ 13) q hq
   have n14 : q.2 ≠ 14 := (by decide : ∀ q ∈ lAll, q.2 ≠ 14) q hq
   have n16 : q.2 ≠ 16 := (by decide : ∀ q ∈ lAll, q.2 ≠ 16) q hq
   have hl : stL tw tr = (((stL 0 0).set 13 (.sl tw)).set 14 (.sl tw)).set 16 (.sl tr) := rfl
   rw [hl, rD (tR n16), rD (tR n14), rD (tR n13)]
 have := h q hq
 rw [e]
 cases hc : (stL 0 0)[q.2]? with
 | none => rw [hc] at this; cases this
 | some l => rw [hc] at this; exact ⟨l, rfl, this⟩
def ZP {α : Type} (toI : α -> IVal) (Qp : α -> Prop) (x : IVal) : Prop := ∃ r zs, x = .sl 0 r (zs.map toI) /\ (r = true -> zs = []) /\ ∀ z ∈ zs, Qp z
def jeJ (tw tr : TypeId) : Lf -> IVal -> Prop
 | .int k, x => ∃ n, x = .int k n /\ (Lit.int k n).wf = true
 | .bool, x => ∃ b, x = .bool b
 | .sl t, x => (t = tw -> ZP J w3i x) /\ (t = tr -> ZP Ra r64 x)
theorem K1 {k : IntKind} {n : Int} (h : (Lit.int k n).wf = true) : k.min <= n /\ n <= k.max := by
 simpa [Lit.wf] using h
theorem jjF {tw tr : TypeId} {k : K} {l : Lf} {x : IVal} (h : lfB k l = true) (hc : jeJ tw tr l x) : k.ty x := by
 unfold lfB at h
 split at h
 . obtain ⟨n, rfl, hn⟩ := hc
   have := K1 hn; simp [IntKind.min, IntKind.max, IntKind.signed, IntKind.bits] at this
   exact ⟨n, rfl, by unfold i64; omega⟩
 . obtain ⟨n, rfl, hn⟩ := hc
   have := K1 hn; simp [IntKind.min, IntKind.max, IntKind.signed, IntKind.bits] at this
   exact ⟨n, rfl, by omega, by omega⟩
 . obtain ⟨n, rfl, hn⟩ := hc
   have := K1 hn; simp [IntKind.min, IntKind.max, IntKind.signed, IntKind.bits] at this
   exact ⟨n.toNat, by congr 1; omega, by omega⟩
 . obtain ⟨b, rfl⟩ := hc
   exact ⟨b, rfl⟩
 . obtain ⟨n, rfl, hn⟩ := hc
   have := K1 hn; simp [IntKind.min, IntKind.max, IntKind.signed, IntKind.bits] at this
   exact ⟨n.toNat, by congr 1; omega, by omega⟩
 . obtain ⟨n, rfl, hn⟩ := hc
   have := K1 hn; simp [IntKind.min, IntKind.max, IntKind.signed, IntKind.bits] at this
   exact ⟨n.toNat, by congr 1; omega, by omega⟩
 . cases h
def mkV : List Value -> Value
 | [c] => c
 | cs => .agg cs.toArray
instance : Inhabited (Int × Int × Bool) := ⟨(0, 0, false)⟩
theorem at3 {f : Nat -> Option Lf} {l : List (Option Lf)} (j : Nat) (hj : j < 3) (h : (List.range 3).map f = l) {x : Option Lf} (hx : l[j]? = some x := by rfl) : f j = x := by
 have e := congrArg (fun l => l[j]?) h
 simp only [rM, List.getElem?_range hj, XA] at e
 rw [hx] at e
 exact tB e
theorem YO {H : Type} {enc : TypeId × Value -> H} {base n ts tw te tr ti : Nat} {held : Bool} {cs : List Value} {x : DataW H × List MemPlace}
   (hL : (List.range 55).map (JJ P 6 ts) = (stL tw tr).map some) (hw : P.underlying tw = some (.slice te)) (he : P.underlying te = some (.int .i32)) (hte : P.cellsOf te = 1) (hr : P.underlying tr = some (.slice ti)) (hti : P.cellsOf ti = 3)
   (hi : (List.range 3).map (JJ P 6 ti) = [some i8, some i8, some .bool]) (hlen : ∀ n cs (y : DataW H × List MemPlace), DataW.trod enc P w base (fun _ => true) held n ti cs = some y -> cs.length = 3) (hne : tw ≠ tr) (hcs : cs.length = 55)
   (h : DataW.trod enc P w base (fun _ => true) held n ts cs = some x) :
   ∃ xs : List IVal, xs.length = 55 /\ V (Qj P w) (.agg xs) (.agg cs.toArray) /\ qY (.agg xs) /\ xs.all IVal.isCell = true /\ xs.all nr1 = true /\ Ty lAll xs /\
     (∃ v, xs[13]? = some v /\ ZP J w3i v) /\ (∃ v, xs[14]? = some v /\ ZP J w3i v) /\ (∃ v, xs[16]? = some v /\ ZP Ra r64 v) := by
 have hst : (stL tw tr).length = 55 := rfl
 have words : ∀ m (c : Value) (y : DataW H × List MemPlace), DataW.trod enc P w base (fun _ => true) held m tw [c] = some y -> ∃ x, V (Qj P w) x c /\ un1 x = x /\ x.isCell = true /\ nr1 x = true /\ ZP J w3i x := by
   intro m c y hy
   obtain ⟨v, r, zs, hv, hQ, _, hV, _, hF, hN⟩ := KY (α := Int) (Q := w3i) (toI := J) (mk := mkV) (esz := 1) hw hte (by decide) (fun n cs y h => by
     obtain ⟨z, rfl, hz⟩ := jcK he h
     have := K1 hz; simp [IntKind.min, IntKind.max, IntKind.signed, IntKind.bits] at this
     exact ⟨z, ⟨by omega, by omega⟩, .int _ _, ⟨rfl, rfl⟩, rfl, rfl, rfl⟩) hy
   obtain rfl : c = v := by simpa using hv
   refine ⟨_, hV, rfl, rfl, hN, r, zs, rfl, ?_, hQ⟩
   intro hr
   rw [hr, nr2_sl] at hN
   have : (zs.map J).isEmpty = true := by simpa using hN
   simpa using this
 have hands : ∀ m (c : Value) (y : DataW H × List MemPlace), DataW.trod enc P w base (fun _ => true) held m tr [c] = some y -> ∃ x, V (Qj P w) x c /\ un1 x = x /\ x.isCell = true /\ nr1 x = true /\ ZP Ra r64 x := by
   intro m c y hy
   obtain ⟨v, r, zs, hv, hQ, _, hV, _, hF, hN⟩ := KY (α := Int × Int × Bool) (Q := r64) (toI := Ra) (mk := fun cs => .agg cs.toArray) (esz := 3) hr hti (by decide) (fun n cs y h => by
     have hl := hlen n cs y h
     have h0 := qP 6 n ti cs y 0 i8 (at3 0 (by decide) hi) h
     have h1 := qP 6 n ti cs y 1 i8 (at3 1 (by decide) hi) h
     have h2 := qP 6 n ti cs y 2 .bool (at3 2 (by decide) hi) h
     match cs, hl with
     | [a, b, c], _ =>
       obtain ⟨a', e0, z0, rfl, g0⟩ := h0
       obtain ⟨b', e1, z1, rfl, g1⟩ := h1
       obtain ⟨c', e2, z2, rfl⟩ := h2
       obtain rfl := tB e0
       obtain rfl := tB e1
       obtain rfl := tB e2
       have k0 := K1 g0; simp [IntKind.min, IntKind.max, IntKind.signed, IntKind.bits] at k0
       have k1 := K1 g1; simp [IntKind.min, IntKind.max, IntKind.signed, IntKind.bits] at k1
       refine ⟨(z0, z1, z2), ⟨⟨by show _ <= z0; omega, by show z0 < _; omega⟩, ⟨by show _ <= z1; omega, by show z1 < _; omega⟩⟩, ?_, ⟨rfl, rfl⟩, rfl, rfl, rfl⟩
       refine .agg _ _ rfl (fun i x v hx hv => ?_) (fun x hx => ?_)
       . match i with
         | 0 => simp at hx hv; subst hx hv; exact .int _ _
         | 1 => simp at hx hv; subst hx hv; exact .int _ _
         | 2 => simp at hx hv; subst hx hv; exact .bool _
         | i + 3 => simp at hx
       . simp only [List.mem_cons, List.not_mem_nil, or_false] at hx
         rcases hx with rfl | rfl | rfl <;> rfl) hy
   obtain rfl : c = v := by simpa using hv
   refine ⟨_, hV, rfl, rfl, hN, r, zs, rfl, ?_, hQ⟩
   intro hr
   rw [hr, nr2_sl] at hN
   have : (zs.map Ra).isEmpty = true := by simpa using hN
   simpa using this
 have cell : ∀ j, j < 55 -> ∃ x : IVal, (∃ c l, cs[j]? = some c /\ (stL tw tr)[j]? = some l /\ V (Qj P w) x c /\ un1 x = x /\ x.isCell = true /\ nr1 x = true /\ jeJ tw tr l x) := by
   intro j hj
   have e := congrArg (fun l => l[j]?) hL
   simp only [rM, List.getElem?_range hj, XA] at e
   obtain ⟨l, hl⟩ : ∃ l, (stL tw tr)[j]? = some l := ⟨_, rJ (by rw [hst]; exact hj)⟩
   rw [hl] at e
   have e : JJ P 6 ts j = some l := tB e
   obtain ⟨c, hc, ok⟩ := qP 6 n ts cs x j l e h
   cases l with
   | int k =>
     obtain ⟨z, rfl, hz⟩ := ok
     exact ⟨.int k z, _, _, hc, hl, .int _ _, rfl, rfl, rfl, z, rfl, hz⟩
   | bool =>
     obtain ⟨b, rfl⟩ := ok
     exact ⟨.bool b, _, _, hc, hl, .bool _, rfl, rfl, rfl, b, rfl⟩
   | sl t =>
     obtain ⟨m, y, hy⟩ := ok
     have ht : t = tw \/ t = tr := by
       have hm := List.mem_of_getElem? hl
       simp [stL, i8, i4, b1, h2, q8] at hm
       exact hm
     rcases ht with rfl | rfl
     . obtain ⟨x, a1, a2, a3, a4, a5⟩ := words m c y hy
       exact ⟨x, _, _, hc, hl, a1, a2, a3, a4, fun _ => a5, fun e => absurd e hne⟩
     . obtain ⟨x, a1, a2, a3, a4, a5⟩ := hands m c y hy
       exact ⟨x, _, _, hc, hl, a1, a2, a3, a4, fun e => absurd e.symm hne, fun _ => a5⟩
 obtain ⟨X, hX⟩ := Go.Deep.choose_lt cell
 have at_ : ∀ j, j < 55 -> ((List.range 55).map X)[j]? = some (X j) := fun j hj => by rw [rM, List.getElem?_range hj]; rfl
 have mem : ∀ v ∈ (List.range 55).map X, ∃ j, j < 55 /\ v = X j := fun v hv => by
   obtain ⟨j, hj, rfl⟩ := List.mem_map.1 hv
   exact ⟨j, List.mem_range.1 hj, rfl⟩
 refine ⟨(List.range 55).map X, by simp, ?_, ⟨?_, rfl⟩, ?_, ?_, ?_, ?_, ?_, ?_⟩
 . refine .agg _ _ (by simp [hcs]) (fun i x v hx hv => ?_) (fun x hx => ?_)
   . have hi : i < 55 := by
       rcases Nat.lt_or_ge i 55 with h | h
       . exact h
       . rw [rY (by simpa using h)] at hx; cases hx
     rw [at_ i hi] at hx
     obtain rfl := tB hx
     obtain ⟨c, l, h1, _, h2, _⟩ := hX i hi
     have hv : cs[i]? = some v := by simpa using hv
     rw [h1] at hv
     obtain rfl := tB hv
     exact h2
   . obtain ⟨j, hj, rfl⟩ := mem x hx
     obtain ⟨c, l, _, _, _, _, h3, _⟩ := hX j hj
     exact h3
 . rw [un2_agg]
   congr 1
   conv => rhs; rw [<- List.map_id ((List.range 55).map X)]
   refine List.map_congr_left fun v hv => ?_
   obtain ⟨j, hj, rfl⟩ := mem v hv
   obtain ⟨c, l, _, _, _, h3, _⟩ := hX j hj
   exact h3
 . rw [rG]
   intro v hv
   obtain ⟨j, hj, rfl⟩ := mem v hv
   obtain ⟨c, l, _, _, _, _, h3, _⟩ := hX j hj
   exact h3
 . rw [rG]
   intro v hv
   obtain ⟨j, hj, rfl⟩ := mem v hv
   obtain ⟨c, l, _, _, _, _, _, h3, _⟩ := hX j hj
   exact h3
 . intro q hq
   have hq55 : q.2 < 55 := (by decide : ∀ q ∈ lAll, q.2 < 55) q hq
   obtain ⟨c, l, _, hl, _, _, _, _, hok⟩ := hX q.2 hq55
   obtain ⟨l', hl', hb⟩ := ji7 tw tr q hq
   rw [hl] at hl'
   obtain rfl := tB hl'
   exact ⟨_, at_ _ hq55, jjF hb hok⟩
 . obtain ⟨c, l, _, hl, _, _, _, _, hok⟩ := hX 13 (by decide)
   obtain rfl : Lf.sl tw = l := tB hl
   exact ⟨_, at_ 13 (by decide), hok.1 rfl⟩
 . obtain ⟨c, l, _, hl, _, _, _, _, hok⟩ := hX 14 (by decide)
   obtain rfl : Lf.sl tw = l := tB hl
   exact ⟨_, at_ 14 (by decide), hok.1 rfl⟩
 . obtain ⟨c, l, _, hl, _, _, _, _, hok⟩ := hX 16 (by decide)
   obtain rfl : Lf.sl tr = l := tB hl
   exact ⟨_, at_ 16 (by decide), hok.2 rfl⟩
theorem jaD {H : Type} {enc : TypeId × Value -> H} {base n tt : Nat} {held : Bool} {cs : List Value} {x : DataW H × List MemPlace}
   (hi : (List.range 3).map (JJ P 6 tt) = [some h2, some h2, some b1]) (hl : cs.length = 3) (h : DataW.trod enc P w base (fun _ => true) held n tt cs = some x) :
   ∃ a b c : Nat, a < 65536 /\ b < 65536 /\ V (Qj P w) (.agg [.int .u16 a, .int .u16 b, .int .u8 c]) (.agg cs.toArray) := by
 have k0 := qP 6 n tt cs x 0 h2 (at3 0 (by decide) hi) h
 have k1 := qP 6 n tt cs x 1 h2 (at3 1 (by decide) hi) h
 have k2 := qP 6 n tt cs x 2 b1 (at3 2 (by decide) hi) h
 match cs, hl with
 | [a, b, c], _ =>
   obtain ⟨a', e0, z0, rfl, g0⟩ := k0
   obtain ⟨b', e1, z1, rfl, g1⟩ := k1
   obtain ⟨c', e2, z2, rfl, g2⟩ := k2
   obtain rfl := tB e0
   obtain rfl := tB e1
   obtain rfl := tB e2
   have j0 := K1 g0; simp [IntKind.min, IntKind.max, IntKind.signed, IntKind.bits] at j0
   have j1 := K1 g1; simp [IntKind.min, IntKind.max, IntKind.signed, IntKind.bits] at j1
   have j2 := K1 g2; simp [IntKind.min, IntKind.max, IntKind.signed, IntKind.bits] at j2
   obtain ⟨a, rfl⟩ : ∃ a : Nat, z0 = (a : Int) := ⟨z0.toNat, by omega⟩
   obtain ⟨b, rfl⟩ : ∃ b : Nat, z1 = (b : Int) := ⟨z1.toNat, by omega⟩
   obtain ⟨c, rfl⟩ : ∃ c : Nat, z2 = (c : Int) := ⟨z2.toNat, by omega⟩
   refine ⟨a, b, c, by omega, by omega, .agg _ _ rfl (fun i x v hx hv => ?_) (fun x hx => ?_)⟩
   . match i with
     | 0 => simp at hx hv; subst hx hv; exact .int _ _
     | 1 => simp at hx hv; subst hx hv; exact .int _ _
     | 2 => simp at hx hv; subst hx hv; exact .int _ _
     | i + 3 => simp at hx
   . simp only [List.mem_cons, List.not_mem_nil, or_false] at hx
     rcases hx with rfl | rfl | rfl <;> rfl
end
end Go.Idl.Sb
