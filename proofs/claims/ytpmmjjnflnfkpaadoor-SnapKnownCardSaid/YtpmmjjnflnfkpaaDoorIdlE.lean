/- The ideal machine and its evaluators, part 5; no conditions. -/
import Derived.Scope
import Derived.Test.YtpmmjjnflnfkpaaDoorIdlD
set_option linter.unusedSectionVars false
set_option linter.unusedVariables false
set_option linter.unusedSimpArgs false
namespace Go.Idl
def optW (x : Option Opd) (vs : List IVal) : Option Opd := match x, vs with
 | some _, a :: _ => some (.c a)
 | some y, [] => some y
 | none, _ => none
def optR (x : Option Opd) (vs : List IVal) : List IVal := match x with
 | some _ => vs.tail
 | none => vs
def IOp.with : IOp -> List IVal -> IOp
 | .pur k _, vs => .pur k (vs.map .c)
 | .pick _ _ _, [c, a, b] => .pick (.c c) (.c a) (.c b)
 | .build zs parts, vs => .build zs ((parts.zip vs).map fun p => (p.1.1, p.1.2.1, .c p.2))
 | .buildSl e _, vs => .buildSl e (vs.map .c)
 | .buildRs e _, vs => .buildRs e (vs.map .c)
 | .mkFn f xs _, vs => .mkFn f ((vs.take xs.length).map .c) ((vs.drop xs.length).map .c)
 | .minmax m _, vs => .minmax m (vs.map .c)
 | .call f _, vs => .call f (vs.map .c)
 | .callp f _, vs => .callp f (vs.map .c)
 | .callv _ _, a :: vs => .callv (.c a) (vs.map .c)
 | .inv tab _ _, a :: vs => .inv tab (.c a) (vs.map .c)
 | .mapSet kk _ _ _, [m, k, v] => .mapSet kk (.c m) (.c k) (.c v)
 | .sliceS _ lo hi, a :: vs => .sliceS (.c a) (optW lo vs) (optW hi (optR lo vs))
 | .sliceL e _ lo hi mx, a :: vs => .sliceL e (.c a) (optW lo vs) (optW hi (optR lo vs)) (optW mx (optR hi (optR lo vs)))
 | .mv  _, [a] => .mv  (.c a)
 | .box  _, [a] => .box  (.c a)
 | .vOf p0 p1 _, [a] => .vOf p0 p1 (.c a)
 | .boxv  _, [a] => .boxv  (.c a)
 | .load p0 p1 _, [a] => .load p0 p1 (.c a)
 | .nilCheck  _, [a] => .nilCheck  (.c a)
 | .isnil p0 p1 _, [a] => .isnil p0 p1 (.c a)
 | .un p0 _, [a] => .un p0 (.c a)
 | .conv p0 _, [a] => .conv p0 (.c a)
 | .mkIface p0 _, [a] => .mkIface p0 (.c a)
 | .fieldAddr p0 _, [a] => .fieldAddr p0 (.c a)
 | .field p0 p1 _, [a] => .field p0 p1 (.c a)
 | .lenS  _, [a] => .lenS  (.c a)
 | .lenL  _, [a] => .lenL  (.c a)
 | .lenM  _, [a] => .lenM  (.c a)
 | .panic  _, [a] => .panic  (.c a)
 | .clear p0 _, [a] => .clear p0 (.c a)
 | .store p0 _ _, [a, b] => .store p0 (.c a) (.c b)
 | .bin p0 _ _, [a, b] => .bin p0 (.c a) (.c b)
 | .eqa p0 _ _, [a, b] => .eqa p0 (.c a) (.c b)
 | .eqb p0 _ _, [a, b] => .eqb p0 (.c a) (.c b)
 | .idxAddr p0 _ _, [a, b] => .idxAddr p0 (.c a) (.c b)
 | .idxAddrA p0 p1 _ _, [a, b] => .idxAddrA p0 p1 (.c a) (.c b)
 | .idxS  _ _, [a, b] => .idxS  (.c a) (.c b)
 | .idxA p0 p1 p2 _ _, [a, b] => .idxA p0 p1 p2 (.c a) (.c b)
 | .lookup p0 p1 p2 _ _, [a, b] => .lookup p0 p1 p2 (.c a) (.c b)
 | .append p0 p1 p2 p3 _ _, [a, b] => .append p0 p1 p2 p3 (.c a) (.c b)
 | .copy p0 p1 _ _, [a, b] => .copy p0 p1 (.c a) (.c b)
 | .vSet p0 p1 _ _, [a, b] => .vSet p0 p1 (.c a) (.c b)
 | .mkSl p0 p1 p2 p3 _ _, [a, b] => .mkSl p0 p1 p2 p3 (.c a) (.c b)
 | o, _ => o
def okX : IOp -> Bool
 | .pick _ a b => plain a && plain b
 | .sliceS _ lo hi => plainO lo && plainO hi
 | .sliceL _ _ lo hi mx => plainO lo && (plainO hi && plainO mx)
 | .extract _ _ => false
 | _ => true
variable [Globs]
theorem get_c (v : IVal) (ts : Ts) : (Opd.c v).get ts = some (v, ts) := rfl
theorem getAll_cv (vs : List IVal) (ts : Ts) : getAll (vs.map .c) ts = some (vs, ts) := by
 induction vs with
 | nil => rfl
 | cons v vs ih => simp only [List.map_cons, getAll, get_c, ih]
theorem optW_ok {lo : Option Opd} (hp : plainO lo = true) {ts t1 ts0 : Ts} {vs ws : List IVal} {d : Nat} (h1 : getAll lo.toList ts = some (vs, t1)) :
   t1 = ts /\ optInt (optW lo (vs ++ ws)) ts0 d = optInt lo ts d /\ optR lo (vs ++ ws) = ws := by
 cases lo with
 | none =>
   simp only [Option.toList, getAll_nil] at h1
   obtain ⟨rfl, rfl⟩ := h1
   exact ⟨rfl, rfl, rfl⟩
 | some x =>
   simp only [Option.toList, getAll_cons, getAll_nil] at h1
   obtain ⟨v, t, ws', a1, ⟨rfl, rfl⟩, rfl⟩ := h1
   have := plain_get hp a1
   subst t1
   refine ⟨rfl, ?_, rfl⟩
   simp only [List.cons_append, List.nil_append, optW, optInt, get_c, a1]
   cases v <;> rfl
theorem stepOp_with {cf : CallF} {o : IOp} (hd : okX o = true) {ts t1 ts0 : Ts} {σ : List IObj} {wr : List (Nat × Bool)} {vs : List IVal} {r : Res}
   (h1 : getAll (opdsOf o) ts = some (vs, t1)) (hs : stepOp cf (o.with vs) ⟨ts0, σ, wr⟩ = some r) :
   stepOp cf o ⟨ts, σ, wr⟩ = some { r with s := { r.s with ts := t1 } } := by
 cases o
 case extract => simp [okX] at hd
 case mv x =>
   simp only [opdsOf, getAll_cons, getAll_nil] at h1
   obtain ⟨v, t, ws, a1, ⟨rfl, rfl⟩, rfl⟩ := h1
   simp only [IOp.with, stepOp, get_c, a1, rv, markW] at hs ⊢
   repeat' split at hs
   all_goals first | (cases hs; done) | (simp only [Option.some.injEq] at hs; subst hs; simp_all; done) | (simp only [Option.some.injEq] at hs; subst hs; rfl)
 case box x =>
   simp only [opdsOf, getAll_cons, getAll_nil] at h1
   obtain ⟨v, t, ws, a1, ⟨rfl, rfl⟩, rfl⟩ := h1
   simp only [IOp.with, stepOp, get_c, a1, rv, markW] at hs ⊢
   repeat' split at hs
   all_goals first | (cases hs; done) | (simp only [Option.some.injEq] at hs; subst hs; simp_all; done) | (simp only [Option.some.injEq] at hs; subst hs; rfl)
 case vOf G tab x =>
   simp only [opdsOf, getAll_cons, getAll_nil] at h1
   obtain ⟨v, t, ws, a1, ⟨rfl, rfl⟩, rfl⟩ := h1
   simp only [IOp.with, stepOp, get_c, a1, rv, markW] at hs ⊢
   repeat' split at hs
   all_goals first | (cases hs; done) | (simp only [Option.some.injEq] at hs; subst hs; simp_all; done) | (simp only [Option.some.injEq] at hs; subst hs; rfl)
 case boxv x =>
   simp only [opdsOf, getAll_cons, getAll_nil] at h1
   obtain ⟨v, t, ws, a1, ⟨rfl, rfl⟩, rfl⟩ := h1
   simp only [IOp.with, stepOp, get_c, a1, rv, markW] at hs ⊢
   repeat' split at hs
   all_goals first | (cases hs; done) | (simp only [Option.some.injEq] at hs; subst hs; simp_all; done) | (simp only [Option.some.injEq] at hs; subst hs; rfl)
 case load mvf n x =>
   simp only [opdsOf, getAll_cons, getAll_nil] at h1
   obtain ⟨v, t, ws, a1, ⟨rfl, rfl⟩, rfl⟩ := h1
   simp only [IOp.with, stepOp, get_c, a1, rv, markW] at hs ⊢
   repeat' split at hs
   all_goals first | (cases hs; done) | (simp only [Option.some.injEq] at hs; subst hs; simp_all; done) | (simp only [Option.some.injEq] at hs; subst hs; rfl)
 case nilCheck x =>
   simp only [opdsOf, getAll_cons, getAll_nil] at h1
   obtain ⟨v, t, ws, a1, ⟨rfl, rfl⟩, rfl⟩ := h1
   simp only [IOp.with, stepOp, get_c, a1, rv, markW] at hs ⊢
   repeat' split at hs
   all_goals first | (cases hs; done) | (simp only [Option.some.injEq] at hs; subst hs; simp_all; done) | (simp only [Option.some.injEq] at hs; subst hs; rfl)
 case isnil neg k x =>
   simp only [opdsOf, getAll_cons, getAll_nil] at h1
   obtain ⟨v, t, ws, a1, ⟨rfl, rfl⟩, rfl⟩ := h1
   simp only [IOp.with, stepOp, get_c, a1, rv, markW] at hs ⊢
   repeat' split at hs
   all_goals first | (cases hs; done) | (simp only [Option.some.injEq] at hs; subst hs; simp_all; done) | (simp only [Option.some.injEq] at hs; subst hs; rfl)
 case un op x =>
   simp only [opdsOf, getAll_cons, getAll_nil] at h1
   obtain ⟨v, t, ws, a1, ⟨rfl, rfl⟩, rfl⟩ := h1
   simp only [IOp.with, stepOp, get_c, a1, rv, markW] at hs ⊢
   repeat' split at hs
   all_goals first | (cases hs; done) | (simp only [Option.some.injEq] at hs; subst hs; simp_all; done) | (simp only [Option.some.injEq] at hs; subst hs; rfl)
 case conv c x =>
   simp only [opdsOf, getAll_cons, getAll_nil] at h1
   obtain ⟨v, t, ws, a1, ⟨rfl, rfl⟩, rfl⟩ := h1
   simp only [IOp.with, stepOp, get_c, a1, rv, markW] at hs ⊢
   repeat' split at hs
   all_goals first | (cases hs; done) | (simp only [Option.some.injEq] at hs; subst hs; simp_all; done) | (simp only [Option.some.injEq] at hs; subst hs; rfl)
 case mkIface t x =>
   simp only [opdsOf, getAll_cons, getAll_nil] at h1
   obtain ⟨v, t, ws, a1, ⟨rfl, rfl⟩, rfl⟩ := h1
   simp only [IOp.with, stepOp, get_c, a1, rv, markW] at hs ⊢
   repeat' split at hs
   all_goals first | (cases hs; done) | (simp only [Option.some.injEq] at hs; subst hs; simp_all; done) | (simp only [Option.some.injEq] at hs; subst hs; rfl)
 case fieldAddr o x =>
   simp only [opdsOf, getAll_cons, getAll_nil] at h1
   obtain ⟨v, t, ws, a1, ⟨rfl, rfl⟩, rfl⟩ := h1
   simp only [IOp.with, stepOp, get_c, a1, rv, markW] at hs ⊢
   repeat' split at hs
   all_goals first | (cases hs; done) | (simp only [Option.some.injEq] at hs; subst hs; simp_all; done) | (simp only [Option.some.injEq] at hs; subst hs; rfl)
 case field o n x =>
   simp only [opdsOf, getAll_cons, getAll_nil] at h1
   obtain ⟨v, t, ws, a1, ⟨rfl, rfl⟩, rfl⟩ := h1
   simp only [IOp.with, stepOp, get_c, a1, rv, markW] at hs ⊢
   repeat' split at hs
   all_goals first | (cases hs; done) | (simp only [Option.some.injEq] at hs; subst hs; simp_all; done) | (simp only [Option.some.injEq] at hs; subst hs; rfl)
 case lenS x =>
   simp only [opdsOf, getAll_cons, getAll_nil] at h1
   obtain ⟨v, t, ws, a1, ⟨rfl, rfl⟩, rfl⟩ := h1
   simp only [IOp.with, stepOp, get_c, a1, rv, markW] at hs ⊢
   repeat' split at hs
   all_goals first | (cases hs; done) | (simp only [Option.some.injEq] at hs; subst hs; simp_all; done) | (simp only [Option.some.injEq] at hs; subst hs; rfl)
 case lenL x =>
   simp only [opdsOf, getAll_cons, getAll_nil] at h1
   obtain ⟨v, t, ws, a1, ⟨rfl, rfl⟩, rfl⟩ := h1
   simp only [IOp.with, stepOp, get_c, a1, rv, markW] at hs ⊢
   repeat' split at hs
   all_goals first | (cases hs; done) | (simp only [Option.some.injEq] at hs; subst hs; simp_all; done) | (simp only [Option.some.injEq] at hs; subst hs; rfl)
 case lenM x =>
   simp only [opdsOf, getAll_cons, getAll_nil] at h1
   obtain ⟨v, t, ws, a1, ⟨rfl, rfl⟩, rfl⟩ := h1
   simp only [IOp.with, stepOp, get_c, a1, rv, markW] at hs ⊢
   repeat' split at hs
   all_goals first | (cases hs; done) | (simp only [Option.some.injEq] at hs; subst hs; simp_all; done) | (simp only [Option.some.injEq] at hs; subst hs; rfl)
 case panic x =>
   simp only [opdsOf, getAll_cons, getAll_nil] at h1
   obtain ⟨v, t, ws, a1, ⟨rfl, rfl⟩, rfl⟩ := h1
   simp only [IOp.with, stepOp, get_c, a1, rv, markW] at hs ⊢
   repeat' split at hs
   all_goals first | (cases hs; done) | (simp only [Option.some.injEq] at hs; subst hs; simp_all; done) | (simp only [Option.some.injEq] at hs; subst hs; rfl)
 case clear zs x =>
   simp only [opdsOf, getAll_cons, getAll_nil] at h1
   obtain ⟨v, t, ws, a1, ⟨rfl, rfl⟩, rfl⟩ := h1
   simp only [IOp.with, stepOp, get_c, a1, rv, markW] at hs ⊢
   cases v with
   | rs e id off len =>
     simp only at hs ⊢
     split at hs
     . rename_i hl
       split at hs
       . rename_i hc
         rw [if_pos hc]
         simp only [Option.some.injEq] at hs; subst hs; rfl
       . cases hs
     . cases hs
   | sl own r xs =>
     cases xs with
     | nil => simp only [Option.some.injEq] at hs ⊢; subst hs; rfl
     | cons => simp at hs
   | _ => simp at hs
 case store n x v =>
   simp only [opdsOf, getAll_cons, getAll_nil] at h1
   obtain ⟨v1, t, ws, a1, ⟨v2, t', ws', a2, ⟨rfl, rfl⟩, rfl⟩, rfl⟩ := h1
   simp only [IOp.with, stepOp, get_c, a1, a2, rv, markW] at hs ⊢
   repeat' split at hs
   all_goals first | (cases hs; done) | (simp only [Option.some.injEq] at hs; subst hs; simp_all; done) | (simp only [Option.some.injEq] at hs; subst hs; rfl)
 case bin op x y =>
   simp only [opdsOf, getAll_cons, getAll_nil] at h1
   obtain ⟨v1, t, ws, a1, ⟨v2, t', ws', a2, ⟨rfl, rfl⟩, rfl⟩, rfl⟩ := h1
   simp only [IOp.with, stepOp, get_c, a1, a2, rv, markW] at hs ⊢
   repeat' split at hs
   all_goals first | (cases hs; done) | (simp only [Option.some.injEq] at hs; subst hs; simp_all; done) | (simp only [Option.some.injEq] at hs; subst hs; rfl)
 case eqa neg x y =>
   simp only [opdsOf, getAll_cons, getAll_nil] at h1
   obtain ⟨v1, t, ws, a1, ⟨v2, t', ws', a2, ⟨rfl, rfl⟩, rfl⟩, rfl⟩ := h1
   simp only [IOp.with, stepOp, get_c, a1, a2, rv, markW] at hs ⊢
   repeat' split at hs
   all_goals first | (cases hs; done) | (simp only [Option.some.injEq] at hs; subst hs; simp_all; done) | (simp only [Option.some.injEq] at hs; subst hs; rfl)
 case eqb neg x y =>
   simp only [opdsOf, getAll_cons, getAll_nil] at h1
   obtain ⟨v1, t, ws, a1, ⟨v2, t', ws', a2, ⟨rfl, rfl⟩, rfl⟩, rfl⟩ := h1
   simp only [IOp.with, stepOp, get_c, a1, a2, rv, markW] at hs ⊢
   repeat' split at hs
   all_goals first | (cases hs; done) | (simp only [Option.some.injEq] at hs; subst hs; simp_all; done) | (simp only [Option.some.injEq] at hs; subst hs; rfl)
 case idxAddr esz x i =>
   simp only [opdsOf, getAll_cons, getAll_nil] at h1
   obtain ⟨v1, t, ws, a1, ⟨v2, t', ws', a2, ⟨rfl, rfl⟩, rfl⟩, rfl⟩ := h1
   simp only [IOp.with, stepOp, get_c, a1, a2, rv, markW] at hs ⊢
   repeat' split at hs
   all_goals first | (cases hs; done) | (simp only [Option.some.injEq] at hs; subst hs; simp_all; done) | (simp only [Option.some.injEq] at hs; subst hs; rfl)
 case idxAddrA len esz x i =>
   simp only [opdsOf, getAll_cons, getAll_nil] at h1
   obtain ⟨v1, t, ws, a1, ⟨v2, t', ws', a2, ⟨rfl, rfl⟩, rfl⟩, rfl⟩ := h1
   simp only [IOp.with, stepOp, get_c, a1, a2, rv, markW] at hs ⊢
   repeat' split at hs
   all_goals first | (cases hs; done) | (simp only [Option.some.injEq] at hs; subst hs; simp_all; done) | (simp only [Option.some.injEq] at hs; subst hs; rfl)
 case idxS x i =>
   simp only [opdsOf, getAll_cons, getAll_nil] at h1
   obtain ⟨v1, t, ws, a1, ⟨v2, t', ws', a2, ⟨rfl, rfl⟩, rfl⟩, rfl⟩ := h1
   simp only [IOp.with, stepOp, get_c, a1, a2, rv, markW] at hs ⊢
   repeat' split at hs
   all_goals first | (cases hs; done) | (simp only [Option.some.injEq] at hs; subst hs; simp_all; done) | (simp only [Option.some.injEq] at hs; subst hs; rfl)
 case idxA len esz n x i =>
   simp only [opdsOf, getAll_cons, getAll_nil] at h1
   obtain ⟨v1, t, ws, a1, ⟨v2, t', ws', a2, ⟨rfl, rfl⟩, rfl⟩, rfl⟩ := h1
   simp only [IOp.with, stepOp, get_c, a1, a2, rv, markW] at hs ⊢
   repeat' split at hs
   all_goals first | (cases hs; done) | (simp only [Option.some.injEq] at hs; subst hs; simp_all; done) | (simp only [Option.some.injEq] at hs; subst hs; rfl)
 case lookup kk z ok x k =>
   simp only [opdsOf, getAll_cons, getAll_nil] at h1
   obtain ⟨v1, t, ws, a1, ⟨v2, t', ws', a2, ⟨rfl, rfl⟩, rfl⟩, rfl⟩ := h1
   simp only [IOp.with, stepOp, get_c, a1, a2, rv, markW] at hs ⊢
   repeat' split at hs
   all_goals first | (cases hs; done) | (simp only [Option.some.injEq] at hs; subst hs; simp_all; done) | (simp only [Option.some.injEq] at hs; subst hs; rfl)
 case append byref str esz bytes sv x =>
   simp only [opdsOf, getAll_cons, getAll_nil] at h1
   obtain ⟨v1, t, ws, a1, ⟨v2, t', ws', a2, ⟨rfl, rfl⟩, rfl⟩, rfl⟩ := h1
   simp only [IOp.with, stepOp, get_c, a1, a2, rv, markW] at hs ⊢
   repeat' split at hs
   all_goals first | (cases hs; done) | (simp only [Option.some.injEq] at hs; subst hs; simp_all; done) | (simp only [Option.some.injEq] at hs; subst hs; rfl)
 case mkSl byref esz bytes zs len cap =>
   simp only [opdsOf, getAll_cons, getAll_nil] at h1
   obtain ⟨v1, t, ws, a1, ⟨v2, t', ws', a2, ⟨rfl, rfl⟩, rfl⟩, rfl⟩ := h1
   simp only [IOp.with, stepOp, get_c, a1, a2, rv, markW] at hs ⊢
   repeat' split at hs
   all_goals first | (cases hs; done) | (simp only [Option.some.injEq] at hs; subst hs; simp_all; done) | (simp only [Option.some.injEq] at hs; subst hs; rfl)
 case mapSet kk m k v =>
   simp only [opdsOf, getAll_cons, getAll_nil] at h1
   obtain ⟨v1, t, ws, a1, ⟨v2, t', ws', a2, ⟨v3, t3, ws3, a3, ⟨rfl, rfl⟩, rfl⟩, rfl⟩, rfl⟩ := h1
   simp only [IOp.with, stepOp, get_c, a1, a2, a3, rv, markW] at hs ⊢
   repeat' split at hs
   all_goals first | (cases hs; done) | (simp only [Option.some.injEq] at hs; subst hs; simp_all; done) | (simp only [Option.some.injEq] at hs; subst hs; rfl)
 case pur k xs =>
   simp only [opdsOf] at h1
   simp only [IOp.with, stepOp, getAll_cv, h1, rv, stepCall, addOut] at hs ⊢
   repeat' split at hs
   all_goals first | (cases hs; done) | (simp only [Option.some.injEq] at hs; subst hs; simp_all; done) | (simp only [Option.some.injEq] at hs; subst hs; rfl)
 case buildSl e xs =>
   simp only [opdsOf] at h1
   simp only [IOp.with, stepOp, getAll_cv, h1, rv, stepCall, addOut] at hs ⊢
   repeat' split at hs
   all_goals first | (cases hs; done) | (simp only [Option.some.injEq] at hs; subst hs; simp_all; done) | (simp only [Option.some.injEq] at hs; subst hs; rfl)
 case buildRs e xs =>
   simp only [opdsOf] at h1
   simp only [IOp.with, stepOp, getAll_cv, h1, rv, stepCall, addOut] at hs ⊢
   repeat' split at hs
   all_goals first | (cases hs; done) | (simp only [Option.some.injEq] at hs; subst hs; simp_all; done) | (simp only [Option.some.injEq] at hs; subst hs; rfl)
 case call f xs =>
   simp only [opdsOf] at h1
   simp only [IOp.with, stepOp, getAll_cv, h1, rv, stepCall, addOut] at hs ⊢
   repeat' split at hs
   all_goals first | (cases hs; done) | (simp only [Option.some.injEq] at hs; subst hs; simp_all; done) | (simp only [Option.some.injEq] at hs; subst hs; rfl)
 case callp f xs =>
   simp only [opdsOf] at h1
   simp only [IOp.with, stepOp, getAll_cv, h1, rv, stepCall, addOut] at hs ⊢
   repeat' split at hs
   all_goals first | (cases hs; done) | (simp only [Option.some.injEq] at hs; subst hs; simp_all; done) | (simp only [Option.some.injEq] at hs; subst hs; rfl)
 case alloc zs =>
   simp only [opdsOf, getAll_nil] at h1
   obtain ⟨rfl, rfl⟩ := h1
   simp only [IOp.with, stepOp, Option.some.injEq] at hs ⊢
   subst hs; rfl
 case mkMap =>
   simp only [opdsOf, getAll_nil] at h1
   obtain ⟨rfl, rfl⟩ := h1
   simp only [IOp.with, stepOp, Option.some.injEq] at hs ⊢
   subst hs; rfl
 case build zs parts =>
   simp only [opdsOf] at h1
   have hl := getAll_len h1
   have e1 : ((parts.zip vs).map fun p => (p.1.1, p.1.2.1, Opd.c p.2)).map (·.2.2) = vs.map Opd.c := by
     simp only [List.map_map]
     show (parts.zip vs).map (fun p => Opd.c p.2) = _
     rw [show (fun p : (Nat × Nat × Opd) × IVal => Opd.c p.2) = Opd.c ∘ Prod.snd from rfl, <- List.map_map, List.map_snd_zip (by simp at hl; omega)]
   have e2 : ∀ (ps : List (Nat × Nat × Opd)) (us : List IVal), ((((ps.zip us).map fun p => (p.1.1, p.1.2.1, Opd.c p.2)).zip us).map fun p => (p.1.1, p.1.2.1, un2 p.2)) = (ps.zip us).map fun p => (p.1.1, p.1.2.1, un2 p.2) := by
     intro ps
     induction ps with
     | nil => intro us; simp
     | cons p ps ih => intro us; cases us with
       | nil => simp
       | cons u us => simp [ih]
   simp only [IOp.with, stepOp, e1, e2, getAll_cv, h1, rv] at hs ⊢
   repeat' split at hs
   all_goals first | (cases hs; done) | (simp only [Option.some.injEq] at hs; subst hs; simp_all; done) | (simp only [Option.some.injEq] at hs; subst hs; rfl)
 case mkFn f xs ys =>
   simp only [opdsOf, getAll_append] at h1
   obtain ⟨v1, t, v2, a1, a2, rfl⟩ := h1
   have hl := getAll_len a1
   have e1 : (v1 ++ v2).take xs.length = v1 := by rw [<- hl]; simp
   have e2 : (v1 ++ v2).drop xs.length = v2 := by rw [<- hl]; simp
   simp only [IOp.with, stepOp, e1, e2, getAll_cv, a1, a2, rv] at hs ⊢
   repeat' split at hs
   all_goals first | (cases hs; done) | (simp only [Option.some.injEq] at hs; subst hs; simp_all; done) | (simp only [Option.some.injEq] at hs; subst hs; rfl)
 case callv f xs =>
   simp only [opdsOf, getAll_cons] at h1
   obtain ⟨v, t, ws, a1, a2, rfl⟩ := h1
   simp only [IOp.with, stepOp, get_c, getAll_cv, a1, rv, stepCall, addOut] at hs ⊢
   repeat' split at hs
   all_goals first | (cases hs; done) | (simp only [Option.some.injEq] at hs; subst hs; simp_all [addOut, stepCall]; done) | (simp only [Option.some.injEq] at hs; subst hs; rfl)
 case inv tab x xs =>
   simp only [opdsOf, getAll_cons] at h1
   obtain ⟨v, t, ws, a1, a2, rfl⟩ := h1
   simp only [IOp.with, stepOp, get_c, getAll_cv, a1, rv, stepCall, addOut] at hs ⊢
   repeat' split at hs
   all_goals first | (cases hs; done) | (simp only [Option.some.injEq] at hs; subst hs; simp_all [addOut, stepCall]; done) | (simp only [Option.some.injEq] at hs; subst hs; rfl)
 case pick c a b =>
   simp only [okX, Bool.and_eq_true] at hd
   simp only [opdsOf, getAll_cons, getAll_nil] at h1
   obtain ⟨v1, t, ws, a1, ⟨v2, t', ws', a2, ⟨v3, t3, ws3, a3, ⟨rfl, rfl⟩, rfl⟩, rfl⟩, rfl⟩ := h1
   have := plain_get hd.1 a2
   subst t'
   have := plain_get hd.2 a3
   subst t1
   simp only [IOp.with, stepOp, get_c, a1, rv] at hs ⊢
   repeat' split at hs
   all_goals first | (cases hs; done) | (simp only [Option.some.injEq] at hs; subst hs; simp_all; done) | (simp only [Option.some.injEq] at hs; subst hs; rfl)
 case sliceS x lo hi =>
   simp only [okX, Bool.and_eq_true] at hd
   simp only [opdsOf, getAll_cons, getAll_append] at h1
   obtain ⟨v, t, ws, a1, ⟨v1, t2, v2, b1, b2, rfl⟩, rfl⟩ := h1
   have q1 := fun d => optW_ok (d := d) (ts0 := ts0) (ws := v2) hd.1 b1
   obtain rfl := (q1 0).1
   have q2 := fun d => optW_ok (d := d) (ts0 := ts0) (ws := []) hd.2 b2
   obtain rfl := (q2 0).1
   simp only [List.append_nil] at q2
   simp only [IOp.with, stepOp, get_c, a1, (q1 0).2.2, fun d => (q1 d).2.1, fun d => (q2 d).2.1, rv] at hs ⊢
   repeat' split at hs
   all_goals first | (cases hs; done) | (simp only [Option.some.injEq] at hs; subst hs; simp_all; done) | (simp only [Option.some.injEq] at hs; subst hs; rfl)
 case sliceL e x lo hi mx =>
   simp only [okX, Bool.and_eq_true] at hd
   simp only [opdsOf, getAll_cons, getAll_append] at h1
   obtain ⟨v, t, ws, a1, ⟨v1, t2, v2', b1, ⟨v2, t3, v3, b2, b3, rfl⟩, rfl⟩, rfl⟩ := h1
   have q1 := fun d => optW_ok (d := d) (ts0 := ts0) (ws := v2 ++ v3) hd.1 b1
   obtain rfl := (q1 0).1
   have q2 := fun d => optW_ok (d := d) (ts0 := ts0) (ws := v3) hd.2.1 b2
   obtain rfl := (q2 0).1
   have q3 := fun d => optW_ok (d := d) (ts0 := ts0) (ws := []) hd.2.2 b3
   obtain rfl := (q3 0).1
   simp only [List.append_nil] at q3
   have hm : mx = none ↔ optW mx v3 = none := by
     cases mx with
     | none => simp [optW]
     | some y => cases v3 <;> simp [optW]
   cases v with
   | sl own r0 xs =>
     simp only [IOp.with, stepOp, get_c, a1, (q1 0).2.2, (q2 0).2.2, fun d => (q1 d).2.1, fun d => (q2 d).2.1, fun d => (q3 d).2.1, rv] at hs ⊢
     cases mx with
     | none =>
       simp only [hm.1] at hs
       repeat' split at hs
       all_goals first | (cases hs; done) | (simp only [Option.some.injEq] at hs; subst hs; simp_all; done)
     | some y =>
       obtain ⟨z, hz⟩ : ∃ z, optW (some y) v3 = some z := by cases v3 <;> exact ⟨_, rfl⟩
       simp only [hz] at hs
       repeat' split at hs
       all_goals first | (cases hs; done) | (simp only [Option.some.injEq] at hs; subst hs; simp_all; done)
   | rs e' id off len =>
     simp only [IOp.with, stepOp, get_c, a1, (q1 0).2.2, (q2 0).2.2, fun d => (q1 d).2.1, fun d => (q2 d).2.1, rv] at hs ⊢
     cases mx with
     | none =>
       simp only [hm.1] at hs
       repeat' split at hs
       all_goals first | (cases hs; done) | (simp only [Option.some.injEq] at hs; subst hs; simp_all; done)
     | some y =>
       obtain ⟨z, hz⟩ : ∃ z, optW (some y) v3 = some z := by cases v3 <;> exact ⟨_, rfl⟩
       simp only [hz] at hs
       repeat' split at hs
       all_goals first | (cases hs; done) | (simp only [Option.some.injEq] at hs; subst hs; simp_all; done)
   | _ => simp [IOp.with, stepOp, get_c] at hs
 case copy str esz d x =>
   simp only [opdsOf, getAll_cons, getAll_nil] at h1
   obtain ⟨v1, t, ws, a1, ⟨v2, t', ws', a2, ⟨rfl, rfl⟩, rfl⟩, rfl⟩ := h1
   cases v1 <;> simp [IOp.with, stepOp, get_c, a1, a2, rv, markW] at hs ⊢
   split at hs
   . split at hs
     . rename_i hc
       obtain ⟨rfl, hc2⟩ := hc
       simp only [Option.some.injEq] at hs; subst hs; simp_all
     . cases hs
   . cases hs
 case minmax m xs =>
   simp only [opdsOf] at h1
   revert h1 hs
   rcases vs with _ | ⟨v, _ | ⟨v2, _ | ⟨v3, vs⟩⟩⟩ <;> intro h1 hs
   . simp [IOp.with, stepOp, getAll] at hs
   . simp [IOp.with, stepOp, getAll, get_c] at hs
   . cases v <;> cases v2 <;> simp [IOp.with, stepOp, getAll, get_c, h1, rv] at hs ⊢
     obtain ⟨hk, hs⟩ := hs
     subst hs
     simp [hk]
   . have e := getAll_cv (v :: v2 :: v3 :: vs) ts0
     simp only [IOp.with, stepOp, e] at hs
     cases hs
 case vSet G tab x y =>
   simp only [opdsOf, getAll_cons, getAll_nil] at h1
   obtain ⟨v1, t, ws, a1, ⟨v2, t', ws', a2, ⟨rfl, rfl⟩, rfl⟩, rfl⟩ := h1
   simp only [IOp.with, stepOp, get_c, a1, markW] at hs ⊢
   split at hs
   . rename_i e1
     simp only [Option.some.injEq, Prod.mk.injEq] at e1
     obtain ⟨rfl, rfl⟩ := e1
     simp only [a2] at hs ⊢
     split at hs
     . rename_i e2
       simp only [Option.some.injEq, Prod.mk.injEq] at e2
       obtain ⟨rfl, rfl⟩ := e2
       split at hs
       . rename_i q1 q2
         simp only [q1, q2] at hs ⊢
         split at hs
         . rename_i q3
           rw [if_pos q3]
           split at hs
           . rename_i q4
             split at hs
             . rename_i q5
               simp only [Option.some.injEq] at hs; subst hs; simp only [q4]; rw [if_pos q5]
             . cases hs
           . cases hs
         . cases hs
       . cases hs
     . cases hs
   . cases hs
end Go.Idl
namespace Go.Idl
variable [Globs]
theorem quiet_step {cf : CallF} {o : IOp} (hq : quiet o = true) {s : St} {r : Res} (hn : noRs o s = true) (hs : stepOp cf o s = some r) :
   r.s.σ = s.σ /\ r.s.wr = s.wr /\ ∀ σ2, (∀ id, rdOf o s = some id -> σ2[id]? = s.σ[id]?) -> stepOp cf o { s with σ := σ2 } = some { r with s := { r.s with σ := σ2 } } := by
 cases o <;> simp only [quiet, Bool.false_eq_true] at hq
 case load mvf n x =>
   simp only [Bool.not_eq_true'] at hq
   subst hq
   simp only [stepOp, rv, rdOf] at hs ⊢
   cases hx : x.get s.ts with
   | none => simp [hx] at hs
   | some p =>
     obtain ⟨v, ts⟩ := p
     cases v <;> simp [hx] at hs ⊢
     case ptr id off =>
       split at hs
       . rename_i cs hcs
         split at hs
         . simp only [Option.some.injEq] at hs; subst hs
           refine ⟨rfl, rfl, fun σ2 h2 => ?_⟩
           have : loadCell σ2 id = loadCell s.σ id := by simp [loadCell, h2]
           simp_all
         . cases hs
       . cases hs
     case pv r cs off =>
       split at hs
       . simp only [Option.some.injEq] at hs; subst hs; simp_all
       . cases hs
 case lookup kk z ok x k =>
   simp only [stepOp, rv, rdOf] at hs ⊢
   cases hx : x.get s.ts with
   | none => simp [hx] at hs
   | some p =>
     obtain ⟨v, ts⟩ := p
     cases v <;> simp [hx] at hs ⊢
     case map id =>
       refine ⟨?_, ?_, fun σ2 h2 => ?_⟩
       . repeat' split at hs
         all_goals first | (cases hs; done) | (simp only [Option.some.injEq] at hs; subst hs; rfl)
       . repeat' split at hs
         all_goals first | (cases hs; done) | (simp only [Option.some.injEq] at hs; subst hs; rfl)
       . rw [h2]
         repeat' split at hs
         all_goals first | (cases hs; done) | (simp only [Option.some.injEq] at hs; subst hs; simp_all; done)
 case lenM x =>
   simp only [stepOp, rv, rdOf] at hs ⊢
   cases hx : x.get s.ts with
   | none => simp [hx] at hs
   | some p =>
     obtain ⟨v, ts⟩ := p
     cases v <;> simp [hx] at hs ⊢
     case map id =>
       refine ⟨?_, ?_, fun σ2 h2 => ?_⟩
       . repeat' split at hs
         all_goals first | (cases hs; done) | (simp only [Option.some.injEq] at hs; subst hs; rfl)
       . repeat' split at hs
         all_goals first | (cases hs; done) | (simp only [Option.some.injEq] at hs; subst hs; rfl)
       . rw [h2]
         repeat' split at hs
         all_goals first | (cases hs; done) | (simp only [Option.some.injEq] at hs; subst hs; simp_all; done)
 case append br str esz bytes x y =>
   simp only [Bool.not_eq_true'] at hq
   subst hq
   simp only [stepOp, rv, noRs, Bool.false_eq_true, if_false, false_and] at hs hn ⊢
   cases hx : x.get s.ts with
   | none => simp [hx] at hs
   | some p =>
     obtain ⟨v, ts⟩ := p
     simp only [hx] at hs hn
     cases hy : y.get ts with
     | none => simp [hy] at hs
     | some q =>
       obtain ⟨v2, ts2⟩ := q
       simp only [hy] at hs hn
       have he : ∀ σ2, elemsOf str esz v2 σ2 = elemsOf str esz v2 s.σ := by
         intro σ2
         cases str <;> cases v2 <;> first | rfl | simp at hn
       refine ⟨?_, ?_, fun σ2 _ => ?_⟩
       . repeat' split at hs
         all_goals first | (cases hs; done) | (simp only [Option.some.injEq] at hs; subst hs; rfl)
       . repeat' split at hs
         all_goals first | (cases hs; done) | (simp only [Option.some.injEq] at hs; subst hs; rfl)
       . simp only [hy, he σ2]
         repeat' split at hs
         all_goals first | (cases hs; done) | (simp only [Option.some.injEq] at hs; subst hs; simp_all; done)
 case minmax mx xs =>
   simp only [stepOp, rv] at hs ⊢
   cases hx : getAll xs s.ts with
   | none => simp [hx] at hs
   | some p =>
     obtain ⟨vs, ts⟩ := p
     simp only [hx] at hs
     rcases vs with _ | ⟨v, _ | ⟨v2, _ | ⟨v3, vs⟩⟩⟩
     . simp at hs
     . simp at hs
     . cases v <;> cases v2 <;> simp at hs ⊢
       obtain ⟨hk, hs⟩ := hs
       subst hs
       simp [hk]
     . simp at hs
 all_goals
   simp only [stepOp, rv] at hs ⊢
   repeat' split at hs
   all_goals first | (cases hs; done) | (simp only [Option.some.injEq] at hs; subst hs; simp_all; done)
def Same (σ σ' : List IObj) (wr : List (Nat × Bool)) : Prop := ∀ id, id < σ.length -> (∀ p ∈ wr, p.1 ≠ id) -> σ'[id]? = σ[id]?
theorem Same.refl (σ : List IObj) : Same σ σ [] := fun _ _ _ => rfl
theorem Same.trans {σ σ1 σ2 : List IObj} {w1 w2 : List (Nat × Bool)} (h : Same σ σ1 w1) (k : Same σ1 σ2 w2) : Same σ σ2 (w2 ++ w1) := by
 intro id hid hw
 have h1 := h id hid (fun p hp => hw p (by simp [hp]))
 have hlt : id < σ1.length := by
   rcases Nat.lt_or_ge id σ1.length with h2 | h2
   . exact h2
   . rw [List.getElem?_eq_none h2, List.getElem?_eq_getElem hid] at h1; cases h1
 rw [k id hlt (fun p hp => hw p (by simp [hp])), h1]
theorem Same.set (σ : List IObj) (i : Nat) (o : IObj) (b : Bool) : Same σ (σ.set i o) [(i, b)] := by
 intro id _ hw
 have := hw (i, b) (by simp)
 rw [List.getElem?_set_ne this]
theorem Same.push (σ : List IObj) (o : IObj) : Same σ (σ ++ [o]) [] := by
 intro id hid _
 rw [List.getElem?_append_left hid]
def CfSame (cf : CallF) : Prop := ∀ f args σ out, cf f args σ = some out -> Same σ out.σ out.wr
theorem stepOp_same {cf : CallF} (hcf : CfSame cf) {o : IOp} {s : St} {r : Res} (hs : stepOp cf o s = some r) : ∃ wn, r.s.wr = wn ++ s.wr /\ Same s.σ r.s.σ wn := by
 have hcall : ∀ f vs ts, stepCall cf f vs ts s = some r -> ∃ wn, r.s.wr = wn ++ s.wr /\ Same s.σ r.s.σ wn := by
   intro f vs ts h
   unfold stepCall at h
   split at h
   . rename_i out hout
     simp only [Option.some.injEq] at h
     subst h
     exact ⟨out.wr, rfl, hcf _ _ _ _ hout⟩
   . cases h
 cases o
 case alloc zs => simp only [stepOp, Option.some.injEq] at hs; subst hs; exact ⟨[], rfl, .push _ _⟩
 case mkMap => simp only [stepOp, Option.some.injEq] at hs; subst hs; exact ⟨[], rfl, .push _ _⟩
 case call f xs =>
   simp only [stepOp] at hs
   split at hs
   . exact hcall _ _ _ hs
   . cases hs
 case callv f xs =>
   simp only [stepOp] at hs
   split at hs
   . split at hs
     . exact hcall _ _ _ hs
     . cases hs
   . split at hs
     . exact hcall _ _ _ hs
     . cases hs
   . cases hs
 case inv tab x xs =>
   simp only [stepOp] at hs
   repeat' split at hs
   all_goals first
     | (cases hs; done)
     | exact hcall _ _ _ hs
 all_goals
   simp only [stepOp, rv, markW] at hs
   repeat' split at hs
   all_goals first
     | (cases hs; done)
     | (simp only [Option.some.injEq] at hs; subst hs; exact ⟨[], rfl, .refl _⟩)
     | (simp only [Option.some.injEq] at hs; subst hs; exact ⟨[], rfl, .push _ _⟩)
     | (simp only [Option.some.injEq] at hs; subst hs; exact ⟨[_], rfl, .set _ _ _ _⟩)
     | (simp only [Option.some.injEq] at hs; subst hs; exact ⟨[_], rfl, (Same.set _ _ .dead false).trans (.push _ _)⟩)
end Go.Idl
namespace Go.Idl
variable [Globs]
theorem Same.fin {σ σ' : List IObj} {wr : List (Nat × Bool)} (h : Same σ σ' wr) : Same σ (σ'.take σ.length) (wr.filter fun p => decide (p.1 < σ.length)) := by
 intro id hid hw
 rw [List.getElem?_take, if_pos hid]
 refine h id hid fun p hp he => ?_
 exact hw p (List.mem_filter.2 ⟨hp, by simp [he, hid]⟩) he
theorem Same.filter {σ σ' : List IObj} {wr : List (Nat × Bool)} (h : Same σ σ' wr) : Same σ σ' (wr.filter fun p => decide (p.1 < σ.length)) := by
 intro id hid hw
 refine h id hid fun p hp he => ?_
 exact hw p (List.mem_filter.2 ⟨hp, by simp [he, hid]⟩) he
def Chg (s s' : St) : Prop := ∃ wn, s'.wr = wn ++ s.wr /\ Same s.σ s'.σ wn
theorem Chg.refl (s : St) : Chg s s := ⟨[], rfl, .refl _⟩
theorem Chg.trans {s s1 s2 : St} (h : Chg s s1) (k : Chg s1 s2) : Chg s s2 := by
 obtain ⟨w1, h1, h2⟩ := h
 obtain ⟨w2, k1, k2⟩ := k
 exact ⟨w2 ++ w1, by rw [k1, h1, List.append_assoc], h2.trans k2⟩
theorem readRes_chg : ∀ {rs : List RV} {s s' : St} {vs : List IVal}, readRes rs s = some (vs, s') -> Chg s s' := by
 intro rs
 induction rs with
 | nil => intro s s' vs h; simp [readRes] at h; obtain ⟨-, rfl⟩ := h; exact .refl _
 | cons r rs ih =>
   intro s s' vs h
   cases r with
   | t i =>
     simp only [readRes] at h
     split at h
     . split at h
       . rename_i h1
         simp only [Option.some.injEq, Prod.mk.injEq] at h
         obtain ⟨-, rfl⟩ := h
         have := ih h1
         exact this
       . cases h
     . cases h
   | cell i n =>
     simp only [readRes] at h
     repeat' split at h
     all_goals first | (cases h; done) | skip
     rename_i h1
     simp only [Option.some.injEq, Prod.mk.injEq] at h
     obtain ⟨-, rfl⟩ := h
     exact Chg.trans ⟨[_], rfl, Same.set _ _ _ _⟩ (ih h1)
theorem runOps_chg {cf : CallF} (hcf : CfSame cf) : ∀ {l : List IOper} {s s' : St} {x : IExit}, runOps cf l s = some (x, s') -> Chg s s' := by
 intro l
 induction l with
 | nil => intro s s' x h; simp [runOps] at h; obtain ⟨-, rfl⟩ := h; exact .refl _
 | cons o os ih =>
   intro s s' x h
   simp only [runOps] at h
   split at h
   . split at h
     . rename_i v s1 h1
       have h2 := ih h
       exact Chg.trans (s1 := s1) (stepOp_same hcf h1) h2
     . rename_i v s1 h1
       simp only [Option.some.injEq, Prod.mk.injEq] at h
       obtain ⟨-, rfl⟩ := h
       exact stepOp_same hcf h1
     . cases h
   . exact ih (s := { s with ts := putT s.ts o.dst undefI }) h
   . cases h
theorem stepD_chg {cf : CallF} (hcf : CfSame cf) {o : IOper} {s s' : St} {l : DLog} (h : stepD cf o s = some (s', l)) : s'.wr = l.wr ++ s.wr /\ Same s.σ s'.σ l.wr := by
 simp only [stepD] at h
 split at h
 . split at h
   . split at h
     . split at h
       . rename_i hs
         obtain ⟨wn, h1, h2⟩ := stepOp_same hcf hs
         simp only [Option.some.injEq, Prod.mk.injEq] at h
         obtain ⟨rfl, rfl⟩ := h
         simp only [List.append_nil] at h1
         exact ⟨rfl, by rw [h1]; exact h2⟩
       . cases h
     . cases h
   . cases h
 . simp only [Option.some.injEq, Prod.mk.injEq] at h
   obtain ⟨rfl, rfl⟩ := h
   exact ⟨rfl, .refl _⟩
 . cases h
theorem runDraw_chg {cf : CallF} (hcf : CfSame cf) : ∀ {l : List (Nat × IOper)} {s s' : St} {ls : List (Nat × DLog)}, runDraw cf l s = some (s', ls) -> Chg s s' := by
 intro l
 induction l with
 | nil => intro s s' x h; simp [runDraw] at h; obtain ⟨rfl, -⟩ := h; exact .refl _
 | cons o os ih =>
   intro s s' x h
   simp only [runDraw] at h
   split at h
   . rename_i s1 lg h1
     split at h
     . rename_i h2
       simp only [Option.some.injEq, Prod.mk.injEq] at h
       obtain ⟨rfl, -⟩ := h
       exact Chg.trans ⟨_, stepD_chg hcf h1⟩ (ih h2)
     . cases h
   . cases h
def cfOf (F : IProg) (n : Nat) : CallF := fun f args σ => match f with
 | .f f => match F f with
   | some fn => callI (eval F n) fn args σ
   | none => none
 | .y id => roundI (eval F n) id args σ
theorem shut_same : ∀ (ds : List Nat) (σ σ' : List IObj), shut σ ds = some σ' -> Same σ σ' (ds.map fun id => (id, false)) := by
 intro ds
 induction ds with
 | nil => intro σ σ' h; simp [shut] at h; subst h; exact .refl _
 | cons id ds ih =>
   intro σ σ' h
   simp only [shut] at h
   split at h
   . have h3 := (Same.set σ id .dead false).trans (ih _ _ h)
     intro k hk hw
     refine h3 k hk fun p hp => hw p ?_
     simp only [List.mem_append, List.mem_singleton, List.map_cons, List.mem_cons] at hp ⊢
     rcases hp with hp | hp
     . exact .inr hp
     . exact .inl (by simpa using hp)
   . cases h
theorem fin_same {pan : Bool} {v : IVal} {σ : List IObj} {s1 : St} (h : ∃ wn, s1.wr = wn ++ [] /\ Same σ s1.σ wn) : Same σ (finish σ.length pan v s1).σ (finish σ.length pan v s1).wr := by
 obtain ⟨wn, h1, h2⟩ := h
 simp only [List.append_nil] at h1
 subst h1
 unfold finish
 split
 . exact h2.fin
 . exact h2.filter
theorem eval_chg {F : IProg} : ∀ n, CfSame (cfOf F n) /\ ∀ {c : ICode} {s s' : St} {x : IExit}, eval F n c s = some (x, s') -> Chg s s' := by
 have hret : ∀ {σ : List IObj} {s1 : St} {res : List RV} {out : Out}, (∃ wn, s1.wr = wn ++ [] /\ Same σ s1.σ wn) -> retI σ.length res s1 = some out -> Same σ out.σ out.wr := by
   intro σ s1 res out h0 h
   obtain ⟨wn, q1, q2⟩ := h0
   unfold retI at h
   split at h
   . rename_i σ1 hsh
     split at h
     . rename_i vs s' hrd
       split at h
       . simp only [Option.some.injEq] at h
         subst h
         obtain ⟨wn', k1, k2⟩ := readRes_chg hrd
         refine fin_same ⟨wn' ++ ((s1.ts.ds.map fun id => (id, false)) ++ wn), ?_, ?_⟩
         . rw [k1]; simp only; rw [q1]; simp
         . exact (q2.trans (shut_same _ _ _ hsh)).trans k2
       . cases h
     . cases h
   . cases h
 have hcall : ∀ n, (∀ {c : ICode} {s s' : St} {x : IExit}, eval F n c s = some (x, s') -> Chg s s') -> CfSame (cfOf F n) := by
   intro n ih f args σ out h
   unfold cfOf at h
   split at h
   . split at h
     . unfold callI at h
       repeat' split at h
       all_goals first | (cases h; done) | skip
       . rename_i h1; exact hret (ih h1) h
       . rename_i h1; exact hret (ih h1) h
       . rename_i h1 _ _
         simp only [Option.some.injEq] at h
         subst h
         exact fin_same (ih h1)
     . cases h
   . rename_i id
     unfold roundI at h
     split at h
     . split at h
       . split at h
         . rename_i s1 h1
           split at h
           . split at h
             . split at h
               . rename_i x s2 h2
                 split at h
                 . rename_i l2 _
                   have k0 : Chg { ts := ‹Ts›, σ := σ, wr := [] } s1 := ih h1
                   have k1 := ih h2
                   obtain ⟨w1, a1, a2⟩ := k0
                   obtain ⟨w2, b1, b2⟩ := k1
                   have key : ∀ (L : ILoop) (v : Bool), Same σ (finish σ.length false (.bool v) { s2 with σ := s2.σ.set id (.loop L), wr := (id, false) :: s2.wr }).σ (finish σ.length false (.bool v) { s2 with σ := s2.σ.set id (.loop L), wr := (id, false) :: s2.wr }).wr := by
                     intro L v
                     refine fin_same ⟨[(id, false)] ++ (w2 ++ ([(id, false)] ++ w1)), ?_, ?_⟩
                     . simp only [b1, a1]; simp
                     . exact ((a2.trans (Same.set _ _ _ _)).trans b2).trans (Same.set _ _ _ _)
                   split at h
                   . simp only [Option.some.injEq] at h; subst h; exact key _ _
                   . split at h
                     . simp only [Option.some.injEq] at h; subst h; exact key _ _
                     . cases h
                 . cases h
               . cases h
             . cases h
           . cases h
         . cases h
       . cases h
     . cases h
 intro n
 suffices h : ∀ {c : ICode} {s s' : St} {x : IExit}, eval F n c s = some (x, s') -> Chg s s' from ⟨hcall n h, h⟩
 induction n with
 | zero => intro c s s' x h; simp [eval] at h
 | succ n ih =>
   have hcf := hcall n ih
   have hcfe : (fun (f : Cal) (args : List IVal) (σ : List IObj) => match f with
     | .f f => match F f with
       | some fn => callI (eval F n) fn args σ
       | none => none
     | .y id => roundI (eval F n) id args σ) = cfOf F n := rfl
   intro c s s' x h
   cases c <;> simp only [eval, hcfe] at h
   case ops l => exact runOps_chg hcf h
   case draw l pairs =>
     split at h
     . rename_i h1
       split at h
       . simp only [Option.some.injEq, Prod.mk.injEq] at h
         obtain ⟨-, rfl⟩ := h
         exact runDraw_chg hcf h1
       . cases h
     . cases h
   case seq a b =>
     split at h
     . rename_i h1; exact (ih h1).trans (ih h)
     . exact ih h
   case cond y a b =>
     repeat' split at h
     all_goals first | (cases h; done) | exact ih h
   case block id b =>
     split at h
     . rename_i h1
       split at h
       . simp only [Option.some.injEq, Prod.mk.injEq] at h; obtain ⟨-, rfl⟩ := h; exact ih h1
       . simp only [Option.some.injEq, Prod.mk.injEq] at h; obtain ⟨-, rfl⟩ := h; exact ih h1
     . exact ih h
   case loop b =>
     split at h
     . rename_i h1; exact (ih h1).trans (ih h)
     . exact ih h
   case scope b =>
     split at h
     . cases h
     . exact ih h
   case rangeF y ps a b =>
     split at h
     . split at h
       . rename_i v σ1 wr1 hc
         split at h
         . rename_i l hl
           have k0 := hcf (.f _) _ _ _ hc
           have k1 : ∀ (ts : Ts), Chg s { ts := ts, σ := σ1.set (s.σ.length + 1) .dead, wr := (s.σ.length + 1, false) :: (wr1 ++ s.wr) } := by
             intro ts
             refine ⟨(s.σ.length + 1, false) :: wr1, by simp, ?_⟩
             have a1 : Same s.σ (s.σ ++ [.defr, .loop ⟨0, { s.ts with t := s.ts.t.un, ds := [] }, ps, a, b, none, .none⟩]) [] := by
               intro id hid _
               rw [List.getElem?_append_left hid]
             have := (a1.trans k0).trans (Same.set σ1 (s.σ.length + 1) .dead false)
             simpa using this
           split at h
           . cases h
           . split at h
             . simp only [Option.some.injEq, Prod.mk.injEq] at h; obtain ⟨-, rfl⟩ := h; exact k1 _
             . split at h
               . simp only [Option.some.injEq, Prod.mk.injEq] at h; obtain ⟨-, rfl⟩ := h; exact k1 _
               . cases h
         . cases h
       . cases h
     . cases h
   case stuck => cases h
   all_goals (simp only [Option.some.injEq, Prod.mk.injEq] at h; obtain ⟨-, rfl⟩ := h; exact .refl _)
end Go.Idl
namespace Go.Idl
variable [Globs]
def opdU : Opd -> List Nat
 | .t i => [i]
 | .m i => [i]
 | .c _ => []
def opdM : Opd -> List Nat
 | .m i => [i]
 | _ => []
def guardU : Option (Nat × Bool) -> List Nat
 | some (t, _) => [t]
 | none => []
def usesOf (o : IOper) : List Nat := (opdsOf o.op).flatMap opdU ++ guardU o.guard
def movesOf (o : IOper) : List Nat := (opdsOf o.op).flatMap opdM
theorem opdM_sub {x : Opd} {i : Nat} (h : i ∈ opdM x) : i ∈ opdU x := by cases x <;> simp_all [opdM, opdU]
theorem movesOf_sub {o : IOper} {i : Nat} (h : i ∈ movesOf o) : i ∈ usesOf o := by
 simp only [movesOf, List.mem_flatMap] at h
 obtain ⟨x, hx, hi⟩ := h
 exact List.mem_append_left _ (List.mem_flatMap.2 ⟨x, hx, opdM_sub hi⟩)
theorem Ts.get?_set_ne {ts : Ts} {i k : Nat} {v : IVal} (h : ts.slot i ≠ ts.slot k) : (ts.set i v).get? k = ts.get? k := by
 have h2 : (ts.set i v).slot k = ts.slot k := rfl
 unfold Ts.get?
 rw [h2]
 simp only [Ts.set, Tm.get_ne _ _ _ _ h]
theorem Ts.set_comm {ts : Ts} {i k : Nat} {v u : IVal} (h : ts.slot i ≠ ts.slot k) : (ts.set i v).set k u = (ts.set k u).set i v := by
 have h1 : (ts.set i v).slot k = ts.slot k := rfl
 have h2 : (ts.set k u).slot i = ts.slot i := rfl
 simp only [Ts.set] at *
 rw [h1, h2, Tm.set_comm _ _ _ _ _ h]
def mv1 (ts : Ts) (i : Nat) : Ts := match ts.get? i with
 | some v => ts.set i (un3 v)
 | none => ts
def mvAll (ms : List Nat) (ts : Ts) : Ts := ms.foldl mv1 ts
theorem mv1_some {ts : Ts} {i : Nat} {v : IVal} (h : ts.get? i = some v) : mv1 ts i = ts.set i (un3 v) := by unfold mv1; rw [h]
theorem mv1_none {ts : Ts} {i : Nat} (h : ts.get? i = none) : mv1 ts i = ts := by unfold mv1; rw [h]
theorem mv1_sh (ts : Ts) (i : Nat) : SameSh ts (mv1 ts i) := by unfold mv1; split <;> exact ⟨rfl, rfl, rfl⟩
theorem SameSh.slot {ts ts' : Ts} (h : SameSh ts ts') (k : Nat) : ts'.slot k = ts.slot k := by simp only [Ts.slot, h.1, h.2.1]
theorem mvAll_sh (ms : List Nat) : ∀ (ts : Ts), SameSh ts (mvAll ms ts) := by
 induction ms with
 | nil => intro ts; exact .refl _
 | cons m ms ih => intro ts; exact (mv1_sh _ _).trans (ih _)
theorem mv1_ne {ts : Ts} {i k : Nat} (h : ts.slot i ≠ ts.slot k) : (mv1 ts i).get? k = ts.get? k := by
 unfold mv1; split
 . exact Ts.get?_set_ne h
 . rfl
theorem mv1_eq {ts : Ts} {i : Nat} : (mv1 ts i).get? i = (ts.get? i).map un3 := by
 cases hv : ts.get? i with
 | none => rw [mv1_none hv, hv]; rfl
 | some v => rw [mv1_some hv, Ts.get?_set hv]; rfl
theorem mvAll_ne {ms : List Nat} : ∀ {ts : Ts} {k : Nat}, (∀ m ∈ ms, ts.slot m ≠ ts.slot k) -> (mvAll ms ts).get? k = ts.get? k := by
 induction ms with
 | nil => intro ts k _; rfl
 | cons m ms ih =>
   intro ts k h
   refine (ih (ts := mv1 ts m) fun m' hm => ?_).trans (mv1_ne (h m (by simp)))
   rw [(mv1_sh ts m).slot, (mv1_sh ts m).slot]; exact h m' (by simp [hm])
theorem mv1_set {ts : Ts} {i m : Nat} {v : IVal} (h : ts.slot i ≠ ts.slot m) : mv1 (ts.set i v) m = (mv1 ts m).set i v := by
 unfold mv1
 rw [Ts.get?_set_ne h]
 split
 . rw [Ts.set_comm h]
 . rfl
theorem mvAll_set {ms : List Nat} : ∀ {ts : Ts} {i : Nat} {v : IVal}, (∀ m ∈ ms, ts.slot i ≠ ts.slot m) -> mvAll ms (ts.set i v) = (mvAll ms ts).set i v := by
 induction ms with
 | nil => intro ts i v _; rfl
 | cons m ms ih =>
   intro ts i v h
   simp only [mvAll, List.foldl_cons]
   rw [mv1_set (h m (by simp))]
   refine ih (ts := mv1 ts m) fun m' hm => ?_
   rw [(mv1_sh ts m).slot, (mv1_sh ts m).slot]; exact h m' (by simp [hm])
theorem mv1_mv1 {ts : Ts} {i m : Nat} (h : ts.slot i ≠ ts.slot m) : mv1 (mv1 ts i) m = mv1 (mv1 ts m) i := by
 have h1 : (mv1 ts m).get? i = ts.get? i := mv1_ne (Ne.symm h)
 cases hv : ts.get? i with
 | none =>
   rw [mv1_none hv, mv1_none (h1.trans hv)]
 | some v => rw [mv1_some hv, mv1_some (h1.trans hv), mv1_set h]
theorem mvAll_mv1 {ms : List Nat} : ∀ {ts : Ts} {i : Nat}, (∀ m ∈ ms, ts.slot i ≠ ts.slot m) -> mvAll ms (mv1 ts i) = mv1 (mvAll ms ts) i := by
 induction ms with
 | nil => intro ts i _; rfl
 | cons m ms ih =>
   intro ts i h
   simp only [mvAll, List.foldl_cons]
   rw [mv1_mv1 (h m (by simp))]
   refine ih (ts := mv1 ts m) fun m' hm => ?_
   rw [(mv1_sh ts m).slot, (mv1_sh ts m).slot]; exact h m' (by simp [hm])
theorem mvAll_mvAll {ks : List Nat} : ∀ {ms : List Nat} {ts : Ts}, (∀ k ∈ ks, ∀ m ∈ ms, ts.slot k ≠ ts.slot m) -> mvAll ms (mvAll ks ts) = mvAll ks (mvAll ms ts) := by
 induction ks with
 | nil => intro ms ts _; rfl
 | cons k ks ih =>
   intro ms ts h
   simp only [mvAll, List.foldl_cons]
   have h1 := ih (ms := ms) (ts := mv1 ts k) (fun k' hk m hm => by rw [(mv1_sh ts k).slot, (mv1_sh ts k).slot]; exact h k' (by simp [hk]) m hm)
   have h2 := mvAll_mv1 (ts := ts) (h k (by simp))
   simp only [mvAll] at h1 h2
   rw [h1, h2]
def Off (U : List Nat) (ts ts2 : Ts) : Prop := ∀ k ∈ U, ts.get? k = ts2.get? k
theorem Off.symm {U : List Nat} {ts ts2 : Ts} (h : Off U ts ts2) : Off U ts2 ts := fun k hk => (h k hk).symm
theorem Ts.get?_set_iff {ts : Ts} {i k : Nat} {v : IVal} (h : ts.get? i = some v) (y : IVal) (hk : k ≠ i) : (ts.set i y).get? k = ts.get? k := by
 by_cases hs : ts.slot i = ts.slot k
 . have h1 := Ts.get?_spec h
   have h2 : (ts.set i y).slot k = ts.slot k := rfl
   unfold Ts.get?
   rw [h2, <- hs, h1]
   simp only [Ts.set, Tm.get_set, get_has h1, cond_true]
   have : Nat.beq i k = false := by
     cases hb : Nat.beq i k with
     | false => rfl
     | true => exact absurd (Nat.eq_of_beq_eq_true hb).symm hk
   rw [this]; rfl
 . exact Ts.get?_set_ne hs
theorem Off.mv1 {U : List Nat} {ts ts2 : Ts} (h : Off U ts ts2) (i : Nat) (hi : i ∈ U) : Off U (mv1 ts i) (mv1 ts2 i) := by
 intro k hk
 by_cases e : k = i
 . subst e; rw [mv1_eq, mv1_eq, h k hi]
 . cases hv : ts.get? i with
   | none => rw [mv1_none hv, mv1_none ((h i hi).symm.trans hv)]; exact h k hk
   | some v =>
     have hv2 := (h i hi).symm.trans hv
     rw [mv1_some hv, mv1_some hv2, Ts.get?_set_iff hv _ e, Ts.get?_set_iff hv2 _ e]
     exact h k hk
theorem get_off {U : List Nat} {x : Opd} (hx : ∀ i ∈ opdU x, i ∈ U) {ts ts2 ts' : Ts} {v : IVal} (h : Off U ts ts2) (hg : x.get ts = some (v, ts')) :
   ts' = mvAll (opdM x) ts /\ x.get ts2 = some (v, mvAll (opdM x) ts2) /\ Off U ts' (mvAll (opdM x) ts2) := by
 cases x with
 | t i =>
   have hi := h i (hx i (by simp [opdU]))
   simp only [Opd.get, opdM, mvAll, List.foldl_nil] at hg ⊢
   rw [<- hi]
   split at hg
   . simp only [Option.some.injEq, Prod.mk.injEq] at hg; obtain ⟨rfl, rfl⟩ := hg
     exact ⟨rfl, rfl, h⟩
   . cases hg
 | m i =>
   have hiU := hx i (by simp [opdU])
   have hi := h i hiU
   simp only [Opd.get, opdM, mvAll, List.foldl_cons, List.foldl_nil] at hg ⊢
   rw [<- hi]
   split at hg
   . rename_i v0 hv
     simp only [Option.some.injEq, Prod.mk.injEq] at hg; obtain ⟨rfl, rfl⟩ := hg
     have e1 := mv1_some hv
     have e2 := mv1_some (hi.symm.trans hv)
     rw [e1, e2]
     refine ⟨rfl, rfl, ?_⟩
     rw [<- e1, <- e2]
     exact h.mv1 i hiU
   . cases hg
 | c c =>
   simp only [Opd.get, Option.some.injEq, Prod.mk.injEq] at hg
   obtain ⟨rfl, rfl⟩ := hg
   exact ⟨rfl, rfl, h⟩
theorem getAll_off {U : List Nat} {xs : List Opd} : ∀ {ts ts2 ts' : Ts} {vs : List IVal}, (∀ i ∈ xs.flatMap opdU, i ∈ U) -> Off U ts ts2 -> getAll xs ts = some (vs, ts') ->
   ts' = mvAll (xs.flatMap opdM) ts /\ getAll xs ts2 = some (vs, mvAll (xs.flatMap opdM) ts2) := by
 induction xs with
 | nil =>
   intro ts ts2 ts' vs _ _ h
   rw [getAll_nil] at h
   obtain ⟨rfl, rfl⟩ := h
   exact ⟨rfl, rfl⟩
 | cons x xs ih =>
   intro ts ts2 ts' vs hU ho h
   rw [getAll_cons] at h
   obtain ⟨v, t1, ws, h1, h2, rfl⟩ := h
   obtain ⟨e1, e2, e3⟩ := get_off (fun i hi => hU i (by simp [hi])) ho h1
   obtain ⟨f1, f2⟩ := ih (fun i hi => hU i (by simp at hi ⊢; exact .inr hi)) e3 h2
   have happ : ∀ t, mvAll ((x :: xs).flatMap opdM) t = mvAll (xs.flatMap opdM) (mvAll (opdM x) t) := by
     intro t; simp [mvAll, List.foldl_append]
   refine ⟨by rw [happ, <- e1, f1], ?_⟩
   rw [getAll_cons]
   exact ⟨v, _, ws, e2, by rw [happ]; exact f2, rfl⟩
theorem wantedI_off {U : List Nat} {gd : Option (Nat × Bool)} (hU : ∀ i ∈ guardU gd, i ∈ U) {ts ts2 : Ts} (h : Off U ts ts2) : wantedI gd ts2 = wantedI gd ts := by
 cases gd with
 | none => rfl
 | some p => obtain ⟨t, b⟩ := p; simp only [wantedI]; rw [h t (hU t (by simp [guardU]))]
theorem rdOf_off {U : List Nat} {o : IOp} (hU : ∀ i ∈ (opdsOf o).flatMap opdU, i ∈ U) {s : St} {ts2 : Ts} {σ2 : List IObj} {wr2 : List (Nat × Bool)} (h : Off U s.ts ts2) {vs : List IVal} {ts' : Ts} (hg : getAll (opdsOf o) s.ts = some (vs, ts')) :
   rdOf o { ts := ts2, σ := σ2, wr := wr2 } = rdOf o s := by
 cases o <;> simp only [rdOf]
 case load mvf n x =>
   simp only [opdsOf, getAll_cons] at hg hU
   obtain ⟨v, t1, ws, h1, h2, rfl⟩ := hg
   obtain ⟨e1, e2, e3⟩ := get_off (fun i hi => hU i (by simp [hi])) h h1
   rw [h1, e2]; cases v <;> rfl
 case lookup kk z ok x k =>
   simp only [opdsOf, getAll_cons] at hg hU
   obtain ⟨v, t1, ws, h1, h2, rfl⟩ := hg
   obtain ⟨e1, e2, e3⟩ := get_off (fun i hi => hU i (by simp [hi])) h h1
   rw [h1, e2]; cases v <;> rfl
 case lenM x =>
   simp only [opdsOf, getAll_cons] at hg hU
   obtain ⟨v, t1, ws, h1, h2, rfl⟩ := hg
   obtain ⟨e1, e2, e3⟩ := get_off (fun i hi => hU i (by simp [hi])) h h1
   rw [h1, e2]; cases v <;> rfl
theorem noRs_off {U : List Nat} {o : IOp} (hU : ∀ i ∈ (opdsOf o).flatMap opdU, i ∈ U) {s : St} {ts2 : Ts} {σ2 : List IObj} {wr2 : List (Nat × Bool)} (h : Off U s.ts ts2) {vs : List IVal} {ts' : Ts} (hg : getAll (opdsOf o) s.ts = some (vs, ts')) :
   noRs o { ts := ts2, σ := σ2, wr := wr2 } = noRs o s := by
 cases o <;> simp only [noRs]
 case append br str esz bytes sv x =>
   simp only [opdsOf, getAll_cons] at hg hU
   obtain ⟨v, t1, ws, h1, ⟨v2, t2, ws2, h2, h3, rfl⟩, rfl⟩ := hg
   obtain ⟨e1, e2, e3⟩ := get_off (fun i hi => hU i (by simp [hi])) h h1
   obtain ⟨f1, f2, f3⟩ := get_off (fun i hi => hU i (by simp [hi])) e3 h2
   cases br with
   | true => rfl
   | false => simp only [h1, e2, h2, f2]; cases v2 <;> rfl
 case conv c x =>
   simp only [opdsOf, getAll_cons] at hg hU
   obtain ⟨v, t1, ws, h1, h2, rfl⟩ := hg
   obtain ⟨e1, e2, e3⟩ := get_off (fun i hi => hU i (by simp [hi])) h h1
   rw [h1, e2]; cases v <;> rfl
end Go.Idl
namespace Go.Idl
variable [Globs]
theorem Off.refl (U : List Nat) (ts : Ts) : Off U ts ts := fun _ _ => rfl
theorem stepD_len {cf : CallF} {o : IOper} {s s1 : St} {l : DLog} (h : stepD cf o s = some (s1, l)) : l.len <= s.σ.length := by
 simp only [stepD] at h
 repeat' split at h
 all_goals first | (cases h; done) | skip
 all_goals
   simp only [Option.some.injEq, Prod.mk.injEq] at h
   obtain ⟨-, rfl⟩ := h
   simp
theorem stepD_ts {cf : CallF} {o : IOper} (hd : drawable o.op = true) {s s1 : St} {l : DLog} (h : stepD cf o s = some (s1, l)) :
   ∃ v ms, (∀ m ∈ ms, m ∈ movesOf o) /\ s1.ts = putT (mvAll ms s.ts) o.dst v /\ s1.wr = l.wr ++ s.wr /\
     ∀ ts2 wr2, Off (usesOf o) s.ts ts2 -> stepD cf o ⟨ts2, s.σ, wr2⟩ = some (⟨putT (mvAll ms ts2) o.dst v, s1.σ, l.wr ++ wr2⟩, l) := by
 have hU1 : ∀ i ∈ (opdsOf o.op).flatMap opdU, i ∈ usesOf o := fun i hi => List.mem_append_left _ hi
 have hU2 : ∀ i ∈ guardU o.guard, i ∈ usesOf o := fun i hi => List.mem_append_right _ hi
 simp only [stepD] at h
 split at h
 . rename_i hw
   split at h
   . rename_i hn
     split at h
     . rename_i p hg
       obtain ⟨vs, t'⟩ := p
       split at h
       . rename_i v s' hs
         simp only [Option.some.injEq, Prod.mk.injEq] at h
         obtain ⟨rfl, rfl⟩ := h
         obtain ⟨e1, -⟩ := getAll_off hU1 (Off.refl _ s.ts) hg
         obtain ⟨d1, -⟩ := stepOp_dep hd (s := { s with wr := [] }) (ts2 := s.ts) hg hg hs
         refine ⟨v, movesOf o, fun m hm => hm, ?_, rfl, fun ts2 wr2 ho => ?_⟩
         . simp only at d1 ⊢; rw [d1, e1]; rfl
         . obtain ⟨-, e2⟩ := getAll_off hU1 ho hg
           obtain ⟨-, d2⟩ := stepOp_dep hd (s := { s with wr := [] }) (ts2 := ts2) hg e2 hs
           simp only [stepD, wantedI_off hU2 ho, hw, noRs_off hU1 ho hg, rdOf_off hU1 ho hg, hn, if_true, e2]
           simp only at d2
           rw [d2]
           rfl
       . cases h
     . cases h
   . cases h
 . rename_i hw
   simp only [Option.some.injEq, Prod.mk.injEq] at h
   obtain ⟨rfl, rfl⟩ := h
   refine ⟨undefI, [], fun m hm => (by cases hm), rfl, rfl, fun ts2 wr2 ho => ?_⟩
   simp only [stepD, wantedI_off hU2 ho, hw]
   rfl
 . cases h
theorem stepD_quiet {cf : CallF} {o : IOper} (hq : quiet o.op = true) {s s1 : St} {l : DLog} (h : stepD cf o s = some (s1, l)) :
   s1.σ = s.σ /\ l.wr = [] /\ ∀ σ2, (∀ id, l.rd = some id -> σ2[id]? = s.σ[id]?) -> stepD cf o { s with σ := σ2 } = some ({ s1 with σ := σ2 }, l) := by
 have hU1 : ∀ i ∈ (opdsOf o.op).flatMap opdU, i ∈ usesOf o := fun i hi => List.mem_append_left _ hi
 simp only [stepD] at h
 split at h
 . rename_i hw
   split at h
   . rename_i hn
     split at h
     . rename_i p hg
       obtain ⟨vs, t'⟩ := p
       split at h
       . rename_i v s' hs
         simp only [Option.some.injEq, Prod.mk.injEq] at h
         obtain ⟨rfl, rfl⟩ := h
         have hrd : ∀ σ2 wr2, rdOf o.op { ts := s.ts, σ := σ2, wr := wr2 } = rdOf o.op s := fun σ2 wr2 => rdOf_off hU1 (Off.refl _ s.ts) hg
         have hnr : ∀ σ2 wr2, noRs o.op { ts := s.ts, σ := σ2, wr := wr2 } = noRs o.op s := fun σ2 wr2 => noRs_off hU1 (Off.refl _ s.ts) hg
         obtain ⟨q1, q2, q3⟩ := quiet_step hq (s := { s with wr := [] }) ((hnr s.σ []).trans hn) hs
         simp only at q1 q2
         refine ⟨q1, q2, fun σ2 hσ => ?_⟩
         have q4 := q3 σ2 (fun id hid => hσ id (by rw [<- hid]; exact (hrd s.σ []).symm))
         simp only at q4
         simp only [stepD, hw, hnr, hrd, hn, if_true, hg, q4, hq]
       . cases h
     . cases h
   . cases h
 . rename_i hw
   simp only [Option.some.injEq, Prod.mk.injEq] at h
   obtain ⟨rfl, rfl⟩ := h
   refine ⟨rfl, rfl, fun σ2 hσ => ?_⟩
   simp only [stepD, hw]
 . cases h
def mayRead : IOp -> Bool
 | .load _ _ _ => true
 | .lookup _ _ _ _ _ => true
 | .lenM _ => true
 | _ => false
theorem stepD_rd {cf : CallF} {o : IOper} (hr : mayRead o.op = false) {s s1 : St} {l : DLog} (h : stepD cf o s = some (s1, l)) : l.rd = none := by
 have hrd : rdOf o.op s = none := by cases ho : o.op <;> simp [ho, mayRead] at hr <;> rfl
 simp only [stepD] at h
 repeat' split at h
 all_goals first | (cases h; done) | skip
 all_goals
   simp only [Option.some.injEq, Prod.mk.injEq] at h
   obtain ⟨-, rfl⟩ := h
   first | rfl | exact hrd
def dstOff (sl : Nat -> Nat) (d : Option Nat) (U : List Nat) : Bool := match d with
 | some k => U.all fun u => !(Nat.beq (sl k) (sl u))
 | none => true
def dstNe (sl : Nat -> Nat) (d e : Option Nat) : Bool := match d, e with
 | some a, some b => !(Nat.beq (sl a) (sl b))
 | _, _ => true
def indep (sl : Nat -> Nat) (i j : IOper) : Bool :=
 (drawable i.op && drawable j.op) && ((quiet i.op || quiet j.op) && (dstNe sl i.dst j.dst && ((dstOff sl i.dst (usesOf j) && dstOff sl j.dst (usesOf i)) &&
   ((movesOf i).all (fun k => dstOff sl (some k) (usesOf j)) && (movesOf j).all (fun k => dstOff sl (some k) (usesOf i))))))
theorem nbeq_ne {a b : Nat} (h : (!(Nat.beq a b)) = true) : a ≠ b := by
 intro e; subst e; simp at h
theorem dstOff_ne {sl : Nat -> Nat} {k u : Nat} {U : List Nat} (h : dstOff sl (some k) U = true) (hu : u ∈ U) : sl k ≠ sl u := nbeq_ne (List.all_eq_true.1 h u hu)
theorem dstNe_ne {sl : Nat -> Nat} {a b : Nat} (h : dstNe sl (some a) (some b) = true) : sl a ≠ sl b := nbeq_ne h
theorem off_put {U : List Nat} {ts : Ts} {ms : List Nat} {d : Option Nat} {v : IVal} (h1 : dstOff ts.slot d U = true) (h2 : ∀ m ∈ ms, ∀ u ∈ U, ts.slot m ≠ ts.slot u) : Off U ts (putT (mvAll ms ts) d v) := by
 intro k hk
 have h3 : (mvAll ms ts).get? k = ts.get? k := mvAll_ne fun m hm => h2 m hm k hk
 cases d with
 | none => exact h3.symm
 | some d =>
   have : (mvAll ms ts).slot d ≠ (mvAll ms ts).slot k := by
     rw [(mvAll_sh ms ts).slot, (mvAll_sh ms ts).slot]; exact dstOff_ne h1 hk
   simp only [putT]
   rw [Ts.get?_set_ne this, h3]
theorem put_comm {ts : Ts} {mi mj : List Nat} {di dj : Option Nat} {vi vj : IVal} (h0 : dstNe ts.slot di dj = true) (h1 : ∀ k, di = some k -> ∀ m ∈ mj, ts.slot k ≠ ts.slot m) (h2 : ∀ k, dj = some k -> ∀ m ∈ mi, ts.slot k ≠ ts.slot m)
   (h3 : ∀ k ∈ mi, ∀ m ∈ mj, ts.slot k ≠ ts.slot m) :
   putT (mvAll mi (putT (mvAll mj ts) dj vj)) di vi = putT (mvAll mj (putT (mvAll mi ts) di vi)) dj vj := by
 have e1 : mvAll mi (putT (mvAll mj ts) dj vj) = putT (mvAll mi (mvAll mj ts)) dj vj := by
   cases dj with
   | none => rfl
   | some k => exact mvAll_set fun m hm => by rw [(mvAll_sh mj ts).slot, (mvAll_sh mj ts).slot]; exact h2 k rfl m hm
 have e2 : mvAll mj (putT (mvAll mi ts) di vi) = putT (mvAll mj (mvAll mi ts)) di vi := by
   cases di with
   | none => rfl
   | some k => exact mvAll_set fun m hm => by rw [(mvAll_sh mi ts).slot, (mvAll_sh mi ts).slot]; exact h1 k rfl m hm
 rw [e1, e2, mvAll_mvAll h3]
 cases di with
 | none => rfl
 | some a => cases dj with
   | none => rfl
   | some b =>
     simp only [putT]
     refine Ts.set_comm ?_
     rw [(mvAll_sh mi _).slot, (mvAll_sh mi _).slot, (mvAll_sh mj _).slot, (mvAll_sh mj _).slot]
     exact Ne.symm (dstNe_ne h0)
theorem okPair_spec {x y : DLog} {σ σ' : List IObj} (h : okPair x y = true) (hl : y.len <= σ.length) (hs : Same σ σ' y.wr) : ∀ id, x.rd = some id -> σ'[id]? = σ[id]? := by
 intro id hid
 unfold okPair at h
 rw [hid] at h
 simp only [Bool.and_eq_true, decide_eq_true_eq, List.all_eq_true] at h
 refine hs id (by omega) fun p hp e => ?_
 have := h.2 p hp
 simp [e] at this
theorem stepD_sh {cf : CallF} {o : IOper} (hd : drawable o.op = true) {s s1 : St} {l : DLog} (h : stepD cf o s = some (s1, l)) : SameSh s.ts s1.ts := by
 obtain ⟨v, ms, -, e, -⟩ := stepD_ts hd h
 rw [e]
 exact (mvAll_sh _ _).trans .put
theorem stepD_swap {cf : CallF} (hcf : CfSame cf) {i j : IOper} {s s1 s2 : St} (hi : indep s.ts.slot i j = true) {li lj : DLog} (h1 : stepD cf i s = some (s1, li)) (h2 : stepD cf j s1 = some (s2, lj))
   (hp1 : quiet i.op = true -> quiet j.op = false -> okPair li lj = true) (hp2 : quiet j.op = true -> quiet i.op = false -> okPair lj li = true) :
   ∃ t1 t2, stepD cf j s = some (t1, lj) /\ stepD cf i t1 = some (t2, li) /\ t2.ts = s2.ts /\ t2.σ = s2.σ := by
 simp only [indep, Bool.and_eq_true, List.all_eq_true] at hi
 obtain ⟨⟨di, dj⟩, hq, hne, ⟨hdi, hdj⟩, hmi, hmj⟩ := hi
 obtain ⟨vi, mi, ki, ei, wi, Ti⟩ := stepD_ts di h1
 obtain ⟨vj, mj, kj, ej, wj, Tj⟩ := stepD_ts dj h2
 have hmi' : ∀ m ∈ mi, ∀ u ∈ usesOf j, s.ts.slot m ≠ s.ts.slot u := fun m hm u hu => dstOff_ne (hmi m (ki m hm)) hu
 have hmj' : ∀ m ∈ mj, ∀ u ∈ usesOf i, s.ts.slot m ≠ s.ts.slot u := fun m hm u hu => dstOff_ne (hmj m (kj m hm)) hu
 have offj : Off (usesOf j) s1.ts s.ts := by rw [ei]; exact (off_put hdi hmi').symm
 have offi : Off (usesOf i) s.ts (putT (mvAll mj s.ts) j.dst vj) := off_put hdj hmj'
 have hts : putT (mvAll mi (putT (mvAll mj s.ts) j.dst vj)) i.dst vi = s2.ts := by
   rw [ej, ei]
   refine put_comm hne (fun k hk m hm => ?_) (fun k hk m hm => ?_) (fun k hk m hm => hmi' k hk m (movesOf_sub (kj m hm)))
   . rw [hk] at hdi; exact dstOff_ne hdi (movesOf_sub (kj m hm))
   . rw [hk] at hdj; exact dstOff_ne hdj (movesOf_sub (ki m hm))
 have hj := Tj s.ts s.wr offj
 by_cases qi : quiet i.op = true
 . obtain ⟨a1, a2, a3⟩ := stepD_quiet qi h1
   rw [a1] at hj
   have hi2 := Ti _ (lj.wr ++ s.wr) offi
   have hrd : ∀ id, li.rd = some id -> s2.σ[id]? = s.σ[id]? := by
     by_cases qj : quiet j.op = true
     . intro id _; rw [(stepD_quiet qj h2).1, a1]
     . have := okPair_spec (σ := s1.σ) (σ' := s2.σ) (hp1 qi (by simpa using qj)) (stepD_len h2) (stepD_chg hcf h2).2
       intro id hid; rw [this id hid, a1]
   obtain ⟨-, -, b3⟩ := stepD_quiet qi hi2
   have hi3 := b3 s2.σ hrd
   exact ⟨_, _, hj, hi3, hts, rfl⟩
 . have qj : quiet j.op = true := by simpa [qi] using hq
   obtain ⟨a1, a2, a3⟩ := stepD_quiet qj hj
   have hrd := okPair_spec (σ := s.σ) (σ' := s1.σ) (hp2 qj (by simpa using qi)) (stepD_len h1) (stepD_chg hcf h1).2
   have hj2 := a3 s.σ (fun id hid => (hrd id hid).symm)
   have hi2 := Ti _ (lj.wr ++ s.wr) offi
   refine ⟨_, _, hj2, hi2, hts, ?_⟩
   exact ((stepD_quiet qj h2).1).symm
theorem stepD_wr {cf : CallF} {o : IOper} {s s1 t : St} {l : DLog} (h : stepD cf o s = some (s1, l)) (h1 : t.ts = s.ts) (h2 : t.σ = s.σ) : ∃ t1, stepD cf o t = some (t1, l) /\ t1.ts = s1.ts /\ t1.σ = s1.σ := by
 have hrd : rdOf o.op t = rdOf o.op s := by cases ho : o.op <;> simp [rdOf, h1]
 have hnr : noRs o.op t = noRs o.op s := by cases ho : o.op <;> simp [noRs, h1]
 have hst : ({ t with wr := [] } : St) = { s with wr := [] } := by cases t; cases s; simp_all
 have hd : stepD cf o t = match stepD cf o s with
     | some (s1, l) => some ({ s1 with wr := l.wr ++ t.wr }, l)
     | none => none := by
   simp only [stepD, hrd, hnr, hst, h1, h2]
   rcases wantedI o.guard s.ts with _ | _ | _
   . rfl
   . rfl
   ·
     cases noRs o.op s with
     | false => rfl
     | true =>
       cases getAll (opdsOf o.op) s.ts with
       | none => rfl
       | some p =>
         simp only [if_true]
         cases stepOp cf o.op { s with wr := [] } with
         | none => rfl
         | some r =>
           obtain ⟨pan, v, s'⟩ := r
           cases pan <;> rfl
 rw [h] at hd
 exact ⟨_, hd, rfl, rfl⟩
theorem runDraw_wr {cf : CallF} : ∀ {l : List (Nat × IOper)} {s s' t : St} {ls : List (Nat × DLog)}, runDraw cf l s = some (s', ls) -> t.ts = s.ts -> t.σ = s.σ -> ∃ t', runDraw cf l t = some (t', ls) /\ t'.ts = s'.ts /\ t'.σ = s'.σ := by
 intro l
 induction l with
 | nil => intro s s' t ls h h1 h2; simp [runDraw] at h; obtain ⟨rfl, rfl⟩ := h; exact ⟨t, rfl, h1, h2⟩
 | cons o os ih =>
   intro s s' t ls h h1 h2
   simp only [runDraw] at h
   split at h
   . rename_i s1 lg e1
     split at h
     . rename_i s2 ls2 e2
       simp only [Option.some.injEq, Prod.mk.injEq] at h
       obtain ⟨rfl, rfl⟩ := h
       obtain ⟨t1, f1, f2, f3⟩ := stepD_wr e1 h1 h2
       obtain ⟨t2, g1, g2, g3⟩ := ih e2 f2 f3
       exact ⟨t2, by simp [runDraw, f1, g1], g2, g3⟩
     . cases h
   . cases h
theorem runDraw_cons {cf : CallF} {o : Nat × IOper} {os : List (Nat × IOper)} {s s' : St} {ls : List (Nat × DLog)} : runDraw cf (o :: os) s = some (s', ls) ↔ ∃ s1 l ls1, stepD cf o.2 s = some (s1, l) /\ runDraw cf os s1 = some (s', ls1) /\ ls = (o.1, l) :: ls1 := by
 constructor
 . intro h
   simp only [runDraw] at h
   split at h
   . rename_i s1 lg e1
     split at h
     . rename_i s2 ls2 e2
       simp only [Option.some.injEq, Prod.mk.injEq] at h
       obtain ⟨rfl, rfl⟩ := h
       exact ⟨s1, lg, ls2, e1, e2, rfl⟩
     . cases h
   . cases h
 . rintro ⟨s1, l, ls1, h1, h2, rfl⟩
   simp [runDraw, h1, h2]
def PairsP (pairs : List (Nat × Nat)) (ls : List (Nat × DLog)) : Prop := ∀ x ∈ ls, ∀ y ∈ ls, (x.1, y.1) ∈ pairs -> okPair x.2 y.2 = true
theorem pairsP_of {pairs : List (Nat × Nat)} {ls : List (Nat × DLog)} (h : pairsOK pairs ls = true) : PairsP pairs ls := by
 intro x hx y hy hp
 simp only [pairsOK, List.all_eq_true] at h
 have h1 := h _ hp x hx
 simp only [bne_self_eq_false, Bool.false_or, List.all_eq_true] at h1
 have h2 := h1 y hy
 simpa using h2
def freePair (sl : Nat -> Nat) (pairs : List (Nat × Nat)) (p q : Nat × IOper) : Bool :=
 indep sl p.2 q.2 && ((!(quiet p.2.op && mayRead p.2.op) || (quiet q.2.op || pairs.contains (p.1, q.1))) && (!(quiet q.2.op && mayRead q.2.op) || (quiet p.2.op || pairs.contains (q.1, p.1))))
theorem freePair_dyn {cf : CallF} {pairs : List (Nat × Nat)} {sl : Nat -> Nat} {p q : Nat × IOper} (h : freePair sl pairs p q = true) {s1 s2 t1 t2 : St} {lp lq : DLog} (hp : stepD cf p.2 s1 = some (t1, lp)) (hq : stepD cf q.2 s2 = some (t2, lq))
   {ls : List (Nat × DLog)} (hP : PairsP pairs ls) (mp : (p.1, lp) ∈ ls) (mq : (q.1, lq) ∈ ls) :
   (quiet p.2.op = true -> quiet q.2.op = false -> okPair lp lq = true) /\ (quiet q.2.op = true -> quiet p.2.op = false -> okPair lq lp = true) := by
 simp only [freePair, Bool.and_eq_true] at h
 obtain ⟨-, h1, h2⟩ := h
 constructor
 . intro a b
   by_cases hr : mayRead p.2.op = true
   . simp [a, b, hr] at h1; exact hP _ mp _ mq h1
   . have := stepD_rd (by simpa using hr) hp; simp [okPair, this]
 . intro a b
   by_cases hr : mayRead q.2.op = true
   . simp [a, b, hr] at h2; exact hP _ mq _ mp h2
   . have := stepD_rd (by simpa using hr) hq; simp [okPair, this]
theorem runDraw_front {cf : CallF} (hcf : CfSame cf) {pairs : List (Nat × Nat)} {i : Nat × IOper} {post : List (Nat × IOper)} : ∀ {pre : List (Nat × IOper)} {s s' : St} {ls : List (Nat × DLog)}, (∀ p ∈ pre, freePair s.ts.slot pairs p i = true) -> PairsP pairs ls ->
   runDraw cf (pre ++ i :: post) s = some (s', ls) -> ∃ s'' ls', runDraw cf (i :: (pre ++ post)) s = some (s'', ls') /\ s''.ts = s'.ts /\ s''.σ = s'.σ /\ ls'.Perm ls := by
 intro pre
 induction pre with
 | nil => intro s s' ls _ _ h; exact ⟨s', ls, h, rfl, rfl, .refl _⟩
 | cons p pre ih =>
   intro s s' ls hf hP h
   simp only [List.cons_append] at h
   obtain ⟨s1, lp, ls1, e1, e2, rfl⟩ := runDraw_cons.1 h
   have hP1 : PairsP pairs ls1 := fun x hx y hy => hP x (by simp [hx]) y (by simp [hy])
   have hfp := hf p (by simp)
   have hdp : drawable p.2.op = true := by
     simp only [freePair, indep, Bool.and_eq_true] at hfp
     exact hfp.1.1.1
   have hsl : s1.ts.slot = s.ts.slot := funext fun k => (stepD_sh hdp e1).slot k
   obtain ⟨s2, ls2, f1, f2, f3, f4⟩ := ih (fun q hq => by rw [hsl]; exact hf q (by simp [hq])) hP1 e2
   obtain ⟨s3, li, ls3, g1, g2, rfl⟩ := runDraw_cons.1 f1
   have mi : (i.1, li) ∈ (p.1, lp) :: ls1 := List.mem_cons_of_mem _ (f4.subset (by simp))
   obtain ⟨d1, d2⟩ := freePair_dyn (hf p (by simp)) e1 g1 hP (by simp) mi
   have hind : indep s.ts.slot p.2 i.2 = true := by
     have := hf p (by simp)
     simp only [freePair, Bool.and_eq_true] at this
     exact this.1
   obtain ⟨t1, t2, k1, k2, k3, k4⟩ := stepD_swap hcf hind e1 g1 d1 d2
   obtain ⟨t3, m1, m2, m3⟩ := runDraw_wr (t := t2) g2 k3 k4
   refine ⟨t3, (i.1, li) :: (p.1, lp) :: ls3, ?_, m2.trans f2, m3.trans f3, ?_⟩
   . refine runDraw_cons.2 ⟨t1, li, (p.1, lp) :: ls3, k1, ?_, rfl⟩
     exact runDraw_cons.2 ⟨t2, lp, ls3, k2, m1, rfl⟩
   . exact (List.Perm.swap _ _ _).trans (f4.cons _)
end Go.Idl
namespace Go.Idl
variable [Globs]
variable {C0 : CRel} {P : Program} {a : Act} {g : Gh} {O : List Nat} {w : World} {s : St} {cf : CallF}
def deps (o : Oper) : List Nat := (o.after.toList.filter (Region.binds .any)).map (·.on)
def depsAt (ops : Array Oper) (k : Nat) : List Nat := match ops[k]? with
 | some o => deps o
 | none => []
def ancs : List Oper -> List (List Nat) -> List (List Nat)
 | [], A => A
 | o :: os, A => ancs os (A ++ [(deps o ++ (deps o).flatMap fun d => A.getD d []).eraseDups])
def DC (ops : Array Oper) (L : Nat -> Prop) : Prop := ∀ k, L k -> ∀ d ∈ depsAt ops k, L d
def Anc (ops : Array Oper) (A : List (List Nat)) : Prop := ∀ q as, A[q]? = some as -> ∀ L : Nat -> Prop, DC ops L -> (∀ d ∈ depsAt ops q, L d) -> ∀ p ∈ as, L p
theorem mem_eraseDups {l : List Nat} {x : Nat} (h : x ∈ l.eraseDups) : x ∈ l := by
 simpa using h
theorem ancs_anc {ops : Array Oper} : ∀ {os pre : List Oper} {A : List (List Nat)}, ops.toList = pre ++ os -> A.length = pre.length -> Anc ops A -> Anc ops (ancs os A) := by
 intro os
 induction os with
 | nil => intro pre A _ _ h; exact h
 | cons o os ih =>
   intro pre A ho hl hA
   refine ih (pre := pre ++ [o]) (by rw [ho]; simp) (by simp [hl]) ?_
   intro q as hq L hL hd p hp
   by_cases hlt : q < A.length
   . rw [List.getElem?_append_left hlt] at hq
     exact hA q as hq L hL hd p hp
   . have hqe : q = A.length := by
       have h1 := lt_of_get hq
       simp at h1; omega
     subst hqe
     simp only [List.getElem?_concat_length, Option.some.injEq] at hq
     subst hq
     have hat : depsAt ops A.length = deps o := by
       have : ops[A.length]? = some o := by rw [<- Array.getElem?_toList, ho, hl]; simp
       simp [depsAt, this]
     rw [hat] at hd
     have hp := mem_eraseDups hp
     rcases List.mem_append.1 hp with hp | hp
     . exact hd p hp
     . obtain ⟨d, hdm, hpd⟩ := List.mem_flatMap.1 hp
       rw [List.getD_eq_getElem?_getD] at hpd
       cases hAd : A[d]? with
       | none => rw [hAd] at hpd; cases hpd
       | some bs =>
         rw [hAd] at hpd
         exact hA d bs hAd L hL (fun e he => hL d (hd d hdm) e he) p hpd
def pwB {α : Type} (r : α -> α -> Bool) : List α -> Bool
 | [] => true
 | x :: xs => xs.all (r x) && pwB r xs
theorem pwB_spec {α : Type} {r : α -> α -> Bool} : ∀ {l : List α}, pwB r l = true -> l.Pairwise (fun x y => r x y = true) := by
 intro l
 induction l with
 | nil => intro _; exact .nil
 | cons x xs ih =>
   intro h
   simp only [pwB, Bool.and_eq_true, List.all_eq_true] at h
   exact .cons h.1 (ih h.2)
def drawOK (P : Program) (z : Shape) (ops : Array Oper) (l : List (Nat × IOper)) (pairs : List (Nat × Nat)) : Bool :=
 (l.map (·.1) == List.range ops.size) && ((l.all fun p => match ops[p.1]? with
   | some o => operOK P ops o p.2 && (deps o).all (fun d => decide (d < p.1))
   | none => false) && (dstsOK z.n (l.map (·.2)) && pwB (fun p q => ((ancs ops.toList []).getD q.1 []).contains p.1 || freePair z.slot pairs p q) l))
theorem stepD_sim {ρ : Option Nat} {n i : Nat} {z : Shape} {ops : Array Oper} {Q : Exit -> Act -> World -> Prop} {K : Act -> World -> Prop} (hcf : CallOK P C0 cf) {o : Oper} {io : IOper} {s1 : St} {l : DLog} (ho : ops[i]? = some o) (hok : operOK P ops o io = true)
   (hds : ∀ d, io.dst = some d -> d < z.n) (hrun : stepD cf io s = some (s1, l)) (hst : Stand C0 z g O s a w)
   (hK : ∀ g' O' a' w', Goes g O s w g' O' s1 w' -> Stand C0 z g' O' s1 a' w' -> K a' w') : wpOpIn (WF ρ) n P ops Q i K a w := by
 obtain ⟨iod, iop, iog⟩ := io
 simp only [operOK, Bool.and_eq_true] at hok
 obtain ⟨⟨hop, hdst⟩, hgd⟩ := hok
 have hdst := eq_of_beq hdst
 subst hdst
 simp only [wpOpIn, ho]
 simp only [stepD] at hrun
 split at hrun
 . rename_i hwi
   rw [if_pos (wanted_sim (o := o) (io := ⟨o.dst, iop, iog⟩) hgd hst hwi)]
   split at hrun
   . split at hrun
     . split at hrun
       . rename_i v s' hstep
         simp only [Option.some.injEq, Prod.mk.injEq] at hrun
         obtain ⟨rfl, rfl⟩ := hrun
         refine op_res hcf hst.code hop (s := { s with wr := [] }) hstep hst.len hst.rel ρ n _ Q (fun _ v' w' hp => ?_) (fun h => by cases h)
         obtain ⟨g1, O1, wn, hg, hR, hl, hwr, hk⟩ := hp
         have hsh := SameSh.step hstep
         have hst1 := put_stand (N := z) (d := o.dst) (s := s') hR hl (by rw [hsh.2.2]; exact hst.defs.mono hg.pre) hst.size ⟨hsh.1.trans hst.sh.1, hsh.2.1.trans hst.sh.2⟩ (hg.code.trans hst.code) hds
         simp only [List.append_nil] at hwr
         exact hK g1 O1 _ w' ⟨hg, ⟨s'.wr, rfl, by rw [hwr]; exact hk⟩⟩ ⟨hst1.rel, hst1.len, hst1.defs, hst1.size, hst1.sh, hst1.code⟩
       . cases hrun
     . cases hrun
   . cases hrun
 . rename_i hwi
   rw [if_neg (by rw [wanted_sim (o := o) (io := ⟨o.dst, iop, iog⟩) hgd hst hwi]; simp)]
   simp only [Option.some.injEq, Prod.mk.injEq] at hrun
   obtain ⟨rfl, rfl⟩ := hrun
   have hR : R g O ((undefI, undef) :: s.ts.roots a.tmps) s.σ w := hst.rel.push (undef_V g) rfl
   have hst1 := put_stand (N := z) (d := o.dst) (s := s) hR hst.len hst.defs hst.size hst.sh hst.code hds
   exact ⟨fun _ _ => trivial, hK g O _ w ⟨.refl O g w, ⟨[], rfl, .refl _⟩⟩ hst1⟩
 . cases hrun
structure Reg (P : Program) (z : Shape) (ops : Array Oper) (l : List (Nat × IOper)) (pairs : List (Nat × Nat)) : Prop where
 idx : l.map (·.1) = List.range ops.size
 ok : ∀ p ∈ l, ∃ o, ops[p.1]? = some o /\ operOK P ops o p.2 = true /\ ∀ d ∈ deps o, d < p.1
 free : l.Pairwise fun p q => (∀ L : Nat -> Prop, DC ops L -> (∀ d ∈ depsAt ops q.1, L d) -> L p.1) \/ freePair z.slot pairs p q = true
theorem reg_of {n : Shape} {ops : Array Oper} {l : List (Nat × IOper)} {pairs : List (Nat × Nat)} (h : drawOK P n ops l pairs = true) : Reg P n ops l pairs /\ dstsOK n.n (l.map (·.2)) = true := by
 simp only [drawOK, Bool.and_eq_true] at h
 obtain ⟨h1, h2, h3, h4⟩ := h
 refine ⟨⟨eq_of_beq h1, fun p hp => ?_, (pwB_spec h4).imp fun {p q} hpq => ?_⟩, h3⟩
 . have := List.all_eq_true.1 h2 p hp
   split at this
   . rename_i o ho
     simp only [Bool.and_eq_true, List.all_eq_true, decide_eq_true_eq] at this
     exact ⟨o, ho, this.1, this.2⟩
   . cases this
 . simp only [Bool.or_eq_true] at hpq
   rcases hpq with hpq | hpq
   . left
     intro L hL hd
     have hA : Anc ops (ancs ops.toList []) := ancs_anc (pre := []) (by simp) rfl (fun q as hq => by simp at hq)
     cases hAq : (ancs ops.toList [])[q.1]? with
     | none => simp [List.getD_eq_getElem?_getD, hAq] at hpq
     | some as =>
       simp only [List.getD_eq_getElem?_getD, hAq, Option.getD_some, List.contains_iff_mem] at hpq
       exact hA q.1 as hAq L hL hd p.1 hpq
   . exact .inr hpq
theorem any_sim {ρ : Option Nat} {n : Nat} {z : Shape} {ops : Array Oper} {l : List (Nat × IOper)} {pairs : List (Nat × Nat)} {Q : Exit -> Act -> World -> Prop} (hcf : CallOK P C0 cf) (hcs : CfSame cf) (hreg : Reg P z ops l pairs) :
   ∀ (fuel : Nat) (rem : List (Nat × IOper)) (listed : Array Bool) (g : Gh) (O : List Nat) (s s' : St) (ls : List (Nat × DLog)) (a : Act) (w : World),
     rem.Sublist l -> listed.size = ops.size -> (∀ k, k < ops.size -> (listed.getD k true = false ↔ k ∈ rem.map (·.1))) -> DC ops (fun k => listed.getD k false = true) -> rem.length <= fuel ->
     dstsOK z.n (l.map (·.2)) = true -> runDraw cf rem s = some (s', ls) -> PairsP pairs ls -> Stand C0 z g O s a w ->
     (∀ g' O' t' a' w', t'.ts = s'.ts -> t'.σ = s'.σ -> (∃ wn, t'.wr = wn ++ s.wr /\ ∀ p ∈ wn, ∃ x ∈ ls, p ∈ x.2.wr) -> Goes g O s w g' O' t' w' -> Stand C0 z g' O' t' a' w' -> Q .normal a' w') ->
     wpAnyIn (WF ρ) n P .any ops Q fuel listed a w := by
 have hlt : ∀ p ∈ l, p.1 < ops.size := fun p hp => by
   obtain ⟨o, ho, -⟩ := hreg.ok p hp
   exact (Array.getElem?_eq_some_iff.1 ho).1
 have hunl : ∀ {rem : List (Nat × IOper)} {listed : Array Bool} {k : Nat}, listed.size = ops.size -> (∀ k, k < ops.size -> (listed.getD k true = false ↔ k ∈ rem.map (·.1))) -> k ∈ Region.ready .any ops listed -> k ∈ rem.map (·.1) := by
   intro rem listed k hsz hlist hk
   obtain ⟨h1, o, h2, -⟩ := mem_ready.1 hk
   exact (hlist k (Array.getElem?_eq_some_iff.1 h2).1).1 h1
 have hnil : ∀ {listed : Array Bool} {fuel : Nat} {a : Act} {w : World}, listed.size = ops.size -> (∀ k, k < ops.size -> (listed.getD k true = false ↔ k ∈ ([] : List (Nat × IOper)).map (·.1))) -> Q .normal a w -> wpAnyIn (WF ρ) n P .any ops Q fuel listed a w := by
   intro listed fuel a w hsz hlist hq
   refine wpAnyIn_done ?_ hq fuel
   exact List.eq_nil_iff_forall_not_mem.2 fun k hk => by have := hunl hsz hlist hk; cases this
 intro fuel
 induction fuel with
 | zero =>
   intro rem listed g O s s' ls a w hsub hsz hlist hdc hlen hds hrun hP hst hQ
   have : rem = [] := List.eq_nil_of_length_eq_zero (by omega)
   subst this
   simp [runDraw] at hrun
   obtain ⟨rfl, rfl⟩ := hrun
   exact hnil hsz hlist (hQ g O s a w rfl rfl ⟨[], rfl, fun p hp => by cases hp⟩ (.refl _ _ _ _) hst)
 | succ fuel ih =>
   intro rem listed g O s s' ls a w hsub hsz hlist hdc hlen hds hrun hP hst hQ
   cases rem with
   | nil =>
     simp [runDraw] at hrun
     obtain ⟨rfl, rfl⟩ := hrun
     exact hnil hsz hlist (hQ g O s a w rfl rfl ⟨[], rfl, fun p hp => by cases hp⟩ (.refl _ _ _ _) hst)
   | cons hd tl =>
     generalize hrem : hd :: tl = rem at *
     have hsort : (rem.map (·.1)).Pairwise (· < ·) := by
       refine List.Pairwise.sublist (hsub.map _) ?_
       rw [hreg.idx]; exact List.pairwise_lt_range
     have hnd : (rem.map (·.1)).Nodup := hsort.imp fun h => by omega
     refine ⟨fun hr => ?_, fun i hi => ?_⟩
     . -- the first one is ready
       exfalso
       have hmem : hd ∈ rem := by rw [<- hrem]; simp
       have hml := hsub.subset hmem
       obtain ⟨o, ho, -, hdeps⟩ := hreg.ok hd hml
       have hready : hd.1 ∈ Region.ready .any ops listed := by
         rw [mem_ready]
         refine ⟨(hlist hd.1 (hlt hd hml)).2 (List.mem_map_of_mem hmem), o, ho, fun e he hb => ?_⟩
         have hde : e.on ∈ deps o := List.mem_map.2 ⟨e, List.mem_filter.2 ⟨by simpa using he, hb⟩, rfl⟩
         have h1 := hdeps _ hde
         have h2 : e.on < ops.size := Nat.lt_trans h1 (hlt hd hml)
         have h3 : e.on ∉ rem.map (·.1) := by
           intro hm
           rw [<- hrem] at hm hsort
           simp only [List.map_cons, List.mem_cons] at hm
           rcases hm with hm | hm
           . omega
           . have := List.rel_of_pairwise_cons hsort hm
             simp only at this; omega
         have h4 : ¬ (listed.getD e.on true = false) := fun h => h3 ((hlist _ h2).1 h)
         have h5 : e.on < listed.size := by omega
         simp [h5] at h4 ⊢
         exact h4
       rw [hr] at hready
       cases hready
     . have him := hunl hsz hlist hi
       obtain ⟨⟨i0, io⟩, hio, hie⟩ := List.mem_map.1 him
       simp only at hie
       subst hie
       obtain ⟨pre, post, hsplit⟩ := List.append_of_mem hio
       obtain ⟨-, o', ho', hafter⟩ := mem_ready.1 hi
       obtain ⟨o, ho, hok, hdeps⟩ := hreg.ok _ (hsub.subset hio)
       simp only at ho
       have : o' = o := by rw [ho] at ho'; exact (Option.some.inj ho').symm
       subst this
       have hL : ∀ d ∈ depsAt ops i0, listed.getD d false = true := by
         intro d hd0
         simp only [depsAt, ho, deps, List.mem_map, List.mem_filter] at hd0
         obtain ⟨e, ⟨he, hb⟩, rfl⟩ := hd0
         exact hafter e (by simpa using he) hb
       have hfree : ∀ p ∈ pre, freePair s.ts.slot pairs p (i0, io) = true := by
         intro p hp
         have hsl : s.ts.slot = z.slot := funext fun k => by simp only [Ts.slot, Shape.slot, hst.sh.1, hst.sh.2]
         rw [hsl]
         have hpw : rem.Pairwise _ := List.Pairwise.sublist hsub hreg.free
         rw [hsplit, List.pairwise_append] at hpw
         rcases hpw.2.2 p hp (i0, io) (by simp) with h1 | h1
         . have h2 := h1 (fun k => listed.getD k false = true) hdc hL
           have hpm : p.1 ∈ rem.map (·.1) := by rw [hsplit]; simp; exact .inl ⟨_, hp⟩
           have hpl : p ∈ l := hsub.subset (by rw [hsplit]; simp [hp])
           have h3 := (hlist p.1 (hlt p hpl)).2 hpm
           have h4 : p.1 < listed.size := by rw [hsz]; exact hlt p hpl
           simp [h4] at h2 h3
           rw [h2] at h3; cases h3
         . exact h1
       rw [hsplit] at hrun
       obtain ⟨s'', ls', hrun', e1, e2, hperm⟩ := runDraw_front hcs hfree hP hrun
       obtain ⟨s1, li, ls1, hstep, hrest, rfl⟩ := runDraw_cons.1 hrun'
       have hio_l := hsub.subset hio
       have hds0 : ∀ d, io.dst = some d -> d < z.n := by
         intro d hd0
         have := List.all_eq_true.1 hds io (List.mem_map.2 ⟨_, hio_l, rfl⟩)
         rw [hd0] at this
         simpa using this
       refine stepD_sim hcf ho hok hds0 hstep hst fun g1 O1 a1 w1 hgo hst1 => ?_
       have hilt : i0 < listed.size := by rw [hsz]; exact hlt _ hio_l
       rw [hsplit] at hnd
       simp only [List.map_append, List.map_cons] at hnd
       have hni : i0 ∉ (pre ++ post).map (·.1) := by
         have := (List.perm_middle (a := i0) (l₁ := pre.map (·.1)) (l₂ := post.map (·.1))).nodup_iff.1 hnd
         simpa using (List.nodup_cons.1 this).1
       refine ih (pre ++ post) _ g1 O1 s1 s'' ls1 a1 w1 ?_ (by simp [hsz]) ?_ ?_ ?_ ?_ hrest ?_ hst1 ?_
       . refine List.Sublist.trans ?_ hsub
         rw [hsplit]; exact List.Sublist.append_left (List.sublist_cons_self _ _) _
       . intro k hk
         by_cases hki : i0 = k
         . subst hki
           simp only [hni, iff_false]
           simp [hilt]
         . rw [getD_set_ne true hki, hlist k hk, hsplit]
           simp only [List.map_append, List.map_cons, List.mem_append, List.mem_cons]
           constructor
           . rintro (h | h | h)
             . exact .inl h
             . exact absurd h.symm hki
             . exact .inr h
           . rintro (h | h)
             . exact .inl h
             . exact .inr (.inr h)
       . intro k hk d hd0
         by_cases hki : i0 = k
         . subst hki; exact getD_set_true (hL d hd0)
         . simp only [getD_set_ne false hki] at hk
           exact getD_set_true (hdc k hk d hd0)
       . have : rem.length = (pre ++ post).length + 1 := by rw [hsplit]; simp; omega
         omega
       . exact hds
       . intro x hx y hy
         exact hP x (hperm.subset (by simp [hx])) y (hperm.subset (by simp [hy]))
       . intro g' O' t' a' w' q1 q2 ⟨wn, q3, q4⟩ q5 q6
         refine hQ g' O' t' a' w' (q1.trans e1) (q2.trans e2) ⟨wn ++ li.wr, ?_, fun p hp => ?_⟩ (hgo.trans q5) q6
         . rw [q3, (stepD_chg hcs hstep).1, List.append_assoc]
         . rcases List.mem_append.1 hp with hp | hp
           . obtain ⟨x, hx, hpx⟩ := q4 p hp
             exact ⟨x, hperm.subset (by simp [hx]), hpx⟩
           . exact ⟨(i0, li), hperm.subset (by simp), hp⟩
theorem runDraw_wrs (hcs : CfSame cf) : ∀ {l : List (Nat × IOper)} {s s' : St} {ls : List (Nat × DLog)}, runDraw cf l s = some (s', ls) -> ∃ wn, s'.wr = wn ++ s.wr /\ ∀ x ∈ ls, ∀ p ∈ x.2.wr, p ∈ wn := by
 intro l
 induction l with
 | nil => intro s s' ls h; simp [runDraw] at h; obtain ⟨rfl, rfl⟩ := h; exact ⟨[], rfl, fun x hx => by cases hx⟩
 | cons o os ih =>
   intro s s' ls h
   obtain ⟨s1, li, ls1, h1, h2, rfl⟩ := runDraw_cons.1 h
   obtain ⟨wn, h3, h4⟩ := ih h2
   refine ⟨wn ++ li.wr, by rw [h3, (stepD_chg hcs h1).1, List.append_assoc], fun x hx p hp => ?_⟩
   rcases List.mem_cons.1 hx with rfl | hx
   . exact List.mem_append_right _ hp
   . exact List.mem_append_left _ (h4 x hx p hp)
theorem R.drawn {l : Roots} {σ : List IObj} (h : R g O l σ w) (k : Nat) : R g O l σ { w with drawn := k } :=
 ⟨h.len, h.vals, h.objs, h.nodup, h.sub, h.lt, h.claim, h.apart, h.spare, h.glob, h.zs⟩
theorem Grow.drawn {g' : Gh} {O' : List Nat} {w' : World} {k : Nat} (h : Grow O g { w with drawn := k } O' g' w') : Grow O g w O' g' w' :=
 ⟨h.size, h.same, h.mono, h.pre, h.fresh, h.code, h.os, h.tape, h.output, h.zm⟩
theorem draw_sim {ρ : Option Nat} {n id : Nat} {m : Shape} {ops : Array Oper} {l : List (Nat × IOper)} {pairs : List (Nat × Nat)} {Q : Exit -> Act -> World -> Prop} {s' : St} {ls : List (Nat × DLog)} (hmx : P.follows .mixedOrders = true) (hcf : CallOK P C0 cf) (hcs : CfSame cf)
   (hok : drawOK P m ops l pairs = true) (hrun : runDraw cf l s = some (s', ls)) (hP : pairsOK pairs ls = true) (hst : Stand C0 m g O s a w) (haft : After C0 m g O s w .normal s' Q) :
   (Code.region id ops true).wpIn (WF ρ) n P Q a w := by
 obtain ⟨hreg, hds⟩ := reg_of hok
 have hlen : l.length = ops.size := by have := congrArg List.length hreg.idx; simpa using this
 refine wpIn_region_any hmx (any_sim hcf hcs hreg ops.size l _ g O s s' ls a _ (.refl _) (by simp) ?_ ?_ (by omega) ?_ hrun (pairsP_of hP) ?_ ?_)
 . intro k hk
   rw [hreg.idx]
   simp [hk]
 . intro k hk
   exfalso
   simp only [Array.getD_eq_getD_getElem?, Array.getElem?_replicate] at hk
   split at hk <;> simp at hk
 . exact hds
 . exact ⟨hst.rel.drawn _, hst.len, hst.defs, hst.size, hst.sh, hst.code⟩
 . intro g' O' t' a' w' q1 q2 ⟨wn, q3, q4⟩ q5 q6
   obtain ⟨wt, r1, r2⟩ := runDraw_wrs hcs hrun
   obtain ⟨wk, k1, k2⟩ := q5.keep
   have e : wk = wn := by
     have := k1.symm.trans q3
     exact List.append_cancel_right this
   subst e
   refine haft.1 _ g' O' a' w' rfl ⟨q5.grow.drawn, ⟨wt, r1, ?_⟩⟩ ⟨by rw [<- q1, <- q2]; exact q6.rel, by rw [<- q1]; exact q6.len, by rw [<- q1]; exact q6.defs, q6.size, by rw [<- q1]; exact q6.sh, q6.code⟩
   rw [<- q2]
   refine ⟨k2.1, fun n hn hw ho => k2.2 n hn (fun p hp hp2 => ?_) ho⟩
   obtain ⟨x, hx, hpx⟩ := q4 p hp
   exact hw p (r2 x hx p hpx) hp2
end Go.Idl
namespace Go.Idl
variable [Globs]
variable {C0 : CRel} {P : Program} {a : Act} {g : Gh} {O : List Nat} {w : World} {s : St} {cf : CallF}
theorem stepR_scope {b : Frame} {k : List Item} {cs : List Frame} {c : Code} : step P (lone (b.atR a (.code (.scope c) :: k)) cs w) = .next (lone (b.atR a (.code c :: .inScope c :: k)) cs w) :=
 step_lone_go (by simp [stepG, stepG.exec, Frame.atR])
theorem stepR_inScope {b : Frame} {k : List Item} {cs : List Frame} {c : Code} : step P (lone (b.atR a (.inScope c :: k)) cs w) = .next (lone (b.atR a k) cs w) :=
 step_lone_go (by simp [stepG, stepG.exec, Frame.atR])
theorem wpIn_scope_straight {F : Fence} {n : Nat} {Q : Exit -> Act -> World -> Prop} {c : Code} (h : c.wpIn F n P (Exit.noGoto Q) a w) : (Code.scope c).wpIn F n P Q a w := by
 intro b k cs hro hb hr
 have h0 : (lone (b.atR a (.code (.scope c) :: k)) cs w).fenced P F := fenced_calm hb hr rfl
 obtain ⟨e, a₁, w₁, hq, harr⟩ := h b (.inScope c :: k) cs hro hb hr
 cases e with
 | normal => exact ⟨.normal, a₁, w₁, hq, .head h0 stepR_scope (StepsIn.trans harr (.one (fenced_calm hb hr rfl) stepR_inScope))⟩
 | exit id =>
   have hx : exitTo id (.inScope c :: k) = exitTo id k := by simp [exitTo]
   exact ⟨.exit id, a₁, w₁, hq, fun k' hk => .head h0 stepR_scope (harr.1 k' (by rw [hx]; exact hk)),
       fun hr' hk => let ⟨k₁, h1, h2⟩ := harr.2 hr' (by rw [hx]; exact hk); ⟨k₁, h1, .head h0 stepR_scope h2⟩⟩
 | goto l => exact hq.elim
 | ret => exact ⟨_, a₁, w₁, hq, .of_steps (.one h0 stepR_scope) harr⟩
 | panic ch => exact ⟨_, a₁, w₁, hq, .of_steps (.one h0 stepR_scope) harr⟩
 | outgrown => exact ⟨_, a₁, w₁, hq, .of_steps (.one h0 stepR_scope) harr⟩
def codeOK (P : Program) (n : Shape) (top : Bool) : Code -> ICode -> Bool
 | .skip, .skip => true
 | .region _ ops false, .ops l => opersOK P ops ops.toList l && dstsOK n.n l
 | .region _ ops true, .draw l pairs => drawOK P n ops l pairs
 | .seq a b, .seq x y => codeOK P n top a x && codeOK P n top b y
 | .cond c a b, .cond z x y => opdOK z c && (codeOK P n top a x && codeOK P n top b y)
 | .block id c, .block id' b => id == id' && codeOK P n top c b
 | .loop c, .loop b => codeOK P n top c b
 | .exit id, .exit id' => id == id'
 | .scope c, .scope b => codeOK P n top c b
 | .label _, .label _ => true
 | .goto l, .goto l' => l == l'
 | .ret, .ret => true
 | .rangeFunc g ps ca cb, .rangeF x ps' a b => top && (opdOK x g && (ps.toList == ps' && ((ps'.all fun p => decide (p < n.n)) && (codeOK P n false ca a && codeOK P n false cb b))))
 | _, .stuck => true
 | _, _ => false
def CR (P : Program) : CRel := fun n nv m c ic => codeOK P ⟨n, nv, m⟩ false c ic = true
def IFunc.sh (fn : IFunc) : Shape := ⟨fn.nt, fn.nv, fn.m⟩
structure FunOK (P : Program) (gfn : Func) (fn : IFunc) : Prop where
 name : gfn.name ≠ "runtime.NumGoroutine"
 code : ∃ c, gfn.body = some c /\ codeOK P fn.sh true c fn.body = true
 res : ressOK P gfn.results.toList fn.res = true
 nt : fn.nt = gfn.ntmps
def FOK (P : Program) (F : IProg) : Prop := ∀ f fn, F f = some fn -> ∃ gfn, P.funcs[f]? = some gfn /\ FunOK P gfn fn
def CodeSim (P : Program) (F : IProg) (n : Nat) : Prop :=
 ∀ (c : Code) (ic : ICode) (m : Shape) (top : Bool) (s : St) (x : IExit) (s' : St), codeOK P m top c ic = true -> eval F n ic s = some (x, s') ->
   ∀ (ρ : Option Nat), (top = true -> ρ = none) -> ∀ (k : Nat) (Q : Exit -> Act -> World -> Prop) (a : Act) (w : World) (g : Gh) (O : List Nat), Stand (CR P) m g O s a w -> After (CR P) m g O s w x s' Q -> c.wpIn (WF ρ) k P Q a w
theorem After.imp {m : Shape} {x : IExit} {s' : St} {Q Q' : Exit -> Act -> World -> Prop} (h : After C0 m g O s w x s' Q) (hq : ∀ e a' w', (∀ x', x = .panic x' -> ∃ ch, e = .panic ch) -> (∀ e', exitOf x = some e' -> e = e') -> Q e a' w' -> Q' e a' w') : After C0 m g O s w x s' Q' := by
 refine ⟨fun e g' O' a' w' he k st => hq e a' w' (fun x' hx => by subst hx; cases he) (fun e' he' => by rw [he] at he'; cases he'; rfl) (h.1 e g' O' a' w' he k st), fun v g' O' a' w' v' hx k r d => hq _ a' w' (fun _ _ => ⟨_, rfl⟩) (fun e' he' => by subst hx; cases he') (h.2 v g' O' a' w' v' hx k r d)⟩
theorem empty_list : ∀ n, (Tm.empty n).list = [] := by
 intro n
 induction n with
 | zero => rfl
 | succ n ih => simp [Tm.empty, Tm.list, ih]
theorem empty_get : ∀ n k, (Tm.empty n).get k = none := by
 intro n
 induction n with
 | zero => intro k; rfl
 | succ n ih => intro k; simp only [Tm.empty, Tm.get, ih]; cases Nat.beq k 0 <;> cases Nat.beq (k % 2) 1 <;> rfl
theorem fill_R {tmps : Array Value} {σ : List IObj} : ∀ {vs : List IVal} {us : List Value} {ts : Ts} {j : Nat}, WT ts tmps -> vs.length = us.length -> (∀ (i : Nat) u, us[i]? = some u -> tmps[j + i]? = some u) ->
   R g O (vs.zip us ++ ts.roots tmps) σ w -> R g O ((ts.fill j vs).roots tmps) σ w /\ WT (ts.fill j vs) tmps := by
 intro vs
 induction vs with
 | nil => intro us ts j hW _ _ hR; exact ⟨by simpa [Ts.fill] using hR, hW⟩
 | cons v vs ih =>
   intro us ts j hW hl hu hR
   cases us with
   | nil => simp at hl
   | cons u us =>
     have h0 : tmps[j]? = some u := by simpa using hu 0 u rfl
     have hj : j < tmps.size := (Array.getElem?_eq_some_iff.1 h0).1
     have hset : tmps.setIfInBounds j u = tmps := by
       apply Array.ext_getElem?
       intro k
       rw [Array.getElem?_setIfInBounds]
       split
       . rename_i e; subst e; exact h0.symm
       . rfl
     obtain ⟨rest, ev, h1, h2⟩ := Ts.roots_put hW hj v u
     rw [hset] at h2
     refine ih (ts := ts.set j v) (j := j + 1) (hW.set hj v) (by simpa using hl) (fun i u' hi => ?_) ?_
     . have := hu (i + 1) u' (by simpa using hi)
       rw [show j + 1 + i = j + (i + 1) by omega]; exact this
     . simp only [List.zip_cons_cons, List.cons_append] at hR
       have h3 : R g O ((v, u) :: (ev ++ (vs.zip us ++ rest))) σ w := by
         refine hR.perm (.cons _ ?_)
         refine (h1.append_left _).trans ?_
         rw [<- List.append_assoc, <- List.append_assoc]
         exact List.perm_append_comm.append_right _
       cases hb : ts.t.has (ts.slot j) with
       | true =>
         rw [hb] at h2
         have h4 : R g O (ev ++ ((v, u) :: (vs.zip us ++ rest))) σ w := h3.perm List.perm_middle.symm
         refine (R.drops (l := ev) h4).perm ?_
         refine List.Perm.trans ?_ (h2.symm.append_left _)
         exact List.perm_middle.symm
       | false =>
         rw [hb] at h2
         exact (R.drops (l := ev) h3.drop).perm (h2.symm.append_left _)
theorem results_run {gfn : Func} {tmps : Array Value} {us : List Value} {w' : World} (h : (resM tmps gfn.results.toList).run P w = .ok us w') :
   (results gfn tmps).run P w = .ok (if hh : us.toArray.size = 1 then us.toArray[0] else .tuple us.toArray) w' := by
 have e : ∀ f : ResultVar -> Sem Value, gfn.results.mapM f = Functor.map List.toArray (gfn.results.toList.mapM f) := fun f => by
   rw [<- List.mapM_toArray]
 unfold results
 rw [e]
 unfold resM at h
 simp only [map_eq_pure_bind, Sem.run_bind]
 erw [h]
 simp [Sem.run_pure, Result.andThen_ok]
theorem cfn_ok {F : IProg} {n : Nat} (hF : FOK P F) (hS : CodeSim P F n) (f : FuncId) (args : List IVal) (σ : List IObj) (out : Out) (hout : cfOf F n (.f f) args σ = some out) : Callable P f /\
   ∀ g O (rargs : Array Value) w, g.C = CR P -> args.length = rargs.toList.length -> R g O (args.zip rargs.toList) σ w -> CallsIn Fence.wide 0 P f rargs w (CallPost g O w σ out) := by
 simp only [cfOf] at hout
 split at hout
 . rename_i fn hfn
   obtain ⟨gfn, hgf, hok⟩ := hF f fn hfn
   obtain ⟨c, hbody, hcode⟩ := hok.code
   refine ⟨⟨gfn, hgf, hok.name, by simp [hbody]⟩, fun g O rargs w hC hlen hR => ?_⟩
   refine callsIn_of_wp_marks (F := Fence.wide) hgf hbody trivial ?_
   have hst : Stand (CR P) fn.sh g O { ts := (Ts.mk fn.nv fn.m (Tm.empty fn.dep) []).fill 0 args, σ := σ, wr := [] } { tmps := rargs ++ Array.replicate (gfn.ntmps - rargs.size) undef, defers := [] } w := by
     have hf := fill_R (g := g) (O := O) (w := w) (σ := σ) (tmps := rargs ++ Array.replicate (gfn.ntmps - rargs.size) undef) (vs := args) (us := rargs.toList) (ts := Ts.mk fn.nv fn.m (Tm.empty fn.dep) []) (j := 0)
       (fun k p hp => by rw [empty_get] at hp; cases hp) hlen (fun i u hu => by
         rw [Nat.zero_add, Array.getElem?_append_left (by have := lt_of_get hu; simpa using this)]; simpa using hu) (by simpa [Ts.roots, empty_list] using hR)
     have hsh := SameSh.fill (vs := args) (ts := Ts.mk fn.nv fn.m (Tm.empty fn.dep) []) (j := 0)
     refine ⟨hf.1, hf.2, by rw [hsh.2.2]; exact .nil g, ?_, ⟨hsh.1, hsh.2.1⟩, hC⟩
     simp [IFunc.sh, hok.nt]; omega
   have hwide : (WF none) = Fence.wide := rfl
   rw [<- hwide]
   -- what is handed back
   have hret : ∀ {e : Exit} {s1 : St}, (e = .normal \/ e = .ret) -> retI σ.length fn.res s1 = some out ->
       ∀ g' O' a' w', Goes g O { ts := (Ts.mk fn.nv fn.m (Tm.empty fn.dep) []).fill 0 args, σ := σ, wr := [] } w g' O' s1 w' -> Stand (CR P) fn.sh g' O' s1 a' w' ->
       bodyPostM (WF none) 0 P gfn (CallPost g O w σ out) e a' w' := by
     intro e s1 he hri g' O' a' w' hgo hst'
     unfold retI at hri
     split at hri
     . rename_i σ1 hsh
       split at hri
       . rename_i vs s2 hrd
         split at hri
         . rename_i hnt
           simp only [Option.some.injEq] at hri
           have hL : LeavesInM (WF none) 0 P gfn a'.tmps (CallPost g O w σ out) a'.defers .returning w' := by
             refine shut_sim (l := s1.ts.roots a'.tmps) s1.ts.ds s1.σ σ1 a'.defers w' hsh hst'.defs hst'.rel (fun w'' hR'' hG'' => ?_)
             obtain ⟨us, h1, h2, h3, h4, wn, h5, h6, h7⟩ := results_sim (l := []) hok.res hrd hst'.len (by simpa using hR'')
             have h8 := (R.merge h4 h2 (List.all_eq_true.1 hnt))
             obtain ⟨wn', k1, k2⟩ := hgo.keep
             have hkeep : Keep σ s2.σ s2.wr := by
               rw [h5]
               simp only
               rw [k1]
               simp only [List.append_nil]
               exact (k2.trans (shut_keep _ _ _ hsh)).trans h6
             have hR1 : R g' O' [(tupV vs, if hh : us.toArray.size = 1 then us.toArray[0] else .tuple us.toArray)] s2.σ w'' :=
               R.drops (l := s2.ts.roots a'.tmps) (h8.perm (List.perm_append_comm (l₁ := [_])))
             obtain ⟨g'', k3, k4, k5, k6⟩ := finish_sim (v := tupV vs) (pan := false) hR (hgo.grow.trans hG'') hR1 hkeep
             rw [hri] at k4 k5 k6
             exact ⟨(if hh : us.toArray.size = 1 then us.toArray[0] else .tuple us.toArray), results_run h1, ⟨g'', O', _, by rw [k6]; rfl, k3, k4, k5⟩⟩
           rcases he with rfl | rfl <;> exact hL
         . cases hri
       . cases hri
     . cases hri
   unfold callI at hout
   split at hout
   . rename_i s1 hev
     refine hS c fn.body fn.sh true _ .normal s1 hcode hev none (fun _ => rfl) 0 _ _ w g O hst ⟨fun e g' O' a' w' he k st => ?_, fun v g' O' a' w' v' hx => by cases hx⟩
     simp only [exitOf, Option.some.injEq] at he
     exact hret (.inl he.symm) hout g' O' a' w' k st
   . rename_i s1 hev
     refine hS c fn.body fn.sh true _ .ret s1 hcode hev none (fun _ => rfl) 0 _ _ w g O hst ⟨fun e g' O' a' w' he k st => ?_, fun v g' O' a' w' v' hx => by cases hx⟩
     simp only [exitOf, Option.some.injEq] at he
     exact hret (.inr he.symm) hout g' O' a' w' k st
   . rename_i v s1 hev
     split at hout
     . rename_i hds
       simp only [Option.some.injEq] at hout
       subst hout
       refine hS c fn.body fn.sh true _ (.panic v) s1 hcode hev none (fun _ => rfl) 0 _ _ w g O hst ⟨fun e g' O' a' w' he => (by cases he), fun v0 g' O' a' w' v' hx k r d => ?_⟩
       simp only [IExit.panic.injEq] at hx
       subst hx
       obtain ⟨wn', k1, k2⟩ := k.keep
       have hkeep : Keep σ s1.σ s1.wr := by rw [k1, List.append_nil]; exact k2
       have hR1 : R g' O' [(v, v')] s1.σ w' := R.drops (l := s1.ts.roots a'.tmps) (R.perm r (List.perm_append_comm (l₁ := [_])))
       obtain ⟨g'', k3, k4, k5, k6⟩ := finish_sim (v := v) (pan := true) hR k.grow hR1 hkeep
       have hnil : a'.defers = [] := by have := d.1; rw [hds] at this; exact List.eq_nil_of_length_eq_zero (by simpa using this)
       show LeavesInM _ _ _ _ _ _ a'.defers _ _
       rw [hnil]
       exact ⟨g'', O', v', by rw [k6]; rfl, k3, k4, k5⟩
     . cases hout
   . cases hout
 . cases hout
theorem un3_un3 (x : IVal) : un3 (un3 x) = un3 x := by
 cases x with
 | tup xs => simp [un3]; intro a _; exact un2_un2 a
 | agg xs => simp [un3, un2, un1]; intro a _; exact un1_un1 a
 | _ => rfl
theorem un_list : ∀ (t : Tm), t.un.list = t.list.map fun p => (p.1, un3 p.2) := by
 intro t
 induction t with
 | leaf => rfl
 | node l c r ihl ihr =>
   simp only [Tm.un, Tm.list, List.map_append, ihl, ihr]
   cases c with
   | none => rfl
   | some p => rfl
theorem un_get : ∀ (t : Tm) (k : Nat), t.un.get k = (t.get k).map fun p => (p.1, un3 p.2) := by
 intro t
 induction t with
 | leaf => intro k; rfl
 | node l c r ihl ihr =>
   intro k
   simp only [Tm.un, Tm.get, ihl, ihr]
   cases Nat.beq k 0 <;> cases Nat.beq (k % 2) 1 <;> simp
   all_goals (cases c <;> rfl)
theorem pushAll {l : Roots} {σ : List IObj} : ∀ {ps : Roots}, (∀ p ∈ ps, V g p.1 p.2 /\ own3 p.1 p.2 = []) -> R g O l σ w -> R g O (ps ++ l) σ w := by
 intro ps
 induction ps with
 | nil => intro _ h; exact h
 | cons p ps ih =>
   intro hp h
   exact (ih (fun q hq => hp q (by simp [hq])) h).push (hp p (by simp)).1 (hp p (by simp)).2
theorem setAll_R {σ : List IObj} : ∀ {ps : List Nat} {vs : List IVal} {us : List Value} {ts ts' : Ts} {tmps : Array Value}, ts.setAll ps vs = some ts' -> vs.length = us.length -> WT ts tmps -> (∀ p ∈ ps, p < tmps.size) -> R g O (vs.zip us ++ ts.roots tmps) σ w ->
   R g O (ts'.roots ((ps.zip us).foldl (fun t p => t.setIfInBounds p.1 p.2) tmps)) σ w /\ WT ts' ((ps.zip us).foldl (fun t p => t.setIfInBounds p.1 p.2) tmps) /\ SameSh ts ts' /\ ((ps.zip us).foldl (fun t p => t.setIfInBounds p.1 p.2) tmps).size = tmps.size := by
 intro ps
 induction ps with
 | nil =>
   intro vs us ts ts' tmps h hl hW _ hR
   cases vs with
   | nil => simp [Ts.setAll] at h; subst h; exact ⟨by simpa using hR, by simpa using hW, .refl _, by simp⟩
   | cons v vs => simp [Ts.setAll] at h
 | cons p ps ih =>
   intro vs us ts ts' tmps h hl hW hp hR
   cases vs with
   | nil => simp [Ts.setAll] at h
   | cons v vs =>
   cases us with
   | nil => simp at hl
   | cons u us =>
     simp only [Ts.setAll] at h
     have hj : p < tmps.size := hp p (by simp)
     obtain ⟨rest, ev, h1, h2⟩ := Ts.roots_put hW hj v u
     have hW' : WT (ts.set p v) (tmps.setIfInBounds p u) := fun k q hq => by have := hW.set hj v k q hq; simpa using this
     simp only [List.zip_cons_cons, List.cons_append] at hR
     have h3 : R g O ((v, u) :: (ev ++ (vs.zip us ++ rest))) σ w := by
       refine hR.perm (.cons _ ?_)
       refine (h1.append_left _).trans ?_
       rw [<- List.append_assoc, <- List.append_assoc]
       exact List.perm_append_comm.append_right _
     have hR' : R g O (vs.zip us ++ (ts.set p v).roots (tmps.setIfInBounds p u)) σ w := by
       cases hb : ts.t.has (ts.slot p) with
       | true =>
         rw [hb] at h2
         have h4 : R g O (ev ++ ((v, u) :: (vs.zip us ++ rest))) σ w := h3.perm List.perm_middle.symm
         refine (R.drops (l := ev) h4).perm ?_
         refine List.Perm.trans ?_ (h2.symm.append_left _)
         exact List.perm_middle.symm
       | false =>
         rw [hb] at h2
         exact (R.drops (l := ev) h3.drop).perm (h2.symm.append_left _)
     obtain ⟨k1, k2, k3, k4⟩ := ih h (by simpa using hl) hW' (fun q hq => by simpa using hp q (by simp [hq])) hR'
     simp only [List.zip_cons_cons, List.foldl_cons]
     exact ⟨k1, k2, SameSh.trans ⟨rfl, rfl, rfl⟩ k3, by rw [k4]; simp⟩
theorem setParams_eq (r : Loop) (rargs : Array Value) : setParams r rargs = (r.params.toList.zip rargs.toList).foldl (fun t p => t.setIfInBounds p.1 p.2) r.tmps := by
 unfold setParams
 rw [<- Array.foldl_toList, Array.toList_zip]
theorem loop_of {σ : List IObj} {l : Roots} {id b : Nat} {L : ILoop} (hR : R g O l σ w) (hι : g.ι[id]? = some b) (hσ : σ[id]? = some (.loop L)) : ∃ r : Loop, w.heap[b]? = some (.loop r) /\ LoopR g L r /\ b < w.heap.size := by
 obtain ⟨r, h1, h2⟩ := hR.objs id b _ hι hσ
 exact ⟨r, h1, h2, (Array.getElem?_eq_some_iff.1 h1).1⟩
theorem R.setLoop {σ : List IObj} {l : Roots} {id b : Nat} {L L' : ILoop} {r r' : Loop} (hR : R g O l σ w) (hι : g.ι[id]? = some b) (hσ : σ[id]? = some (.loop L)) (hw : w.heap[b]? = some (.loop r)) (hL : LoopR g L' r') :
   R g O l (σ.set id (.loop L')) (w.putObj b (.loop r')) /\ Grow O g w O g (w.putObj b (.loop r')) := by
 have hlt : b < w.heap.size := (Array.getElem?_eq_some_iff.1 hw).1
 exact hR.putObj hι hσ (by simp) hlt (by rw [hw]; simp) ⟨r', World.putObj_heap_same hlt, hL⟩ (.inl rfl) rfl
theorem Keep.setLoop {σ : List IObj} {id : Nat} {L L' : ILoop} (hσ : σ[id]? = some (.loop L)) (ht : L'.ts = L.ts) : Keep σ (σ.set id (.loop L')) [(id, false)] :=
 Keep.set fun n _ _ ho => by
   have := ho _ hσ
   simpa [RLO, ht] using this
theorem exitOf_jump {x : IExit} (h : isJump x = true) : ∃ e c, exitOf x = some e /\ pendOf (some x) = some c /\ (∀ (b : Nat) (Rp : Ending -> World -> Prop) (a' : Act) (w' : World), (∃ v w'', (Instr.endRound b (some c)).run P w' = .ok v w'' /\ Rp (.returned v) w'') -> roundPost P b Rp e a' w') /\
   (∀ (F : Fence) (n : Nat) (Q : Exit -> Act -> World -> Prop) (a' : Act) (w' : World), Q e a' w' -> c.wpIn F n P Q a' w') := by
 cases x with
 | exit id => exact ⟨.exit id, .exit id, rfl, rfl, fun _ _ _ _ h => h, fun _ _ _ _ _ h => wpIn_exit h⟩
 | goto l => exact ⟨.goto l, .goto l, rfl, rfl, fun _ _ _ _ h => h, fun _ _ _ _ _ h => wpIn_goto h⟩
 | ret => exact ⟨.ret, .ret, rfl, rfl, fun _ _ _ _ h => h, fun _ _ _ _ _ h => wpIn_ret h⟩
 | normal => cases h
 | panic v => cases h
theorem cyl_ok {F : IProg} {n : Nat} (hS : CodeSim P F n) (id : Nat) (args : List IVal) (σ : List IObj) (out : Out) (hout : cfOf F n (.y id) args σ = some out) (g : Gh) (O : List Nat) (rargs : Array Value) (w : World) (b : Nat) (hC : g.C = CR P) (hι : g.ι[id]? = some b) (hlen : args.length = rargs.toList.length)
   (hR : R g O (args.zip rargs.toList) σ w) : ∃ r : Loop, w.heap[b]? = some (.loop r) /\ rargs.size = r.params.size /\ RoundIn Fence.wide 0 P b r.fn (setParams r rargs) r.assign r.body w (CallPost g O w σ out) := by
 simp only [cfOf] at hout
 unfold roundI at hout
 split at hout
 . rename_i L hσ
   split at hout
   . rename_i ts hst0 hset
     obtain ⟨r, hw, hL, hlt⟩ := loop_of hR hι hσ
     obtain ⟨m, hm, hpm, hca, hcb⟩ := hL.code
     rw [hC] at hca hcb
     have hsetlen : ∀ {ps : List Nat} {vs : List IVal} {t t' : Ts}, t.setAll ps vs = some t' -> ps.length = vs.length := by
       intro ps
       induction ps with
       | nil => intro vs t t' h; cases vs <;> simp [Ts.setAll] at h ⊢
       | cons p ps ih => intro vs t t' h; cases vs <;> simp [Ts.setAll] at h ⊢; exact ih h
     have hpl := hsetlen hset
     have hsz : rargs.size = r.params.size := by
       have := hL.ps
       have e1 : r.params.size = L.ps.length := by rw [<- this]; simp
       rw [e1, hpl, hlen]; simp
     refine ⟨r, hw, hsz, ?_⟩
     have hroots : R g O (args.zip rargs.toList ++ L.ts.roots r.tmps) σ w := by
       have h1 := pushAll (ps := L.ts.roots r.tmps) (fun p hp => by
         simp only [Ts.roots, List.mem_map] at hp
         obtain ⟨q, hq, rfl⟩ := hp
         obtain ⟨k1, k2⟩ := hL.vals q hq
         exact ⟨k1, by rw [<- k2]; exact own3_un3 _ _⟩) hR
       exact h1.perm List.perm_append_comm
     obtain ⟨k1, k2, k3, k4⟩ := setAll_R hset hlen hL.wt (fun p hp => Nat.lt_of_lt_of_le (hpm p hp) hm) hroots
     rw [<- hL.ps, <- setParams_eq] at k1 k2 k4
     have hstand : Stand (CR P) ⟨m, L.ts.nv, L.ts.m⟩ g O { ts := ts, σ := σ, wr := [] } { tmps := setParams r rargs, defers := [] } w := by
       refine ⟨k1, k2, by rw [k3.2.2, hL.ds]; exact .nil g, by rw [k4]; exact hm, ⟨k3.1, k3.2.1⟩, hC⟩
     refine roundIn_of_wpIn (F := Fence.wide) trivial ?_
     have hF : Fence.wide.inRound b = WF (some b) := rfl
     rw [hF]
     split at hout
     . rename_i s1 h1
       split at hout
       . rename_i L1 hσ1
         split at hout
         . rename_i hst1
           split at hout
           . rename_i x s2 h2
             split at hout
             . rename_i L2 hσ2
               -- the assignments
               refine hS r.assign L.a ⟨m, L.ts.nv, L.ts.m⟩ false _ .normal s1 hca h1 (some b) (fun h => by cases h) 0 _ _ w g O hstand ⟨fun e g1 O1 a1 w1 he hgo1 hs1 => ?_, fun v _ _ _ _ _ hx => by cases hx⟩
               simp only [exitOf, Option.some.injEq] at he
               subst he
               have hι1 := hgo1.grow.pre id b hι
               obtain ⟨r1, hw1, hL1, -⟩ := loop_of hs1.rel hι1 hσ1
               refine ⟨_, run_beginRound hw1 (by rw [hL1.st, hst1]; rfl), ?_⟩
               have hLb : LoopR g1 { L1 with st := 1 } { r1 with state := .busy } := ⟨rfl, hL1.ps, hL1.pend, hL1.wt, hL1.ds, hL1.vals, hL1.code⟩
               obtain ⟨hRb, hGb⟩ := hs1.rel.setLoop hι1 hσ1 hw1 hLb
               have hsb : Stand (CR P) ⟨m, L.ts.nv, L.ts.m⟩ g1 O1 { s1 with σ := s1.σ.set id (.loop { L1 with st := 1 }), wr := (id, false) :: s1.wr } a1 (w1.putObj b (.loop { r1 with state := .busy })) :=
                 ⟨hRb, hs1.len, hs1.defs, hs1.size, hs1.sh, hs1.code⟩
               -- what is behind the body
               have hend : ∀ (g2 : Gh) (O2 : List Nat) (a2 : Act) (w2 : World), Goes g1 O1 { s1 with σ := s1.σ.set id (.loop { L1 with st := 1 }), wr := (id, false) :: s1.wr } (w1.putObj b (.loop { r1 with state := .busy })) g2 O2 s2 w2 -> R g2 O2 (s2.ts.roots a2.tmps) s2.σ w2 ->
                   ∀ (jump : Option Code) (L3 : ILoop), L3.st = (if jump.isNone then 0 else 2) -> L3.ts = L2.ts -> L3.ps = L2.ps -> L3.a = L2.a -> L3.b = L2.b -> jump = pendOf L3.pend ->
                   out = finish σ.length false (.bool jump.isNone) { s2 with σ := s2.σ.set id (.loop L3), wr := (id, false) :: s2.wr } ->
                   ∃ v w', (Instr.endRound b jump).run P w2 = .ok v w' /\ CallPost g O w σ out (.returned v) w' := by
                 intro g2 O2 a2 w2 hgo2 hR2 jump L3 e1 e2 e3 e4 e5 e6 e7
                 have hι2 := hgo2.grow.pre id b hι1
                 obtain ⟨r2, hw2, hL2, -⟩ := loop_of hR2 hι2 hσ2
                 have hLe : LoopR g2 L3 { r2 with state := if jump.isNone then .ready else .done, pending := jump } := by
                   refine ⟨?_, by rw [e3]; exact hL2.ps, e6, by rw [e2]; exact hL2.wt, by rw [e2]; exact hL2.ds, by rw [e2]; exact hL2.vals, by rw [e2, e3, e4, e5]; exact hL2.code⟩
                   rw [e1]; cases jump <;> rfl
                 obtain ⟨hRe, hGe⟩ := hR2.setLoop hι2 hσ2 hw2 hLe
                 refine ⟨_, _, run_endRound jump hw2, ?_⟩
                 have hRf := (R.drops (l := s2.ts.roots a2.tmps) (l' := []) (by rw [List.append_nil]; exact hRe)).push (.bool jump.isNone) rfl
                 have hgr : Grow O g w O2 g2 _ := ((hgo1.grow.trans hGb).trans hgo2.grow).trans hGe
                 obtain ⟨wn1, q1, q2⟩ := hgo1.keep
                 obtain ⟨wn2, q3, q4⟩ := hgo2.keep
                 have hkeep : Keep σ (s2.σ.set id (.loop L3)) ((id, false) :: s2.wr) := by
                   rw [q3]; simp only; rw [q1]; simp only [List.append_nil]
                   have := ((q2.trans (Keep.setLoop hσ1 (L' := { L1 with st := 1 }) rfl)).trans q4).trans (Keep.setLoop hσ2 (L' := L3) e2)
                   simpa using this
                 obtain ⟨g'', k3, k4, k5, k6⟩ := finish_sim (s' := { s2 with σ := s2.σ.set id (.loop L3), wr := (id, false) :: s2.wr }) (v := .bool jump.isNone) (pan := false) hR hgr hRf hkeep
                 rw [<- e7] at k4 k5 k6
                 exact ⟨g'', O2, _, by rw [k6]; rfl, k3, k4, k5⟩
               refine hS r.body L.b ⟨m, L.ts.nv, L.ts.m⟩ false _ x s2 hcb h2 (some b) (fun h => by cases h) 0 _ _ _ g1 O1 hsb ⟨fun e g2 O2 a2 w2 he hgo2 hs2 => ?_, fun v g2 O2 a2 w2 v' hx hgo2 hr2 hd2 => ?_⟩
               . split at hout
                 . simp only [exitOf, Option.some.injEq] at he
                   subst he
                   simp only [Option.some.injEq] at hout
                   exact hend g2 O2 a2 w2 hgo2 hs2.rel none { L2 with st := 0, pend := none } rfl rfl rfl rfl rfl rfl hout.symm
                 . split at hout
                   . rename_i hj
                     simp only [Option.some.injEq] at hout
                     obtain ⟨e', c', j1, j2, j3, j4⟩ := exitOf_jump (P := P) hj
                     rw [j1] at he
                     cases he
                     refine j3 _ _ _ _ (hend g2 O2 a2 w2 hgo2 hs2.rel (some c') { L2 with st := 2, pend := some x } rfl rfl rfl rfl rfl j2.symm hout.symm)
                   . cases hout
               . subst hx
                 simp only [isJump, Bool.false_eq_true, if_false] at hout
                 cases hout
             . cases hout
           . cases hout
         . cases hout
       . cases hout
     . cases hout
   . cases hout
 . cases hout
theorem cfOf_ok {F : IProg} {n : Nat} (hF : FOK P F) (hS : CodeSim P F n) : CallOK P (CR P) (cfOf F n) :=
 ⟨fun f args σ out h => cfn_ok hF hS f args σ out h, fun id args σ out h g O rargs w b hC hι hlen hR => cyl_ok hS id args σ out h g O rargs w b hC hι hlen hR⟩
def LoopSim (P : Program) (F : IProg) (n : Nat) : Prop :=
 ∀ (c : Code) (ic : ICode) (m : Shape) (top : Bool) (s : St) (x : IExit) (s' : St), codeOK P m top c ic = true -> eval F n (.loop ic) s = some (x, s') ->
   ∀ (ρ : Option Nat), (top = true -> ρ = none) -> ∀ (k : Nat) (Q : Exit -> Act -> World -> Prop) (a : Act) (w : World) (g : Gh) (O : List Nat), Stand (CR P) m g O s a w -> After (CR P) m g O s w x s' Q -> Code.roundsIn (WF ρ) k P c Q n a w
theorem loop_sim {F : IProg} {n : Nat} (ih : CodeSim P F n) (il : LoopSim P F n) : LoopSim P F (n + 1) := by
 intro c ic m top s x s' hok hev ρ hρ k Q a w g O hst haft
 simp only [eval] at hev
 rw [roundsIn_succ]
 split at hev
 . rename_i s1 h1
   refine ih c ic m top s .normal s1 hok h1 ρ hρ k _ a w g O hst ⟨fun e g' O' a' w' he hk st => ?_, fun v g' O' a' w' v' hx => by cases hx⟩
   simp only [exitOf, Option.some.injEq] at he
   subst he
   exact il c ic m top s1 x s' hok hev ρ hρ k Q a' w' g' O' st (haft.of_goes hk)
 . rename_i hne
   refine ih c ic m top s x s' hok hev ρ hρ k _ a w g O hst (haft.imp fun e a' w' hp hx hq => ?_)
   cases x with
   | normal => exact absurd hev (by intro h; exact hne _ h)
   | panic v => obtain ⟨ch, rfl⟩ := hp v rfl; exact hq
   | exit id => have := hx _ rfl; subst this; exact hq
   | goto id => have := hx _ rfl; subst this; exact hq
   | ret => have := hx _ rfl; subst this; exact hq
theorem code_loop_sim {F : IProg} (hmx : P.follows .mixedOrders = true) (hF : FOK P F) : ∀ n, CodeSim P F n /\ LoopSim P F n := by
 intro n
 induction n with
 | zero => exact ⟨fun c ic m top s x s1 _ hev => (by simp [eval] at hev), fun c ic m top s x s1 _ hev => (by simp [eval] at hev)⟩
 | succ n ih =>
   obtain ⟨ih, il⟩ := ih
   have hcf := cfOf_ok hF ih
   have il' := loop_sim ih il
   refine ⟨?_, il'⟩
   intro c ic m top s x s' hok hev ρ hρ k Q a w g O hst haft
   have hns : ic ≠ .stuck := fun e => by subst e; simp [eval] at hev
   cases c <;> cases ic <;> (try exact absurd rfl hns) <;> try (simp only [codeOK, Bool.false_eq_true] at hok)
   case skip.skip => simp only [eval, Option.some.injEq, Prod.mk.injEq] at hev; obtain ⟨rfl, rfl⟩ := hev; exact wpIn_skip (haft.1 _ g O a w rfl (.refl _ _ _ _) hst)
   case label.label => simp only [eval, Option.some.injEq, Prod.mk.injEq] at hev; obtain ⟨rfl, rfl⟩ := hev; exact wpIn_label (haft.1 _ g O a w rfl (.refl _ _ _ _) hst)
   case exit.exit id id' =>
     have := eq_of_beq hok; subst this
     simp only [eval, Option.some.injEq, Prod.mk.injEq] at hev; obtain ⟨rfl, rfl⟩ := hev; exact wpIn_exit (haft.1 _ g O a w rfl (.refl _ _ _ _) hst)
   case goto.goto id id' =>
     have := eq_of_beq hok; subst this
     simp only [eval, Option.some.injEq, Prod.mk.injEq] at hev; obtain ⟨rfl, rfl⟩ := hev; exact wpIn_goto (haft.1 _ g O a w rfl (.refl _ _ _ _) hst)
   case ret.ret => simp only [eval, Option.some.injEq, Prod.mk.injEq] at hev; obtain ⟨rfl, rfl⟩ := hev; exact wpIn_ret (haft.1 _ g O a w rfl (.refl _ _ _ _) hst)
   case region.ops id ops d l =>
     cases d <;> simp only [codeOK, Bool.false_eq_true] at hok
     simp only [Bool.and_eq_true] at hok
     refine wpIn_region ?_
     have := ops_sim (ρ := ρ) (n := k) (ops := ops) (Q := Q) (pre := []) (os := ops.toList) hcf (by simp) hok.1 hok.2 hev hst haft
     simpa [List.range_eq_range'] using this
   case region.draw id ops d l pairs =>
     cases d <;> simp only [codeOK, Bool.false_eq_true] at hok
     simp only [eval] at hev
     split at hev
     . rename_i s1 ls h1
       split at hev
       . rename_i hp
         simp only [Option.some.injEq, Prod.mk.injEq] at hev
         obtain ⟨rfl, rfl⟩ := hev
         exact draw_sim hmx hcf (eval_chg n).1 hok h1 hp hst haft
       . cases hev
     . cases hev
   case seq.seq c1 c2 i1 i2 =>
     simp only [Bool.and_eq_true] at hok
     simp only [eval] at hev
     refine wpIn_seq ?_
     split at hev
     . rename_i s1 h1
       refine ih c1 i1 m top s .normal s1 hok.1 h1 ρ hρ k _ a w g O hst ⟨fun e g' O' a' w' he hk st => ?_, fun v g' O' a' w' v' hx => by cases hx⟩
       simp only [exitOf, Option.some.injEq] at he
       subst he
       exact ih c2 i2 m top s1 x s' hok.2 hev ρ hρ k Q a' w' g' O' st (haft.of_goes hk)
     . rename_i hne
       refine ih c1 i1 m top s x s' hok.1 hev ρ hρ k _ a w g O hst (haft.imp fun e a' w' hp hx hq => ?_)
       cases x with
       | normal => exact absurd hev (by intro h; exact hne _ h)
       | panic v => obtain ⟨ch, rfl⟩ := hp v rfl; exact hq
       | exit id => have := hx _ rfl; subst this; exact hq
       | goto id => have := hx _ rfl; subst this; exact hq
       | ret => have := hx _ rfl; subst this; exact hq
   case cond.cond cx c1 c2 ix i1 i2 =>
     simp only [Bool.and_eq_true] at hok
     obtain ⟨hx, h1, h2⟩ := hok
     simp only [eval] at hev
     have hb : ∀ b ts', ix.get s.ts = some (.bool b, ts') -> a.eval cx = .bool b := by
       intro b ts' hg
       have h3 := (get_sim (l := []) hx hg hst.len (by simpa using hst.rel)).1
       exact ((h3.vals (.bool b, a.eval cx) (by simp)).bool_iff b).2 rfl
     split at hev
     . rename_i ts' hg; exact wpIn_cond_true (hb true ts' hg) (ih c1 i1 m top s x s' h1 hev ρ hρ k Q a w g O hst haft)
     . rename_i ts' hg; exact wpIn_cond_false (hb false ts' hg) (ih c2 i2 m top s x s' h2 hev ρ hρ k Q a w g O hst haft)
     . cases hev
   case block.block id c1 id' i1 =>
     simp only [Bool.and_eq_true] at hok
     have := eq_of_beq hok.1; subst this
     simp only [eval] at hev
     refine wpIn_block ?_
     split at hev
     . rename_i i s1 h1
       split at hev
       . rename_i hi
         subst hi
         simp only [Option.some.injEq, Prod.mk.injEq] at hev
         obtain ⟨rfl, rfl⟩ := hev
         refine ih c1 i1 m top s (.exit i) s1 hok.2 h1 ρ hρ k _ a w g O hst ⟨fun e g' O' a' w' he hk st => ?_, fun v g' O' a' w' v' hx => by cases hx⟩
         simp only [exitOf, Option.some.injEq] at he
         subst he
         simp only [Exit.inBlock, if_true]
         exact haft.1 _ g' O' a' w' rfl hk st
       . rename_i hi
         simp only [Option.some.injEq, Prod.mk.injEq] at hev
         obtain ⟨rfl, rfl⟩ := hev
         refine ih c1 i1 m top s (.exit i) s1 hok.2 h1 ρ hρ k _ a w g O hst ⟨fun e g' O' a' w' he hk st => ?_, fun v g' O' a' w' v' hx => by cases hx⟩
         simp only [exitOf, Option.some.injEq] at he
         subst he
         simp only [Exit.inBlock, hi, if_false]
         exact haft.1 _ g' O' a' w' rfl hk st
     . rename_i hne
       refine ih c1 i1 m top s x s' hok.2 hev ρ hρ k _ a w g O hst (haft.imp fun e a' w' hp hx hq => ?_)
       cases x with
       | exit i => exact absurd hev (by intro h; exact hne _ _ h)
       | panic v => obtain ⟨ch, rfl⟩ := hp v rfl; exact hq
       | normal => have := hx _ rfl; subst this; exact hq
       | goto i => have := hx _ rfl; subst this; exact hq
       | ret => have := hx _ rfl; subst this; exact hq
   case scope.scope c1 i1 =>
     simp only [eval] at hev
     refine wpIn_scope_straight ?_
     split at hev
     . cases hev
     . rename_i hne
       refine ih c1 i1 m top s x s' hok hev ρ hρ k _ a w g O hst (haft.imp fun e a' w' hp hx hq => ?_)
       cases x with
       | goto i => exact absurd hev (by intro h; exact hne _ _ h)
       | panic v => obtain ⟨ch, rfl⟩ := hp v rfl; exact hq
       | normal => have := hx _ rfl; subst this; exact hq
       | exit i => have := hx _ rfl; subst this; exact hq
       | ret => have := hx _ rfl; subst this; exact hq
   case rangeFunc.rangeF g0 ps ca cb x0 ps' ia ib =>
     simp only [Bool.and_eq_true] at hok
     obtain ⟨htop, hx, hps, hall, hca, hcb⟩ := hok
     have hρ0 := hρ htop
     subst hρ0
     have hps := eq_of_beq hps
     simp only [List.all_eq_true, decide_eq_true_eq] at hall
     simp only [eval] at hev
     split at hev
     . rename_i gf us ws ts' hget
       split at hev
       . rename_i v σ1 wr1 hc
         split at hev
         . rename_i L hσL
           split at hev
           . cases hev
           . rename_i hst1
             have hR0 := hst.rel
             have h1 := (get_sim (l := []) hx hget hst.len (by simpa using hst.rel)).1
             have hV0 : V g (.fn (.func gf) us ws) (a.eval g0) := h1.vals (.fn (.func gf) us ws, a.eval g0) (by simp)
             generalize hrv : a.eval g0 = rv at hV0
             cases hV0 with
             | fn _ _ _ firsts caps hl1 hv1 hf1 hl2 hv2 hf2 =>
             -- the two blocks
             let L0 : ILoop := ⟨0, { s.ts with t := s.ts.t.un, ds := [] }, ps', ia, ib, none, .none⟩
             let gA : Gh := g.fresh w.heap.size
             let wA : World := w.alloc (.deferred (some []))
             have hRA : R gA (w.heap.size :: O) (s.ts.roots a.tmps) (s.σ ++ [.defr]) wA :=
               (hR0.push (undef_V g) rfl).new (obr := .deferred (some [])) (ob := .defr) (fun _ => alloc_new w _) ⟨[], rfl, by simp⟩
             have hGA : Grow O g w (w.heap.size :: O) gA wA := growFresh hR0 _
             have hszA : wA.heap.size = w.heap.size + 1 := by simp [wA]
             let gB : Gh := gA.fresh wA.heap.size
             have hιA : ∀ (id b : Nat), g.ι[id]? = some b -> gB.ι[id]? = some b := by
               intro id b hb
               have h2 := hGA.pre id b hb
               simp only [gB, Gh.fresh]
               rw [List.getElem?_append_left (lt_of_get h2)]; exact h2
             have hVB : ∀ {y : IVal} {u : Value}, V g y u -> own3 y u = [] -> V gB y u := fun hv ho => hv.mono hιA (fun _ _ _ h => h) (by rw [ho]; simp)
             have hgBC : gB.C = CR P := hst.code
             have hwp : ∀ fn : FuncId, ∃ (l : Nat) (mark : List Deferred) (w₁ : World) (d : Deferred) (w₁' : World) (f : FuncId) (args : Array Value) (w₂ : World),
                 (Instr.enterLoop fn a.tmps ps ca cb (WF none).round).run P w = .ok (l, mark) w₁ /\ (resolve a.eval (rangeCall g0 l) 0).run P w₁ = .ok d w₁' /\ (∀ f', Target.leads P w₁' d.target d.args = some f' -> (WF none).fn f') /\
                 (invoke d.target d.args).run P w₁' = .ok (.enter f args) w₂ /\ ((WF none).depth.isSome = true -> 1 <= k) /\ CallsIn (WF none) (k - 1) P f args w₂ (rangePost (WF none) k P l Q { a with defers := mark ++ a.defers }) := by
               intro fn
               let r0 : Loop := { state := .ready, pending := none, fn := fn, tmps := a.tmps, params := ps, assign := ca, body := cb, defers := w.heap.size }
               let wB : World := wA.alloc (.loop r0)
               have hL0 : LoopR gB L0 r0 := by
                 refine ⟨rfl, by rw [hps], rfl, fun j p hp => ?_, rfl, fun p hp => ?_, m.n, hst.size, hall, ?_, ?_⟩
                 . simp only [L0, un_get, Option.map_eq_some_iff] at hp
                   obtain ⟨q, hq, rfl⟩ := hp
                   exact hst.len j q hq
                 . simp only [L0, un_list, List.mem_map] at hp
                   obtain ⟨q, hq, rfl⟩ := hp
                   refine ⟨hVB (V.un3 (hR0.vals (q.2, a.tmps.getD q.1 undef) ?_)) (own3_un3 _ _), un3_un3 _⟩
                   simp only [Ts.roots, List.mem_map]; exact ⟨q, hq, rfl⟩
                 . rw [hgBC]; show codeOK P ⟨m.n, s.ts.nv, s.ts.m⟩ false ca ia = true
                   rw [hst.sh.1, hst.sh.2]; exact hca
                 . rw [hgBC]; show codeOK P ⟨m.n, s.ts.nv, s.ts.m⟩ false cb ib = true
                   rw [hst.sh.1, hst.sh.2]; exact hcb
               have hRB : R gB (wA.heap.size :: w.heap.size :: O) (s.ts.roots a.tmps) ((s.σ ++ [.defr]) ++ [.loop L0]) wB :=
                 (hRA.push (undef_V gA) rfl).new (obr := .loop r0) (ob := .loop L0) (fun _ => ⟨r0, alloc_new wA _, hL0⟩) ⟨[], rfl, by simp⟩
               have hGB : Grow O g w (wA.heap.size :: w.heap.size :: O) gB wB := hGA.trans (growFresh hRA _)
               have hlen : g.ι.length = s.σ.length := hR0.len
               have hι0 : gB.ι[s.σ.length]? = some w.heap.size := by
                 simp only [gB, gA, Gh.fresh, <- hlen]
                 rw [List.append_assoc, List.getElem?_append_right (Nat.le_refl _)]; simp
               have hι1 : gB.ι[s.σ.length + 1]? = some (w.heap.size + 1) := by
                 simp only [gB, gA, Gh.fresh, <- hlen]
                 rw [List.append_assoc, List.getElem?_append_right (by omega)]; simp [hszA]
               have hσe : s.σ ++ [.defr, .loop L0] = (s.σ ++ [.defr]) ++ [.loop L0] := by simp
               obtain ⟨⟨gfn, q1, q2, q3⟩, hcalls⟩ := hcf.fn gf _ _ _ hc
               -- the arguments
               let rargs : Array Value := firsts ++ #[.func (.yield (w.heap.size + 1)) #[] #[]] ++ caps
               have hz : (us ++ [IVal.yl (s.σ.length + 1)] ++ ws).zip rargs.toList = us.zip firsts.toList ++ [(IVal.yl (s.σ.length + 1), Value.func (.yield (w.heap.size + 1)) #[] #[])] ++ ws.zip caps.toList := by
                 simp only [rargs, Array.toList_append]
                 rw [List.zip_append (by simp; omega), List.zip_append (by simpa using hl1)]
                 rfl
               have hRargs : R gB (wA.heap.size :: w.heap.size :: O) ((us ++ [IVal.yl (s.σ.length + 1)] ++ ws).zip rargs.toList ++ s.ts.roots a.tmps) (s.σ ++ [.defr, .loop L0]) wB := by
                 rw [hσe]
                 refine pushAll (fun p hp => ?_) hRB
                 rw [hz] at hp
                 have hfl : ∀ (xs : List IVal) (vs : Array Value), (∀ (i : Nat) x v, xs[i]? = some x -> vs[i]? = some v -> V g x v) -> (∀ x ∈ xs, Flat x) -> p ∈ xs.zip vs.toList -> V gB p.1 p.2 /\ own3 p.1 p.2 = [] := by
                   intro xs vs hv hf hp
                   obtain ⟨i, hi⟩ := mem_idx hp
                   rw [List.getElem?_zip_eq_some] at hi
                   have hfx := hf p.1 (List.mem_of_getElem? hi.1)
                   have ho := own3_flat hfx p.2
                   exact ⟨hVB (hv i p.1 p.2 hi.1 (by simpa using hi.2)) ho, ho⟩
                 rcases List.mem_append.1 hp with hp | hp
                 . rcases List.mem_append.1 hp with hp | hp
                   . exact hfl us firsts hv1 hf1 hp
                   . simp only [List.mem_singleton] at hp; subst hp
                     exact ⟨.yl _ _ hι1, rfl⟩
                 . exact hfl ws caps hv2 hf2 hp
               have hrl : (us ++ [IVal.yl (s.σ.length + 1)] ++ ws).length = rargs.toList.length := by
                 simp [rargs]; omega
               refine ⟨w.heap.size + 1, _, wB, { target := .fn (.func gf) caps, args := firsts ++ #[.func (.yield (w.heap.size + 1)) #[] #[]] }, wB, gf, rargs, wB, run_enterLoop_outer fn a.tmps ps ca cb, ?_, fun _ _ => trivial, ?_, fun h => by simp [WF, Fence.wide] at h, ?_⟩
               . simp [resolve, rangeCall, hrv, Deferred.ofValue]; rfl
               . simp [invoke, callFunc, q1, q2, q3, rargs]
               . refine callsIn_WF ((hcalls gB _ rargs wB hgBC hrl hRargs.sub_own).mono ?_)
                 rintro e w' ⟨g', O', v', rfl, hg, hR', hk⟩
                 obtain ⟨O'', hR'', hg''⟩ := hRargs.frame hg hR'
                 have hι1' := hg''.pre _ _ hι1
                 obtain ⟨r3, hw3, hL3, hlt3⟩ := loop_of hR'' hι1' hσL
                 have hR3 : R g' O'' (s.ts.roots a.tmps) σ1 w' := R.drops (l := [(v, v')]) hR''
                 obtain ⟨hRd, hGd⟩ := hR3.putObj (ob' := .dead) (x := .loop { r3 with state := .exhausted }) hι1' hσL (by simp) hlt3 (by rw [hw3]; simp) trivial (.inr rfl) rfl
                 have hbusy : r3.state ≠ .busy := by
                   rw [hL3.st]
                   match hh : L.st with
                   | 0 => simp [stOf]
                   | 1 => exact absurd hh hst1
                   | 2 => simp [stOf]
                   | (j + 3) => simp [stOf]
                 have hgr : Grow O g w O'' g' (w'.putObj (w.heap.size + 1) (.loop { r3 with state := .exhausted })) := (hGB.trans hg'').trans hGd
                 have hgoes : Goes g O s w g' O'' { ts := { s.ts with ds := s.σ.length :: s.ts.ds }, σ := σ1.set (s.σ.length + 1) .dead, wr := (s.σ.length + 1, false) :: (wr1 ++ s.wr) } (w'.putObj (w.heap.size + 1) (.loop { r3 with state := .exhausted })) := by
                   refine ⟨hgr, (s.σ.length + 1, false) :: wr1, by simp, ?_⟩
                   have := (((Keep.snoc s.σ .defr).trans (Keep.snoc _ (.loop L0))).trans (by rw [<- hσe]; exact hk)).trans (Keep.set (σ := σ1) (id := s.σ.length + 1) (ob := .dead) (rf := false) fun n _ _ _ => trivial)
                   simpa using this
                 have hstand : Stand (CR P) m g' O'' { ts := { s.ts with ds := s.σ.length :: s.ts.ds }, σ := σ1.set (s.σ.length + 1) .dead, wr := (s.σ.length + 1, false) :: (wr1 ++ s.wr) } { a with defers := [{ target := .collected w.heap.size, args := #[] }] ++ a.defers } (w'.putObj (w.heap.size + 1) (.loop { r3 with state := .exhausted })) := by
                   refine ⟨hRd, hst.len, ⟨by simp [hst.defs.1], fun i id d h1 h2 => ?_⟩, hst.size, hst.sh, hgr.code.trans hst.code⟩
                   cases i with
                   | zero =>
                     simp at h1 h2
                     subst h1 h2
                     exact ⟨w.heap.size, hg''.pre _ _ hι0, rfl⟩
                   | succ i =>
                     simp at h1 h2
                     obtain ⟨b, p1, p2⟩ := hst.defs.2 i id d h1 h2
                     exact ⟨b, hgr.pre _ _ p1, p2⟩
                 refine ⟨_, _, run_endLoop hw3 hbusy, ?_⟩
                 have hpend := hL3.pend
                 generalize w'.putObj (w.heap.size + 1) (.loop { r3 with state := .exhausted }) = w4 at hgoes hstand ⊢
                 rw [hpend]
                 split at hev
                 . rename_i hpn
                   simp only [Option.some.injEq, Prod.mk.injEq] at hev
                   obtain ⟨rfl, rfl⟩ := hev
                   rw [hpn]
                   exact haft.1 _ g' O'' _ _ rfl hgoes hstand
                 . rename_i x1 hpn
                   split at hev
                   . rename_i hj
                     simp only [Option.some.injEq, Prod.mk.injEq] at hev
                     obtain ⟨rfl, rfl⟩ := hev
                     obtain ⟨e', c', j1, j2, j3, j4⟩ := exitOf_jump (P := P) hj
                     rw [hpn, j2]
                     exact j4 _ _ _ _ _ (haft.1 _ g' O'' _ _ j1 hgoes hstand)
                   . cases hev
             exact wpIn_rangeFunc fun fn _ => hwp fn
         . cases hev
       . cases hev
     . cases hev
   case loop.loop c1 i1 => exact wpIn_loop_rounds (n + 1) (il' c1 i1 m top s x s' hok hev ρ hρ k Q a w g O hst haft)
theorem call_sim {F : IProg} (hmx : P.follows .mixedOrders = true) (hF : FOK P F) (n : Nat) : CallOK P (CR P) (cfOf F n) := cfOf_ok hF (code_loop_sim hmx hF n).1
end Go.Idl
