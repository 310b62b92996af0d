/- The ideal machine and its evaluators, part 7; no conditions. -/
import Derived.Test.YtbhnokhofcgjmaaGreatDoorIdlF
set_option linter.unusedSectionVars false
set_option linter.unusedVariables false
set_option linter.unusedSimpArgs false
namespace Go.Idl
open Classical in
noncomputable def evw (F : IProg) (c : ICode) (s : St) : Option (IExit × St) :=
 if h : ∃ r n, eval F n c s = some r then some (Classical.choose h) else none
open Classical in
noncomputable def cfw (F : IProg) : jo := fun f args σ =>
 if h : ∃ o n, cfOf F n f args σ = some o then some (Classical.choose h) else none
variable {F : IProg}
theorem evw_iff {c : ICode} {s : St} {r : IExit × St} : evw F c s = some r ↔ ∃ n, eval F n c s = some r := by
 unfold evw;split
 . rename_i h;obtain ⟨n, hn⟩ := Classical.choose_spec h
   constructor
   . intro e; cases e; exact ⟨n, hn⟩
   . rintro ⟨m, hm⟩;have h1 := ka F (Nat.le_max_left n m) _ _ _ hn;have h2 := ka F (Nat.le_max_right n m) _ _ _ hm;rw [h1] at h2; exact h2
 . rename_i h
   constructor
   . intro e; cases e
   . rintro ⟨n, hn⟩; exact absurd ⟨r, n, hn⟩ h
theorem vH {n m : Nat} (h : n <= m) : Yb (cfOf F n) (cfOf F m) := jd9 (ka F h)
theorem cfw_iff {f : Cal} {args : List IVal} {σ : List IObj} {o : Out} : cfw F f args σ = some o ↔ ∃ n, cfOf F n f args σ = some o := by
 unfold cfw;split
 . rename_i h;obtain ⟨n, hn⟩ := Classical.choose_spec h
   constructor
   . intro e; cases e; exact ⟨n, hn⟩
   . rintro ⟨m, hm⟩;have h1 := vH (Nat.le_max_left n m) _ _ _ _ hn;have h2 := vH (Nat.le_max_right n m) _ _ _ _ hm;rw [h1] at h2; exact h2
 . rename_i h
   constructor
   . intro e; cases e
   . rintro ⟨n, hn⟩; exact absurd ⟨o, n, hn⟩ h
theorem jeD (n : Nat) : jgz (eval F n) (evw F) := fun _ _ _ h => evw_iff.2 ⟨n, h⟩
theorem jlQ (n : Nat) : Yb (cfOf F n) (cfw F) := fun _ _ _ _ h => cfw_iff.2 ⟨n, h⟩
def evG (ev : ICode -> St -> Option (IExit × St)) (cf : jo) (c : ICode) (s : St) : Option (IExit × St) :=
 match c with
 | .stuck => none
 | .skip => some (.normal, s)
 | .label _ => some (.normal, s)
 | .exit id => some (.exit id, s)
 | .goto l => some (.goto l, s)
 | .ret => some (.ret, s)
 | .ops l => jY cf l s
 | .draw l pairs => match jv cf l s with
   | some (q, s', log) => if vw pairs log then yy l q s' else none
   | none => none
 | .seq a b => match ev a s with
   | some (.normal, s') => ev b s'
   | r => r
 | .cond x a b => match x.get s.ts with
   | some (.bool true, _) => ev a s
   | some (.bool false, _) => ev b s
   | _ => none
 | .block id b => match ev b s with
   | some (.exit i, s') => if i = id then some (.normal, s') else some (.exit i, s')
   | r => r
 | .loop b => match ev b s with
   | some (.normal, s') => ev (.loop b) s'
   | r => r
 | .scope b => match ev b s with
   | some (.goto _, _) => none
   | r => r
 | .rangeF x ps a b => match x.get s.ts with
   | some (.fn (.func g) us ws, _) =>
     let k := s.σ.length
     match cf (.f g) (us ++ [.yl (k + 1)] ++ ws) (s.σ ++ [.defr, .loop ⟨0, { s.ts with t := s.ts.t.un, ds := [] }, ps, a, b, none, .none⟩]) with
     | some ⟨false, _, σ', wr'⟩ => match σ'[k + 1]? with
       | some (.loop l) => if l.st = 1 then none else
         let s' : St := { ts := { s.ts with ds := k :: s.ts.ds }, σ := σ'.set (k + 1) .dead, wr := (k + 1, false) :: (wr' ++ s.wr) }
         match l.pend with
         | none => some (.normal, s')
         | some x => if zX x then some (x, s') else none
       | _ => none
     | _ => none
   | _ => none
 | .dfr l x xs d c b => jgu ev cf l x xs d c b s
 | .lib _ => none
theorem Zo (n : Nat) (c : ICode) (s : St) : eval F (n + 1) c s = evG (eval F n) (cfOf F n) c s := by
 cases c <;> rfl
theorem jl0 {a b : ICode -> St -> Option (IExit × St)} {ca cb : jo} (h : jgz a b) (hc : Yb ca cb) {c : ICode} {s : St} {r : IExit × St} (hr : evG a ca c s = some r) : evG b cb c s = some r := by
 cases c with
 | ops l => exact Jq hc hr
 | draw l pairs =>
   simp only [evG] at hr ⊢;split at hr
   . rename_i e; rw [Qd hc e]; exact hr
   . cases hr
 | seq x y =>
   simp only [evG] at hr ⊢;split at hr
   . rename_i e; rw [h _ _ _ e]; exact h _ _ _ hr
   . rename_i hne;rw [h _ _ _ hr];split
     . rename_i e; exact absurd (by rw [<- e]; exact hr) (hne _)
     . rfl
 | cond x y z =>
   simp only [evG] at hr ⊢;split at hr
   . exact h _ _ _ hr
   . exact h _ _ _ hr
   . cases hr
 | block id y =>
   simp only [evG] at hr ⊢;split at hr
   . rename_i e; rw [h _ _ _ e]; exact hr
   . rename_i hne;rw [h _ _ _ hr];split
     . rename_i e; exact absurd (by rw [<- e]; exact hr) (hne _ _)
     . rfl
 | loop y =>
   simp only [evG] at hr ⊢;split at hr
   . rename_i e; rw [h _ _ _ e]; exact h _ _ _ hr
   . rename_i hne;rw [h _ _ _ hr];split
     . rename_i e; exact absurd (by rw [<- e]; exact hr) (hne _)
     . rfl
 | scope y =>
   simp only [evG] at hr ⊢;split at hr
   . cases hr
   . rename_i hne;rw [h _ _ _ hr];split
     . rename_i e; exact absurd (by rw [<- e]; exact hr) (hne _ _)
     . rfl
 | rangeF x ps y z =>
   simp only [evG] at hr ⊢;split at hr
   . split at hr
     . rename_i e; rw [hc _ _ _ _ e]; exact hr
     . cases hr
   . cases hr
 | dfr l x xs d c b => exact jer h hc hr
 | _ => exact hr
theorem zi {o : IOp} {s : St} {r : Res} (h : ja (cfw F) o s = some r) : ∃ n, ja (cfOf F n) o s = some r := by
 have hcall : ∀ {f vs ts} , stepCall (cfw F) f vs ts s = some r -> ∃ n, stepCall (cfOf F n) f vs ts s = some r := by
   intro f vs ts h;unfold stepCall at h;split at h
   . rename_i o ho;obtain ⟨n, hn⟩ := cfw_iff.1 ho;exact ⟨n, by unfold stepCall; rw [hn]; exact h⟩
   . cases h
 cases o
 case call f xs =>
   simp only [ja] at h ⊢;split at h
   . exact hcall h
   . cases h
 case callp f xs =>
   simp only [ja] at h ⊢;split at h
   . split at h
     . rename_i hn;split at h
       . rename_i ho;obtain ⟨n, hn'⟩ := cfw_iff.1 ho;exact ⟨n, by rw [if_pos hn, hn']; exact h⟩
       . cases h
     . cases h
   . cases h
 case callv f xs =>
   simp only [ja] at h ⊢;split at h
   . split at h
     . exact hcall h
     . cases h
   . split at h
     . exact hcall h
     . cases h
   . cases h
 case inv tab x xs =>
   simp only [ja] at h ⊢;split at h
   . split at h
     . split at h
       . split at h
         . exact hcall h
         . cases h
       . cases h
     . cases h
   . cases h
 all_goals exact ⟨0, h⟩
theorem VO : ∀ {l : List IOper} {s : St} {r : IExit × St}, jY (cfw F) l s = some r -> ∃ n, jY (cfOf F n) l s = some r := by
 intro l
 induction l with
 | nil => intro s r h; exact ⟨0, h⟩
 | cons o l ih =>
   intro s r h;simp only [jY] at h ⊢;split at h
   . split at h
     . rename_i hs;obtain ⟨n, hn⟩ := zi hs;obtain ⟨m, hm⟩ := ih h;refine ⟨max n m, ?_⟩;rw [yQ (vH (Nat.le_max_left n m)) hn];exact Jq (vH (Nat.le_max_right n m)) hm
     . rename_i hs;obtain ⟨n, hn⟩ := zi hs;exact ⟨n, by rw [hn]; exact h⟩
     . cases h
   . exact ih h
   . cases h
theorem X3 {o : IOper} {s : St} {r : Option IVal × St × DLog} (h : jG (cfw F) o s = some r) : ∃ n, jG (cfOf F n) o s = some r := by
 unfold jG at h;split at h
 . rename_i hw;split at h
   . rename_i hno;split at h
     . rename_i hg;split at h
       . rename_i hs;obtain ⟨n, hn⟩ := zi hs;refine ⟨n, ?_⟩;unfold jG;rw [hw];simp only;rw [if_pos hno, hg];simp only;rw [hn];exact h
       . rename_i hs;obtain ⟨n, hn⟩ := zi hs;refine ⟨n, ?_⟩;unfold jG;rw [hw];simp only;rw [if_pos hno, hg];simp only;rw [hn];exact h
       . cases h
     . cases h
   . cases h
 . rename_i hw; exact ⟨0, by unfold jG; rw [hw]; exact h⟩
 . cases h
theorem Z0 : ∀ {l : List (Nat × IOper)} {s : St} {r : Option (IVal × List (Nat × Bool)) × St × List (Nat × DLog)}, jv (cfw F) l s = some r -> ∃ n, jv (cfOf F n) l s = some r := by
 intro l
 induction l with
 | nil => intro s r h; exact ⟨0, h⟩
 | cons o l ih =>
   intro s r h;simp only [jv] at h ⊢;split at h
   . rename_i hs;obtain ⟨n, hn⟩ := X3 hs;split at h
     . rename_i hl;obtain ⟨m, hm⟩ := ih hl;refine ⟨max n m, ?_⟩;rw [YS (vH (Nat.le_max_left n m)) hn];simp only;rw [Qd (vH (Nat.le_max_right n m)) hm];exact h
     . cases h
   . rename_i hs;obtain ⟨n, hn⟩ := X3 hs;exact ⟨n, by rw [hn]; exact h⟩
   . cases h
theorem jcG {fn : IFunc} {args : List IVal} {σ : List IObj} {o : Out} (h : vW (evw F) fn args σ = some o) : ∃ n, vW (eval F n) fn args σ = some o := by
 unfold vW at h ⊢;split at h
 . exact ⟨0, h⟩
 split at h
 . rename_i e; obtain ⟨n, hn⟩ := evw_iff.1 e; exact ⟨n, by rw [hn]; exact h⟩
 . rename_i e; obtain ⟨n, hn⟩ := evw_iff.1 e; exact ⟨n, by rw [hn]; exact h⟩
 . rename_i e; obtain ⟨n, hn⟩ := evw_iff.1 e; exact ⟨n, by rw [hn]; exact h⟩
 . cases h
theorem jbj {id : Nat} {args : List IVal} {σ : List IObj} {o : Out} (h : yi (evw F) id args σ = some o) : ∃ n, yi (eval F n) id args σ = some o := by
 unfold yi at h ⊢;split at h
 . split at h
   . split at h
     . rename_i e;obtain ⟨n, hn⟩ := evw_iff.1 e;split at h
       . rename_i hl;split at h
         . rename_i hst;split at h
           . rename_i e2;obtain ⟨m, hm⟩ := evw_iff.1 e2;refine ⟨max n m, ?_⟩;rw [ka F (Nat.le_max_left n m) _ _ _ hn];simp only [hl, hst];rw [ka F (Nat.le_max_right n m) _ _ _ hm];exact h
           . cases h
         . cases h
       . cases h
     . cases h
   . cases h
 . cases h
theorem jaV {d : DInfo} {c : ICode} {args : List IVal} {x : IExit} {s : St} {r : IExit × St} (h : yI (evw F) d c args x s = some r) : ∃ n, yI (eval F n) d c args x s = some r := by
 unfold yI at h ⊢;split at h
 . rename_i h1 h2;unfold Ve at h ⊢;split at h
   . rename_i e; obtain ⟨n, hn⟩ := evw_iff.1 e; exact ⟨n, by simp only [hn]; exact h⟩
   . cases h
 . cases h
theorem jeq {l : List IOper} {x : Opd} {xs : List Opd} {d : DInfo} {c b : ICode} {s : St} {r : IExit × St} (h : jgu (evw F) (cfw F) l x xs d c b s = some r) : ∃ n, jgu (eval F n) (cfOf F n) l x xs d c b s = some r := by
 unfold jgu at h;split at h
 . rename_i e1;split at h
   . rename_i e2;split at h
     . rename_i e3;split at h
       . rename_i hif;split at h
         . rename_i e4;obtain ⟨n1, h1⟩ := VO e1;obtain ⟨n2, h2⟩ := evw_iff.1 e4;obtain ⟨n3, h3⟩ := jaV h;refine ⟨max n1 (max n2 n3), ?_⟩;unfold jgu;rw [Jq (vH (Nat.le_max_left _ _)) h1];simp only [e2, e3];rw [if_pos hif, ka F (Nat.le_trans (Nat.le_max_left n2 n3) (Nat.le_max_right _ _)) _ _ _ h2];exact ZC (ka F (Nat.le_trans (Nat.le_max_right n2 n3) (Nat.le_max_right _ _))) h3
         . cases h
       . cases h
     . cases h
   . cases h
 . cases h
theorem jgW {c : ICode} {s : St} {r : IExit × St} (h : evG (evw F) (cfw F) c s = some r) : ∃ n, evG (eval F n) (cfOf F n) c s = some r := by
 cases c with
 | ops l => exact VO h
 | draw l pairs =>
   simp only [evG] at h ⊢;split at h
   . rename_i e; obtain ⟨n, hn⟩ := Z0 e; exact ⟨n, by rw [hn]; exact h⟩
   . cases h
 | seq x y =>
   simp only [evG] at h ⊢;split at h
   . rename_i e;obtain ⟨n, hn⟩ := evw_iff.1 e;obtain ⟨m, hm⟩ := evw_iff.1 h;exact ⟨max n m, by rw [ka F (Nat.le_max_left n m) _ _ _ hn]; exact ka F (Nat.le_max_right n m) _ _ _ hm⟩
   . rename_i hne;obtain ⟨n, hn⟩ := evw_iff.1 h;refine ⟨n, ?_⟩;rw [hn];split
     . rename_i e; exact absurd (by rw [<- e]; exact h) (hne _)
     . rfl
 | cond x y z =>
   simp only [evG] at h ⊢;split at h
   . exact evw_iff.1 h
   . exact evw_iff.1 h
   . cases h
 | block id y =>
   simp only [evG] at h ⊢;split at h
   . rename_i e; obtain ⟨n, hn⟩ := evw_iff.1 e; exact ⟨n, by rw [hn]; exact h⟩
   . rename_i hne;obtain ⟨n, hn⟩ := evw_iff.1 h;refine ⟨n, ?_⟩;rw [hn];split
     . rename_i e; exact absurd (by rw [<- e]; exact h) (hne _ _)
     . rfl
 | loop y =>
   simp only [evG] at h ⊢;split at h
   . rename_i e;obtain ⟨n, hn⟩ := evw_iff.1 e;obtain ⟨m, hm⟩ := evw_iff.1 h;exact ⟨max n m, by rw [ka F (Nat.le_max_left n m) _ _ _ hn]; exact ka F (Nat.le_max_right n m) _ _ _ hm⟩
   . rename_i hne;obtain ⟨n, hn⟩ := evw_iff.1 h;refine ⟨n, ?_⟩;rw [hn];split
     . rename_i e; exact absurd (by rw [<- e]; exact h) (hne _)
     . rfl
 | scope y =>
   simp only [evG] at h ⊢;split at h
   . cases h
   . rename_i hne;obtain ⟨n, hn⟩ := evw_iff.1 h;refine ⟨n, ?_⟩;rw [hn];split
     . rename_i e; exact absurd (by rw [<- e]; exact h) (hne _ _)
     . rfl
 | dfr l x xs d c b => exact jeq h
 | rangeF x ps y z =>
   simp only [evG] at h ⊢;split at h
   . split at h
     . rename_i e; obtain ⟨n, hn⟩ := cfw_iff.1 e; exact ⟨n, by rw [hn]; exact h⟩
     . cases h
   . cases h
 | _ => exact ⟨0, h⟩
theorem K9 {α : Type} {a b : Option α} (h : ∀ r, a = some r ↔ b = some r) : a = b := by
 cases a with
 | none => cases b with
   | none => rfl
   | some y => exact ((h y).2 rfl)
 | some x => exact ((h x).1 rfl).symm
theorem zQ (F : IProg) (c : ICode) (s : St) : evw F c s = evG (evw F) (cfw F) c s := by
 refine K9 fun r => ?_
 constructor
 . intro h;obtain ⟨n, hn⟩ := evw_iff.1 h
   cases n with
   | zero => simp [eval] at hn
   | succ n => rw [Zo] at hn; exact jl0 (jeD n) (jlQ n) hn
 . intro h;obtain ⟨n, hn⟩ := jgW h;exact evw_iff.2 ⟨n + 1, by rw [Zo]; exact hn⟩
theorem jlP (F : IProg) (f : FuncId) (args : List IVal) (σ : List IObj) : cfw F (.f f) args σ = match F f with
   | some fn => vW (evw F) fn args σ
   | none => none := by
 refine K9 fun r => ?_;rw [cfw_iff]
 constructor
 . rintro ⟨n, hn⟩;simp only [cfOf] at hn;split at hn
   . rename_i e; rw [e]; exact Yi (jeD n) hn
   . cases hn
 . intro h;split at h
   . rename_i e;obtain ⟨n, hn⟩ := jcG h;exact ⟨n, by simp only [cfOf, e]; exact hn⟩
   . cases h
theorem jnd (F : IProg) (id : Nat) (args : List IVal) (σ : List IObj) : cfw F (.y id) args σ = yi (evw F) id args σ := by
 refine K9 fun r => ?_;rw [cfw_iff]
 constructor
 . rintro ⟨n, hn⟩; exact ZZ (jeD n) hn
 . intro h; obtain ⟨n, hn⟩ := jbj h; exact ⟨n, hn⟩
end Go.Idl
namespace Go.Idl
abbrev AL := List (Nat × IVal)
def Kn (k : Nat) : AL -> Option IVal
 | [] => none
 | (j, v) :: l => if j = k then some v else Kn k l
def Zc (k : Nat) (v : IVal) : AL -> AL
 | [] => [(k, v)]
 | (j, w) :: l => if j = k then (k, v) :: l else if k < j then (k, v) :: (j, w) :: l else (j, w) :: Zc k v l
def Xm (ks : List Nat) : AL -> AL
 | [] => []
 | (j, v) :: l => if ks.contains j then (j, v) :: Xm ks l else Xm ks l
def aun : AL -> AL
 | [] => []
 | (j, v) :: l => (j, un3 v) :: aun l
def Yd (k : Nat) : List IVal -> AL -> AL
 | [], vs => vs
 | w :: ws, vs => Yd (k + 1) ws (Zc k w vs)
structure XS where
 vs : AL
 st : List IVal
 ds : List Nat
 σ : List IObj
 wr : List (Nat × Bool)
def plI : IVal -> Bool
 | .int _ _ => true
 | .bool _ => true
 | .ptr _ _ => true
 | .map _ => true
 | .str _ => true
 | .prim _ => true
 | .rs _ _ _ _ => true
 | .pv _ _ _ => true
 | .yl _ => true
 | .fn _ _ _ => true
 | .iface _ _ => true
 | _ => false
def XOpd.get (x : XOpd) (vs : AL) (st : List IVal) : Option (IVal × AL) :=
 match x with
 | .v i => match Kn i vs with
   | some w => some (un3 w, vs)
   | none => none
 | .m i => match Kn i vs with
   | some w => some (w, Zc i (un3 w) vs)
   | none => none
 | .s d => match st[d]? with
   | some w => some (w, vs)
   | none => none
 | .u d => match st[d]? with
   | some w => some (un3 w, vs)
   | none => none
 | .n d => match st[d]? with
   | some w => if plI w then some (w, vs) else none
   | none => none
 | .c w => some (w, vs)
def jO : List XOpd -> AL -> List IVal -> Option (List IVal × AL)
 | [], vs, _ => some ([], vs)
 | x :: xs, vs, st => match x.get vs st with
   | some (v, vs1) => match jO xs vs1 st with
     | some (ws, vs2) => some (v :: ws, vs2)
     | none => none
   | none => none
structure XRes where
 pan : Bool
 v : IVal
 s : XS
def ts0 : Ts := ⟨0, 1, .leaf, []⟩
def opV (cf : jo) (op : IOp) (vals : List IVal) (σ : List IObj) (wr : List (Nat × Bool)) : Option Res := ja cf (op.with vals) ⟨ts0, σ, wr⟩
def xop (cf : jo) (o : XOper) (s : XS) : Option XRes :=
 match o.op with
 | .extract _ i => match o.xs with
   | [x] => match x.get s.vs s.st with
     | some (.tup us, vs) => match us[i]? with
       | some v => match x with
         | .m j => some ⟨false, v, { s with vs := Zc j (.tup (us.set i (un2 v))) vs }⟩
         | .s d => some ⟨false, v, { s with vs := vs, st := s.st.set d (.tup (us.set i (un2 v))) }⟩
         | _ => some ⟨false, v, { s with vs := vs }⟩
       | none => none
     | _ => none
   | _ => none
 | op => match jO o.xs s.vs s.st with
   | some (vals, vs) => match opV cf op vals s.σ s.wr with
     | some r => some ⟨r.pan, r.v, { s with vs := vs, σ := r.s.σ, wr := r.s.wr }⟩
     | none => none
   | none => none
def jav (o : XOper) (v : IVal) (s : XS) : XS :=
 match o.dst with
 | .push => { s with st := v :: s.st.drop o.pop }
 | .var i => { s with vs := Zc i v s.vs, st := s.st.drop o.pop }
 | .drop => { s with st := s.st.drop o.pop }
def Xh (g : Option (XOpd × Bool)) (vs : AL) (st : List IVal) : Option Bool :=
 match g with
 | none => some true
 | some (x, b) => match x.get vs st with
   | some (.bool b', _) => some (b' == b)
   | some _ => some false
   | none => none
def X9 (cf : jo) : List XOper -> XS -> Option (IExit × XS)
 | [], s => some (.normal, s)
 | o :: os, s => match Xh o.g s.vs s.st with
   | some true => match xop cf o s with
     | some ⟨false, v, s'⟩ => X9 cf os (jav o v s')
     | some ⟨true, v, s'⟩ => some (.panic v, s')
     | none => none
   | some false => X9 cf os (jav o ju s)
   | none => none
def YB (op : IOp) (vals : List IVal) : Bool :=
 match op, vals with
 | .append true _ _ _ _ _, _ => true
 | .append false _ _ _ _ _, [_, .rs _ _ _ _] => false
 | .conv _ _, [.rs _ _ _ _] => false
 | _, _ => true
def rdV (op : IOp) (vals : List IVal) : Option Nat :=
 match op, vals with
 | .load _ _ _, [.ptr id _] => some id
 | .lookup _ _ _ _ _, [.map id, _] => some id
 | .lenM _, [.map id] => some id
 | .store _ _ _, [.ptr id _, _] => some id
 | _, _ => none
def kL (cf : jo) (o : XOper) (s : XS) : Option (Option IVal × XS × DLog) :=
 match Xh o.g s.vs s.st with
 | some true => match jO o.xs s.vs s.st with
   | some (vals, _) =>
     if YB o.op vals then match xop cf o { s with wr := [] } with
       | some ⟨false, v, s'⟩ => some (none, { jav o v s' with wr := s'.wr ++ s.wr }, ⟨rdV o.op vals, s'.wr, if jz o.op then 0 else s.σ.length⟩)
       | some ⟨true, v, s'⟩ => some (some v, { s' with wr := s'.wr ++ s.wr }, ⟨rdV o.op vals, s'.wr, if jz o.op then 0 else s.σ.length⟩)
       | none => none
     else none
   | none => none
 | some false => some (none, jav o ju s, ⟨none, [], if jz o.op then 0 else s.σ.length⟩)
 | none => none
def jJ (cf : jo) : List (Nat × XOper) -> XS -> Option (Option (IVal × List (Nat × Bool)) × XS × List (Nat × DLog))
 | [], s => some (none, s, [])
 | o :: os, s => match kL cf o.2 s with
   | some (none, s1, l) => match jJ cf os s1 with
     | some (q, s2, ls) => some (q, s2, (o.1, l) :: ls)
     | none => none
   | some (some v, s1, l) => some (some (v, l.wr), s1, [])
   | none => none
def J6 (l : List (Nat × XOper)) : List Nat := l.flatMap fun p => (match p.2.dst with | .var i => [i] | _ => []) ++ p.2.xs.flatMap fun x => match x with | .m i => [i] | _ => []
def jdT (ks : List Nat) : AL -> AL
 | [] => []
 | (j, v) :: l => if ks.contains j then jdT ks l else (j, v) :: jdT ks l
def jiG (keep : Bool) (l : List (Nat × XOper)) (q : Option (IVal × List (Nat × Bool))) (s : XS) : Option (IExit × XS) :=
 match q with
 | none => some (.normal, if keep then s else { s with st := [] })
 | some (v, _) => some (.panic v, { s with vs := jdT (J6 l) s.vs, st := [] })
def jgy (rs : List RV) (vs : AL) (σ : List IObj) (wr : List (Nat × Bool)) : Option (List IVal × List IObj × List (Nat × Bool)) :=
 match rs with
 | [] => some ([], σ, wr)
 | .t i :: rs => match Kn i vs with
   | some v => match jgy rs (Zc i (un3 v) vs) σ wr with
     | some (ws, σ', wr') => some (v :: ws, σ', wr')
     | none => none
   | none => none
 | .cell i n :: rs => match Kn i vs with
   | some (.ptr id off) => match jt σ id with
     | some cs => match kx n cs off with
       | some v => match jgy rs vs (σ.set id (.cells (ji cs off (un2 v).cells))) ((id, false) :: wr) with
         | some (ws, σ', wr') => some (v :: ws, σ', wr')
         | none => none
       | none => none
     | none => none
   | _ => none
def jlA (n₀ : Nat) (res : List RV) (s : XS) : Option Out :=
 match shut s.σ s.ds with
 | some σ => match jgy res s.vs σ ((s.ds.map fun id => (id, false)) ++ s.wr) with
   | some (ws, σ', wr') => if ws.all nt then some (jC n₀ false (jdE ws) ⟨ts0, σ', wr'⟩) else none
   | none => none
 | none => none
structure XFunc where
 nv : Nat
 body : XCode
 res : List RV
abbrev XProg := FuncId -> Option XFunc
abbrev XEv := XCode -> XS -> Option (IExit × XS)
def jcx : XCode -> Option LibP
 | .lib p => some p
 | _ => none
def zz (ev : XEv) (fn : XFunc) (args : List IVal) (σ : List IObj) : Option Out :=
 match jcx fn.body with
 | some p => match p (obCs σ) (obMs σ) args with
   | some v => some ⟨false, v, σ, []⟩
   | none => none
 | none =>
 if args.length <= fn.nv then
   match ev fn.body ⟨Yd 0 args [], [], [], σ, []⟩ with
   | some (.normal, s) => jlA σ.length fn.res s
   | some (.ret, s) => jlA σ.length fn.res s
   | some (.panic v, s) => match s.ds with
     | [] => some (jC σ.length true v ⟨ts0, s.σ, s.wr⟩)
     | _ => none
   | _ => none
 else none
def Xd : AL -> List Nat -> List IVal -> Option AL
 | vs, [], [] => some vs
 | vs, p :: ps, v :: ws => Xd (Zc p v vs) ps ws
 | _, _, _ => none
def vT (ev : XEv) (id : Nat) (args : List IVal) (σ : List IObj) : Option Out :=
 match σ[id]? with
 | some (.loop l) => match l.st, Xd l.x.vs l.ps args with
   | 0, some vs => match ev l.x.a ⟨vs, [], [], σ, []⟩ with
     | some (.normal, s) => match s.σ[id]? with
       | some (.loop l1) => match l1.st with
         | 0 => match ev l.x.b { s with st := [], σ := s.σ.set id (.loop { l1 with st := 1 }), wr := (id, false) :: s.wr } with
           | some (x, s2) => match s2.σ[id]? with
             | some (.loop l2) => match x with
               | .normal => some (jC σ.length false (.bool true) ⟨ts0, s2.σ.set id (.loop { l2 with st := 0, pend := none }), (id, false) :: s2.wr⟩)
               | x => if zX x then some (jC σ.length false (.bool false) ⟨ts0, s2.σ.set id (.loop { l2 with st := 2, pend := some x }), (id, false) :: s2.wr⟩) else none
             | _ => none
           | none => none
         | _ => none
       | _ => none
     | _ => none
   | _, _ => none
 | _ => none
def jmF : Option IVal -> IVal
 | some v => un3 v
 | none => jkw
def jlz (slot : Option Nat) (args : List IVal) (m : Option IVal) : AL := match slot with
 | some t => Zc t (jmF m) (Yd 0 args [])
 | none => Yd 0 args []
def jil (slot : Option Nat) (m : Option IVal) : Option IVal := match slot with
 | some _ => none
 | none => m
def jf5 (slot : Option Nat) (nv : Nat) : Bool := match slot with
 | some t => Nat.blt t nv
 | none => true
def yW (ev : XEv) (nv : Nat) (slot : Option Nat) (c : XCode) (args : List IVal) (x : IExit) (s : XS) : Option (IExit × XS) :=
 match yz x, shut s.σ s.ds with
 | some m, some σ => if args.length <= nv /\ jf5 slot nv = true then
     match ev c ⟨jlz slot args m, [], [], σ, []⟩ with
     | some (y, s') => match y with
       | .panic _ => none
       | y => match yz y, s'.ds with
         | some _, [] => some (jcV (jil slot m), { s with st := [], ds := [], σ := s'.σ, wr := s'.wr ++ ((s.ds.map fun id => (id, false)) ++ s.wr) })
         | _, _ => none
     | none => none
   else none
 | _, _ => none
def jdO (ev : XEv) (cf : jo) (l : List XOper) (x : XOpd) (xs : List XOpd) (g nv : Nat) (slot : Option Nat) (c b : XCode) (s : XS) : Option (IExit × XS) :=
 match X9 cf l s with
 | some (.normal, s1) => match jO (x :: xs) s1.vs s1.st with
   | some (.fn (.func g') us ws :: vals, vs) => if g' = g /\ vals.all nt = true /\ s1.ds = [] then
       match ev b { s1 with vs := vs, st := [] } with
       | some (y, s2) => yW ev nv slot c (us ++ vals.map un2 ++ ws) y s2
       | none => none
     else none
   | _ => none
 | _ => none
def jL (ev : XEv) (cf : jo) (c : XCode) (s : XS) : Option (IExit × XS) :=
 match c with
 | .stuck => none
 | .skip => some (.normal, s)
 | .exit id => some (.exit id, s)
 | .ret => some (.ret, s)
 | .ops keep l => match X9 cf l s with
   | some (x, s') => some (x, if keep then s' else { s' with st := [] })
   | none => none
 | .draw keep l pairs => match jJ cf l s with
   | some (q, s', log) => if vw pairs log then jiG keep l q s' else none
   | none => none
 | .seq a b => match ev a s with
   | some (.normal, s') => ev b s'
   | r => r
 | .cond x a b => match x.get s.vs s.st with
   | some (.bool true, _) => ev a { s with st := [] }
   | some (.bool false, _) => ev b { s with st := [] }
   | _ => none
 | .block id b => match ev b s with
   | some (.exit i, s') => if i = id then some (.normal, s') else some (.exit i, s')
   | r => r
 | .loop ks b => match ev b { s with vs := if ks.isEmpty then s.vs else Xm ks s.vs, st := [] } with
   | some (.normal, s') => ev (.loop ks b) s'
   | r => r
 | .scope b => match ev b s with
   | some (.goto _, _) => none
   | r => r
 | .rangeF x ps a b => match x.get s.vs s.st with
   | some (.fn (.func g) us ws, _) =>
     let k := s.σ.length
     match cf (.f g) (us ++ [.yl (k + 1)] ++ ws) (s.σ ++ [.defr, .loop ⟨0, ts0, ps, .skip, .skip, none, ⟨aun s.vs, a, b⟩⟩]) with
     | some ⟨false, _, σ', wr'⟩ => match σ'[k + 1]? with
       | some (.loop l) => if l.st = 1 then none else
         let s' : XS := { s with ds := k :: s.ds, σ := σ'.set (k + 1) .dead, wr := (k + 1, false) :: (wr' ++ s.wr) }
         match l.pend with
         | none => some (.normal, s')
         | some x => if zX x then some (x, s') else none
       | _ => none
     | _ => none
   | _ => none
 | .dfr l x xs g nv slot c b => jdO ev cf l x xs g nv slot c b s
 | .lib _ => none
def jjl (F : XProg) (ev : XEv) : jo := fun f args σ => match f with
 | .f f => match F f with
   | some fn => zz ev fn args σ
   | none => none
 | .y id => vT ev id args σ
def yV (F : XProg) : Nat -> XCode -> XS -> Option (IExit × XS)
 | 0, _, _ => none
 | n + 1, c, s => jL (yV F n) (jjl F (yV F n)) c s
def xcf (F : XProg) (n : Nat) : jo := jjl F (yV F n)
end Go.Idl
namespace Go.Idl
def ObX (L : ILoop -> ILoop -> Prop) (a b : IObj) : Prop :=
 match a, b with
 | .loop x, .loop y => L x y
 | .cells x, .cells y => x = y
 | .map x, .map y => x = y
 | .defr, .defr => True
 | .it s p, .it s' p' => s = s' /\ p = p'
 | .dead, .dead => True
 | _, _ => False
def SX (L : ILoop -> ILoop -> Prop) (σ τ : List IObj) : Prop := σ.length = τ.length /\ ∀ (i : Nat) a b, σ[i]? = some a -> τ[i]? = some b -> ObX L a b
variable {L : ILoop -> ILoop -> Prop} {σ τ : List IObj}
theorem SX.other (h : SX L σ τ) {i : Nat} {a : IObj} (ha : σ[i]? = some a) : ∃ b, τ[i]? = some b /\ ObX L a b := by
 have hi : i < τ.length := by
   rw [<- h.1]
   rcases Nat.lt_or_ge i σ.length with h1 | h1
   . exact h1
   . rw [List.getElem?_eq_none h1] at ha; cases ha
 exact ⟨τ[i], by simp [hi], h.2 i _ _ ha (by simp [hi])⟩
theorem SX.cells (h : SX L σ τ) {i : Nat} {cs : List IVal} (ha : σ[i]? = some (.cells cs)) : τ[i]? = some (.cells cs) := by
 obtain ⟨b, hb, hab⟩ := h.other ha;cases b <;> simp only [ObX] at hab
 . rw [hb, hab]
theorem SX.map (h : SX L σ τ) {i : Nat} {es : List (IVal × IVal)} (ha : σ[i]? = some (.map es)) : τ[i]? = some (.map es) := by
 obtain ⟨b, hb, hab⟩ := h.other ha;cases b <;> simp only [ObX] at hab
 . rw [hb, hab]
theorem SX.defr (h : SX L σ τ) {i : Nat} (ha : σ[i]? = some .defr) : τ[i]? = some .defr := by
 obtain ⟨b, hb, hab⟩ := h.other ha;cases b <;> simp only [ObX] at hab
 . exact hb
theorem SX.it (h : SX L σ τ) {i : Nat} {s : List UInt8} {p : Nat} (ha : σ[i]? = some (.it s p)) : τ[i]? = some (.it s p) := by
 obtain ⟨b, hb, hab⟩ := h.other ha;cases b <;> simp only [ObX] at hab
 . rw [hb, hab.1, hab.2]
theorem SX.loop (h : SX L σ τ) {i : Nat} {l : ILoop} (ha : σ[i]? = some (.loop l)) : ∃ l', τ[i]? = some (.loop l') /\ L l l' := by
 obtain ⟨b, hb, hab⟩ := h.other ha;cases b <;> simp only [ObX] at hab
 . exact ⟨_, hb, hab⟩
theorem SX.none (h : SX L σ τ) {i : Nat} (ha : σ[i]? = none) : τ[i]? = none := by
 rw [List.getElem?_eq_none_iff] at ha ⊢;rw [<- h.1]; exact ha
theorem SX.obCs (h : SX L σ τ) : obCs σ = obCs τ := by
 funext i
 unfold Go.Idl.obCs
 cases ha : σ[i]? with
 | none => rw [h.none ha]
 | some a =>
   obtain ⟨b, hb, hab⟩ := h.other ha;rw [hb];cases a <;> cases b <;> simp only [ObX] at hab <;> first | rfl | rw [hab]
theorem SX.obMs (h : SX L σ τ) : obMs σ = obMs τ := by
 funext i
 unfold Go.Idl.obMs
 cases ha : σ[i]? with
 | none => rw [h.none ha]
 | some a =>
   obtain ⟨b, hb, hab⟩ := h.other ha;rw [hb];cases a <;> cases b <;> simp only [ObX] at hab <;> first | rfl | rw [hab]
theorem SX.load (h : SX L σ τ) {i : Nat} {cs : List IVal} (ha : jt σ i = some cs) : jt τ i = some cs := by
 unfold jt at ha ⊢;split at ha
 . rename_i e; rw [h.cells e]; exact ha
 . cases ha
theorem SX.elems (h : SX L σ τ) {str : Bool} {e : Nat} {x : IVal} {ys : List IVal} (ha : qr str e x σ = some ys) : qr str e x τ = some ys := by
 unfold qr at ha ⊢;split at ha
 . exact ha
 . exact ha
 . split at ha
   . rename_i h1;simp only [h1, and_self, if_true];split at ha
     . rename_i cs hc; rw [h.load hc]; exact ha
     . cases ha
   . cases ha
 . cases ha
theorem SX.set (h : SX L σ τ) {i : Nat} {a b : IObj} (hab : ObX L a b) : SX L (σ.set i a) (τ.set i b) := by
 refine ⟨by simp [h.1], fun j x y hx hy => ?_⟩;rw [List.getElem?_set] at hx hy
 by_cases e : i = j
 . subst e;rw [if_pos rfl] at hx hy;split at hx
   . rename_i h1;rw [if_pos (by rw [<- h.1]; exact h1)] at hy;cases hx; cases hy; exact hab
   . cases hx
 . rw [if_neg e] at hx hy;exact h.2 j x y hx hy
theorem SX.append (h : SX L σ τ) {a b : List IObj} (hab : SX L a b) : SX L (σ ++ a) (τ ++ b) := by
 refine ⟨by simp [h.1, hab.1], fun j x y hx hy => ?_⟩
 by_cases hj : j < σ.length
 . rw [zL hj] at hx;rw [zL (by rw [<- h.1]; exact hj)] at hy;exact h.2 j x y hx hy
 . rw [zR (by omega)] at hx;rw [zR (by rw [<- h.1]; omega), <- h.1] at hy;exact hab.2 _ x y hx hy
theorem SX.one {a b : IObj} (h : ObX L a b) : SX L [a] [b] := by
 refine ⟨rfl, fun i x y hx hy => ?_⟩
 cases i with
 | zero => cases hx; cases hy; exact h
 | succ i => cases hx
theorem SX.push (h : SX L σ τ) {a b : IObj} (hab : ObX L a b) : SX L (σ ++ [a]) (τ ++ [b]) := h.append (.one hab)
theorem SX.take (h : SX L σ τ) (n : Nat) : SX L (σ.take n) (τ.take n) := by
 refine ⟨by simp [h.1], fun j x y hx hy => ?_⟩;rw [List.getElem?_take] at hx hy;split at hx
 . rename_i h1; rw [if_pos h1] at hy; exact h.2 j x y hx hy
 . cases hx
theorem SX.nil : SX L [] [] := ⟨rfl, fun i x y hx => by cases hx⟩
def CfX (L : ILoop -> ILoop -> Prop) (cx ci : jo) : Prop := ∀ f args σ τ o, SX L σ τ -> cx f args σ = some o -> ∃ τ', ci f args τ = some { o with σ := τ' } /\ SX L o.σ τ'
theorem zh {cx ci : jo} (hcf : CfX L cx ci) (hS : SX L σ τ) {f : Cal} {vs : List IVal} {ts : Ts} {wr : List (Nat × Bool)} {r : Res} (h : stepCall cx f vs ts ⟨ts0, σ, wr⟩ = some r) :
   ∃ τ', stepCall ci f vs ts ⟨ts0, τ, wr⟩ = some { r with s := { r.s with σ := τ' } } /\ SX L r.s.σ τ' := by
 unfold stepCall at h ⊢;split at h
 . rename_i o ho;obtain ⟨τ', h1, h2⟩ := hcf _ _ _ _ _ hS ho;cases h;simp only [h1];exact ⟨τ', rfl, h2⟩
 . cases h
theorem jkl (hS : SX L σ τ) {k : MemK} {vs : List IVal} {v : IVal} {σ' : List IObj} {wr : List (Nat × Bool)} (h : y6 k vs σ = some (v, σ', wr)) : ∃ τ', y6 k vs τ = some (v, τ', wr) /\ SX L σ' τ' := by
 unfold y6 at h;split at h
 . split at h
   . rename_i e1;split at h
     . rename_i e2;split at h
       . rename_i e3;simp only [zO, zP] at h; obtain ⟨rfl, rfl, rfl⟩ := h;exact ⟨τ, by simp only [y6, hS.load e1, e2]; rw [if_pos e3], hS⟩
       . cases h
     . cases h
   . cases h
 . split at h
   . rename_i e1;split at h
     . rename_i e3;simp only [zO, zP] at h; obtain ⟨rfl, rfl, rfl⟩ := h;exact ⟨_, by simp only [y6, hS.load e1]; rw [if_pos e3], hS.set (show ObX L (.cells _) (.cells _) from rfl)⟩
     . cases h
   . cases h
 . split at h
   . rename_i e1;split at h
     . rename_i e2;split at h
       . rename_i e3;split at h
         . rename_i e4;simp only [zO, zP] at h; obtain ⟨rfl, rfl, rfl⟩ := h;exact ⟨_, by simp only [y6, hS.load e1, e2]; rw [if_pos e3, if_pos e4], hS.set (show ObX L (.cells _) (.cells _) from rfl)⟩
         . rename_i e4;simp only [zO, zP] at h; obtain ⟨rfl, rfl, rfl⟩ := h;exact ⟨τ, by simp only [y6, hS.load e1, e2]; rw [if_pos e3, if_neg e4], hS⟩
       . cases h
     . cases h
   . cases h
 . split at h
   . rename_i e1;split at h
     . rename_i e2;split at h
       . rename_i e3;simp only [zO, zP] at h; obtain ⟨rfl, rfl, rfl⟩ := h;exact ⟨_, by simp only [y6, hS.load e1, e2]; rw [if_pos e3], hS.set (show ObX L (.cells _) (.cells _) from rfl)⟩
       . cases h
     . cases h
   . cases h
 . split at h
   . rename_i e1;split at h
     . rename_i e3;simp only [zO, zP] at h; obtain ⟨rfl, rfl, rfl⟩ := h;exact ⟨τ, by simp only [y6, hS.load e1]; rw [if_pos e3], hS⟩
     . cases h
   . cases h
 . simp only [zO, zP] at h; obtain ⟨rfl, rfl, rfl⟩ := h;exact ⟨_, by simp only [y6, hS.1], hS.push (show ObX L (.it _ _) (.it _ _) from ⟨rfl, rfl⟩)⟩
 . split at h
   . rename_i e1;split at h
     . rename_i e2;split at h
       . rename_i e3;simp only [zO, zP] at h; obtain ⟨rfl, rfl, rfl⟩ := h;exact ⟨_, by simp only [y6, hS.it e1, e2]; rw [if_pos e3], hS.set (show ObX L (.it _ _) (.it _ _) from ⟨rfl, rfl⟩)⟩
       . cases h
     . rename_i e2;simp only [zO, zP] at h; obtain ⟨rfl, rfl, rfl⟩ := h;exact ⟨τ, by simp only [y6, hS.it e1, e2], hS⟩
   . cases h
 . split at h
   . rename_i e1;simp only [zO, zP] at h; obtain ⟨rfl, rfl, rfl⟩ := h;exact ⟨_, by simp only [y6, hS.map e1, hS.1], hS.push (show ObX L (.map _) (.map _) from rfl)⟩
   . cases h
 . split at h
   . rename_i e1;simp only [zO, zP] at h; obtain ⟨rfl, rfl, rfl⟩ := h;exact ⟨_, by simp only [y6, hS.1]; rw [if_pos e1], hS.push (show ObX L (.cells _) (.cells _) from rfl)⟩
   . cases h
 . cases h
theorem jf7 {cx ci : jo} (hcf : CfX L cx ci) (hS : SX L σ τ) {o : IOp} {ts : Ts} {wr : List (Nat × Bool)} {r : Res} (h : ja cx o ⟨ts, σ, wr⟩ = some r) :
   ∃ τ', ja ci o ⟨ts, τ, wr⟩ = some { r with s := { r.s with σ := τ' } } /\ SX L r.s.σ τ' := by
 cases o
 case alloc zs =>
   simp only [ja, zO] at h ⊢;subst h;exact ⟨_, by rw [hS.1], hS.push (show ObX L (.cells zs) (.cells zs) from rfl)⟩
 case mkMap =>
   simp only [ja, zO] at h ⊢;subst h;exact ⟨_, by rw [hS.1], hS.push (show ObX L (.map []) (.map []) from rfl)⟩
 case mem k xs =>
   simp only [ja] at h ⊢;split at h
   . split at h
     . rename_i hm;simp only [zO] at h; subst h;obtain ⟨τ', h1, h2⟩ := jkl hS hm;exact ⟨τ', by simp only [h1], h2⟩
     . cases h
   . cases h
 case box x =>
   simp only [ja] at h ⊢;split at h
   . rename_i v t hx;split at h
     . rename_i hc;simp only [zO] at h;subst h;refine ⟨_, ?_, hS.push (show ObX L (.cells v.cells) (.cells v.cells) from rfl)⟩;rw [if_pos hc, hS.1]
     . cases h
   . cases h
 case buildRs esz xs =>
   simp only [ja] at h ⊢;split at h
   . rename_i vs t hx;split at h
     . rename_i hc;simp only [zO] at h;subst h;refine ⟨_, ?_, hS.push (show ObX L (.cells _) (.cells _) from rfl)⟩;rw [if_pos hc, hS.1]
     . cases h
   . cases h
 case mkSl byref esz bytes zs len cap =>
   simp only [ja] at h ⊢;split at h
   . split at h
     . split at h
       . rename_i hc;rw [if_pos hc];split at h
         . rename_i hb;simp only [zO] at h;subst h;refine ⟨_, ?_, hS.push (show ObX L (.cells _) (.cells _) from rfl)⟩;rw [if_pos hb, hS.1]
         . rename_i hb;rw [if_neg hb];split at h
           . rename_i hl; rw [if_pos hl]; simp only [rv, zO] at h; subst h; exact ⟨τ, rfl, hS⟩
           . cases h
       . cases h
     . cases h
   . cases h
 case load mvf n x =>
   simp only [ja] at h ⊢;split at h
   . split at h
     . simp only [rv, zO] at h; subst h; rename_i hv; exact ⟨τ, by simp only [hv, rv], hS⟩
     . cases h
   . split at h
     . rename_i cs hl;rw [hS.load hl];split at h
       . rename_i hv;simp only [hv];split at h
         . rename_i hm;rw [if_pos hm];simp only [zO] at h; subst h;exact ⟨_, rfl, hS.set (show ObX L (.cells _) (.cells _) from rfl)⟩
         . rename_i hm;rw [if_neg hm];simp only [rv, zO] at h; subst h;exact ⟨τ, rfl, hS⟩
       . cases h
     . cases h
   . cases h
 case store n x v =>
   simp only [ja] at h ⊢;split at h
   . split at h
     . split at h
       . rename_i hl;simp only [hS.load hl];split at h
         . rename_i hc;rw [if_pos hc];simp only [zO] at h; subst h;exact ⟨_, rfl, hS.set (show ObX L (.cells _) (.cells _) from rfl)⟩
         . cases h
       . cases h
     . cases h
   . cases h
 case vSet G tab x y =>
   simp only [ja] at h ⊢;split at h
   . split at h
     . split at h
       . split at h
         . rename_i hc;rw [if_pos hc];split at h
           . rename_i hl;simp only [hS.load hl];split at h
             . rename_i hc2;rw [if_pos hc2];simp only [zO] at h; subst h;exact ⟨_, rfl, hS.set (show ObX L (.cells _) (.cells _) from rfl)⟩
             . cases h
           . cases h
         . cases h
       . cases h
     . cases h
   . cases h
 case lookup kk z ok x k =>
   simp only [ja] at h ⊢;split at h
   . split at h
     . split at h
       . rename_i hm;simp only [hS.map hm];split at h
         . rename_i hk;rw [if_pos hk];split at h
           . simp only [rv, zO] at h; subst h; rename_i hf; exact ⟨τ, by simp only [hf, rv], hS⟩
           . simp only [rv, zO] at h; subst h; rename_i hf; exact ⟨τ, by simp only [hf, rv], hS⟩
           . cases h
         . cases h
       . cases h
     . cases h
   . cases h
 case mapSet kk m k v =>
   simp only [ja] at h ⊢;split at h
   . split at h
     . split at h
       . split at h
         . rename_i hm;simp only [hS.map hm];split at h
           . rename_i hk;rw [if_pos hk];split at h
             . rename_i hf;simp only [zO] at h; subst h;exact ⟨_, by simp only [hf], hS.set (show ObX L (.map _) (.map _) from rfl)⟩
             . cases h
           . cases h
         . cases h
       . cases h
     . cases h
   . cases h
 case lenM x =>
   simp only [ja] at h ⊢;split at h
   . split at h
     . rename_i hm;simp only [rv, zO] at h; subst h;exact ⟨τ, by simp only [hS.map hm, rv], hS⟩
     . cases h
   . cases h
 case append byref str esz bytes sv x =>
   simp only [ja] at h ⊢;split at h
   . split at h
     . split at h
       . rename_i he;simp only [hS.elems he];split at h
         . split at h
           . rename_i hc;rw [if_pos hc];split at h
             . rename_i hb;rw [if_pos hb];split at h
               . rename_i hx0;rw [if_pos hx0];split at h
                 . rename_i hy0;rw [if_pos hy0];simp only [rv, zO] at h; subst h;exact ⟨τ, rfl, hS⟩
                 . rename_i hy0;rw [if_neg hy0];simp only [zO] at h; subst h;exact ⟨_, by rw [hS.1], hS.push (show ObX L (.cells _) (.cells _) from rfl)⟩
               . cases h
             . rename_i hb;rw [if_neg hb];simp only [rv, zO] at h; subst h;exact ⟨τ, rfl, hS⟩
           . cases h
         . split at h
           . rename_i hc;rw [if_pos hc];split at h
             . rename_i hl;simp only [hS.load hl];split at h
               . rename_i hle;rw [if_pos hle];simp only [zO] at h; subst h;exact ⟨_, by rw [hS.1], (hS.set (a := .dead) (b := .dead) trivial).push (show ObX L (.cells _) (.cells _) from rfl)⟩
               . cases h
             . cases h
           . cases h
         . cases h
       . cases h
     . cases h
   . cases h
 case copy str esz d x =>
   simp only [ja] at h ⊢;split at h
   . split at h
     . split at h
       . rename_i he hl;simp only [hS.elems he, hS.load hl];split at h
         . rename_i hc;rw [if_pos hc];simp only [zO] at h; subst h;exact ⟨_, rfl, hS.set (show ObX L (.cells _) (.cells _) from rfl)⟩
         . cases h
       . cases h
     . cases h
   . cases h
 case clear zs x =>
   simp only [ja] at h ⊢;split at h
   . split at h
     . rename_i hl;simp only [hS.load hl];split at h
       . rename_i hc;rw [if_pos hc];simp only [zO] at h; subst h;exact ⟨_, rfl, hS.set (show ObX L (.cells _) (.cells _) from rfl)⟩
       . cases h
     . cases h
   . simp only [rv, zO] at h; subst h; exact ⟨τ, rfl, hS⟩
   . cases h
 case call f xs =>
   simp only [ja] at h ⊢;split at h
   . exact zh hcf hS h
   . cases h
 case callp f xs =>
   simp only [ja] at h ⊢;split at h
   . split at h
     . rename_i hn;rw [if_pos hn];split at h
       . rename_i ho;obtain ⟨τ', h1, h2⟩ := hcf _ _ _ _ _ .nil ho;split at h
         . rename_i h3;simp only [rv, zO] at h; subst h;refine ⟨τ, ?_, hS⟩;simp only [h1, rv];rw [if_pos h3]
         . cases h
       . cases h
     . cases h
   . cases h
 case callv f xs =>
   simp only [ja] at h ⊢;split at h
   . split at h
     . exact zh hcf hS h
     . cases h
   . split at h
     . exact zh hcf hS h
     . cases h
   . cases h
 case inv tab x xs =>
   simp only [ja] at h ⊢;split at h
   . split at h
     . split at h
       . split at h
         . exact zh hcf hS h
         . cases h
       . cases h
     . cases h
   . cases h
 case minmax mx xs =>
   simp only [ja] at h ⊢;split at h
   . rename_i e;split at h
     . rename_i hk;simp only [rv, zO] at h; subst h;refine ⟨τ, ?_, hS⟩;simp only [e];rw [if_pos hk]; rfl
     . cases h
   . cases h
 all_goals
   simp only [ja, rv] at h ⊢
   repeat' split at h
   all_goals first | (cases h; done) | (simp only [zO] at h; subst h; exact ⟨τ, by simp_all, hS⟩)
end Go.Idl
namespace Go.Idl
def slt (nv m j : Nat) : Nat := if j < nv then j else nv + (j - nv) % m
theorem Tm.has_set (x : Option (Nat × IVal)) : ∀ (t : Tm) (k i : Nat), (t.set x k).has i = t.has i := by
 intro t
 induction t with
 | leaf => intro k i; rfl
 | node l c r ihl ihr =>
   intro k i;simp only [Tm.set, cond_eq_ite];split
   . simp only [Tm.has]
   . split
     . simp only [Tm.has, ihl]
     . simp only [Tm.has, ihr]
theorem Tm.has_empty : ∀ (d k : Nat), k + 1 < 2 ^ d -> (Tm.empty d).has k = true := by
 intro d
 induction d with
 | zero => intro k h; simp at h
 | succ d ih =>
   intro k h;rw [Nat.pow_succ] at h;simp only [Tm.empty, Tm.has, cond_eq_ite, Nat.beq_eq];split
   . rfl
   . split
     . exact ih _ (by omega)
     . exact ih _ (by omega)
theorem Tm.un_has : ∀ (t : Tm) (k : Nat), t.un.has k = t.has k := by
 intro t
 induction t with
 | leaf => intro k; rfl
 | node l c r ihl ihr => intro k; simp only [Tm.un, Tm.has, ihl, ihr]
theorem Tm.un_get : ∀ (t : Tm) (k : Nat), t.un.get k = match t.get k with | some (i, v) => some (i, un3 v) | none => none := by
 intro t
 induction t with
 | leaf => intro k; rfl
 | node l c r ihl ihr =>
   intro k;simp only [Tm.un, Tm.get, cond_eq_ite, ihl, ihr];split
   . rfl
   . split <;> rfl
theorem jbC (ts : Ts) (j : Nat) : ts.slot j = slt ts.nv ts.m j := by
 unfold Ts.slot slt;simp only [cond_eq_ite];have : (Nat.blt j ts.nv = true) ↔ j < ts.nv := by simp [Nat.blt, Nat.ble_eq, Nat.succ_le_iff]
 simp only [this]
theorem jmN {nv m : Nat} (hm : 0 < m) (j : Nat) : slt nv m j < nv + m := by
 unfold slt;split
 . omega
 . have := Nat.mod_lt (j - nv) hm; omega
theorem jeM {ts : Ts} {j : Nat} {v : IVal} (h : ts.t.has (ts.slot j) = true) : (ts.set j v).get? j = some v := by
 have e : (ts.set j v).slot j = ts.slot j := rfl;unfold Ts.get?;rw [e];show (match (ts.t.set (some (j, v)) (ts.slot j)).get (ts.slot j) with | some (i, v) => bif Nat.beq i j then some v else none | none => none) = _;letI : Globs := ⟨fun _ => none⟩;rw [Tm.get_set, h];simp
theorem qe {ts : Ts} {i j : Nat} {v : IVal} (h : ts.slot i ≠ ts.slot j) : (ts.set j v).get? i = ts.get? i := by
 have e : (ts.set j v).slot i = ts.slot i := rfl;unfold Ts.get?;rw [e];show (match (ts.t.set (some (j, v)) (ts.slot j)).get (ts.slot i) with | some (i', v) => bif Nat.beq i' i then some v else none | none => none) = _;letI : Globs := ⟨fun _ => none⟩;rw [Tm.get_ne _ _ _ _ (fun e => h e.symm)];rfl
theorem Ko (k : Nat) (v : IVal) : ∀ (l : AL) (i : Nat), Kn i (Zc k v l) = if i = k then some v else Kn i l := by
 intro l
 induction l with
 | nil =>
   intro i;simp only [Zc, Kn];split
   . rename_i h; rw [if_pos h.symm]
   . rename_i h; rw [if_neg (fun e => h e.symm)]
 | cons p l ih =>
   obtain ⟨j, w⟩ := p;intro i;simp only [Zc];split
   . rename_i h; subst h;simp only [Kn]
     by_cases e : j = i
     . rw [if_pos e, if_pos e.symm]
     . rw [if_neg e, if_neg (fun h => e h.symm), if_neg e]
   . rename_i h;split
     . rename_i h2;simp only [Kn]
       by_cases e : k = i
       . rw [if_pos e, if_pos e.symm]
       . rw [if_neg e, if_neg (show ¬ i = k from fun h => e h.symm)]
     . simp only [Kn, ih]
       by_cases e : j = i
       . rw [if_pos e, if_pos e]; subst e; rw [if_neg h]
       . rw [if_neg e, if_neg e]
theorem jcC {ks : List Nat} {l : AL} {i : Nat} {v : IVal} (h : Kn i (Xm ks l) = some v) : Kn i l = some v := by
 induction l with
 | nil => cases h
 | cons p l ih =>
   obtain ⟨j, w⟩ := p;simp only [Xm] at h;split at h
   . simp only [Kn] at h ⊢;split at h
     . rename_i e; rw [if_pos e]; exact h
     . rename_i e; rw [if_neg e]; exact ih h
   . rename_i hc;simp only [Kn];split
     . rename_i e;subst e
       -- what is not kept is not found
       exfalso
       have : ∀ l : AL, Kn j (Xm ks l) ≠ some v := by
         intro l
         induction l with
         | nil => intro h; cases h
         | cons q l ih =>
           obtain ⟨j', w'⟩ := q;simp only [Xm];split
           . rename_i hc2;simp only [Kn];split
             . rename_i e; subst e; exact absurd hc2 hc
             . exact ih
           . exact ih
       exact this l h
     . exact ih h
theorem jbO (l : AL) (i : Nat) : Kn i (aun l) = (Kn i l).map un3 := by
 induction l with
 | nil => rfl
 | cons p l ih =>
   obtain ⟨j, w⟩ := p;simp only [aun, Kn];split
   . rfl
   . exact ih
abbrev NS := List (Option Nat)
structure VR (nv m : Nat) (vs : AL) (ns : NS) (st : List IVal) (ts : Ts) : Prop where
 pos : 0 < m
 hnv : ts.nv = nv
 hm : ts.m = m
 has : ∀ k, k < nv + m -> ts.t.has k = true
 var : ∀ i v, Kn i vs = some v -> i < nv /\ ts.get? i = some v
 stk : ∀ (d j : Nat), ns[d]? = some (some j) -> nv <= j /\ ∀ v, st[d]? = some v -> ts.get? j = some v
 nd : ∀ (d d' j j' : Nat), ns[d]? = some (some j) -> ns[d']? = some (some j') -> d ≠ d' -> slt nv m j ≠ slt nv m j'
variable {nv m : Nat} {vs : AL} {ns : NS} {st : List IVal} {ts : Ts}
theorem VR.slot (R : VR nv m vs ns st ts) (j : Nat) : ts.slot j = slt nv m j := by rw [jbC, R.hnv, R.hm]
theorem VR.self (R : VR nv m vs ns st ts) (j : Nat) (v : IVal) : (ts.set j v).get? j = some v := jeM (R.has _ (by rw [R.slot]; exact jmN R.pos j))
theorem Qg {nv m i : Nat} (h : i < nv) : slt nv m i = i := if_pos h
theorem YP {nv m j : Nat} (h : nv <= j) : nv <= slt nv m j := by unfold slt; rw [if_neg (by omega)]; omega
theorem VR.setV (R : VR nv m vs ns st ts) {i : Nat} (hi : i < nv) (v : IVal) : VR nv m (Zc i v vs) ns st (ts.set i v) := by
 refine ⟨R.pos, R.hnv, R.hm, fun k hk => by show (ts.t.set _ _).has k = true; rw [Tm.has_set]; exact R.has k hk, fun k w hk => ?_, fun d j hd => ?_, R.nd⟩
 . rw [Ko] at hk;split at hk
   . rename_i e; subst e; cases hk; exact ⟨hi, R.self _ _⟩
   . rename_i e;obtain ⟨h1, h2⟩ := R.var k w hk;refine ⟨h1, ?_⟩;rw [qe (by rw [R.slot, R.slot, Qg h1, Qg hi]; exact e)]; exact h2
 . obtain ⟨h1, h2⟩ := R.stk d j hd;refine ⟨h1, fun w hw => ?_⟩;rw [qe (by rw [R.slot, R.slot, Qg hi]; have := YP (m := m) h1; omega)];exact h2 w hw
theorem VR.push (R : VR nv m vs ns st ts) {j : Nat} (hj : nv <= j) (v : IVal) (hf : ∀ (d j' : Nat), ns[d]? = some (some j') -> slt nv m j' ≠ slt nv m j) : VR nv m vs (some j :: ns) (v :: st) (ts.set j v) := by
 refine ⟨R.pos, R.hnv, R.hm, fun k hk => by show (ts.t.set _ _).has k = true; rw [Tm.has_set]; exact R.has k hk, fun k w hk => ?_, fun d j' hd => ?_, fun d d' a b ha hb hne => ?_⟩
 . obtain ⟨h1, h2⟩ := R.var k w hk;refine ⟨h1, ?_⟩;rw [qe (by rw [R.slot, R.slot, Qg h1]; have := YP (m := m) hj; omega)]; exact h2
 . cases d with
   | zero =>
     simp at hd; subst hd;refine ⟨hj, fun w hw => ?_⟩;simp at hw; subst hw;exact R.self _ _
   | succ d =>
     simp at hd;obtain ⟨h1, h2⟩ := R.stk d j' hd;refine ⟨h1, fun w hw => ?_⟩;simp at hw;rw [qe (by rw [R.slot, R.slot]; exact hf d j' hd)];exact h2 w hw
 . cases d with
   | zero =>
     cases d' with
     | zero => exact absurd rfl hne
     | succ d' =>
       simp at ha hb; subst ha;exact fun e => hf d' b hb e.symm
   | succ d =>
     cases d' with
     | zero =>
       simp at ha hb; subst hb;exact hf d a ha
     | succ d' =>
       simp at ha hb;exact R.nd d d' a b ha hb (by omega)
theorem VR.setS (R : VR nv m vs ns st ts) {d j : Nat} (hd : ns[d]? = some (some j)) (v : IVal) : VR nv m vs ns (st.set d v) (ts.set j v) := by
 have hj := (R.stk d j hd).1;refine ⟨R.pos, R.hnv, R.hm, fun k hk => by show (ts.t.set _ _).has k = true; rw [Tm.has_set]; exact R.has k hk, fun k w hk => ?_, fun d' j' hd' => ?_, R.nd⟩
 . obtain ⟨h1, h2⟩ := R.var k w hk;refine ⟨h1, ?_⟩;rw [qe (by rw [R.slot, R.slot, Qg h1]; have := YP (m := m) hj; omega)]; exact h2
 . refine ⟨(R.stk d' j' hd').1, fun w hw => ?_⟩;rw [List.getElem?_set] at hw
   by_cases e : d = d'
   . subst e;rw [hd] at hd'; cases hd';rw [if_pos rfl] at hw;split at hw
     . cases hw; exact R.self _ _
     . cases hw
   . rw [if_neg e] at hw;rw [qe (by rw [R.slot, R.slot]; exact R.nd d' d j' j hd' hd (fun h => e h.symm))];exact (R.stk d' j' hd').2 w hw
def jem (j : Nat) (ns : NS) : NS := ns.map fun e => if e = some j then none else e
theorem Kr {j d k : Nat} {ns : NS} (h : (jem j ns)[d]? = some (some k)) : ns[d]? = some (some k) /\ k ≠ j := by
 simp only [jem, List.getElem?_map, Option.map_eq_some_iff] at h;obtain ⟨e, h1, h2⟩ := h;split at h2
 . cases h2
 . rename_i hne;subst h2;exact ⟨h1, fun e => hne (by rw [e])⟩
theorem VR.dead (R : VR nv m vs ns st ts) {d j : Nat} (hd : ns[d]? = some (some j)) (v : IVal) : VR nv m vs (jem j ns) st (ts.set j v) := by
 have hj := (R.stk d j hd).1;refine ⟨R.pos, R.hnv, R.hm, fun k hk => by show (ts.t.set _ _).has k = true; rw [Tm.has_set]; exact R.has k hk, fun k w hk => ?_, fun d' j' hd' => ?_, fun a b c e h1 h2 hne => R.nd a b c e (Kr h1).1 (Kr h2).1 hne⟩
 . obtain ⟨h1, h2⟩ := R.var k w hk;refine ⟨h1, ?_⟩;rw [qe (by rw [R.slot, R.slot, Qg h1]; have := YP (m := m) hj; omega)]; exact h2
 . obtain ⟨h1, h2⟩ := Kr hd';refine ⟨(R.stk d' j' h1).1, fun w hw => ?_⟩;have hdd : d' ≠ d := fun e => by subst e; rw [hd] at h1; cases h1; exact h2 rfl
   rw [qe (by rw [R.slot, R.slot]; exact R.nd d' d j' j h1 hd hdd)];exact (R.stk d' j' h1).2 w hw
theorem VR.drop (R : VR nv m vs ns st ts) (p : Nat) : VR nv m vs (ns.drop p) (st.drop p) ts := by
 refine ⟨R.pos, R.hnv, R.hm, R.has, R.var, fun d j hd => ?_, fun a b c e h1 h2 hne => ?_⟩
 . rw [List.getElem?_drop] at hd;obtain ⟨h1, h2⟩ := R.stk _ _ hd;exact ⟨h1, fun v hv => h2 v (by rw [List.getElem?_drop] at hv; exact hv)⟩
 . rw [List.getElem?_drop] at h1 h2;exact R.nd _ _ c e h1 h2 (by omega)
theorem VR.none (R : VR nv m vs ns st ts) (st' : List IVal) : VR nv m vs [] st' ts :=
 ⟨R.pos, R.hnv, R.hm, R.has, R.var, fun d j hd => by simp at hd, fun d d' j j' h => by simp at h⟩
theorem VR.keep (R : VR nv m vs ns st ts) (ks : List Nat) : VR nv m (Xm ks vs) ns st ts :=
 ⟨R.pos, R.hnv, R.hm, R.has, fun i v h => R.var i v (jcC h), R.stk, R.nd⟩
def lk (j : Nat) : NS -> Option Nat
 | [] => none
 | e :: ns => if e = some j then some 0 else (lk j ns).map (· + 1)
theorem jaW {j : Nat} : ∀ {ns : NS} {d : Nat}, lk j ns = some d -> ns[d]? = some (some j) := by
 intro ns
 induction ns with
 | nil => intro d h; cases h
 | cons e ns ih =>
   intro d h;simp only [lk] at h;split at h
   . rename_i he; cases h; rw [he]; rfl
   . rw [Option.map_eq_some_iff] at h;obtain ⟨d', h1, rfl⟩ := h;exact ih h1
def xo (nv : Nat) (lt : List Nat) (ns : NS) : Opd -> Option (XOpd × NS)
 | .t j => if j < nv then some (.v j, ns) else match lk j ns with
   | some d => some (.u d, ns)
   | none => none
 | .m j => if j < nv then some (.m j, ns) else match lk j ns with
   | some d => if lt.contains j then some (.n d, ns) else some (.s d, jem j ns)
   | none => none
 | .c v => some (.c v, ns)
def jpO : Opd -> List Nat
 | .t j => [j]
 | .m j => [j]
 | .c _ => []
def xos (nv : Nat) (lt : List Nat) : NS -> List Opd -> Option (List XOpd × NS)
 | ns, [] => some ([], ns)
 | ns, x :: xs => match xo nv (xs.flatMap jpO ++ lt) ns x with
   | some (y, ns1) => match xos nv lt ns1 xs with
     | some (ys, ns2) => some (y :: ys, ns2)
     | none => none
   | none => none
theorem jmB {v : IVal} (h : plI v = true) : un3 v = v := by
 cases v <;> first | rfl | cases h
theorem J5 {lt : List Nat} {x : Opd} {y : XOpd} {ns' : NS} {v : IVal} {vs' : AL} (h : xo nv lt ns x = some (y, ns')) (R : VR nv m vs ns st ts) (hg : y.get vs st = some (v, vs')) :
   ∃ ts', x.get ts = some (v, ts') /\ VR nv m vs' ns' st ts' /\ ts'.ds = ts.ds := by
 cases x with
 | t j =>
   simp only [xo] at h;split at h
   . rename_i hj;cases h;simp only [XOpd.get] at hg;split at hg
     . rename_i w hw;cases hg;exact ⟨ts, by simp only [Opd.get, (R.var _ _ hw).2], R, rfl⟩
     . cases hg
   . split at h
     . rename_i d hd;cases h;simp only [XOpd.get] at hg;split at hg
       . rename_i w hw;cases hg;exact ⟨ts, by simp only [Opd.get, (R.stk _ _ (jaW hd)).2 _ hw], R, rfl⟩
       . cases hg
     . cases h
 | m j =>
   simp only [xo] at h;split at h
   . rename_i hj;cases h;simp only [XOpd.get] at hg;split at hg
     . rename_i w hw;cases hg;exact ⟨_, by simp only [Opd.get, (R.var _ _ hw).2], R.setV hj (un3 v), rfl⟩
     . cases hg
   . split at h
     . rename_i d hd;split at h
       . cases h;simp only [XOpd.get] at hg;split at hg
         . rename_i w hw;split at hg
           . rename_i hp;cases hg;refine ⟨ts.set j (un3 v), by simp only [Opd.get, (R.stk _ _ (jaW hd)).2 _ hw], ?_, rfl⟩;have h1 := R.setS (jaW hd) (un3 v);have h2 : st.set d (un3 v) = st := by
               rw [jmB hp];apply List.ext_getElem?;intro i;rw [List.getElem?_set]
               by_cases e : d = i
               . subst e;rw [if_pos rfl, hw];split
                 . rfl
                 . rename_i hl; rw [List.getElem?_eq_none (by omega)] at hw; cases hw
               . rw [if_neg e]
             rw [h2] at h1;exact h1
           . cases hg
         . cases hg
       cases h;simp only [XOpd.get] at hg;split at hg
       . rename_i w hw;cases hg;exact ⟨_, by simp only [Opd.get, (R.stk _ _ (jaW hd)).2 _ hw], R.dead (jaW hd) (un3 v), rfl⟩
       . cases hg
     . cases h
 | c w =>
   simp only [xo, zO, zP] at h;obtain ⟨rfl, rfl⟩ := h;simp only [XOpd.get, zO, zP] at hg;obtain ⟨rfl, rfl⟩ := hg;exact ⟨ts, rfl, R, rfl⟩
theorem jbL {lt : List Nat} : ∀ {xs : List Opd} {ys : List XOpd} {ns ns' : NS} {ws : List IVal} {vs vs' : AL} {ts : Ts}, xos nv lt ns xs = some (ys, ns') -> VR nv m vs ns st ts -> jO ys vs st = some (ws, vs') ->
   ∃ ts', getAll xs ts = some (ws, ts') /\ VR nv m vs' ns' st ts' /\ ts'.ds = ts.ds := by
 intro xs
 induction xs with
 | nil =>
   intro ys ns ns' ws vs vs' ts h R hg;simp only [xos, zO, zP] at h;obtain ⟨rfl, rfl⟩ := h;simp only [jO, zO, zP] at hg;obtain ⟨rfl, rfl⟩ := hg;exact ⟨ts, rfl, R, rfl⟩
 | cons x xs ih =>
   intro ys ns ns' ws vs vs' ts h R hg;simp only [xos] at h;split at h
   . rename_i y ns1 hx;split at h
     . rename_i ys' ns2 hxs;cases h;simp only [jO] at hg;split at hg
       . rename_i v vs1 hv;split at hg
         . rename_i ws' vs2 hws;cases hg;obtain ⟨t1, h1, R1, e1⟩ := J5 hx R hv;obtain ⟨t2, h2, R2, e2⟩ := ih hxs R1 hws;exact ⟨t2, by simp only [getAll, h1, h2], R2, e2.trans e1⟩
         . cases hg
       . cases hg
     . cases h
   . cases h
end Go.Idl
namespace Go.Idl
def xoE (nv : Nat) (lt : List Nat) (ns : NS) : Opd -> Option (XOpd × NS)
 | .m j => if j < nv then some (.m j, ns) else match lk j ns with
   | some d => some (.s d, ns)
   | none => none
 | x => xo nv lt ns x
def jgc : Opd -> List Nat
 | .t j => [j]
 | .m j => [j]
 | .c _ => []
def jcs (o : IOper) : List Nat := (je o.op).flatMap jgc ++ (match o.guard with | some (t, _) => [t] | none => [])
def jm3 (lt : List Nat) : NS -> Nat
 | [] => 0
 | none :: ns => jm3 lt ns + 1
 | some j :: ns => if lt.contains j then 0 else jm3 lt ns + 1
def jl7 (nv m j : Nat) (ns : NS) : Bool := ns.all fun e => match e with
 | some j' => slt nv m j' != slt nv m j
 | none => true
def jar (nv : Nat) (ns : NS) : Option (Nat × Bool) -> Option (Option (XOpd × Bool))
 | none => some none
 | some (t, b) => if t < nv then some (some (.v t, b)) else match lk t ns with
   | some d => some (some (.s d, b))
   | none => none
def Xb (nv : Nat) (lt : List Nat) (ns : NS) (op : IOp) : Option (List XOpd × NS) :=
 match op with
 | .extract x _ => match xoE nv lt ns x with
   | some (y, ns1) => some ([y], ns1)
   | none => none
 | op => if okX op then xos nv lt ns (je op) else none
def Y0 (nv m : Nat) (ns : NS) (lt : List Nat) (o : IOper) : Option (XOper × NS) :=
 match jar nv ns o.guard, Xb nv lt ns o.op with
 | some g, some (ys, ns1) =>
   let p := jm3 lt ns1
   let ns2 := ns1.drop p
   match o.dst with
   | none => some (⟨o.op, ys, p, .drop, g⟩, ns2)
   | some j =>
     if j < nv then some (⟨o.op, ys, p, .var j, g⟩, ns2)
     else if jl7 nv m j ns2 then some (⟨o.op, ys, p, .push, g⟩, some j :: ns2) else none
 | _, _ => none
def X8 (nv m : Nat) (lt : List Nat) : NS -> List IOper -> Option (List XOper × NS)
 | ns, [] => some ([], ns)
 | ns, o :: os => match Y0 nv m ns (os.flatMap jcs ++ lt) o with
   | some (x, ns1) => match X8 nv m lt ns1 os with
     | some (xs, ns2) => some (x :: xs, ns2)
     | none => none
   | none => none
def QI (nv m : Nat) (lt : List Nat) : NS -> List (Nat × IOper) -> Option (List (Nat × XOper) × NS)
 | ns, [] => some ([], ns)
 | ns, o :: os => match Y0 nv m ns ((os.map (·.2)).flatMap jcs ++ lt) o.2 with
   | some (x, ns1) => match QI nv m lt ns1 os with
     | some (xs, ns2) => some ((o.1, x) :: xs, ns2)
     | none => none
   | none => none
structure XR (L : ILoop -> ILoop -> Prop) (nv m : Nat) (ns : NS) (xs : XS) (s : St) : Prop where
 vr : VR nv m xs.vs ns xs.st s.ts
 ds : s.ts.ds = xs.ds
 σ : SX L xs.σ s.σ
 wr : xs.wr = s.wr
variable {L : ILoop -> ILoop -> Prop} {nv m : Nat} {ns : NS} {cx ci : jo} {xs : XS} {s : St}
theorem jlm {lt : List Nat} {vs vs' : AL} {st : List IVal} {ts : Ts} {x : Opd} {y : XOpd} {ns' : NS} {v : IVal} (h : xoE nv lt ns x = some (y, ns')) (R : VR nv m vs ns st ts) (hg : y.get vs st = some (v, vs')) :
   ∃ ts', x.get ts = some (v, ts') := by
 cases x with
 | m j =>
   simp only [xoE] at h;split at h
   . rename_i hj;cases h;obtain ⟨t1, h1, _⟩ := J5 (lt := lt) (x := .m j) (y := .m j) (ns' := ns) (by simp only [xo, if_pos hj]) R hg;exact ⟨t1, h1⟩
   . rename_i hj;split at h
     . rename_i d hd;cases h;obtain ⟨t1, h1, _⟩ := J5 (lt := []) (x := .m j) (y := .s d) (ns' := jem j ns) (by simp only [xo, if_neg hj, hd]; rfl) R hg;exact ⟨t1, h1⟩
     . cases h
 | t j => obtain ⟨t1, h1, _⟩ := J5 (lt := lt) (x := .t j) h R hg; exact ⟨t1, h1⟩
 | c w => obtain ⟨t1, h1, _⟩ := J5 (lt := lt) (x := .c w) h R hg; exact ⟨t1, h1⟩
theorem jbK {lt : List Nat} {op : IOp} {i : Nat} {x : Opd} (ho : op = .extract x i) {ys : List XOpd} {ns1 : NS} (h : Xb nv lt ns op = some (ys, ns1)) (R : XR L nv m ns xs s) {p : Nat} {dst : XDst} {g : Option (XOpd × Bool)} {r : XRes}
   (hr : xop cx ⟨op, ys, p, dst, g⟩ xs = some r) : ∃ s', ja ci op s = some ⟨r.pan, r.v, s'⟩ /\ XR L nv m ns1 r.s s' := by
 subst ho;simp only [Xb] at h;split at h
 . rename_i y ns1' hy;cases h;simp only [xop] at hr;split at hr
   . rename_i us vs hg;split at hr
     . rename_i v hv
       cases x with
       | m j =>
         simp only [xoE] at hy;split at hy
         . rename_i hj;cases hy;simp only [zO] at hr;subst hr;simp only [XOpd.get] at hg;split at hg
           . rename_i w hw;cases hg;refine ⟨{ s with ts := (s.ts.set j (un3 (.tup us))).set j (.tup (us.set i (un2 v))) }, ?_, ⟨(R.vr.setV hj (un3 (.tup us))).setV hj (.tup (us.set i (un2 v))), R.ds, R.σ, R.wr⟩⟩;simp only [ja, Opd.get, (R.vr.var _ _ hw).2, hv, rv]
           . cases hg
         . rename_i hj;split at hy
           . rename_i d hd;cases hy;simp only [zO] at hr;subst hr;simp only [XOpd.get] at hg;split at hg
             . rename_i w hw;cases hg;have hl := jaW hd;refine ⟨{ s with ts := (s.ts.set j (un3 (.tup us))).set j (.tup (us.set i (un2 v))) }, ?_, ⟨?_, R.ds, R.σ, R.wr⟩⟩
               . simp only [ja, Opd.get, (R.vr.stk _ _ hl).2 _ hw, hv, rv]
               . have h2 := (R.vr.setS hl (un3 (.tup us))).setS hl (.tup (us.set i (un2 v)));simp only [List.set_set] at h2;exact h2
             . cases hg
           . cases hy
       | t j =>
         have hy' : xo nv lt ns (.t j) = some (y, ns1) := hy;obtain ⟨t1, h1, R1, e1⟩ := J5 hy' R.vr hg;have hr2 : r = ⟨false, v, { xs with vs := vs }⟩ := by
           simp only [xo] at hy';split at hy'
           . cases hy'; simp only [zO] at hr; exact hr.symm
           . split at hy'
             . cases hy'; simp only [zO] at hr; exact hr.symm
             . cases hy'
         subst hr2;exact ⟨{ s with ts := t1 }, by simp only [ja, h1, hv, rv], ⟨R1, e1.trans R.ds, R.σ, R.wr⟩⟩
       | c w =>
         have hy' : xo nv lt ns (.c w) = some (y, ns1) := hy;obtain ⟨t1, h1, R1, e1⟩ := J5 hy' R.vr hg;have hr2 : r = ⟨false, v, { xs with vs := vs }⟩ := by
           simp only [xo] at hy';cases hy'; simp only [zO] at hr; exact hr.symm
         subst hr2;exact ⟨{ s with ts := t1 }, by simp only [ja, h1, hv, rv], ⟨R1, e1.trans R.ds, R.σ, R.wr⟩⟩
     . cases hr
   . cases hr
 . cases h
theorem YZ {lt : List Nat} (hcf : CfX L cx ci) {op : IOp} {ys : List XOpd} {ns1 : NS} (h : Xb nv lt ns op = some (ys, ns1)) (R : XR L nv m ns xs s) {p : Nat} {dst : XDst} {g : Option (XOpd × Bool)} {r : XRes}
   (hr : xop cx ⟨op, ys, p, dst, g⟩ xs = some r) : ∃ s', ja ci op s = some ⟨r.pan, r.v, s'⟩ /\ XR L nv m ns1 r.s s' := by
 by_cases he : ∃ x i, op = .extract x i
 . obtain ⟨x, i, e⟩ := he;exact jbK e h R hr
 . letI : Globs := ⟨fun _ => none⟩;have h' : (if okX op then xos nv lt ns (je op) else none) = some (ys, ns1) := by
     cases op <;> first | exact h | exact absurd ⟨_, _, rfl⟩ he
   have hr' : (match jO ys xs.vs xs.st with
     | some (vals, vs) => match opV cx op vals xs.σ xs.wr with
       | some r => some (⟨r.pan, r.v, { xs with vs := vs, σ := r.s.σ, wr := r.s.wr }⟩ : XRes)
       | none => none
     | none => none) = some r := by
     cases op <;> first | exact hr | exact absurd ⟨_, _, rfl⟩ he
   split at h'
   . rename_i hok;split at hr'
     . rename_i vals vs hg;split at hr'
       . rename_i r0 h0;cases hr';obtain ⟨t1, h1, R1, e1⟩ := jbL h' R.vr hg;obtain ⟨τ', h2, hS⟩ := jf7 hcf R.σ (show ja cx (op.with vals) ⟨ts0, xs.σ, xs.wr⟩ = some r0 from h0);have h3 := VX hok h1 h2;obtain ⟨ts, σ, wr⟩ := s;have hw : xs.wr = wr := R.wr;subst hw;exact ⟨_, h3, ⟨R1, e1.trans R.ds, hS, rfl⟩⟩
       . cases hr'
     . cases hr'
   . cases h'
theorem jg6 {j : Nat} (h : jl7 nv m j ns = true) : ∀ (d j' : Nat), ns[d]? = some (some j') -> slt nv m j' ≠ slt nv m j := by
 intro d j' hd;have := List.all_eq_true.1 h _ (zM hd);simpa using this
theorem Y1 {o : IOper} {x : XOper} {ns' ns1 : NS} {ys : List XOpd} {lt : List Nat} {g : Option (XOpd × Bool)} (hg : jar nv ns o.guard = some g) (hy : Xb nv lt ns o.op = some (ys, ns1)) (h : Y0 nv m ns lt o = some (x, ns'))
   (R : XR L nv m ns1 xs s) (v : IVal) : XR L nv m ns' (jav x v xs) { s with ts := ze s.ts o.dst v } := by
 simp only [Y0, hg, hy] at h;have Rd := R.vr.drop (jm3 lt ns1);split at h
 . rename_i hd;cases h;rw [hd];exact ⟨Rd, R.ds, R.σ, R.wr⟩
 . rename_i j hd;rw [hd];split at h
   . rename_i hj;cases h;exact ⟨Rd.setV hj v, R.ds, R.σ, R.wr⟩
   . rename_i hj;split at h
     . rename_i hf;cases h;exact ⟨Rd.push (by omega) v (jg6 hf), R.ds, R.σ, R.wr⟩
     . cases h
theorem zr {o : IOper} {x : XOper} {ns' : NS} {lt : List Nat} (h : Y0 nv m ns lt o = some (x, ns')) : ∃ ys ns1, jar nv ns o.guard = some x.g /\ Xb nv lt ns o.op = some (ys, ns1) /\ x.xs = ys /\ x.op = o.op := by
 have h0 := h;simp only [Y0] at h;split at h
 . rename_i g ys ns1 hg hy;split at h
   . cases h; exact ⟨ys, ns1, hg, hy, rfl, rfl⟩
   . split at h
     . cases h; exact ⟨ys, ns1, hg, hy, rfl, rfl⟩
     . split at h
       . cases h; exact ⟨ys, ns1, hg, hy, rfl, rfl⟩
       . cases h
 . cases h
theorem Q6 {g : Option (Nat × Bool)} {g' : Option (XOpd × Bool)} (h : jar nv ns g = some g') {vs : AL} {st : List IVal} {ts : Ts} (R : VR nv m vs ns st ts) {b : Bool} (hw : Xh g' vs st = some b) : ko g ts = some b := by
 cases g with
 | none => cases h; exact hw
 | some p =>
   obtain ⟨t, c⟩ := p;simp only [jar] at h;split at h
   . cases h;simp only [Xh, XOpd.get] at hw
     cases hv : Kn t vs with
     | none => rw [hv] at hw; cases hw
     | some w =>
       rw [hv] at hw;simp only [ko, (R.var _ _ hv).2];cases w <;> exact hw
   . split at h
     . rename_i d hd;cases h;simp only [Xh, XOpd.get] at hw
       cases hv : st[d]? with
       | none => rw [hv] at hw; cases hw
       | some w =>
         rw [hv] at hw;simp only [ko, (R.stk _ _ (jaW hd)).2 _ hv];cases w <;> exact hw
     . cases h
theorem Xe {o : IOper} {x : XOper} {ns' : NS} {lt : List Nat} (h : Y0 nv m ns lt o = some (x, ns')) (R : XR L nv m ns xs s) : XR L nv m ns' (jav x ju xs) { s with ts := ze s.ts o.dst ju } := by
 obtain ⟨ys, ns1, hg, hy, _, _⟩ := zr h;refine Y1 hg hy h ⟨?_, R.ds, R.σ, R.wr⟩ ju
 -- what is taken is known no more
 have hsub : ∀ (d j : Nat), ns1[d]? = some (some j) -> ns[d]? = some (some j) := by
   have one : ∀ {lt : List Nat} {ns ns1 : NS} {x : Opd} {y : XOpd}, xo nv lt ns x = some (y, ns1) -> ∀ (d j : Nat), ns1[d]? = some (some j) -> ns[d]? = some (some j) := by
     intro lt ns ns1 x y h d j hd
     cases x with
     | t i => simp only [xo] at h; split at h; · cases h; exact hd
              . split at h; · cases h; exact hd
                . cases h
     | m i => simp only [xo] at h; split at h; · cases h; exact hd
              . split at h
                . split at h
                  . cases h; exact hd
                  . cases h; exact (Kr hd).1
                . cases h
     | c w => cases h; exact hd
   have many : ∀ (xs : List Opd) {ns ns1 : NS} {ys : List XOpd}, xos nv lt ns xs = some (ys, ns1) -> ∀ (d j : Nat), ns1[d]? = some (some j) -> ns[d]? = some (some j) := by
     intro xs
     induction xs with
     | nil => intro ns ns1 ys h d j hd; cases h; exact hd
     | cons x xs ih =>
       intro ns ns1 ys h d j hd;simp only [xos] at h;split at h
       . rename_i hx;split at h
         . rename_i hxs; cases h; exact one hx d j (ih hxs d j hd)
         . cases h
       . cases h
   intro d j hd
   by_cases he : ∃ x i, o.op = .extract x i
   . obtain ⟨x, i, e⟩ := he;rw [e] at hy;simp only [Xb] at hy;split at hy
     . rename_i y n1 hx;cases hy
       cases x with
       | m i => simp only [xoE] at hx; split at hx; · cases hx; exact hd
                . split at hx; · cases hx; exact hd
                  . cases hx
       | t i => exact one (lt := lt) (x := .t i) hx d j hd
       | c w => exact one (lt := lt) (x := .c w) hx d j hd
     . cases hy
   . have h' : (if okX o.op then xos nv lt ns (je o.op) else none) = some (ys, ns1) := by
       revert hy he
       cases o.op <;> intro hy he <;> first | exact hy | exact absurd ⟨_, _, rfl⟩ he
     split at h'
     . exact many _ h' d j hd
     . cases h'
 exact ⟨R.vr.pos, R.vr.hnv, R.vr.hm, R.vr.has, R.vr.var, fun d j hd => R.vr.stk d j (hsub d j hd), fun a b c e h1 h2 hne => R.vr.nd a b c e (hsub _ _ h1) (hsub _ _ h2) hne⟩
theorem Y4 (hcf : CfX L cx ci) (lt : List Nat) : ∀ {os : List IOper} {xl : List XOper} {ns ns' : NS} {xs xs' : XS} {s : St} {e : IExit}, X8 nv m lt ns os = some (xl, ns') -> XR L nv m ns xs s -> X9 cx xl xs = some (e, xs') ->
   ∃ s', jY ci os s = some (e, s') /\ (∃ n1, XR L nv m n1 xs' s') /\ (e = .normal -> XR L nv m ns' xs' s') := by
 intro os
 induction os with
 | nil =>
   intro xl ns ns' xs xs' s e h R hr;simp only [X8, zO, zP] at h;obtain ⟨rfl, rfl⟩ := h;simp only [X9, zO, zP] at hr;obtain ⟨rfl, rfl⟩ := hr;exact ⟨s, rfl, ⟨_, R⟩, fun _ => R⟩
 | cons o os ih =>
   intro xl ns ns' xs xs' s e h R hr;simp only [X8] at h;split at h
   . rename_i x ns1 hx;split at h
     . rename_i xl' ns2 hxl;cases h;obtain ⟨ys, n1, hg, hy, e1, e2⟩ := zr hx;simp only [X9] at hr;split at hr
       . rename_i hw;have hwi := Q6 hg R.vr hw;split at hr
         . rename_i v xs1 hop;have hop' : xop cx ⟨o.op, ys, x.pop, x.dst, x.g⟩ xs = some ⟨false, v, xs1⟩ := by rw [<- e1, <- e2]; exact hop
           obtain ⟨s1, h1, R1⟩ := YZ hcf hy R hop';obtain ⟨s2, h2, R2⟩ := ih hxl (Y1 hg hy hx R1 v) hr;exact ⟨s2, by simp only [jY, hwi, h1]; exact h2, R2⟩
         . rename_i v xs1 hop;have hop' : xop cx ⟨o.op, ys, x.pop, x.dst, x.g⟩ xs = some ⟨true, v, xs1⟩ := by rw [<- e1, <- e2]; exact hop
           obtain ⟨s1, h1, R1⟩ := YZ hcf hy R hop';cases hr;exact ⟨s1, by simp only [jY, hwi, h1], ⟨_, R1⟩, fun h => by cases h⟩
         . cases hr
       . rename_i hw;have hwi := Q6 hg R.vr hw;obtain ⟨s2, h2, R2⟩ := ih hxl (Xe hx R) hr;exact ⟨s2, by simp only [jY, hwi]; exact h2, R2⟩
       . cases hr
     . cases h
   . cases h
end Go.Idl
namespace Go.Idl
def QU : ICode -> List Nat
 | .ops l => l.flatMap jcs
 | .draw l _ => (l.map (·.2)).flatMap jcs
 | .seq a _ => QU a
 | .cond x _ _ => jgc x
 | .rangeF x _ _ _ => jgc x
 | .scope b => QU b
 | .block _ b => QU b
 | _ => []
def jme (lt : List Nat) (ns : NS) : Bool := ns.any fun e => match e with
 | some j => lt.contains j
 | none => false
def xc (nv m : Nat) (kf : Nat -> List Nat) : ICode -> Nat -> NS -> List Nat -> Option (XCode × NS)
 | .skip, _, ns, _ => some (.skip, ns)
 | .exit id, _, _, _ => some (.exit id, [])
 | .ret, _, _, _ => some (.ret, [])
 | .ops l, _, ns, lt => match X8 nv m lt ns l with
   | some (xl, ns') => if jme lt ns' then some (.ops true xl, ns') else some (.ops false xl, [])
   | none => some (.stuck, [])
 | .draw l ps, _, ns, lt => match QI nv m lt ns l with
   | some (xl, ns') => if jme lt ns' then some (.draw true xl ps, ns') else some (.draw false xl ps, [])
   | none => some (.stuck, [])
 | .seq a b, k, ns, lt => match xc nv m kf a k ns (QU b ++ lt) with
   | some (xa, n1) => match xc nv m kf b k n1 lt with
     | some (xb, n2) => some (.seq xa xb, n2)
     | none => none
   | none => none
 | .cond x a b, k, ns, _ => match xo nv [] ns x with
   | some (y, _) => match xc nv m kf a k [] [], xc nv m kf b k [] [] with
     | some (xa, _), some (xb, _) => some (.cond y xa xb, [])
     | _, _ => none
   | none => some (.stuck, [])
 | .label _, _, ns, _ => some (.skip, ns)
 | .block id b, _, ns, _ => match xc nv m kf b id ns [] with
   | some (xb, _) => some (.block id xb, [])
   | none => none
 | .loop b, k, _, _ => match xc nv m kf b k [] [] with
   | some (xb, _) => some (.loop (kf k) xb, [])
   | none => none
 | .scope b, k, ns, lt => match xc nv m kf b k ns lt with
   | some (xb, n1) => some (.scope xb, n1)
   | none => none
 | .rangeF x ps a b, k, ns, _ => match xo nv [] ns x with
   | some (y, _) => match xc nv m kf a k [] [], xc nv m kf b k [] [] with
     | some (xa, _), some (xb, _) => if ps.all fun p => decide (p < nv) then some (.rangeF y ps xa xb, []) else some (.stuck, [])
     | _, _ => none
   | none => some (.stuck, [])
 | .dfr l x xs d c b, k, ns, _ => match X8 nv m (jgc x ++ xs.flatMap jgc) ns l with
   | some (xl, n1) => match xos nv [] n1 (x :: xs) with
     | some (y :: ys, _) => match xc d.nv d.m (fun _ => []) c 0 [] [], xc nv m kf b k [] [] with
       | some (xd, _), some (xb, _) => if 0 < d.m /\ d.nv + d.m < 2 ^ d.dep then some (.dfr xl y ys d.g d.nv d.slot xd xb, []) else some (.stuck, [])
       | _, _ => none
     | _ => some (.stuck, [])
   | none => some (.stuck, [])
 | .lib p, _, _, _ => some (.lib p, [])
 | _, _, _, _ => some (.stuck, [])
def LX (lx li : ILoop) : Prop := lx.st = li.st /\ lx.ps = li.ps /\ lx.pend = li.pend /\ ∃ nv m kf k1 k2 n1 n2,
 xc nv m kf li.a k1 [] [] = some (lx.x.a, n1) /\ xc nv m kf li.b k2 [] [] = some (lx.x.b, n2) /\ VR nv m lx.x.vs [] [] li.ts /\ li.ts.ds = [] /\ ∀ p ∈ li.ps, p < nv
def jlk (kf : Nat -> List Nat) (fn : IFunc) : Option XFunc :=
 if 0 < fn.m /\ fn.nv + fn.m < 2 ^ fn.dep then match xc fn.nv fn.m kf fn.body 0 [] [] with
   | some (c, _) => some ⟨fn.nv, c, fn.res⟩
   | none => none
 else none
def xprog (kf : FuncId -> Nat -> List Nat) (F : IProg) : XProg := fun f => match F f with
 | some fn => jlk (kf f) fn
 | none => none
variable {nv m : Nat} {ns : NS} {cx ci : jo} {xs : XS} {s : St} {L : ILoop -> ILoop -> Prop}
theorem XR.none (R : XR L nv m ns xs s) : XR L nv m [] xs s := ⟨R.vr.none _, R.ds, R.σ, R.wr⟩
theorem XR.clr (R : XR L nv m ns xs s) (st : List IVal) : XR L nv m [] { xs with st := st } s := ⟨R.vr.none _, R.ds, R.σ, R.wr⟩
theorem jhC {op : IOp} {vals : List IVal} {t1 : Ts} (hg : getAll (je op) s.ts = some (vals, t1)) (h : YB op vals = true) : YA op s = true := by
 letI : Globs := ⟨fun _ => Option.none⟩;cases op
 case append byref str esz bytes sv x =>
   simp only [je, jc, jd] at hg;obtain ⟨v, t, ws, a1, ⟨v2, t', ws', a2, ⟨rfl, rfl⟩, rfl⟩, rfl⟩ := hg
   cases byref with
   | true => rfl
   | false =>
     simp only [YA, a1, a2];cases v2 <;> first | rfl | (simp [YB] at h)
 case conv c x =>
   simp only [je, jc, jd] at hg;obtain ⟨v, t, ws, a1, ⟨rfl, rfl⟩, rfl⟩ := hg;simp only [YA, a1];cases v <;> first | rfl | (simp [YB] at h)
 all_goals rfl
theorem ji9 {op : IOp} {vals : List IVal} {t1 : Ts} (hg : getAll (je op) s.ts = some (vals, t1)) : Qc op s = rdV op vals := by
 letI : Globs := ⟨fun _ => Option.none⟩;cases op
 case load mvf n x | lenM x =>
   simp only [je, jc, jd] at hg;obtain ⟨v, t, ws, a1, ⟨rfl, rfl⟩, rfl⟩ := hg;simp only [Qc, a1];cases v <;> rfl
 case lookup kk z ok x k | store n x y =>
   simp only [je, jc, jd] at hg;obtain ⟨v, t, ws, a1, ⟨v2, t', ws', a2, ⟨rfl, rfl⟩, rfl⟩, rfl⟩ := hg;simp only [Qc, a1];cases v <;> rfl
 all_goals rfl
theorem jgr {lt : List Nat} {vs vs' : AL} {st : List IVal} {ts : Ts} {op : IOp} {ys : List XOpd} {ns1 : NS} {vals : List IVal} (hy : Xb nv lt ns op = some (ys, ns1)) (R : VR nv m vs ns st ts) (hg : jO ys vs st = some (vals, vs')) : ∃ t1, getAll (je op) ts = some (vals, t1) := by
 by_cases he : ∃ x i, op = .extract x i
 . obtain ⟨x, i, rfl⟩ := he;simp only [Xb] at hy;split at hy
   . rename_i y n1 hx;cases hy;simp only [jO] at hg;split at hg
     . rename_i v vs1 hv;cases hg;obtain ⟨t1, h1⟩ := jlm hx R hv;exact ⟨t1, by simp only [je, getAll, h1]⟩
     . cases hg
   . cases hy
 . have h' : (if okX op then xos nv lt ns (je op) else .none) = some (ys, ns1) := by
     cases op <;> first | exact hy | exact absurd ⟨_, _, rfl⟩ he
   split at h'
   . obtain ⟨t1, h1, _⟩ := jbL h' R hg; exact ⟨t1, h1⟩
   . cases h'
theorem Ya (hcf : CfX L cx ci) {lt : List Nat} {o : IOper} {x : XOper} {ns' : NS} {xs' : XS} {q : Option IVal} {l : DLog} (hx : Y0 nv m ns lt o = some (x, ns')) (R : XR L nv m ns xs s) (h : kL cx x xs = some (q, xs', l)) :
   ∃ s', jG ci o s = some (q, s', l) /\ (q = none -> XR L nv m ns' xs' s') /\ ∃ n1, XR L nv m n1 xs' s' := by
 obtain ⟨ys, n1, hg, hy, e1, e2⟩ := zr hx;simp only [kL] at h;split at h
 . rename_i hw;have hwi := Q6 hg R.vr hw;split at h
   . rename_i vals vs' hv;rw [e1] at hv;obtain ⟨t1, ht⟩ := jgr hy R.vr hv;split at h
     . rename_i hn;rw [e2] at hn;have hno := jhC ht hn;split at h
       . rename_i v xs1 hop;cases h;have R0 : XR L nv m ns { xs with wr := [] } { s with wr := [] } := ⟨R.vr, R.ds, R.σ, rfl⟩;have hop' : xop cx ⟨o.op, ys, x.pop, x.dst, x.g⟩ { xs with wr := [] } = some ⟨false, v, xs1⟩ := by rw [<- e1, <- e2]; exact hop
         obtain ⟨s1, h1, R1⟩ := YZ hcf hy R0 hop';have R2 := Y1 hg hy hx R1 v;have R3 : XR L nv m ns' { jav x v xs1 with wr := xs1.wr ++ xs.wr } { ts := ze s1.ts o.dst v, σ := s1.σ, wr := s1.wr ++ s.wr } := by
           have h3 : xs1.wr = s1.wr := R1.wr;have h4 : xs.wr = s.wr := R.wr;exact ⟨R2.vr, R2.ds, R2.σ, by show xs1.wr ++ xs.wr = s1.wr ++ s.wr; rw [h3, h4]⟩
         refine ⟨{ ts := ze s1.ts o.dst v, σ := s1.σ, wr := s1.wr ++ s.wr }, ?_, fun _ => R3, _, R3⟩
         . unfold jG;rw [hwi];simp only;rw [if_pos hno, ht];simp only [h1];rw [ji9 ht, <- e2]
           congr 1
           congr 1
           congr 1
           . rw [show xs1.wr = s1.wr from R1.wr, R.σ.1]
       . rename_i v xs1 hop;cases h;have R0 : XR L nv m ns { xs with wr := [] } { s with wr := [] } := ⟨R.vr, R.ds, R.σ, rfl⟩;have hop' : xop cx ⟨o.op, ys, x.pop, x.dst, x.g⟩ { xs with wr := [] } = some ⟨true, v, xs1⟩ := by rw [<- e1, <- e2]; exact hop
         obtain ⟨s1, h1, R1⟩ := YZ hcf hy R0 hop';have R3 : XR L nv m n1 { xs1 with wr := xs1.wr ++ xs.wr } { ts := s1.ts, σ := s1.σ, wr := s1.wr ++ s.wr } := by
           have h3 : xs1.wr = s1.wr := R1.wr;have h4 : xs.wr = s.wr := R.wr;exact ⟨R1.vr, R1.ds, R1.σ, by show xs1.wr ++ xs.wr = s1.wr ++ s.wr; rw [h3, h4]⟩
         refine ⟨{ ts := s1.ts, σ := s1.σ, wr := s1.wr ++ s.wr }, ?_, fun h => (by cases h), _, R3⟩
         . unfold jG;rw [hwi];simp only;rw [if_pos hno, ht];simp only [h1];rw [ji9 ht, <- e2]
           congr 1
           congr 1
           congr 1
           . rw [show xs1.wr = s1.wr from R1.wr, R.σ.1]
       . cases h
     . cases h
   . cases h
 . rename_i hw;have hwi := Q6 hg R.vr hw;cases h;exact ⟨{ s with ts := ze s.ts o.dst ju }, by unfold jG; rw [hwi, e2, show xs.σ.length = s.σ.length from R.σ.1], fun _ => Xe hx R, _, Xe hx R⟩
 . cases h
theorem jaq (hcf : CfX L cx ci) (lt : List Nat) : ∀ {os : List (Nat × IOper)} {xl : List (Nat × XOper)} {ns ns' : NS} {xs xs' : XS} {s : St} {q : Option (IVal × List (Nat × Bool))} {log : List (Nat × DLog)}, QI nv m lt ns os = some (xl, ns') -> XR L nv m ns xs s -> jJ cx xl xs = some (q, xs', log) ->
   ∃ s', jv ci os s = some (q, s', log) /\ (q = none -> XR L nv m ns' xs' s') /\ ∃ n1, XR L nv m n1 xs' s' := by
 intro os
 induction os with
 | nil =>
   intro xl ns ns' xs xs' s q log h R hr;simp only [QI, zO, zP] at h;obtain ⟨rfl, rfl⟩ := h;simp only [jJ, zO, zP] at hr;obtain ⟨rfl, rfl, rfl⟩ := hr;exact ⟨s, rfl, fun _ => R, _, R⟩
 | cons o os ih =>
   intro xl ns ns' xs xs' s q log h R hr;simp only [QI] at h;split at h
   . rename_i x ns1 hx;split at h
     . rename_i xl' ns2 hxl;cases h;simp only [jJ] at hr;split at hr
       . rename_i xs1 l h1;split at hr
         . rename_i q' xs2 ls h2;cases hr;obtain ⟨s1, h3, R1, _⟩ := Ya hcf hx R h1;obtain ⟨s2, h4, R2⟩ := ih hxl (R1 rfl) h2;exact ⟨s2, by simp only [jv, h3, h4], R2⟩
         . cases hr
       . rename_i v xs1 l h1;cases hr;obtain ⟨s1, h3, _, R1⟩ := Ya hcf hx R h1;exact ⟨s1, by simp only [jv, h3], fun h => (by cases h), R1⟩
       . cases hr
     . cases h
   . cases h
theorem Za {ks : List Nat} : ∀ {l : AL} {i : Nat}, Kn i (jdT ks l) = if ks.contains i = true then none else Kn i l := by
 intro l
 induction l with
 | nil => intro i; simp only [jdT, Kn]; split <;> rfl
 | cons p l ih =>
   obtain ⟨j, w⟩ := p;intro i;simp only [jdT];split
   . rename_i hc;rw [ih];split
     . rfl
     . rename_i hi;simp only [Kn];rw [if_neg (fun e => by subst e; exact hi hc)]
   . rename_i hc;simp only [Kn];split
     . rename_i e; subst e; rw [if_neg hc]
     . exact ih
theorem jgJ {ts : Ts} {i j : Nat} (h : ts.slot j ≠ ts.slot i) : (ts.clr j).get? i = ts.get? i := by
 letI : Globs := ⟨fun _ => Option.none⟩;have e : (ts.clr j).slot i = ts.slot i := rfl;unfold Ts.get?;rw [e];simp only [Ts.clr];rw [Tm.get_ne _ _ _ _ h]
theorem jef : ∀ {Y : List Nat} {ts : Ts} {i : Nat}, (∀ y ∈ Y, ts.slot y ≠ ts.slot i) -> (ts.clrs Y).get? i = ts.get? i := by
 intro Y
 induction Y with
 | nil => intro ts i _; rfl
 | cons y Y ih =>
   intro ts i h;exact (ih (ts := ts.clr y) fun z hz => h z (by simp [hz])).trans (jgJ (h y (by simp)))
theorem jjH : ∀ (Y : List Nat) (ts : Ts), (ts.clrs Y).nv = ts.nv /\ (ts.clrs Y).m = ts.m /\ (ts.clrs Y).ds = ts.ds /\ ∀ k, (ts.clrs Y).t.has k = ts.t.has k := by
 intro Y
 induction Y with
 | nil => intro ts; exact ⟨rfl, rfl, rfl, fun _ => rfl⟩
 | cons y Y ih =>
   intro ts;obtain ⟨h1, h2, h3, h4⟩ := ih (ts.clr y);exact ⟨h1, h2, h3, fun k => (h4 k).trans (Tm.has_set _ _ _ _)⟩
theorem jln {lt : List Nat} {ns1 : NS} {op : IOp} {ys : List XOpd} (h : Xb nv lt ns op = some (ys, ns1)) {j : Nat} (hj : j < nv) (hm : j ∈ (je op).flatMap YE) : j ∈ ys.flatMap fun x => match x with | .m i => [i] | _ => [] := by
 have many : ∀ (xs : List Opd) {ns ns1 : NS} {ys : List XOpd}, xos nv lt ns xs = some (ys, ns1) -> j ∈ xs.flatMap YE -> j ∈ ys.flatMap fun x => match x with | .m i => [i] | _ => [] := by
   intro xs
   induction xs with
   | nil => intro ns ns1 ys h hm; cases hm
   | cons x xs ih =>
     intro ns ns1 ys h hm;simp only [xos] at h;split at h
     . rename_i hx;split at h
       . rename_i hxs;cases h;simp only [List.flatMap_cons, List.mem_append] at hm ⊢
         rcases hm with hm | hm
         . left
           cases x with
           | m i =>
             simp only [YE, List.mem_singleton] at hm;subst hm;simp only [xo, if_pos hj] at hx;cases hx;simp
           | t i => cases hm
           | c w => cases hm
         . exact .inr (ih hxs hm)
       . cases h
     . cases h
 by_cases he : ∃ x i, op = .extract x i
 . obtain ⟨x, i, rfl⟩ := he;simp only [Xb] at h;split at h
   . rename_i y n1 hx;cases h
     cases x with
     | m i =>
       simp only [je, YE, List.flatMap_cons, List.flatMap_nil, List.append_nil, List.mem_singleton] at hm;subst hm;simp only [xoE, if_pos hj] at hx;cases hx;simp
     | t i => simp [je, YE] at hm
     | c w => simp [je, YE] at hm
   . cases h
 . have h' : (if okX op then xos nv lt ns (je op) else none) = some (ys, ns1) := by
     cases op <;> first | exact h | exact absurd ⟨_, _, rfl⟩ he
   split at h'
   . exact many _ h' hm
   . cases h'
theorem jgs {lt : List Nat} : ∀ {os : List (Nat × IOper)} {xl : List (Nat × XOper)} {ns ns' : NS}, QI nv m lt ns os = some (xl, ns') -> ∀ j, j < nv -> j ∈ qM os -> j ∈ J6 xl := by
 intro os
 induction os with
 | nil => intro xl ns ns' h j hj hm; cases hm
 | cons o os ih =>
   intro xl ns ns' h j hj hm;simp only [QI] at h;split at h
   . rename_i x ns1 hx;split at h
     . rename_i xl' ns2 hxl;cases h;simp only [qM, J6, List.flatMap_cons, List.mem_append] at hm ⊢
       rcases hm with (hm | hm) | hm
       . left; left
         have hd : o.2.dst = some j := by
           cases hd : o.2.dst with
           | none => rw [hd] at hm; cases hm
           | some k => rw [hd] at hm; simp at hm; rw [hm]
         simp only [Y0] at hx;split at hx
         . split at hx
           . rename_i h1; rw [hd] at h1; cases h1
           . rename_i j' h1;rw [hd] at h1;cases h1;rw [if_pos hj] at hx;cases hx;simp
         . cases hx
       . left; right
         obtain ⟨ys, n1, hg, hy, e1, e2⟩ := zr hx;rw [e1];exact jln hy hj hm
       . right
         exact ih hxl j hj hm
     . cases h
   . cases h
theorem XR.clrD {lt : List Nat} {os : List (Nat × IOper)} {xl : List (Nat × XOper)} {n0 n0' n1 : NS} (h : QI nv m lt n0 os = some (xl, n0')) (R : XR L nv m n1 xs s) : XR L nv m [] { xs with vs := jdT (J6 xl) xs.vs, st := [] } (clrD os s) := by
 obtain ⟨c1, c2, c3, c4⟩ := jjH (qM os) s.ts;refine ⟨⟨R.vr.pos, by show (s.ts.clrs (qM os)).nv = nv; rw [c1]; exact R.vr.hnv, by show (s.ts.clrs (qM os)).m = m; rw [c2]; exact R.vr.hm, fun k hk => ?_, fun i v hv => ?_, fun d j h => (by simp at h), fun d d' j j' h => (by simp at h)⟩, by show (s.ts.clrs (qM os)).ds = xs.ds; rw [c3]; exact R.ds, R.σ, R.wr⟩
 . show (s.ts.clrs (qM os)).t.has k = true;rw [c4]; exact R.vr.has k hk
 . rw [Za] at hv;split at hv
   . cases hv
   . rename_i hc;obtain ⟨hi, h2⟩ := R.vr.var i v hv;refine ⟨hi, ?_⟩;show (s.ts.clrs (qM os)).get? i = some v;rw [jef fun y hy => ?_]
     . exact h2
     . rw [jbC, jbC, R.vr.hnv, R.vr.hm];unfold slt;rw [if_pos hi];split
       . rename_i hyv;intro e;subst e;exact hc (List.contains_iff_mem.2 (jgs h _ hyv hy))
       . intro e; omega
theorem jeJ : ∀ {args : List IVal} {k : Nat} {vs : AL} {ts : Ts}, VR nv m vs [] [] ts -> k + args.length <= nv -> VR nv m (Yd k args vs) [] [] (ts.fill k args) /\ (ts.fill k args).ds = ts.ds := by
 intro args
 induction args with
 | nil => intro k vs ts R _; exact ⟨R, rfl⟩
 | cons a args ih =>
   intro k vs ts R h;simp only [List.length_cons] at h;exact ih (R.setV (by omega) a) (by omega)
theorem jfS : ∀ {ps : List Nat} {args : List IVal} {vs vs' : AL} {ts : Ts}, VR nv m vs [] [] ts -> (∀ p ∈ ps, p < nv) -> Xd vs ps args = some vs' -> ∃ ts', ts.setAll ps args = some ts' /\ VR nv m vs' [] [] ts' /\ ts'.ds = ts.ds := by
 intro ps
 induction ps with
 | nil =>
   intro args vs vs' ts R _ h
   cases args with
   | nil => cases h; exact ⟨ts, rfl, R, rfl⟩
   | cons a args => cases h
 | cons p ps ih =>
   intro args vs vs' ts R hp h
   cases args with
   | nil => cases h
   | cons a args =>
     obtain ⟨t', h1, h2, h3⟩ := ih (R.setV (hp p (by simp)) a) (fun q hq => hp q (by simp [hq])) h;exact ⟨t', h1, h2, h3⟩
theorem SX.shut {σ τ : List IObj} (h : SX L σ τ) : ∀ {ds : List Nat} {σ' : List IObj}, shut σ ds = some σ' -> ∃ τ', Go.Idl.shut τ ds = some τ' /\ SX L σ' τ' := by
 intro ds
 induction ds generalizing σ τ with
 | nil => intro σ' hs; cases hs; exact ⟨τ, rfl, h⟩
 | cons d ds ih =>
   intro σ' hs;simp only [Go.Idl.shut] at hs ⊢;split at hs
   . rename_i e;simp only [h.defr e];exact ih (h.set (show ObX L .dead .dead from trivial)) hs
   . cases hs
theorem jiH : ∀ {rs : List RV} {vs : AL} {σ σ' : List IObj} {wr wr' : List (Nat × Bool)} {ws : List IVal} {s : St}, jgy rs vs σ wr = some (ws, σ', wr') -> VR nv m vs [] [] s.ts -> SX L σ s.σ -> wr = s.wr ->
   ∃ s', kR rs s = some (ws, s') /\ SX L σ' s'.σ /\ wr' = s'.wr := by
 intro rs
 induction rs with
 | nil =>
   intro vs σ σ' wr wr' ws s h R hS hw;simp only [jgy, zO, zP] at h;obtain ⟨rfl, rfl, rfl⟩ := h;exact ⟨s, rfl, hS, hw⟩
 | cons r rs ih =>
   intro vs σ σ' wr wr' ws s h R hS hw
   cases r with
   | t i =>
     simp only [jgy] at h;split at h
     . rename_i v hv;split at h
       . rename_i ws1 σ1 wr1 h1;cases h;obtain ⟨hi, hv'⟩ := R.var _ _ hv;obtain ⟨s', h2, h3, h4⟩ := ih (s := { s with ts := s.ts.set i (un3 v) }) h1 (R.setV hi _) hS hw;exact ⟨s', by simp only [kR, hv', h2], h3, h4⟩
       . cases h
     . cases h
   | cell i n =>
     simp only [jgy] at h;split at h
     . rename_i id off hv;split at h
       . rename_i cs hc;split at h
         . rename_i v ht;split at h
           . rename_i ws1 σ1 wr1 h1;cases h;obtain ⟨hi, hv'⟩ := R.var _ _ hv;obtain ⟨s', h2, h3, h4⟩ := ih (s := { s with σ := s.σ.set id (.cells (ji cs off (un2 v).cells)), wr := (id, false) :: s.wr }) h1 R (hS.set (show ObX L (.cells _) (.cells _) from rfl)) (by rw [hw]);exact ⟨s', by simp only [kR, hv', hS.load hc, ht, h2], h3, h4⟩
           . cases h
         . cases h
       . cases h
     . cases h
theorem Yn {σ τ : List IObj} {wr : List (Nat × Bool)} (hS : SX L σ τ) {n₀ : Nat} {pan : Bool} {v : IVal} {t1 t2 : Ts} :
   ∃ τ', jC n₀ pan v ⟨t2, τ, wr⟩ = { jC n₀ pan v ⟨t1, σ, wr⟩ with σ := τ' } /\ SX L (jC n₀ pan v ⟨t1, σ, wr⟩).σ τ' := by
 unfold jC;simp only;split
 . exact ⟨_, rfl, hS.take n₀⟩
 . exact ⟨_, rfl, hS⟩
theorem jcz {n₀ : Nat} {res : List RV} {o : Out} (R : XR L nv m ns xs s) (h : jlA n₀ res xs = some o) : ∃ τ', jfL n₀ res s = some { o with σ := τ' } /\ SX L o.σ τ' := by
 simp only [jlA] at h;split at h
 . rename_i σ1 h1;obtain ⟨τ1, h2, hS1⟩ := R.σ.shut h1;split at h
   . rename_i ws σ2 wr2 h3;split at h
     . rename_i hnt;cases h;have hds := R.ds;obtain ⟨s', h4, h5, h6⟩ := jiH (s := { s with σ := τ1, wr := (s.ts.ds.map fun id => (id, false)) ++ s.wr }) h3 (R.vr.none []) hS1 (by rw [hds, R.wr]);obtain ⟨τ', h7, h8⟩ := Yn (n₀ := n₀) (pan := false) (v := jdE ws) (wr := wr2) (t1 := ts0) (t2 := s'.ts) h5;refine ⟨τ', ?_, h8⟩;rw [<- hds] at h2;simp only [jfL, h2, h4];rw [if_pos hnt];obtain ⟨t', σ', w'⟩ := s';simp only at h6;subst h6;exact congrArg some h7
     . cases h
   . cases h
 . cases h
def Sim (F : IProg) (kf : FuncId -> Nat -> List Nat) (n : Nat) : Prop := ∀ {nv m : Nat} {kk : Nat -> List Nat} {c : ICode} {k : Nat} {ns ns' : NS} {lt : List Nat} {xcd : XCode}, xc nv m kk c k ns lt = some (xcd, ns') -> ∀ {xs xs' : XS} {s : St} {e : IExit}, XR LX nv m ns xs s ->
 yV (xprog kf F) n xcd xs = some (e, xs') -> ∃ s', evw F c s = some (e, s') /\ (∃ n1, XR LX nv m n1 xs' s') /\ (e = .normal -> XR LX nv m ns' xs' s')
variable {F : IProg} {kf : FuncId -> Nat -> List Nat}
theorem jll {kk : Nat -> List Nat} {k : Nat} {ns n1 : NS} {lt : List Nat} {c : ICode} {xcd : XCode} (h : xc nv m kk c k ns lt = some (xcd, n1)) : jcx xcd = ZD c := by
 cases c <;> simp only [xc] at h
 case lib p => cases h; rfl
 all_goals
   repeat' split at h
   all_goals first | (cases h; done) | (cases h; rfl)
theorem VR.dsE {vs : AL} {st : List IVal} {ts : Ts} (R : VR nv m vs ns st ts) (ds : List Nat) : VR nv m vs ns st { ts with ds := ds } := ⟨R.pos, R.hnv, R.hm, R.has, R.var, R.stk, R.nd⟩
theorem jdI {n : Nat} (hs : Sim F kf n) {d : DInfo} {c : ICode} {xcd : XCode} {n1 : NS} (hc : xc d.nv d.m (fun _ => []) c 0 [] [] = some (xcd, n1)) (hd : 0 < d.m /\ d.nv + d.m < 2 ^ d.dep) {args : List IVal} {x e : IExit} {xs' : XS} (R : XR LX nv m ns xs s)
   (h : yW (yV (xprog kf F) n) d.nv d.slot xcd args x xs = some (e, xs')) : ∃ s', yI (evw F) d c args x s = some (e, s') /\ XR LX nv m [] xs' s' := by
 unfold yW at h;split at h
 . rename_i mm σ1 hm hsh;obtain ⟨τ1, h2, hS1⟩ := R.σ.shut hsh;split at h
   . rename_i hl;split at h
     . rename_i y xs2 he;have R0 : VR d.nv d.m [] [] [] (Ts.mk d.nv d.m (Tm.empty d.dep) []) := ⟨hd.1, rfl, rfl, fun k hk => (Tm.has_empty _ _ (by have := hd.2; omega)), fun i v h => (by cases h), fun d j h => (by simp at h), fun d d' j j' h => (by simp at h)⟩;obtain ⟨R1, hds⟩ := jeJ (args := args) (k := 0) R0 (by simpa using hl.1);have RX : XR LX d.nv d.m [] ⟨jlz d.slot args mm, [], [], σ1, []⟩ ⟨dTs d args mm, τ1, []⟩ := by
         cases hslot : d.slot with
         | none => exact ⟨by simp only [dTs, hslot, jlz]; exact R1, by simp only [dTs, hslot]; exact hds, hS1, rfl⟩
         | some t =>
           have ht : t < d.nv := by
             have := hl.2;rw [hslot] at this;simpa [jf5] using this
           refine ⟨?_, ?_, hS1, rfl⟩
           . simp only [dTs, hslot, jlz];have := R1.setV ht (jmF mm);cases mm <;> exact this
           . simp only [dTs, hslot]; exact hds
       obtain ⟨s2, h3, ⟨n2, R2⟩, _⟩ := hs hc RX he;rw [<- R.ds] at h2;unfold yI Ve;simp only [hm, h2, h3];split at h
       . cases h
       . rename_i hnp;split at h
         . rename_i q1 q2 hq hdn;cases h;have hd2 : s2.ts.ds = [] := R2.ds.trans hdn
           cases y with
           | panic v => exact absurd rfl (hnp v)
           | _ =>
             simp only [yz] at hq
             first
             | cases hq; done
             | (simp only [yz, hd2]
                refine ⟨{ ts := { s.ts with ds := [] }, σ := s2.σ, wr := s2.wr ++ ((s.ts.ds.map fun id => (id, false)) ++ s.wr) }, by cases d.slot <;> rfl, ⟨(R.vr.none []).dsE [], rfl, R2.σ, ?_⟩⟩;show xs2.wr ++ ((xs.ds.map fun id => (id, false)) ++ xs.wr) = s2.wr ++ ((s.ts.ds.map fun id => (id, false)) ++ s.wr);rw [show xs2.wr = s2.wr from R2.wr, R.ds, R.wr])
         . cases h
     . cases h
   . cases h
 . cases h
theorem jd6 {n : Nat} (hs : Sim F kf n) {fn : IFunc} {fx : XFunc} {kk : Nat -> List Nat} (hf : jlk kk fn = some fx) {args : List IVal} {σ τ : List IObj} {o : Out} (hS : SX LX σ τ) (h : zz (yV (xprog kf F) n) fx args σ = some o) :
   ∃ τ', vW (evw F) fn args τ = some { o with σ := τ' } /\ SX LX o.σ τ' := by
 unfold jlk at hf;split at hf
 . rename_i hd;split at hf
   . rename_i c n1 hc;cases hf;unfold zz at h;unfold vW;simp only [jll hc] at h;split at h
     . rename_i p hp;rw [hp];split at h
       . rename_i v hv;cases h;simp only [<- hS.obCs, <- hS.obMs, hv];exact ⟨τ, rfl, hS⟩
       . cases h
     rename_i hp;rw [hp];split at h
     . rename_i hl;have R0 : VR fn.nv fn.m [] [] [] (Ts.mk fn.nv fn.m (Tm.empty fn.dep) []) := ⟨hd.1, rfl, rfl, fun k hk => (Tm.has_empty _ _ (by have := hd.2; omega)), fun i v h => (by cases h), fun d j h => (by simp at h), fun d d' j j' h => (by simp at h)⟩;obtain ⟨R1, hds⟩ := jeJ (args := args) (k := 0) R0 (by simpa using hl);have RX : XR LX fn.nv fn.m [] ⟨Yd 0 args [], [], [], σ, []⟩ ⟨(Ts.mk fn.nv fn.m (Tm.empty fn.dep) []).fill 0 args, τ, []⟩ := ⟨R1, hds, hS, rfl⟩;split at h
       . rename_i xs1 he;obtain ⟨s1, h1, ⟨n2, R2⟩, _⟩ := hs hc RX he;obtain ⟨τ', h2, h3⟩ := jcz R2 h;exact ⟨τ', by simp only [h1]; rw [<- hS.1]; exact h2, h3⟩
       . rename_i xs1 he;obtain ⟨s1, h1, ⟨n2, R2⟩, _⟩ := hs hc RX he;obtain ⟨τ', h2, h3⟩ := jcz R2 h;exact ⟨τ', by simp only [h1]; rw [<- hS.1]; exact h2, h3⟩
       . rename_i v xs1 he;obtain ⟨s1, h1, ⟨n2, R2⟩, _⟩ := hs hc RX he;split at h
         . rename_i hnil;cases h;obtain ⟨t1, τ1, w1⟩ := s1;have hw : xs1.wr = w1 := R2.wr;subst hw;obtain ⟨τ', h7, h8⟩ := Yn (n₀ := σ.length) (pan := true) (v := v) (wr := xs1.wr) (t1 := ts0) (t2 := t1) R2.σ;refine ⟨τ', ?_, h8⟩;have hd2 : t1.ds = [] := R2.ds.trans hnil;simp only [h1, hd2];rw [<- hS.1];exact congrArg some h7
         . cases h
       . cases h
     . cases h
   . cases hf
 . cases hf
theorem jdk {n : Nat} (hs : Sim F kf n) {id : Nat} {args : List IVal} {σ τ : List IObj} {o : Out} (hS : SX LX σ τ) (h : vT (yV (xprog kf F) n) id args σ = some o) :
   ∃ τ', yi (evw F) id args τ = some { o with σ := τ' } /\ SX LX o.σ τ' := by
 unfold vT at h;unfold yi;split at h
 . rename_i l hl;obtain ⟨l', hl', hst, hps, hpend, nv, m, kk, k1, k2, n1, n2, ha, hb, hvr, hds, hpn⟩ := hS.loop hl;simp only [hl'];split at h
   . rename_i vs h0 hset;rw [hps] at hset;obtain ⟨ts1, hset', hvr1, hds1⟩ := jfS hvr hpn hset;rw [hst] at h0;simp only [h0, hset'];split at h
     . rename_i xs1 he;have R1 : XR LX nv m [] ⟨vs, [], [], σ, []⟩ ⟨ts1, τ, []⟩ := ⟨hvr1, hds1.trans hds, hS, rfl⟩;obtain ⟨s1, he', _, R2⟩ := hs ha R1 he;have R2 := R2 rfl;simp only [he'];split at h
       . rename_i l1 hl1;obtain ⟨l1', hl1', hst1, hps1, hpend1, hrest1⟩ := R2.σ.loop hl1;simp only [hl1'];split at h
         . rename_i hst10;rw [hst1] at hst10;simp only [hst10];split at h
           . rename_i x xs2 he2;have LX1 : LX { l1 with st := 1 } { l1' with st := 1 } := ⟨rfl, hps1, hpend1, hrest1⟩;have R3 : XR LX nv m [] { xs1 with st := [], σ := xs1.σ.set id (.loop { l1 with st := 1 }), wr := (id, false) :: xs1.wr } { s1 with σ := s1.σ.set id (.loop { l1' with st := 1 }), wr := (id, false) :: s1.wr } :=
               ⟨R2.vr.none [], R2.ds, R2.σ.set (show ObX LX (.loop _) (.loop _) from LX1), by rw [R2.wr]⟩
             obtain ⟨s2, he2', ⟨n3, R4⟩, _⟩ := hs hb R3 he2;simp only [he2'];split at h
             . rename_i l2 hl2;obtain ⟨l2', hl2', hst2, hps2, hpend2, hrest2⟩ := R4.σ.loop hl2;simp only [hl2'];obtain ⟨t2, τ2, w2⟩ := s2;have hw : xs2.wr = w2 := R4.wr;subst hw;split at h
               . cases h;have LX2 : LX { l2 with st := 0, pend := none } { l2' with st := 0, pend := none } := ⟨rfl, hps2, rfl, hrest2⟩;obtain ⟨τ', h7, h8⟩ := Yn (n₀ := σ.length) (pan := false) (v := .bool true) (wr := (id, false) :: xs2.wr) (t1 := ts0) (t2 := t2) (R4.σ.set (i := id) (show ObX LX (.loop _) (.loop _) from LX2));refine ⟨τ', ?_, h8⟩;rw [<- hS.1];exact congrArg some h7
               . rename_i hne;split at h
                 . rename_i hj;cases h;have LX2 : LX { l2 with st := 2, pend := some x } { l2' with st := 2, pend := some x } := ⟨rfl, hps2, rfl, hrest2⟩;obtain ⟨τ', h7, h8⟩ := Yn (n₀ := σ.length) (pan := false) (v := .bool false) (wr := (id, false) :: xs2.wr) (t1 := ts0) (t2 := t2) (R4.σ.set (i := id) (show ObX LX (.loop _) (.loop _) from LX2));refine ⟨τ', ?_, h8⟩;rw [<- hS.1]
                   cases x with
                   | normal => exact absurd rfl hne
                   | panic v => cases hj
                   | _ => exact congrArg some h7
                 . cases h
             . cases h
           . cases h
         . cases h
       . cases h
     . cases h
   . cases h
 . cases h
theorem jeb {n : Nat} (hs : Sim F kf n) : CfX LX (xcf (xprog kf F) n) (cfw F) := by
 intro f args σ τ o hS h
 cases f with
 | f f =>
   simp only [xcf, jjl, xprog] at h;rw [jlP];split at h
   . rename_i fx hfx;split at hfx
     . rename_i fn hfn;obtain ⟨τ', h1, h2⟩ := jd6 hs hfx hS h;exact ⟨τ', by first | (rw [hfn]; exact h1) | exact h1, h2⟩
     . cases hfx
   . cases h
 | y id =>
   rw [jnd];exact jdk hs hS h
end Go.Idl
namespace Go.Idl
variable {F : IProg} {kf : FuncId -> Nat -> List Nat}
theorem VR.un {nv m : Nat} {vs : AL} {ns : NS} {st : List IVal} {ts : Ts} (R : VR nv m vs ns st ts) : VR nv m (aun vs) [] [] { ts with t := ts.t.un, ds := [] } := by
 refine ⟨R.pos, R.hnv, R.hm, fun k hk => by show ts.t.un.has k = true; rw [Tm.un_has]; exact R.has k hk, fun i v hv => ?_, fun d j h => (by simp at h), fun d d' j j' h => (by simp at h)⟩;rw [jbO, Option.map_eq_some_iff] at hv;obtain ⟨w, h1, rfl⟩ := hv;obtain ⟨hi, h2⟩ := R.var i w h1;refine ⟨hi, ?_⟩;have hs : ({ ts with t := ts.t.un, ds := [] } : Ts).slot i = ts.slot i := rfl;have h3 : ({ ts with t := ts.t.un, ds := [] } : Ts).get? i = match ts.t.un.get (ts.slot i) with | some (j, v) => bif Nat.beq j i then some v else Option.none | .none => Option.none := rfl
 rw [h3, Tm.un_get];have h4 : ts.get? i = match ts.t.get (ts.slot i) with | some (j, v) => bif Nat.beq j i then some v else Option.none | .none => Option.none := rfl
 rw [h4] at h2
 cases hg : ts.t.get (ts.slot i) with
 | none => rw [hg] at h2; cases h2
 | some p =>
   obtain ⟨j, v⟩ := p;rw [hg] at h2;simp only [cond_eq_ite] at h2 ⊢;split at h2
   . rename_i hb; rw [if_pos hb]; cases h2; rfl
   . cases h2
theorem sim_all : ∀ n, Sim F kf n := by
 intro n
 induction n with
 | zero => intro nv m kk c k ns ns' lt xcd h xs xs' s e R he; cases he
 | succ n ih =>
   have hcf := jeb ih;intro nv m kk c k ns ns' lt xcd h xs xs' s e R he;have he : jL (yV (xprog kf F) n) (xcf (xprog kf F) n) xcd xs = some (e, xs') := he;rw [zQ]
   cases c with
   | skip =>
     cases h; cases he;exact ⟨s, rfl, ⟨_, R⟩, fun _ => R⟩
   | exit id =>
     cases h; cases he;exact ⟨s, rfl, ⟨_, R⟩, fun h => by cases h⟩
   | ret =>
     cases h; cases he;exact ⟨s, rfl, ⟨_, R⟩, fun h => by cases h⟩
   | stuck => cases h; cases he
   | label l =>
     cases h; cases he;exact ⟨s, rfl, ⟨_, R⟩, fun _ => R⟩
   | goto l => cases h; cases he
   | ops l =>
     simp only [xc] at h;split at h
     . rename_i xl n1 hx;split at h
       . cases h;simp only [jL] at he;split at he
         . rename_i x xs1 h1;cases he;obtain ⟨s', h2, h3, h4⟩ := Y4 hcf lt hx R h1;exact ⟨s', h2, h3, h4⟩
         . cases he
       . cases h;simp only [jL] at he;split at he
         . rename_i x xs1 h1;cases he;obtain ⟨s', h2, ⟨n3, h3⟩, h4⟩ := Y4 hcf lt hx R h1;exact ⟨s', h2, ⟨[], h3.clr []⟩, fun _ => h3.clr []⟩
         . cases he
     . cases h; cases he
   | draw l ps =>
     simp only [xc] at h;split at h
     . rename_i xl n1 hx;split at h
       . cases h;simp only [jL] at he;split at he
         . rename_i q xs1 log h1;split at he
           . rename_i hp;obtain ⟨s', h2, h3, n3, h4⟩ := jaq hcf lt hx R h1
             cases q with
             | none =>
               cases he;exact ⟨s', by simp only [evG, h2]; rw [if_pos hp]; rfl, ⟨_, h3 rfl⟩, fun _ => h3 rfl⟩
             | some p =>
               cases he;exact ⟨clrD l s', by simp only [evG, h2]; rw [if_pos hp]; rfl, ⟨_, XR.clrD hx h4⟩, fun h => by cases h⟩
           . cases he
         . cases he
       . cases h;simp only [jL] at he;split at he
         . rename_i q xs1 log h1;split at he
           . rename_i hp;obtain ⟨s', h2, h3, n3, h4⟩ := jaq hcf lt hx R h1
             cases q with
             | none =>
               cases he;exact ⟨s', by simp only [evG, h2]; rw [if_pos hp]; rfl, ⟨[], (h3 rfl).clr []⟩, fun _ => (h3 rfl).clr []⟩
             | some p =>
               cases he;exact ⟨clrD l s', by simp only [evG, h2]; rw [if_pos hp]; rfl, ⟨_, XR.clrD hx h4⟩, fun h => by cases h⟩
           . cases he
         . cases he
     . cases h; cases he
   | seq a b =>
     simp only [xc] at h;split at h
     . rename_i xa n1 ha;split at h
       . rename_i xb n2 hb;cases h;simp only [jL] at he;split at he
         . rename_i xs1 h1;obtain ⟨s1, h2, _, h3⟩ := ih ha R h1;obtain ⟨s2, h4, h5⟩ := ih hb (h3 rfl) he;exact ⟨s2, by simp only [evG, h2]; exact h4, h5⟩
         . rename_i hne;obtain ⟨s1, h2, h3, _⟩ := ih ha R he;refine ⟨s1, ?_, h3, fun e1 => ?_⟩
           . simp only [evG, h2];split
             . rename_i hq; simp only [zO, zP] at hq; exact absurd he (by rw [hq.1]; exact fun h => hne _ h)
             . rfl
           . subst e1; exact absurd he (hne _)
       . cases h
     . cases h
   | lib p => cases h; cases he
   | dfr l x ys d c b =>
     simp only [xc] at h;split at h
     . rename_i xl n1 hx;split at h
       . rename_i y zs n2 hy;split at h
         . rename_i xd nd xb nb hc hb;split at h
           . rename_i hcond;cases h;simp only [jL] at he;unfold jdO at he;split at he
             . rename_i xs1 h1;obtain ⟨s1, h2, _, h3⟩ := Y4 hcf _ hx R h1;have R1 := h3 rfl;split at he
               . rename_i g' us ws vals vs hg;obtain ⟨t1, h4, R2, hds⟩ := jbL hy R1.vr hg;have hga : ∃ ts1, x.get s1.ts = some (.fn (.func g') us ws, ts1) /\ getAll ys ts1 = some (vals, t1) := by
                   simp only [getAll] at h4;split at h4
                   . rename_i v ts1 hv;split at h4
                     . rename_i vs2 ts2 hv2;simp only [zO, zP, List.cons.injEq] at h4;obtain ⟨⟨rfl, rfl⟩, rfl⟩ := h4;exact ⟨ts1, hv, hv2⟩
                     . cases h4
                   . cases h4
                 obtain ⟨ts1, h5, h6⟩ := hga;split at he
                 . rename_i hif;split at he
                   . rename_i y2 xs2 hb2;have R3 : XR LX nv m [] { xs1 with vs := vs, st := [] } { s1 with ts := t1 } := ⟨R2.none [], hds.trans R1.ds, R1.σ, R1.wr⟩;obtain ⟨s2, h7, ⟨n3, R4⟩, _⟩ := ih hb R3 hb2;obtain ⟨s3, h8, R5⟩ := jdI ih hc hcond R4 he;refine ⟨s3, ?_, ⟨[], R5⟩, fun _ => R5⟩;simp only [evG];unfold jgu;simp only [h2, h5, h6];rw [if_pos ⟨hif.1, hif.2.1, by rw [hds, R1.ds]; exact hif.2.2⟩];simp only [h7];exact h8
                   . cases he
                 . cases he
               . cases he
             . cases he
           . cases h; cases he
         . cases h
       . cases h; cases he
     . cases h; cases he
   | cond x a b =>
     simp only [xc] at h;split at h
     . rename_i y n1 hx;split at h
       . rename_i xa na xb nb ha hb;cases h;simp only [jL] at he;split at he
         . rename_i vs1 hg;obtain ⟨t1, h1, _⟩ := J5 hx R.vr hg;obtain ⟨s2, h2, ⟨n3, h3⟩, _⟩ := ih ha (R.clr []) he;exact ⟨s2, by simp only [evG, h1]; exact h2, ⟨n3, h3⟩, fun _ => h3.none⟩
         . rename_i vs1 hg;obtain ⟨t1, h1, _⟩ := J5 hx R.vr hg;obtain ⟨s2, h2, ⟨n3, h3⟩, _⟩ := ih hb (R.clr []) he;exact ⟨s2, by simp only [evG, h1]; exact h2, ⟨n3, h3⟩, fun _ => h3.none⟩
         . cases he
       . cases h
     . cases h; cases he
   | block id b =>
     simp only [xc] at h;split at h
     . rename_i xb n1 hb;cases h;simp only [jL] at he;split at he
       . rename_i i xs1 h1;obtain ⟨s1, h2, ⟨n3, h3⟩, _⟩ := ih hb R h1;split at he
         . rename_i hi;cases he;exact ⟨s1, by simp only [evG, h2]; rw [if_pos hi], ⟨n3, h3⟩, fun _ => h3.none⟩
         . rename_i hi;cases he;exact ⟨s1, by simp only [evG, h2]; rw [if_neg hi], ⟨n3, h3⟩, fun h => by cases h⟩
       . rename_i hne;obtain ⟨s1, h2, ⟨n3, h3⟩, _⟩ := ih hb R he;refine ⟨s1, ?_, ⟨n3, h3⟩, fun _ => h3.none⟩;simp only [evG, h2];split
         . rename_i hq; simp only [zO, zP] at hq; exact absurd he (by rw [hq.1]; exact fun h => hne _ _ h)
         . rfl
     . cases h
   | loop b =>
     have h0 := h;simp only [xc] at h;split at h
     . rename_i xb n1 hb;cases h;simp only [jL] at he;have Rk : XR LX nv m [] { xs with vs := if (kk k).isEmpty then xs.vs else Xm (kk k) xs.vs, st := [] } s := by
         refine ⟨?_, R.ds, R.σ, R.wr⟩;show VR nv m (if (kk k).isEmpty then xs.vs else Xm (kk k) xs.vs) [] [] s.ts;split
         . exact R.vr.none []
         . exact (R.vr.none []).keep _
       split at he
       . rename_i xs1 h1;obtain ⟨s1, h2, _, h3⟩ := ih hb Rk h1;obtain ⟨s2, h4, h5⟩ := ih (nv := nv) (m := m) (kk := kk) (ns := []) (c := .loop b) (k := k) (lt := []) (xcd := .loop (kk k) xb) (ns' := []) (by simp only [xc]; rw [hb]) (h3 rfl).none he;exact ⟨s2, by simp only [evG, h2]; exact h4, h5⟩
       . rename_i hne;obtain ⟨s1, h2, ⟨n3, h3⟩, _⟩ := ih hb Rk he;refine ⟨s1, ?_, ⟨n3, h3⟩, fun _ => h3.none⟩;simp only [evG, h2];split
         . rename_i hq; simp only [zO, zP] at hq; exact absurd he (by rw [hq.1]; exact fun h => hne _ h)
         . rfl
     . cases h
   | scope b =>
     simp only [xc] at h;split at h
     . rename_i xb n1 hb;cases h;simp only [jL] at he;split at he
       . cases he
       . rename_i hne;obtain ⟨s1, h2, h3⟩ := ih hb R he;refine ⟨s1, ?_, h3⟩;simp only [evG, h2];split
         . rename_i hq; simp only [zO, zP] at hq; exact absurd he (by rw [hq.1]; exact fun h => hne _ _ h)
         . rfl
     . cases h
   | rangeF x ps a b =>
     simp only [xc] at h;split at h
     . rename_i y n1 hx;split at h
       . rename_i xa na xb nb ha hb;split at h
         . rename_i hps;cases h;simp only [jL] at he;split at he
           . rename_i g us ws vs1 hg;obtain ⟨t1, h1, _⟩ := J5 hx R.vr hg;have hlen := R.σ.1;have LX0 : LX ⟨0, ts0, ps, .skip, .skip, none, ⟨aun xs.vs, xa, xb⟩⟩ ⟨0, { s.ts with t := s.ts.t.un, ds := [] }, ps, a, b, none, .none⟩ :=
               ⟨rfl, rfl, rfl, nv, m, kk, k, k, na, nb, ha, hb, R.vr.un, rfl, fun p hp => by simpa using List.all_eq_true.1 hps p hp⟩
             have hS0 : SX LX (xs.σ ++ [.defr, .loop ⟨0, ts0, ps, .skip, .skip, none, ⟨aun xs.vs, xa, xb⟩⟩]) (s.σ ++ [.defr, .loop ⟨0, { s.ts with t := s.ts.t.un, ds := [] }, ps, a, b, none, .none⟩]) :=
               R.σ.append ((SX.one (show ObX LX .defr .defr from trivial)).append (SX.one (show ObX LX (.loop _) (.loop _) from LX0)))
             split at he
             . rename_i v0 σ' wr' hcall;obtain ⟨τ', h2, hS2⟩ := hcf _ _ _ _ _ hS0 hcall;rw [hlen] at h2;split at he
               . rename_i l hl;obtain ⟨l', hl', hst, hps', hpend, _⟩ := hS2.loop hl;rw [hlen] at hl';split at he
                 . cases he
                 . rename_i hst1;have R2 : XR LX nv m [] { xs with ds := xs.σ.length :: xs.ds, σ := σ'.set (xs.σ.length + 1) .dead, wr := (xs.σ.length + 1, false) :: (wr' ++ xs.wr) }
                       { ts := { s.ts with ds := s.σ.length :: s.ts.ds }, σ := τ'.set (s.σ.length + 1) .dead, wr := (s.σ.length + 1, false) :: (wr' ++ s.wr) } := by
                     refine ⟨?_, by show s.σ.length :: s.ts.ds = xs.σ.length :: xs.ds; rw [hlen, R.ds], ?_, ?_⟩
                     . have R3 := R.vr.none xs.st;exact ⟨R3.pos, R3.hnv, R3.hm, R3.has, fun i v h => R3.var i v h, R3.stk, R3.nd⟩
                     . show SX LX (σ'.set (xs.σ.length + 1) .dead) (τ'.set (s.σ.length + 1) .dead);rw [<- hlen];exact hS2.set (show ObX LX .dead .dead from trivial)
                     . show (xs.σ.length + 1, false) :: (wr' ++ xs.wr) = (s.σ.length + 1, false) :: (wr' ++ s.wr);rw [hlen, R.wr]
                   rw [hst] at hst1;split at he
                   . rename_i hp;cases he;rw [hp] at hpend;refine ⟨_, ?_, ⟨_, R2⟩, fun _ => R2⟩;simp only [evG, h1, h2, hl'];rw [if_neg hst1];simp only [<- hpend]
                   . rename_i x' hp;split at he
                     . rename_i hj;cases he;rw [hp] at hpend;refine ⟨_, ?_, ⟨_, R2⟩, fun _ => R2⟩;simp only [evG, h1, h2, hl'];rw [if_neg hst1];simp only [<- hpend];rw [if_pos hj]
                     . cases he
               . cases he
             . cases he
           . cases he
         . cases h; cases he
       . cases h
     . cases h; cases he
theorem x_call {n : Nat} {f : Cal} {args : List IVal} {o : Out} (h : xcf (xprog kf F) n f args [] = some o) : ∃ n' σ', cfOf F n' f args [] = some { o with σ := σ' } := by
 obtain ⟨τ', h1, _⟩ := jeb (@sim_all F kf n) f args [] [] o .nil h;obtain ⟨n', h2⟩ := cfw_iff.1 h1;exact ⟨n', τ', h2⟩
end Go.Idl
namespace Go.Idl
def Yc (a b : XEv) : Prop := ∀ c s r, a c s = some r -> b c s = some r
theorem jjn {a b : jo} {o : XOper} {s : XS} {x : Opd} {i : Nat} (h : o.op = .extract x i) : xop a o s = xop b o s := by
 obtain ⟨op, xs, p, d, g⟩ := o;simp only at h;subst h;rfl
theorem jau {cf : jo} {o : XOper} {s : XS} (h : ¬ ∃ x i, o.op = .extract x i) : xop cf o s = match jO o.xs s.vs s.st with
   | some (vals, vs) => match opV cf o.op vals s.σ s.wr with
     | some r => some ⟨r.pan, r.v, { s with vs := vs, σ := r.s.σ, wr := r.s.wr }⟩
     | none => none
   | none => none := by
 obtain ⟨op, xs, p, d, g⟩ := o;cases op <;> first | rfl | exact absurd ⟨_, _, rfl⟩ h
theorem jat {a b : jo} (h : Yb a b) {o : XOper} {s : XS} {r : XRes} (hr : xop a o s = some r) : xop b o s = some r := by
 by_cases he : ∃ x i, o.op = .extract x i
 . obtain ⟨x, i, e⟩ := he;rw [<- jjn (a := a) e]; exact hr
 . rw [jau he] at hr ⊢;split at hr
   . split at hr
     . rename_i r0 h0;have h1 : opV b o.op _ s.σ s.wr = some r0 := yQ h h0;simp only [h1]; exact hr
     . cases hr
   . cases hr
theorem Y3 {a b : jo} (h : Yb a b) : ∀ {l : List XOper} {s : XS} {r : IExit × XS}, X9 a l s = some r -> X9 b l s = some r := by
 intro l
 induction l with
 | nil => intro s r hr; exact hr
 | cons o l ih =>
   intro s r hr;simp only [X9] at hr ⊢;split at hr
   . split at hr
     . rename_i hs; rw [jat h hs]; exact ih hr
     . rename_i hs; rw [jat h hs]; exact hr
     . cases hr
   . exact ih hr
   . cases hr
theorem Xg {a b : jo} (h : Yb a b) {o : XOper} {s : XS} {r : Option IVal × XS × DLog} (hr : kL a o s = some r) : kL b o s = some r := by
 unfold kL at hr ⊢;split at hr
 . split at hr
   . split at hr
     . rename_i hn;rw [if_pos hn];split at hr
       . rename_i hs; rw [jat h hs]; exact hr
       . rename_i hs; rw [jat h hs]; exact hr
       . cases hr
     . cases hr
   . cases hr
 . exact hr
 . cases hr
theorem Xc {a b : jo} (h : Yb a b) : ∀ {l : List (Nat × XOper)} {s : XS} {r : Option (IVal × List (Nat × Bool)) × XS × List (Nat × DLog)}, jJ a l s = some r -> jJ b l s = some r := by
 intro l
 induction l with
 | nil => intro s r hr; exact hr
 | cons o l ih =>
   intro s r hr;simp only [jJ] at hr ⊢;split at hr
   . rename_i hs;rw [Xg h hs];simp only;split at hr
     . rename_i hl; rw [ih hl]; exact hr
     . cases hr
   . rename_i hs;rw [Xg h hs];exact hr
   . cases hr
theorem Xa {a b : XEv} (h : Yc a b) {fn : XFunc} {args : List IVal} {σ : List IObj} {o : Out} (ho : zz a fn args σ = some o) : zz b fn args σ = some o := by
 unfold zz at ho ⊢;split at ho
 . exact ho
 split at ho
 . rename_i hl;rw [if_pos hl];split at ho
   . rename_i e; rw [h _ _ _ e]; exact ho
   . rename_i e; rw [h _ _ _ e]; exact ho
   . rename_i e; rw [h _ _ _ e]; exact ho
   . cases ho
 . cases ho
theorem jaw {a b : XEv} (h : Yc a b) {id : Nat} {args : List IVal} {σ : List IObj} {o : Out} (ho : vT a id args σ = some o) : vT b id args σ = some o := by
 unfold vT at ho ⊢;split at ho
 . split at ho
   . split at ho
     . rename_i e;rw [h _ _ _ e];simp only;split at ho
       . split at ho
         . split at ho
           . rename_i e2; rw [h _ _ _ e2]; exact ho
           . cases ho
         . cases ho
       . cases ho
     . cases ho
   . cases ho
 . cases ho
theorem jgo {F : XProg} {a b : XEv} (h : Yc a b) : Yb (jjl F a) (jjl F b) := by
 intro f args σ o ho
 cases f with
 | f f =>
   simp only [jjl] at ho ⊢;split at ho
   . exact Xa h ho
   . cases ho
 | y id => exact jaw h ho
theorem jas {a b : XEv} (h : Yc a b) {nv : Nat} {slot : Option Nat} {c : XCode} {args : List IVal} {x : IExit} {s : XS} {r : IExit × XS} (hr : yW a nv slot c args x s = some r) : yW b nv slot c args x s = some r := by
 unfold yW at hr ⊢;split at hr
 . split at hr
   . rename_i hif;rw [if_pos hif];split at hr
     . rename_i e; rw [h _ _ _ e]; exact hr
     . cases hr
   . cases hr
 . cases hr
theorem jlj {a b : XEv} {ca cb : jo} (h : Yc a b) (hc : Yb ca cb) {l : List XOper} {x : XOpd} {xs : List XOpd} {g nv : Nat} {slot : Option Nat} {c e : XCode} {s : XS} {r : IExit × XS} (hr : jdO a ca l x xs g nv slot c e s = some r) : jdO b cb l x xs g nv slot c e s = some r := by
 unfold jdO at hr ⊢;split at hr
 . rename_i e1;rw [Y3 hc e1];simp only;split at hr
   . split at hr
     . rename_i hif;rw [if_pos hif];split at hr
       . rename_i e2; rw [h _ _ _ e2]; exact jas h hr
       . cases hr
     . cases hr
   . cases hr
 . cases hr
theorem jcA {a b : XEv} {ca cb : jo} (h : Yc a b) (hc : Yb ca cb) {c : XCode} {s : XS} {r : IExit × XS} (hr : jL a ca c s = some r) : jL b cb c s = some r := by
 cases c with
 | ops keep l =>
   simp only [jL] at hr ⊢;split at hr
   . rename_i e; rw [Y3 hc e]; exact hr
   . cases hr
 | draw keep l pairs =>
   simp only [jL] at hr ⊢;split at hr
   . rename_i e; rw [Xc hc e]; exact hr
   . cases hr
 | seq x y =>
   simp only [jL] at hr ⊢;split at hr
   . rename_i e; rw [h _ _ _ e]; exact h _ _ _ hr
   . rename_i hne;rw [h _ _ _ hr];split
     . rename_i e; exact absurd (by rw [<- e]; exact hr) (hne _)
     . rfl
 | cond x y z =>
   simp only [jL] at hr ⊢;split at hr
   . exact h _ _ _ hr
   . exact h _ _ _ hr
   . cases hr
 | block id y =>
   simp only [jL] at hr ⊢;split at hr
   . rename_i e; rw [h _ _ _ e]; exact hr
   . rename_i hne;rw [h _ _ _ hr];split
     . rename_i e; exact absurd (by rw [<- e]; exact hr) (hne _ _)
     . rfl
 | loop ks y =>
   simp only [jL] at hr ⊢;split at hr
   . rename_i e; rw [h _ _ _ e]; exact h _ _ _ hr
   . rename_i hne;rw [h _ _ _ hr];split
     . rename_i e; exact absurd (by rw [<- e]; exact hr) (hne _)
     . rfl
 | scope y =>
   simp only [jL] at hr ⊢;split at hr
   . cases hr
   . rename_i hne;rw [h _ _ _ hr];split
     . rename_i e; exact absurd (by rw [<- e]; exact hr) (hne _ _)
     . rfl
 | rangeF x ps y z =>
   simp only [jL] at hr ⊢;split at hr
   . split at hr
     . rename_i e; rw [hc _ _ _ _ e]; exact hr
     . cases hr
   . cases hr
 | dfr l x xs g nv slot d b => exact jlj h hc hr
 | _ => exact hr
theorem jdH (F : XProg) : ∀ n, Yc (yV F n) (yV F (n + 1)) := by
 intro n
 induction n with
 | zero => intro c s r h; cases h
 | succ n ih => intro c s r h; exact jcA ih (jgo ih) h
theorem kB (F : XProg) {n m : Nat} (h : n <= m) : Yc (yV F n) (yV F m) := by
 induction h with
 | refl => exact fun _ _ _ h => h
 | step _ ih => exact fun c s r hr => jdH F _ c s r (ih c s r hr)
theorem zp (F : XProg) {n m : Nat} (h : n <= m) : Yb (xcf F n) (xcf F m) := jgo (kB F h)
open Classical in
noncomputable def Xl (F : XProg) : XEv := fun c s =>
 if h : ∃ r n, yV F n c s = some r then some (Classical.choose h) else none
open Classical in
noncomputable def xcfw (F : XProg) : jo := fun f args σ =>
 if h : ∃ o n, xcf F n f args σ = some o then some (Classical.choose h) else none
variable {F : XProg}
theorem xevw_iff {c : XCode} {s : XS} {r : IExit × XS} : Xl F c s = some r ↔ ∃ n, yV F n c s = some r := by
 unfold Xl;split
 . rename_i h;obtain ⟨n, hn⟩ := Classical.choose_spec h
   constructor
   . intro e; cases e; exact ⟨n, hn⟩
   . rintro ⟨m, hm⟩;have h1 := kB F (Nat.le_max_left n m) _ _ _ hn;have h2 := kB F (Nat.le_max_right n m) _ _ _ hm;rw [h1] at h2; exact h2
 . rename_i h
   constructor
   . intro e; cases e
   . rintro ⟨n, hn⟩; exact absurd ⟨r, n, hn⟩ h
theorem xcfw_iff {f : Cal} {args : List IVal} {σ : List IObj} {o : Out} : xcfw F f args σ = some o ↔ ∃ n, xcf F n f args σ = some o := by
 unfold xcfw;split
 . rename_i h;obtain ⟨n, hn⟩ := Classical.choose_spec h
   constructor
   . intro e; cases e; exact ⟨n, hn⟩
   . rintro ⟨m, hm⟩;have h1 := zp F (Nat.le_max_left n m) _ _ _ _ hn;have h2 := zp F (Nat.le_max_right n m) _ _ _ _ hm;rw [h1] at h2; exact h2
 . rename_i h
   constructor
   . intro e; cases e
   . rintro ⟨n, hn⟩; exact absurd ⟨o, n, hn⟩ h
theorem YY (n : Nat) : Yc (yV F n) (Xl F) := fun _ _ _ h => xevw_iff.2 ⟨n, h⟩
theorem jli (n : Nat) : Yb (xcf F n) (xcfw F) := fun _ _ _ _ h => xcfw_iff.2 ⟨n, h⟩
theorem jah {o : IOp} {s : St} {r : Res} (h : ja (xcfw F) o s = some r) : ∃ n, ja (xcf F n) o s = some r := by
 have hcall : ∀ {f vs ts} , stepCall (xcfw F) f vs ts s = some r -> ∃ n, stepCall (xcf F n) f vs ts s = some r := by
   intro f vs ts h;unfold stepCall at h;split at h
   . rename_i o ho;obtain ⟨n, hn⟩ := xcfw_iff.1 ho;exact ⟨n, by unfold stepCall; rw [hn]; exact h⟩
   . cases h
 cases o
 case call f xs =>
   simp only [ja] at h ⊢;split at h
   . exact hcall h
   . cases h
 case callp f xs =>
   simp only [ja] at h ⊢;split at h
   . split at h
     . rename_i hn;split at h
       . rename_i ho;obtain ⟨n, hn'⟩ := xcfw_iff.1 ho;exact ⟨n, by rw [if_pos hn, hn']; exact h⟩
       . cases h
     . cases h
   . cases h
 case callv f xs =>
   simp only [ja] at h ⊢;split at h
   . split at h
     . exact hcall h
     . cases h
   . split at h
     . exact hcall h
     . cases h
   . cases h
 case inv tab x xs =>
   simp only [ja] at h ⊢;split at h
   . split at h
     . split at h
       . split at h
         . exact hcall h
         . cases h
       . cases h
     . cases h
   . cases h
 all_goals exact ⟨0, h⟩
theorem Q5 {o : XOper} {s : XS} {r : XRes} (h : xop (xcfw F) o s = some r) : ∃ n, xop (xcf F n) o s = some r := by
 by_cases he : ∃ x i, o.op = .extract x i
 . obtain ⟨x, i, e⟩ := he;exact ⟨0, by rw [jjn (b := xcfw F) e]; exact h⟩
 . rw [jau he] at h;split at h
   . rename_i hg;split at h
     . rename_i r0 h0;obtain ⟨n, hn⟩ := jah h0;refine ⟨n, ?_⟩;have h1 : opV (xcf F n) o.op _ s.σ s.wr = some r0 := hn;rw [jau he, hg];simp only [h1]; exact h
     . cases h
   . cases h
theorem jax : ∀ {l : List XOper} {s : XS} {r : IExit × XS}, X9 (xcfw F) l s = some r -> ∃ n, X9 (xcf F n) l s = some r := by
 intro l
 induction l with
 | nil => intro s r h; exact ⟨0, h⟩
 | cons o l ih =>
   intro s r h;simp only [X9] at h ⊢;split at h
   . split at h
     . rename_i hs;obtain ⟨n, hn⟩ := Q5 hs;obtain ⟨m, hm⟩ := ih h;refine ⟨max n m, ?_⟩;rw [jat (zp F (Nat.le_max_left n m)) hn];exact Y3 (zp F (Nat.le_max_right n m)) hm
     . rename_i hs;obtain ⟨n, hn⟩ := Q5 hs;exact ⟨n, by rw [hn]; exact h⟩
     . cases h
   . exact ih h
   . cases h
theorem Xf {o : XOper} {s : XS} {r : Option IVal × XS × DLog} (h : kL (xcfw F) o s = some r) : ∃ n, kL (xcf F n) o s = some r := by
 unfold kL at h;split at h
 . rename_i hw;split at h
   . rename_i hg;split at h
     . rename_i hno;split at h
       . rename_i hs;obtain ⟨n, hn⟩ := Q5 hs;refine ⟨n, ?_⟩;unfold kL;rw [hw];simp only;rw [hg];simp only;rw [if_pos hno, hn];exact h
       . rename_i hs;obtain ⟨n, hn⟩ := Q5 hs;refine ⟨n, ?_⟩;unfold kL;rw [hw];simp only;rw [hg];simp only;rw [if_pos hno, hn];exact h
       . cases h
     . cases h
   . cases h
 . rename_i hw; exact ⟨0, by unfold kL; rw [hw]; exact h⟩
 . cases h
theorem Y2 : ∀ {l : List (Nat × XOper)} {s : XS} {r : Option (IVal × List (Nat × Bool)) × XS × List (Nat × DLog)}, jJ (xcfw F) l s = some r -> ∃ n, jJ (xcf F n) l s = some r := by
 intro l
 induction l with
 | nil => intro s r h; exact ⟨0, h⟩
 | cons o l ih =>
   intro s r h;simp only [jJ] at h ⊢;split at h
   . rename_i hs;obtain ⟨n, hn⟩ := Xf hs;split at h
     . rename_i hl;obtain ⟨m, hm⟩ := ih hl;refine ⟨max n m, ?_⟩;rw [Xg (zp F (Nat.le_max_left n m)) hn];simp only;rw [Xc (zp F (Nat.le_max_right n m)) hm];exact h
     . cases h
   . rename_i hs;obtain ⟨n, hn⟩ := Xf hs;exact ⟨n, by rw [hn]; exact h⟩
   . cases h
theorem jbI {fn : XFunc} {args : List IVal} {σ : List IObj} {o : Out} (h : zz (Xl F) fn args σ = some o) : ∃ n, zz (yV F n) fn args σ = some o := by
 unfold zz at h ⊢;split at h
 . exact ⟨0, h⟩
 split at h
 . rename_i hl;split at h
   . rename_i e; obtain ⟨n, hn⟩ := xevw_iff.1 e; exact ⟨n, by rw [if_pos hl, hn]; exact h⟩
   . rename_i e; obtain ⟨n, hn⟩ := xevw_iff.1 e; exact ⟨n, by rw [if_pos hl, hn]; exact h⟩
   . rename_i e; obtain ⟨n, hn⟩ := xevw_iff.1 e; exact ⟨n, by rw [if_pos hl, hn]; exact h⟩
   . cases h
 . cases h
theorem jbM {id : Nat} {args : List IVal} {σ : List IObj} {o : Out} (h : vT (Xl F) id args σ = some o) : ∃ n, vT (yV F n) id args σ = some o := by
 unfold vT at h ⊢;split at h
 . split at h
   . split at h
     . rename_i e;obtain ⟨n, hn⟩ := xevw_iff.1 e;split at h
       . rename_i hl;split at h
         . rename_i hst;split at h
           . rename_i e2;obtain ⟨m, hm⟩ := xevw_iff.1 e2;refine ⟨max n m, ?_⟩;rw [kB F (Nat.le_max_left n m) _ _ _ hn];simp only [hl, hst];rw [kB F (Nat.le_max_right n m) _ _ _ hm];exact h
           . cases h
         . cases h
       . cases h
     . cases h
   . cases h
 . cases h
theorem jbJ {nv : Nat} {slot : Option Nat} {c : XCode} {args : List IVal} {x : IExit} {s : XS} {r : IExit × XS} (h : yW (Xl F) nv slot c args x s = some r) : ∃ n, yW (yV F n) nv slot c args x s = some r := by
 unfold yW at h ⊢;split at h
 . split at h
   . rename_i hif;split at h
     . rename_i e; obtain ⟨n, hn⟩ := xevw_iff.1 e; exact ⟨n, by simp only [hn]; rw [if_pos hif]; exact h⟩
     . cases h
   . cases h
 . cases h
theorem jgp {l : List XOper} {x : XOpd} {xs : List XOpd} {g nv : Nat} {slot : Option Nat} {c b : XCode} {s : XS} {r : IExit × XS} (h : jdO (Xl F) (xcfw F) l x xs g nv slot c b s = some r) : ∃ n, jdO (yV F n) (xcf F n) l x xs g nv slot c b s = some r := by
 unfold jdO at h;split at h
 . rename_i e1;split at h
   . rename_i e2;split at h
     . rename_i hif;split at h
       . rename_i e4;obtain ⟨n1, h1⟩ := jax e1;obtain ⟨n2, h2⟩ := xevw_iff.1 e4;obtain ⟨n3, h3⟩ := jbJ h;refine ⟨max n1 (max n2 n3), ?_⟩;unfold jdO;rw [Y3 (zp F (Nat.le_max_left _ _)) h1];simp only [e2];rw [if_pos hif, kB F (Nat.le_trans (Nat.le_max_left n2 n3) (Nat.le_max_right _ _)) _ _ _ h2];exact jas (kB F (Nat.le_trans (Nat.le_max_right n2 n3) (Nat.le_max_right _ _))) h3
       . cases h
     . cases h
   . cases h
 . cases h
theorem jdJ {c : XCode} {s : XS} {r : IExit × XS} (h : jL (Xl F) (xcfw F) c s = some r) : ∃ n, jL (yV F n) (xcf F n) c s = some r := by
 cases c with
 | ops keep l =>
   simp only [jL] at h ⊢;split at h
   . rename_i e; obtain ⟨n, hn⟩ := jax e; exact ⟨n, by rw [hn]; exact h⟩
   . cases h
 | draw keep l pairs =>
   simp only [jL] at h ⊢;split at h
   . rename_i e; obtain ⟨n, hn⟩ := Y2 e; exact ⟨n, by rw [hn]; exact h⟩
   . cases h
 | seq x y =>
   simp only [jL] at h ⊢;split at h
   . rename_i e;obtain ⟨n, hn⟩ := xevw_iff.1 e;obtain ⟨m, hm⟩ := xevw_iff.1 h;exact ⟨max n m, by rw [kB F (Nat.le_max_left n m) _ _ _ hn]; exact kB F (Nat.le_max_right n m) _ _ _ hm⟩
   . rename_i hne;obtain ⟨n, hn⟩ := xevw_iff.1 h;refine ⟨n, ?_⟩;rw [hn];split
     . rename_i e; exact absurd (by rw [<- e]; exact h) (hne _)
     . rfl
 | cond x y z =>
   simp only [jL] at h ⊢;split at h
   . exact xevw_iff.1 h
   . exact xevw_iff.1 h
   . cases h
 | block id y =>
   simp only [jL] at h ⊢;split at h
   . rename_i e; obtain ⟨n, hn⟩ := xevw_iff.1 e; exact ⟨n, by rw [hn]; exact h⟩
   . rename_i hne;obtain ⟨n, hn⟩ := xevw_iff.1 h;refine ⟨n, ?_⟩;rw [hn];split
     . rename_i e; exact absurd (by rw [<- e]; exact h) (hne _ _)
     . rfl
 | loop ks y =>
   simp only [jL] at h ⊢;split at h
   . rename_i e;obtain ⟨n, hn⟩ := xevw_iff.1 e;obtain ⟨m, hm⟩ := xevw_iff.1 h;exact ⟨max n m, by rw [kB F (Nat.le_max_left n m) _ _ _ hn]; exact kB F (Nat.le_max_right n m) _ _ _ hm⟩
   . rename_i hne;obtain ⟨n, hn⟩ := xevw_iff.1 h;refine ⟨n, ?_⟩;rw [hn];split
     . rename_i e; exact absurd (by rw [<- e]; exact h) (hne _)
     . rfl
 | scope y =>
   simp only [jL] at h ⊢;split at h
   . cases h
   . rename_i hne;obtain ⟨n, hn⟩ := xevw_iff.1 h;refine ⟨n, ?_⟩;rw [hn];split
     . rename_i e; exact absurd (by rw [<- e]; exact h) (hne _ _)
     . rfl
 | rangeF x ps y z =>
   simp only [jL] at h ⊢;split at h
   . split at h
     . rename_i e; obtain ⟨n, hn⟩ := xcfw_iff.1 e; exact ⟨n, by rw [hn]; exact h⟩
     . cases h
   . cases h
 | dfr l x xs g nv slot d b => exact jgp h
 | _ => exact ⟨0, h⟩
theorem jgq (F : XProg) (c : XCode) (s : XS) : Xl F c s = jL (Xl F) (xcfw F) c s := by
 refine K9 fun r => ?_
 constructor
 . intro h;obtain ⟨n, hn⟩ := xevw_iff.1 h
   cases n with
   | zero => cases hn
   | succ n => exact jcA (YY n) (jli n) hn
 . intro h;obtain ⟨n, hn⟩ := jdJ h;exact xevw_iff.2 ⟨n + 1, hn⟩
theorem jjm (F : XProg) (f : FuncId) (args : List IVal) (σ : List IObj) : xcfw F (.f f) args σ = match F f with
   | some fn => zz (Xl F) fn args σ
   | none => none := by
 refine K9 fun r => ?_;rw [xcfw_iff]
 constructor
 . rintro ⟨n, hn⟩;simp only [xcf, jjl] at hn;split at hn
   . rename_i e; first | (rw [e]; exact Xa (YY n) hn) | exact Xa (YY n) hn
   . cases hn
 . intro h;split at h
   . rename_i e;obtain ⟨n, hn⟩ := jbI h;exact ⟨n, by simp only [xcf, jjl, e]; exact hn⟩
   . cases h
theorem jmV (F : XProg) (id : Nat) (args : List IVal) (σ : List IObj) : xcfw F (.y id) args σ = vT (Xl F) id args σ := by
 refine K9 fun r => ?_;rw [xcfw_iff]
 constructor
 . rintro ⟨n, hn⟩; exact jaw (YY n) hn
 . intro h; obtain ⟨n, hn⟩ := jbM h; exact ⟨n, hn⟩
end Go.Idl
