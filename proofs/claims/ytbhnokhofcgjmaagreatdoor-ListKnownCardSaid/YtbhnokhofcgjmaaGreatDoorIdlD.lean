/- The ideal machine and its evaluators, part 4; no conditions. -/
import Derived.Laws.LoneSync
import Derived.Laws.RangeString
import Derived.Laws.Externs
import Derived.MapKept
import Derived.Laws.IdiomStrings
import Derived.Laws.Tables
import Derived.Test.YtbhnokhofcgjmaaGreatDoorIdlC
set_option linter.unusedSectionVars false
set_option linter.unusedVariables false
set_option linter.unusedSimpArgs false
namespace Go.Idl
open Go.Extern Go.Extern.Rtype
variable [Globs]
variable {P : Program} {o : Oper} {a : Act} {g : Gh} {O : List Nat} {w : World} {s : St} {res : Res} {cf : jo}
def jh2 (P : Program) (t : TypeId) (ptr : Bool) : Bool :=
 match P.underlying t with
 | some (.pointer _) => ptr
 | some _ => !ptr
 | none => false
theorem J4 {t : TypeId} {ptr : Bool} {v : Value} {wr : Option String} (h : jh2 P t ptr = true) : (receiverAt t (.val v) ptr wr).run P w = .ok v w := by
 unfold jh2 at h;split at h
 . rename_i e hu;subst h;simp [receiverAt, run_underlying hu, Result.andThen, Place.get]
 . rename_i d hne hu
   cases ptr with
   | true => simp at h
   | false =>
     simp only [receiverAt, Sem.run_bind, run_underlying hu, Result.andThen]; rfl
 . cases h
def VI (P : Program) (t : TypeId) (name : String) (f : FuncId) (rk : RecvK) : Bool :=
 match P.info? t with
 | some i => match i.methods.find? (fun m => m.name == name) with
   | some m => match m.func with
     | some (f', ptr) => f == f' && (match rk, m.path.toList with
       | .same, [] => jh2 P t ptr
       | .fld off n, [s] => !s.deref && (match P.underlying s.struct with
         | some (.struct fs) => match fs[s.index]? with
           | some fd => fd.offset == off && (tyN P fd.type n && jh2 P fd.type ptr)
           | none => false
         | _ => false)
       | _, _ => false)
     | none => false
   | none => false
 | none => false
theorem XZ {fuel : Nat} {t : TypeId} {name : String} {f : FuncId} {rk : RecvK} {x y : IVal} {v : Value} (h : VI P t name f rk = true) (hV : V g x v) (hf : yX x) (hy : ZW rk x = some y) :
   ∃ u, (Go.method (fuel + 1) t v name).run P w = .ok (f, u) w /\ V g y u /\ jA y u = [] := by
 unfold VI at h;split at h
 . rename_i i hi;split at h
   . rename_i m hm;split at h
     . rename_i f' ptr hfn;simp only [zA, beq_iff_eq] at h;obtain ⟨rfl, h⟩ := h;split at h
       . rename_i hp;simp only [ZW, zO] at hy;subst hy;refine ⟨v, ?_, hV, jK hf v⟩;simp only [Go.method, typeInfo, Sem.run_bind, run_program, Result.andThen, hi, Sem.run_pure, hm, hp, follow, hfn, J4 h]
       . rename_i off n st hp;simp only [zA, Bool.not_eq_true'] at h;obtain ⟨hd, h⟩ := h;split at h
         . rename_i fs hs;split at h
           . rename_i fd hfd;simp only [zA, beq_iff_eq] at h;obtain ⟨ho, hT, hr⟩ := h;subst ho
             cases x with
             | agg cs =>
               simp only [ZW] at hy;obtain ⟨vs, rfl, hl', hv, hc⟩ := hV.agg_inv;obtain ⟨u, hu, hVu, hou⟩ := KI (P := P) (w := w) hT hl' hv hc hy;refine ⟨u, ?_, hVu, ?_⟩
               . simp only [Go.method, typeInfo, Sem.run_bind, run_program, Result.andThen, hi, Sem.run_pure, hm, hp, follow, run_underlying hs, hfd, hd, Bool.false_eq_true, if_false, hu, hfn, J4 hr]
               . have := jK hf (.agg vs);simp only [jA, zB] at this;rw [this] at hou;exact List.sublist_nil.1 hou
             | _ => simp [ZW] at hy
           . cases h
         . cases h
       . cases h
     . cases h
   . cases h
 . cases h
theorem Vm (x : Value) (us : Array Value) : (#[x] ++ us).extract 1 (#[x] ++ us).size = us := by
 apply Array.ext';simp
def jc5 (P : Program) (f : FuncId) (k : ExtK) : Bool := match P.funcs[f]? with
 | some fn => fn.name == jeE k && (fn.origin == "" && (fn.body.isNone && Vk P k))
 | none => false
theorem jfR {f : FuncId} {k : ExtK} (h : jc5 P f k = true) {vs : List IVal} {us : Array Value} (hl : vs.length = us.toList.length) (hv : ∀ (i : Nat) x u, vs[i]? = some x -> us.toList[i]? = some u -> V g x u)
   (hm : ∀ b o c, g.M b o = some c -> w.cell? ⟨b, o, none⟩ = some c) {v : IVal} (he : jl2 k vs = some v) : ∃ u, (callFunc f us).run P w = .ok (.value u) w /\ V g v u /\ jA v u = [] := by
 unfold jc5 at h;split at h
 . rename_i fn hf;simp only [zA, beq_iff_eq] at h;obtain ⟨h1, h2, h3, h4⟩ := h;obtain ⟨e1, e2⟩ := jg0 h1 h2;obtain ⟨u, q1, q2, q3⟩ := jjW (w := w) h4 hl hv hm he;refine ⟨u, ?_, q2, q3⟩;rw [run_callFunc_extern hf (by rw [h1]; cases k <;> first | rfl | (rename_i a; cases a <;> rfl)) h3 e1 e2];have e : us.toList.toArray = us := by simp
   rw [e] at q1;rw [q1]; rfl
 . cases h
theorem jkK {k : ExtK} {c : Call} {f : FuncId} (hop : o.op = .call c) (hc : c.callee = .value (.func f)) (h : jc5 P f k = true) : yC P o a (.ext k) c.args.toList := by
 intro g w vs v hl hv hm he;obtain ⟨u, q1, q2, q3⟩ := jfR (w := w) (us := c.args.map a.eval) h (by simpa using hl) (fun i x u hx hu => by
   simp only [Array.toList_map, List.getElem?_map, Option.map_eq_some_iff] at hu;obtain ⟨r, hr, rfl⟩ := hu;exact hv i x r hx hr) hm he
 refine ⟨u, ?_, q2, q3⟩;simp only [execOp, hop, resolve, hc, Act.eval, Deferred.ofValue, Sem.run_bind, Sem.run_pure, Result.andThen, invoke];simpa using q1
theorem jhQ {tab : List (TypeId × ExtK × RecvK)} {c : Call} {r : Operand} {name : String} (hop : o.op = .call c) (hc : c.callee = .invoke r name)
   (h : ∀ p ∈ tab, ∃ f, VI P p.1 name f p.2.2 = true /\ jc5 P f p.2.1 = true) : yC P o a (.invX tab) (r :: c.args.toList) := by
 intro g w vs v hl hv hm he
 cases vs with
 | nil => simp [Y6] at he
 | cons x0 vs =>
 cases x0 with
 | iface t x =>
   simp only [Y6] at he;split at he
   . rename_i t' k rk hfind;split at he
     . rename_i y hy;obtain ⟨hmem, ht⟩ := vC hfind;have := eq_of_beq ht; subst this;obtain ⟨f, hr, hx⟩ := h _ hmem;obtain ⟨xv, hxv, hVx, hfx⟩ := iface_inv (hv 0 _ r rfl rfl);obtain ⟨u, q1, q2, q3⟩ := XZ (w := w) (fuel := P.types.size + (Made.depth - 1)) hr hVx hfx hy;obtain ⟨u', p1, p2, p3⟩ := jfR (w := w) (us := #[u] ++ c.args.map a.eval) hx (by simpa using hl) (fun i x u' hx hu => by
         cases i with
         | zero => simp at hx hu; subst hx hu; exact q2
         | succ i =>
           simp only [List.getElem?_cons_succ] at hx;have hu' : (c.args.toList.map a.eval)[i]? = some u' := by simpa using hu
           simp only [List.getElem?_map, Option.map_eq_some_iff] at hu';obtain ⟨r', hr', rfl⟩ := hu';exact hv (i + 1) x r' (by rw [List.getElem?_cons_succ]; exact hx) (by rw [List.getElem?_cons_succ]; exact hr')) hm he
       refine ⟨u', ?_, p2, p3⟩;have hfu : P.types.size + Made.depth = P.types.size + (Made.depth - 1) + 1 := rfl;have harg : (#[Value.iface t' xv] ++ c.args.map a.eval)[0]? = some (.iface t' xv) := by rw [Array.getElem?_append_left (by simp)]; rfl
       simp only [execOp, hop, resolve, hc, Sem.run_bind, Sem.run_pure, Result.andThen, invoke, hxv];rw [harg];simp only [Vm, callMethod, Sem.run_bind, run_program, Result.andThen, hfu, q1];exact p1
     . cases he
   . cases he
 | _ => simp [Y6] at he
end Go.Idl
namespace Go.Idl
open Go.Extern Go.Extern.Rtype
variable [Globs]
variable {P : Program} {o : Oper} {a : Act} {g : Gh} {O : List Nat} {w : World} {s : St} {res : Res} {cf : jo}
theorem jfp {tab : List (TypeId × FuncId × RecvK)} {c : Call} {r : Operand} {name : String} {x : Opd} {xs : List Opd} {C0 : jaz} (hcf : CallOK P C0 cf) (hC : g.C = C0) (hop : o.op = .call c) (hc : c.callee = .invoke r name)
   (hr : jl x r = true) (hx : jD xs c.args.toList = true) (ht : ∀ p ∈ tab, VI P p.1 name p.2.1 p.2.2 = true) (hs : ja cf (.inv tab x xs) s = some res)
   (hl : WT s.ts a.tmps) (hR : R g O (s.ts.roots a.tmps) s.σ w) : OpRes P o a g O w s res := by
 simp only [ja] at hs;split at hs
 . rename_i t v ts h;split at hs
   . rename_i t' f rk hfind;split at hs
     . rename_i y hy;split at hs
       . rename_i vs ts' h';obtain ⟨hmem, he⟩ := vC hfind;have := eq_of_beq he; subst this;obtain ⟨h1, h2⟩ := jk (l := []) hr h hl hR;obtain ⟨h3, h4, h5⟩ := jX (l := [(.iface t' v, a.eval r)]) hx h' h2 h1;have hV : V g (.iface t' v) (a.eval r) := h3.vals (.iface t' v, a.eval r) (by simp);obtain ⟨xv, hxv, hVx, hfx⟩ := iface_inv hV;obtain ⟨u, q1, q2, q3⟩ := XZ (w := w) (fuel := P.types.size + (Made.depth - 1)) (ht _ hmem) hVx hfx hy;have hbase : R g O (vs.zip (c.args.toList.map a.eval) ++ ts'.roots a.tmps) s.σ w := by
           have hp : (vs.zip (c.args.toList.map a.eval) ++ ([(IVal.iface t' v, a.eval r)] ++ ts'.roots a.tmps)).Perm ((IVal.iface t' v, a.eval r) :: (vs.zip (c.args.toList.map a.eval) ++ ts'.roots a.tmps)) := List.perm_middle;exact (h3.perm hp).drop
         refine K7 (rargs := #[u] ++ c.args.map a.eval) hcf hC (fun c' h => by rw [hop] at h; cases h) (fun hf => ?_) (by simp at h5 ⊢; omega) ?_ h4 hs
         . obtain ⟨fn, f1, f2, f3⟩ := hf;have hfu : P.types.size + Made.depth = P.types.size + (Made.depth - 1) + 1 := rfl;have harg : (#[Value.iface t' xv] ++ c.args.map a.eval)[0]? = some (.iface t' xv) := by rw [Array.getElem?_append_left (by simp)]; rfl
           simp only [execOp, hop, resolve, hc, Sem.run_bind, Sem.run_pure, Result.andThen, invoke, hxv];rw [harg];simp only [Vm, callMethod, Sem.run_bind, run_program, Result.andThen, hfu, q1];simp [callFunc, f1, f2, f3]
         . have e : (y :: vs).zip (#[u] ++ c.args.map a.eval).toList = (y, u) :: vs.zip (c.args.toList.map a.eval) := by simp
           rw [e];exact hbase.push q2 q3
       . cases hs
     . cases hs
   . cases hs
 . cases hs
def jka (P : Program) (f : FuncId) (G : Nat) (tab : List (TypeId × Nat)) : Bool := match P.funcs[f]? with
 | some fn => fn.name == "internal/reflectlite.ValueOf" && (fn.origin == "" && (fn.body.isNone && (G == P.globals.size && tab.all fun p => Xr P p.1 == some p.2)))
 | none => false
theorem jiB {fn : Func} (h : fn.name = "internal/reflectlite.ValueOf") (ho : fn.origin = "") : Extern.findNext fn = none /\ Extern.find fn = some (fun args => ReflectliteValue.unpack (args.getD 0 (.tuple #[]))) := by
 unfold Extern.findNext Extern.find;rw [h, ho];exact ⟨by kernel_rfl, by kernel_rfl⟩
theorem jk1 {G : Nat} {tab : List (TypeId × Nat)} {c : Call} {f : FuncId} {r : Operand} {x : Opd} (hop : o.op = .call c) (hc : c.callee = .value (.func f)) (ha : c.args = #[r]) (hf : jka P f G tab = true) (hx : jl x r = true)
   (hs : ja cf (.vOf G tab x) s = some res) (hl : WT s.ts a.tmps) (hR : R g O (s.ts.roots a.tmps) s.σ w) : SimV P o a g O w s res := by
 unfold jka at hf;split at hf
 . rename_i fn hfn;simp only [zA, beq_iff_eq, List.all_eq_true] at hf;obtain ⟨f1, f2, f3, f4, f5⟩ := hf;obtain ⟨e1, e2⟩ := jiB f1 f2;simp only [ja] at hs;split at hs
   . rename_i t v ts h;split at hs
     . rename_i t' k hfind;split at hs
       . rename_i hcell;simp only [rv, zO] at hs;subst hs;obtain ⟨hmem, he⟩ := vC hfind;have := eq_of_beq he; subst this;have hk := f5 _ hmem;obtain ⟨h1, h2⟩ := jk (l := []) hx h hl hR;obtain ⟨xv, hxv, hVx, hfx⟩ := iface_inv h1.head;subst f4;have hrun : (execOp a.eval o).run P w = .ok (.value (.agg #[.pointer (some ⟨P.globals.size, t', none⟩), .pointer (some ⟨w.heap.size, 0, none⟩), .int .u64 (k + 128 : Nat)])) (w.alloc (.cells xv.cells t')) := by
           have : (callFunc f #[.iface t' xv]).run P w = .ok (.value (.agg #[.pointer (some ⟨P.globals.size, t', none⟩), .pointer (some ⟨w.heap.size, 0, none⟩), .int .u64 (k + 128 : Nat)])) (w.alloc (.cells xv.cells t')) := by
             rw [run_callFunc_extern hfn (by rw [f1]; rfl) f3 e1 e2];show ((ReflectliteValue.unpack (.iface t' xv)).run P w).andThen _ = _;simp [ReflectliteValue.unpack, ReflectliteValue.mk, yO, Qe, Q0 hk, Result.andThen, ReflectliteValue.flagIndir]
           simp only [execOp, hop, resolve, hc, Act.eval, Deferred.ofValue, Sem.run_bind, Sem.run_pure, Result.andThen, invoke, ha];have e : (#[] : Array Value) ++ (#[r].map a.eval) ++ #[] = #[.iface t' xv] := by simp [<- hxv]
           simpa [<- hxv] using this
         obtain ⟨q1, q2⟩ := hVx.cells;obtain ⟨g', hR', hg, hι⟩ := h1.drop.newPv (cs := v.cells.map un1) (vs := xv.cells) (rf := ext v.cells) (el := t') (by simpa using q1) (fun i y u hy hu => by
             simp only [List.getElem?_map, Option.map_eq_some_iff] at hy;obtain ⟨y', hy', rfl⟩ := hy;exact (q2 i y' u hy' hu).un1) (fun y hy => by
             simp only [List.mem_map] at hy;obtain ⟨y', hy', rfl⟩ := hy;exact ⟨zo y', by rw [qQ]; exact List.all_eq_true.1 hcell y' hy'⟩) (fun hrf y hy => by
             simp only [List.mem_map] at hy;obtain ⟨y', hy', rfl⟩ := hy;simp only [ext, Bool.not_eq_false', List.all_eq_true] at hrf;have := hrf y' hy';have hcell := List.all_eq_true.1 hcell y' hy';cases y' <;> simp_all [nr2, nr1, nr0, un1, IVal.isCell])
         refine ⟨rfl, _, _, _, hrun, rfl, g', O, [], hg, ?_, h2, rfl, Keep.refl _⟩;refine hR'.swap (fun hVp => ?_) (List.nil_sublist _);refine .agg _ _ rfl (fun i x v hx hv' => ?_) (by simp [jls, IVal.isCell])
         match i with
         | 0 => simp at hx hv'; subst hx hv'; exact .prim _ rfl
         | 1 => simp at hx hv'; subst hx hv'; exact hVp
         | 2 => simp at hx hv'; subst hx hv'; exact .int _ _
         | i + 3 => simp at hx
       . cases hs
     . cases hs
   . cases hs
 . cases hf
theorem R.putAt {l : jH} {σ : List IObj} {v : IVal} {uv : Value} {id off b : Nat} {cs : List IVal} (hroot : R g O ((v, uv) :: l) σ w) (hι : g.ι[id]? = some (Blk.bk b)) (hσ : σ[id]? = some (.cells cs)) (vB : off + v.cells.length <= cs.length) (hcell : v.cells.all IVal.isCell = true) :
   ∃ w', (storeCells ⟨b, off, none⟩ uv.cells.toList).run P w = .ok () w' /\ R g O ((ju, undef) :: l) (σ.set id (.cells (ji cs off v.cells))) w' /\ Grow O g w O g w' /\ Keep σ (σ.set id (.cells (ji cs off v.cells))) [(id, !(v.cells.all nr1))] := by
 obtain ⟨c, el, hh, hsz, hc⟩ := hroot.objs id b _ hι hσ;have hV := hroot.head;obtain ⟨p1, p2⟩ := hV.cells;have hun : uv.cells.toList.length = v.cells.length := by rw [Array.length_toList, <- p1]
 have hput' : off + uv.cells.toList.length <= c.toList.length := by
   rw [hun];have h0 : c.toList.length = c.size := by simp
   omega
 have hones : ∀ u ∈ uv.cells.toList, u.oneCell' = true := by
   intro u hu;obtain ⟨j, hj⟩ := jx hu;have hj' : uv.cells[j]? = some u := by simpa using hj
   obtain ⟨x, hx⟩ : ∃ x, v.cells[j]? = some x := by
     have := (Array.getElem?_eq_some_iff.1 hj').1;exact ⟨v.cells[j]'(by omega), by simp⟩
   have hVj := p2 j x u hx hj';exact yK (by rw [<- hVj.isCell]; exact List.all_eq_true.1 hcell x (zM hx))
 let row := (c.toList.take off ++ uv.cells.toList ++ c.toList.drop (off + uv.cells.toList.length)).toArray
 have hst : (storeCells ⟨b, off, none⟩ uv.cells.toList).run P w = .ok () (w.setRow b row) := by
   have := run_storeCells_atF P b off el (0, 0) uv.cells.toList 0 c w hh (by simp) (by simpa using hput') hones;simpa [row] using this
 have hrow : (w.setRow b row).heap[b]? = some (.cells row el (0, 0)) := setRow_heap w b c row el _ hh;have hOB : OBJ g (w.setRow b row) b (.cells (ji cs off v.cells)) := by
   refine ⟨row, el, hrow, ?_, fun j x u hxj huj => ?_⟩
   . rw [kQ vB]; simp [row]; simp at hput' hun; omega
   . rw [qn vB] at hxj;have huj' : (c.toList.take off ++ uv.cells.toList ++ c.toList.drop (off + uv.cells.toList.length))[j]? = some u := by simpa [row] using huj
     rw [QY hput', hun] at huj';split at hxj
     . rename_i hj;rw [if_pos hj] at huj';have huj'' : uv.cells[j - off]? = some u := by simpa using huj'
       exact ⟨p2 _ _ _ hxj huj'', List.all_eq_true.1 hcell x (zM hxj)⟩
     . rename_i hj;rw [if_neg hj] at huj';exact hc j x u hxj (by simpa using huj')
 have hf := qE w b row;have hR' := hroot.upd (y := ju) (u := undef) (id := id) (b := b) (ob := .cells cs) (ob' := .cells (ji cs off v.cells)) (w' := w.setRow b row) (ky g) hι hσ (by simp) (fun k hk => setRow_other w b k row hk) hf.2.2.2 (fun c' el' fz' hc' => by
   rw [hh] at hc'; cases hc';exact ⟨row, el, hrow, by simp [row]; simp at hput'; omega⟩) hOB (by
   simp only [kV, jT, hh, hrow];obtain ⟨A, C, e1, e2⟩ := VG (cs := cs) (ws := v.cells) (c := c.toList) (us := uv.cells.toList) (off := off) (by simpa using hsz) (by rw [hun]) vB;rw [show row.toList = c.toList.take off ++ uv.cells.toList ++ c.toList.drop (off + uv.cells.toList.length) from rfl, e1, e2, KG hV hcell];show SubP (b :: (A ++ jA v uv ++ C)) (jA v uv ++ b :: (A ++ _ ++ C));refine SubP.perm_right (List.perm_middle.symm) ?_;refine SubP.append_left [b] ?_;refine SubP.perm_left (a := jA v uv ++ (A ++ C)) ?_ ?_
   . rw [<- zS]; exact List.perm_append_comm.append_right C
   . refine SubP.append_left _ (SubP.of_sub ?_);rw [zS];exact List.Sublist.append (.refl _) (List.sublist_append_right _ _))
 refine ⟨_, hst, hR', ?_, Keep.set fun m hid hm ho => ?_⟩
 . exact Grow.of_setRow g w (hroot.sub b (List.mem_append_right _ (j6 hι hσ (by simp [kV])))) _ (fun k hk => setRow_other w b k row hk) hf.2.2.2 hf.1 hf.2.1 hf.2.2.1
 . refine Q8 vB (ho _ hσ) (fun x hx => ?_);obtain ⟨j, hj⟩ := jx hx;obtain ⟨u, hu⟩ := jZ p1 hj;have hVx := p2 j x u hj hu
   by_cases hnr : v.cells.all nr1 = true
   . exact hVx.norl m (kJ (vF (List.all_eq_true.1 hnr x hx)))
   . exact absurd (hm (by simpa using hnr)) (by omega)
def jeV (P : Program) (f : FuncId) (G : Nat) (tab : List TypeId) : Bool := match P.funcs[f]? with
 | some fn => fn.name == "(internal/reflectlite.Value).Set" && (fn.origin == "" && (fn.body.isNone && (G == P.globals.size && tab.all fun t => !P.packed t && tyN P t none)))
 | none => false
theorem jgm {fn : Func} (h : fn.name = "(internal/reflectlite.Value).Set") (ho : fn.origin = "") : Extern.findNext fn = none /\ Extern.find fn = some ReflectliteValue.set := by
 unfold Extern.findNext Extern.find;rw [h, ho];exact ⟨by kernel_rfl, by kernel_rfl⟩
theorem jmL (v x : Value) : ReflectliteValue.set #[v, x] = (do
   let (some (dst, a, fl), some (src, b, _)) := (<- ReflectliteValue.parts v, <- ReflectliteValue.parts x)
     | unsupported (.noEntry "extern/(internal/reflectlite.Value).Set.zeroValue")
   if fl / ReflectliteValue.flagAddr % 2 == 0 then unsupported (.noEntry "extern/(internal/reflectlite.Value).Set.unaddressable")
   let val <- loadVar src b
   if <- directlyAssignable dst src then storeVar dst a val
   else if <- implements dst src then
     if (<- kind src) == 20 then
       match val with
       | .nilIface => unsupported (.noEntry "extern/reflectlite: a nil value of one interface type handed on as a value of another")
       | _ => storeVar dst a val
     else storeVar dst a (.iface src val)
   else panicString ("reflectlite.Set: value of type " ++ (<- spelt src) ++ " is not assignable to type " ++ (<- spelt dst))
   pure (.tuple #[])) := rfl
theorem jik {G : Nat} {tab : List TypeId} {c : Call} {f : FuncId} {rx ry : Operand} {x y : Opd} (hop : o.op = .call c) (hc : c.callee = .value (.func f)) (ha : c.args = #[rx, ry]) (hf : jeV P f G tab = true) (hx : jl x rx = true) (hy : jl y ry = true)
   (hs : ja cf (.vSet G tab x y) s = some res) (hl : WT s.ts a.tmps) (hR : R g O (s.ts.roots a.tmps) s.σ w) : SimV P o a g O w s res := by
 unfold jeV at hf;split at hf
 . rename_i fn hfn;simp only [zA, beq_iff_eq, List.all_eq_true, Bool.not_eq_true'] at hf;obtain ⟨f1, f2, f3, rfl, f5⟩ := hf;obtain ⟨e1, e2⟩ := jgm f1 f2;simp only [ja] at hs;split at hs
   . rename_i hd id off fl ts h;split at hs
     . rename_i hd' rr v fl' ts' h';split at hs
       . rename_i t t' ht ht';split at hs
         . rename_i hcond;obtain ⟨rfl, rfl, rfl, hcon⟩ := hcond;split at hs
           . rename_i cs hcs;split at hs
             . rename_i hoff;simp only [zO] at hs;subst hs;obtain ⟨hp, hT⟩ := f5 t (List.contains_iff_mem.1 hcon);obtain ⟨h1, h2⟩ := jk (l := []) hx h hl hR;have hVx : V g (.agg [hd, .ptr id off, .int .u64 406]) (a.eval rx) := h1.head;obtain ⟨h3, h4⟩ := jk (l := [(.agg [hd, .ptr id off, .int .u64 406], a.eval rx)]) hy h' h2 h1;obtain ⟨x1, x2, x3, ex, v1, v2, v3⟩ := Kp hVx;have := vt v1 ht; subst this;obtain ⟨b, rfl, hι⟩ := v2.ptr_inv;cases v3;obtain ⟨y1, y2, y3, ey, u1, u2, u3⟩ := Kp h3.head;have := vt u1 ht'; subst this;obtain ⟨b', o', cv, rfl, vc, hcell, hM, hun1⟩ := jbe u2;cases u3;obtain ⟨lu, hlu, vlu⟩ := VS (w := w) hT vc hcell (h3.claim _ _ _ hM);have hroot : R g O ((v, lu) :: ts'.roots a.tmps) s.σ w := by
                 have hb : R g O (ts'.roots a.tmps) s.σ w := by
                   have := h3.drop;exact R.drop (by simpa using this)
                 have hfl : yX v := ⟨by cases v <;> simp_all [IVal.isCell, un2], by cases v <;> simp_all [IVal.isCell, nt]⟩;exact hb.push vlu (jK hfl lu)
               have hσ := jI hcs;have hvc : v.cells = [v] := by cases v <;> simp [IVal.isCell] at hcell <;> rfl
               obtain ⟨w', hst, hR', hg, hk⟩ := R.putAt (P := P) (off := off) hroot hι hσ (by rw [hvc]; simp; omega) (by rw [hvc]; simpa using hcell);rw [hvc] at hR' hk;obtain ⟨i, hi, hisz⟩ : ∃ i, P.info? t = some i /\ i.size = 1 := by
                 obtain ⟨-, i, q1, q2⟩ := VQ (w := w) hT;exact ⟨i, q1, by simpa using q2⟩
               have hlsz : lu.cells.size = 1 := by
                 have := vlu.cells.1;rw [hvc] at this;simpa using this.symm
               have hrun : (execOp a.eval o).run P w = .ok (.value (.tuple #[])) w' := by
                 have hset : (ReflectliteValue.set #[a.eval rx, a.eval ry]).run P w = .ok (.tuple #[]) w' := by
                   rw [ex, ey, jmL];have hda : (directlyAssignable t t).run P w = .ok true w := jfQ (by simp [daP]);have hfl : ((406 : Int).toNat / ReflectliteValue.flagAddr % 2 == 0) = false := rfl;have hsv : (storeVar t ⟨b, off, none⟩ lu).run P w = .ok () w' := by
                     simp [storeVar, jP hi, hlsz, hisz, hst]
                   simp only [Sem.run_bind, KJ (.inr rfl) hp, KJ (.inl rfl) hp, Result.andThen, hfl, Bool.false_eq_true, if_false, hlu, hda, if_true, hsv, Sem.run_pure]
                 have : (callFunc f #[a.eval rx, a.eval ry]).run P w = .ok (.value (.tuple #[])) w' := by
                   rw [run_callFunc_extern hfn (by rw [f1]; rfl) f3 e1 e2, hset]; rfl
                 simp only [execOp, hop, resolve, hc, Deferred.ofValue, Sem.run_bind, Sem.run_pure, Result.andThen, invoke, ha];simpa [Act.eval] using this
               refine ⟨rfl, undef, _, _, hrun, rfl, g, O, [(id, !([v].all nr1))], hg, hR', h4, rfl, hk⟩
             . cases hs
           . cases hs
         . cases hs
       . cases hs
     . cases hs
   . cases hs
 . cases hf
end Go.Idl
namespace Go.Idl
open Go.Extern
variable [Globs]
variable {P : Program} {o : Oper} {a : Act} {g : Gh} {O : List Nat} {w : World} {s : St} {res : Res} {cf : jo}
def kn : IntKind -> Option String
 | .i32 => some "Int32"
 | .i64 => some "Int64"
 | .u32 => some "Uint32"
 | .u64 => some "Uint64"
 | _ => none
def kW : MemK -> Option String
 | .aload k => (kn k).map fun n => "sync/atomic.Load" ++ n
 | .astore k => (kn k).map fun n => "sync/atomic.Store" ++ n
 | .acas k => (kn k).map fun n => "sync/atomic.CompareAndSwap" ++ n
 | .aadd k => (kn k).map fun n => "sync/atomic.Add" ++ n
 | .mclone => some "maps.clone"
 | _ => none
def joa : MemK -> Array Value -> Sem Value
 | .aload k => Atomic.loadT (.int k)
 | .astore _ => Atomic.storeT
 | .acas k => Atomic.casT (.int k)
 | .aadd k => Atomic.update (Op.intArith .add) k true
 | .mclone => MapsClone.clone
 | _ => fun _ => pure undef
theorem jhs {fn : Func} {k : MemK} (h : kW k = some fn.name) (ho : fn.origin = "") : Extern.findNext fn = none /\ Extern.find fn = some (joa k) := by
 unfold Extern.findNext Extern.find
 cases k with
 | aload k => cases k <;> simp only [kW, kn, Option.map_some, Option.map_none, zO, reduceCtorEq] at h <;> (rw [<- h, ho]; exact ⟨by kernel_rfl, by kernel_rfl⟩)
 | astore k => cases k <;> simp only [kW, kn, Option.map_some, Option.map_none, zO, reduceCtorEq] at h <;> (rw [<- h, ho]; exact ⟨by kernel_rfl, by kernel_rfl⟩)
 | acas k => cases k <;> simp only [kW, kn, Option.map_some, Option.map_none, zO, reduceCtorEq] at h <;> (rw [<- h, ho]; exact ⟨by kernel_rfl, by kernel_rfl⟩)
 | aadd k => cases k <;> simp only [kW, kn, Option.map_some, Option.map_none, zO, reduceCtorEq] at h <;> (rw [<- h, ho]; exact ⟨by kernel_rfl, by kernel_rfl⟩)
 | mclone => simp only [kW, zO] at h; rw [<- h, ho]; exact ⟨by kernel_rfl, by kernel_rfl⟩
 | _ => cases h
theorem jhu {fn : Func} {k : MemK} (h : kW k = some fn.name) : (fn.name == "runtime.NumGoroutine") = false := by
 cases k with
 | aload k => cases k <;> simp only [kW, kn, Option.map_some, Option.map_none, zO, reduceCtorEq] at h <;> (rw [<- h]; rfl)
 | astore k => cases k <;> simp only [kW, kn, Option.map_some, Option.map_none, zO, reduceCtorEq] at h <;> (rw [<- h]; rfl)
 | acas k => cases k <;> simp only [kW, kn, Option.map_some, Option.map_none, zO, reduceCtorEq] at h <;> (rw [<- h]; rfl)
 | aadd k => cases k <;> simp only [kW, kn, Option.map_some, Option.map_none, zO, reduceCtorEq] at h <;> (rw [<- h]; rfl)
 | mclone => simp only [kW, zO] at h; rw [<- h]; rfl
 | _ => cases h
def jmd (P : Program) (f : FuncId) (k : MemK) : Bool := match P.funcs[f]? with
 | some fn => kW k == some fn.name && (fn.origin == "" && fn.body.isNone)
 | none => false
theorem jiq {b off : Nat} {x u : Value} (hx : x.oneCell' = true) (hc : w.cell? ⟨b, off, none⟩ = some u) (hz : w.frozen? ⟨b, off, none⟩ = false) :
   (storeCells ⟨b, off, none⟩ [x]).run P w = .ok () (w.setCell ⟨b, off, none⟩ x) := by
 simp only [storeCells, Sem.run_bind, Sem.run_pure];rw [show (Addr.add ⟨b, off, none⟩ 0) = ⟨b, off, none⟩ from rfl, run_store P w _ x _ hx, hc, hz];rfl
theorem JL {l : jH} {σ : List IObj} {id b off : Nat} {cs : List IVal} {x : IVal} (hR : R g O l σ w) (hι : g.ι[id]? = some (Blk.bk b)) (hσ : σ[id]? = some (.cells cs)) (hx : cs[off]? = some x) :
   ∃ u, w.cell? ⟨b, off, none⟩ = some u /\ V g x u /\ w.frozen? ⟨b, off, none⟩ = false := by
 obtain ⟨c, el, hh, hsz, hc⟩ := hR.objs id b _ hι hσ;have hlt := jg hx;obtain ⟨u, hu⟩ : ∃ u, c[off]? = some u := ⟨c[off]'(by omega), by simp⟩;refine ⟨u, by simp [World.cell?, hh, hu], (hc off x u hx hu).1, ?_⟩;simp [World.frozen?, hh]
theorem jdn {r : Nat} {es : Array MapEntry} {clock : Nat} (t : TypeId) (hb : w.heap[r]? = some (.map es clock)) :
   (MapsClone.clone #[.iface t (.map (some r))]).run P w = .ok (.iface t (.map (some w.heap.size))) (w.alloc (.map es clock)) := by
 have e : MapsClone.clone #[.iface t (.map (some r))] = (getObj r >>= fun o => match o with
     | .map entries clock => (newObj (.map entries clock) >>= fun n => pure (.iface t (.map (some n))))
     | _ => stuck "maps.clone: a map expected") := rfl
 rw [e];simp [MapKept.run_getObj_map hb, Result.andThen, go_sem]
theorem R.putInt {l : jH} {σ : List IObj} {id b off : Nat} {cs : List IVal} {k : IntKind} {y : Int} (hR : R g O l σ w) (hι : g.ι[id]? = some (Blk.bk b)) (hσ : σ[id]? = some (.cells cs)) (hoff : off < cs.length) :
   R g O ((ju, undef) :: l) (σ.set id (.cells (ji cs off [.int k y]))) (w.setCell ⟨b, off, none⟩ (.int k y)) /\ Grow O g w O g (w.setCell ⟨b, off, none⟩ (.int k y)) /\ Keep σ (σ.set id (.cells (ji cs off [.int k y]))) [(id, false)] := by
 obtain ⟨u, h1, -, h3⟩ := JL hR hι hσ (show cs[off]? = some cs[off] by simp);obtain ⟨w', q1, q2, q3, q4⟩ := R.putAt (P := default) (off := off) (hR.push (x := .int k y) (v := .int k y) (.int k y) rfl) hι hσ (by simp [IVal.cells]; omega) (by simp [IVal.cells, IVal.isCell]);have e : (storeCells ⟨b, off, none⟩ (Value.int k y).cells.toList).run (default : Program) w = .ok () (w.setCell ⟨b, off, none⟩ (.int k y)) := by
   simp only [Value.cells];exact jiq rfl h1 h3
 rw [e] at q1;simp only [Result.ok.injEq, true_and] at q1;subst q1;exact ⟨q2, q3, by simpa [IVal.cells, nr1, nr0] using q4⟩
theorem V.int_run {k : IntKind} {n : Int} {v : Value} (h : V g (.int k n) v) : v = .int k n := by cases h; rfl
def Xz (P : Program) (g : Gh) (O : List Nat) (w : World) (σ : List IObj) (l : jH) (m : Sem Next) (v : IVal) (σ' : List IObj) (wr : List (Nat × Bool)) : Prop :=
 ∃ v' w' g' O', m.run P w = .ok (.value v') w' /\ Grow O g w O' g' w' /\ R g' O' ((v, v') :: l) σ' w' /\ Keep σ σ' wr
theorem jhr {k : MemK} {fn : Func} {f : FuncId} {l : jH} {σ σ' : List IObj} {wr : List (Nat × Bool)} {vs : List IVal} {us : List Value} {v : IVal} (hf : P.funcs[f]? = some fn) (hn : kW k = some fn.name) (ho : fn.origin = "") (hb : fn.body.isNone = true)
   (hR : R g O (vs.zip us ++ l) σ w) (hl : vs.length = us.length) (h : y6 k vs σ = some (v, σ', wr)) : Xz P g O w σ l (callFunc f us.toArray) v σ' wr := by
 obtain ⟨e1, e2⟩ := jhs hn ho;have hname := jhu hn;have hv : ∀ (i : Nat) x u, vs[i]? = some x -> us[i]? = some u -> V g x u := fun i x u hx hu => hR.vals (x, u) (List.mem_append_left _ (zM (List.getElem?_zip_eq_some.2 ⟨hx, hu⟩)));have hRl : R g O l σ w := R.drops (l := vs.zip us) hR;unfold y6 at h;split at h
 . rename_i k0 id off;obtain ⟨u, rfl, hV⟩ := KS rfl hl hv;obtain ⟨b, rfl, hι⟩ := hV.ptr_inv;split at h
   . rename_i cs hcs;have hσ := jI hcs;split at h
     . rename_i k' n hx;split at h
       . rename_i hk;subst hk;simp only [zO, zP] at h;obtain ⟨rfl, rfl, rfl⟩ := h;obtain ⟨u, c1, c2, c3⟩ := JL hRl hι hσ hx;have := c2.int_run; subst this;exact ⟨_, _, g, O, run_call_load hf hname hb e1 _ e2 c1, .refl _ _ _, hRl.push (.int _ _) rfl, .refl _⟩
       . cases h
     . cases h
   . cases h
 . rename_i k0 id off k1 y;obtain ⟨u, v2, rfl, hV, hW⟩ := jaC rfl hl hv;obtain ⟨b, rfl, hι⟩ := hV.ptr_inv;have := hW.int_run; subst this;split at h
   . rename_i cs hcs;have hσ := jI hcs;split at h
     . rename_i hk;obtain ⟨hoff, rfl⟩ := hk;simp only [zO, zP] at h;obtain ⟨rfl, rfl, rfl⟩ := h;obtain ⟨u, c1, c2, c3⟩ := JL hRl hι hσ (show cs[off]? = some cs[off] by simp);obtain ⟨p1, p2, p3⟩ := hRl.putInt (k := k0) (y := y) hι hσ hoff;exact ⟨_, _, g, O, run_call_store hf hname hb e1 e2 c1 c3, p2, p1, p3⟩
     . cases h
   . cases h
 . rename_i k0 id off k1 x k2 y;obtain ⟨u, v2, v3, rfl, hV, hW, hX⟩ : ∃ u v2 v3, us = [u, v2, v3] /\ V g (.ptr id off) u /\ V g (.int k1 x) v2 /\ V g (.int k2 y) v3 := by
     match us, hl with
     | [u, v2, v3], _ => exact ⟨u, v2, v3, rfl, hv 0 _ _ rfl rfl, hv 1 _ _ rfl rfl, hv 2 _ _ rfl rfl⟩
   obtain ⟨b, rfl, hι⟩ := hV.ptr_inv;have := hW.int_run; subst this;have := hX.int_run; subst this;split at h
   . rename_i cs hcs;have hσ := jI hcs;split at h
     . rename_i k' n hx;split at h
       . rename_i hk;obtain ⟨rfl, rfl, rfl⟩ := hk;obtain ⟨u, c1, c2, c3⟩ := JL hRl hι hσ hx;have := c2.int_run; subst this;split at h
         . rename_i hnx;subst hnx;simp only [zO, zP] at h;obtain ⟨rfl, rfl, rfl⟩ := h;obtain ⟨p1, p2, p3⟩ := hRl.putInt (k := k0) (y := y) hι hσ (jg hx);exact ⟨_, _, g, O, run_call_cas_hit hf hname hb e1 _ e2 c1 c3, p2, p1.drop.push (.bool true) rfl, p3⟩
         . rename_i hnx;simp only [zO, zP] at h;obtain ⟨rfl, rfl, rfl⟩ := h;exact ⟨_, _, g, O, run_call_cas_miss hf hname hb e1 _ e2 c1 c3 hnx, .refl _ _ _, hRl.push (.bool false) rfl, .refl _⟩
       . cases h
     . cases h
   . cases h
 . rename_i k0 id off k1 y;obtain ⟨u, v2, rfl, hV, hW⟩ := jaC rfl hl hv;obtain ⟨b, rfl, hι⟩ := hV.ptr_inv;have := hW.int_run; subst this;split at h
   . rename_i cs hcs;have hσ := jI hcs;split at h
     . rename_i k' n hx;split at h
       . rename_i hk;obtain ⟨rfl, rfl⟩ := hk;simp only [zO, zP] at h;obtain ⟨rfl, rfl, rfl⟩ := h;obtain ⟨u, c1, c2, c3⟩ := JL hRl hι hσ hx;have := c2.int_run; subst this;obtain ⟨p1, p2, p3⟩ := hRl.putInt (k := k0) (y := k0.wrap (n + y)) hι hσ (jg hx);exact ⟨_, _, g, O, run_call_add hf hname hb e1 _ e2 c1 c3 rfl, p2, p1.drop.push (.int _ _) rfl, p3⟩
       . cases h
     . cases h
   . cases h
 . cases hn
 . cases hn
 . cases hn
 . rename_i t id;obtain ⟨u, rfl, hV⟩ := KS rfl hl hv
   cases hV with
   | iface _ _ v0 hV0 hF0 =>
   obtain ⟨b, rfl, hι⟩ := hV0.map_inv;split at h
   . rename_i es hσ;simp only [zO, zP] at h;obtain ⟨rfl, rfl, rfl⟩ := h;obtain ⟨mes, clock, m1, m2, m3, m4⟩ := hRl.objs id b _ hι hσ;have hpre : ∀ (id b : Nat), g.ι[id]? = some (Blk.bk b) -> (g.fresh w.heap.size).ι[id]? = some (Blk.bk b) := fun id b hb => by simp only [Gh.fresh]; rw [zL (jg hb)]; exact hb
     have hnew := (hRl.push (ky g) rfl).new (obr := .map mes clock) (ob := .map es) (fun _ => ⟨mes, clock, jF w _, m2, fun i e me he hm => by
       obtain ⟨⟨r1, r2⟩, r3, r4⟩ := m3 i e me he hm;exact ⟨⟨r1.mono hpre (fun _ _ _ h => h) (by rw [jK r3]; simp), r2.mono hpre (fun _ _ _ h => h) (by rw [jK r4]; simp)⟩, r3, r4⟩, m4⟩) ⟨[], rfl, by simp⟩
     refine ⟨_, _, g.fresh w.heap.size, w.heap.size :: O, ?_, kH hRl _, hnew.push (.iface t _ _ (.map _ w.heap.size ?_) ⟨rfl, rfl⟩) rfl, Keep.snoc _ _⟩
     . rw [run_callFunc_extern hf hname hb e1 e2];show ((MapsClone.clone #[.iface t (.map (some b))]).run P w).andThen _ = _;rw [jdn t m1]; rfl
     . simp [Gh.fresh, <- hRl.len]
   . cases h
 . simp [kW] at hn
 . cases h
theorem R.putObj {l : jH} {σ : List IObj} {id b : Nat} {ob ob' : IObj} {x : Obj} (h : R g O l σ w) (hι : g.ι[id]? = some (Blk.bk b)) (hσ : σ[id]? = some ob) (hlive : ob ≠ .dead) (hb : b < w.heap.size) (hnc : ∀ c el fz, w.heap[b]? ≠ some (.cells c el fz))
   (hob : OBJ g (w.putObj b x) b ob') (ho : kV (w.putObj b x) b ob' = [b] \/ kV (w.putObj b x) b ob' = []) (ho' : kV w b ob = [b]) :
   R g O l (σ.set id ob') (w.putObj b x) /\ Grow O g w O g (w.putObj b x) := by
 have hs : (w.putObj b x).heap.size = w.heap.size := by simp
 have hw : ∀ k, k ≠ b -> (w.putObj b x).heap[k]? = w.heap[k]? := fun k hk => World.putObj_heap_other hk;have hbO : b ∈ O := h.sub b (List.mem_append_right _ (j6 hι hσ (by rw [ho']; simp)));refine ⟨?_, Grow.of_setRow g w hbO _ hw hs rfl rfl rfl⟩;have h1 := h.push (ky g) rfl;have h2 := h1.upd (y := ju) (u := undef) (id := id) (b := b) (ob := ob) (ob' := ob') (w' := w.putObj b x) (ky g) hι hσ hlive hw hs (fun c el fz hc => absurd hc (hnc c el fz)) hob (by
   rw [ho'];have e0 : jA ju undef = [] := rfl;rw [e0, List.nil_append, List.nil_append]
   rcases ho with ho | ho
   . rw [ho]; exact SubP.refl _
   . rw [ho]; exact SubP.of_sub (by simp))
 exact h2.drop
theorem je6 {l : jH} {σ σ' : List IObj} {wr : List (Nat × Bool)} {vs : List IVal} {us : List Value} {v : IVal} {T : TypeId} (hT : P.underlying T = some .string)
   (hR : R g O (vs.zip us ++ l) σ w) (hl : vs.length = us.length) (h : y6 .iter vs σ = some (v, σ', wr)) : ∃ u, us = [u] /\ Xz P g O w σ l (do pure (.value (<- Instr.range T u))) v σ' wr := by
 have hv : ∀ (i : Nat) x u, vs[i]? = some x -> us[i]? = some u -> V g x u := fun i x u hx hu => hR.vals (x, u) (List.mem_append_left _ (zM (List.getElem?_zip_eq_some.2 ⟨hx, hu⟩)));have hRl : R g O l σ w := R.drops (l := vs.zip us) hR;simp only [y6] at h;split at h
 all_goals try contradiction
 rename_i sb σ0;simp only [zO, zP] at h;obtain ⟨rfl, rfl, rfl⟩ := h;obtain ⟨u, rfl, hV⟩ := KS rfl hl hv
 cases hV with
 | str bs =>
 refine ⟨_, rfl, ?_⟩;have hnew := (hRl.push (ky g) rfl).new (obr := .stringIter bs 0) (ob := .it bs.data.toList 0) (fun _ => ⟨bs, jF w _, rfl⟩) ⟨[], rfl, by simp⟩;refine ⟨_, _, g.fresh w.heap.size, w.heap.size :: O, ?_, kH hRl _, hnew.push (.ptr _ 0 w.heap.size ?_) rfl, Keep.snoc _ _⟩
 . simp only [Sem.run_bind, run_range_string w T bs hT, Result.andThen, Sem.run_pure]; rfl
 . simp [Gh.fresh, <- hRl.len]
theorem jdo {b pos : Nat} {bs : ByteArray} {ty : TypeId} (h : w.heap[b]? = some (.stringIter bs pos)) (hp : pos < bs.size) (ha : (bs[pos]'hp).toNat < 128) :
   (Instr.next (.pointer (some ⟨b, 0, none⟩)) true ty).run P w = .ok (.tuple #[.bool true, .int .i64 pos, .int .i32 (bs[pos]'hp).toNat]) (w.putObj b (.stringIter bs (pos + 1))) := by
 simp only [Instr.next, getObj, setObj, Sem.run_bind, Sem.run, h, Result.andThen, hp, if_true, decode_ascii bs pos hp ha];simp [goInt, Sem.run, h, World.putObj]
theorem jbp {b pos : Nat} {bs : ByteArray} {ty : TypeId} (h : w.heap[b]? = some (.stringIter bs pos)) (hp : ¬ pos < bs.size) :
   (Instr.next (.pointer (some ⟨b, 0, none⟩)) true ty).run P w = .ok (.tuple #[.bool false]) w := by
 simp [Instr.next, getObj, Sem.run, h, hp]
theorem je7 {l : jH} {σ σ' : List IObj} {wr : List (Nat × Bool)} {vs : List IVal} {us : List Value} {v : IVal} {ty : TypeId}
   (hR : R g O (vs.zip us ++ l) σ w) (hl : vs.length = us.length) (h : y6 .next vs σ = some (v, σ', wr)) : ∃ u, us = [u] /\ Xz P g O w σ l (do pure (.value (<- Instr.next u true ty))) v σ' wr := by
 have hv : ∀ (i : Nat) x u, vs[i]? = some x -> us[i]? = some u -> V g x u := fun i x u hx hu => hR.vals (x, u) (List.mem_append_left _ (zM (List.getElem?_zip_eq_some.2 ⟨hx, hu⟩)));have hRl : R g O l σ w := R.drops (l := vs.zip us) hR;simp only [y6] at h;split at h
 all_goals try contradiction
 rename_i id σ0;obtain ⟨u, rfl, hV⟩ := KS rfl hl hv;obtain ⟨b, rfl, hι⟩ := hV.ptr_inv;refine ⟨_, rfl, ?_⟩;split at h
 . rename_i sb pos hσ;obtain ⟨bs, hh, hbs⟩ := hRl.objs id b _ hι hσ;split at h
   . rename_i c hc;split at h
     . rename_i h128;simp only [zO, zP] at h;obtain ⟨rfl, rfl, rfl⟩ := h;subst hbs;have hp : pos < bs.size := by
         have := jg hc;rw [<- Lib.size_eq] at this; exact this
       have hbc : (bs[pos]'hp) = c := by
         have := (List.getElem?_eq_some_iff.1 hc).2;rw [<- this]; rfl
       have hlt : b < w.heap.size := (Array.getElem?_eq_some_iff.1 hh).1;have hrun := jdo (P := P) (ty := ty) hh hp (by rw [hbc]; exact h128);obtain ⟨p1, p2⟩ := hRl.putObj (ob' := .it bs.data.toList (pos + 1)) (x := .stringIter bs (pos + 1)) hι hσ (by simp) hlt (by rw [hh]; simp) ⟨bs, World.putObj_heap_same hlt, rfl⟩ (.inl rfl) rfl;refine ⟨_, _, g, O, ?_, p2, p1.push (v := .tuple #[.bool true, .int .i64 pos, .int .i32 c.toNat]) ?_ rfl, Keep.set fun _ _ _ _ => trivial⟩
       . simp only [Sem.run_bind, hrun, Result.andThen, Sem.run_pure, hbc]
       . refine .tup _ _ rfl (fun i x v hx hu => ?_) (by simp [nt])
         match i with
         | 0 => simp at hx hu; subst hx hu; exact .bool _
         | 1 => simp at hx hu; subst hx hu; exact .int _ _
         | 2 => simp at hx hu; subst hx hu; exact .int _ _
         | i + 3 => simp at hx
     . cases h
   . rename_i hc;simp only [zO, zP] at h;obtain ⟨rfl, rfl, rfl⟩ := h;subst hbs;have hp : ¬ pos < bs.size := by
       have := List.getElem?_eq_none_iff.1 hc;rw [<- Lib.size_eq] at this; omega
     have hrun := jbp (P := P) (ty := ty) hh hp;refine ⟨_, _, g, O, ?_, .refl _ _ _, hRl.push (v := .tuple #[.bool false]) ?_ rfl, .refl _⟩
     . simp only [Sem.run_bind, hrun, Result.andThen, Sem.run_pure]
     . refine .tup _ _ rfl (fun i x v hx hu => ?_) (by simp [nt])
       match i with
       | 0 => simp at hx hu; subst hx hu; exact .bool _
       | i + 1 => simp at hx
 . cases h
theorem je9 {l : jH} {σ σ' : List IObj} {wr : List (Nat × Bool)} {vs : List IVal} {us : List Value} {v : IVal} {S T t : TypeId} (hS : P.underlying S = some (.pointer t)) (hT : P.underlying T = some .unsafePointer)
   (hsz : (P.info? t).map (fun i => decide (i.size = 0)) = some false)
   (hR : R g O (vs.zip us ++ l) σ w) (hl : vs.length = us.length) (h : y6 .uptr vs σ = some (v, σ', wr)) : ∃ u, us = [u] /\ Xz P g O w σ l (do pure (.value (<- convert S T u))) v σ' wr := by
 have hv : ∀ (i : Nat) x u, vs[i]? = some x -> us[i]? = some u -> V g x u := fun i x u hx hu => hR.vals (x, u) (List.mem_append_left _ (zM (List.getElem?_zip_eq_some.2 ⟨hx, hu⟩)));have hRl : R g O l σ w := R.drops (l := vs.zip us) hR;simp only [y6] at h;split at h
 all_goals try contradiction
 rename_i id off σ0;obtain ⟨u, rfl, hV⟩ := KS rfl hl hv;obtain ⟨b, rfl, hι⟩ := hV.ptr_inv;refine ⟨_, rfl, ?_⟩;split at h
 . rename_i cs hcs;split at h
   . rename_i hoff;simp only [zO, zP] at h;obtain ⟨rfl, rfl, rfl⟩ := h;obtain ⟨u, c1, -, -⟩ := JL hRl hι (jI hcs) (show cs[off]? = some cs[off] by simp);refine ⟨_, _, g, O, ?_, .refl _ _ _, hRl.push (.ptr id off b hι) rfl, .refl _⟩;simp only [Sem.run_bind, run_convert_to_unsafe hS hT hsz c1, Result.andThen, Sem.run_pure]
   . cases h
 . cases h
def Zp (P : Program) (c : Call) : MemK -> Bool
 | .extN e b zs => match c.argTypes.toList with
   | [T, U] => (match P.underlying T, P.underlying U with
     | some (.slice E), some (.int .i64) => (match P.info? E with
       | some i => (match i.zero with
         | some z => (i.size == e && i.bytes == b) && (z.cells.size == e && Xi zs z.cells.toList)
         | none => false)
       | none => false)
     | _, _ => false)
   | _ => false
 | _ => false
theorem jgZ {c : Call} {k : MemK} (h : Zp P c k = true) : ∃ e b zs, k = .extN e b zs := by
 cases k <;> simp [Zp] at h;exact ⟨_, _, _, rfl⟩
theorem Xu {T U ty E : TypeId} {i : TypeInfo} {z : Value} {n : Nat} (hT : P.underlying T = some (.slice E)) (hU : P.underlying U = some (.int .i64)) (hi : P.info? E = some i) (hz : i.zero = some z) (h0 : 0 < n) (hs0 : 0 < i.size)
   (hb : n * i.bytes <= 140737488355328) (hn : n <= 1099511627776) (hfit : Builtin.nextslicecap n 0 * i.bytes <= 281474976710656) :
   (Builtin.append_ #[T, U] ty #[.slice none 0 0, .int .i64 n]).run P w = .ok (.slice (some ⟨w.heap.size, 0, none⟩) n (grownCap w n 0 E)) (w.drew.alloc (.cells (Builtin.zeroCells z.cells n ++ Builtin.zeroCells z.cells (grownCap w n 0 E - n)) E)) := by
 have hw : IntKind.i64.wrap (n : Int) = n := by simp only [IntKind.wrap, IntKind.bits, IntKind.signed]; simp; omega
 have h1 : ¬ ((n : Int) < 0) := by omega
 have h2 : ¬ (281474976710656 < (n : Int) * i.bytes) := by rw [<- Int.natCast_mul]; omega
 have h3 : ¬ (n <= 0) := by omega
 have h4 : ¬ (9223372036854775807 < (n : Int)) := by omega
 have h5 : ¬ (281474976710656 < Builtin.nextslicecap n 0 * i.bytes) := by omega
 have h6 : ¬ (n * i.size = 0) := by
   intro h; rcases Nat.mul_eq_zero.1 h with h | h <;> omega
 have h7 : ¬ (n = 0 \/ i.size = 0) := by omega
 simp [Builtin.append_, jm hT, jm hU, sizeOf, typeInfo, zeroValue, hi, hz, asInt, asIntOf, hw, h1, h2, h3, h4, h5, h6, h7, (show ¬ n = 0 by omega), Question.forced, Builtin.firstCells, newRow, grownCap]
theorem jkn {l : jH} {e b : Nat} {zs : List IVal} {σ σ' : List IObj} {wr : List (Nat × Bool)} {vs : List IVal} {us : List Value} {v : IVal} {c : Call} (hk : Zp P c (.extN e b zs) = true) (hR : R g O (vs.zip us ++ l) σ w) (hl : vs.length = us.length) (h : y6 (.extN e b zs) vs σ = some (v, σ', wr)) {m : Sem Next}
   (hexec : ∀ r w', (Builtin.append_ c.argTypes o.type us.toArray).run P w = .ok r w' -> m.run P w = .ok (.value r) w') : Xz P g O w σ l m v σ' wr := by
 have hv : ∀ (i : Nat) x u, vs[i]? = some x -> us[i]? = some u -> V g x u := fun i x u hx hu => hR.vals (x, u) (List.mem_append_left _ (zM (List.getElem?_zip_eq_some.2 ⟨hx, hu⟩)));have hroot : R g O l σ w := R.drops (l := vs.zip us) hR;obtain ⟨own, n, rfl⟩ : ∃ own n, vs = [.sl own true [], .int .i64 n] := by
   unfold y6 at h;split at h
   all_goals first | exact ⟨_, _, rfl⟩ | (rename_i q; cases q; done) | (rename_i q _; cases q; done) | (cases h; done) | skip
   all_goals contradiction
 simp only [y6] at h;split at h
 . rename_i hcond;obtain ⟨c1, c2, c3, c4, c5⟩ := hcond;simp only [zO, zP] at h;obtain ⟨rfl, rfl, rfl⟩ := h;obtain ⟨u, u2, rfl, hV, hW⟩ := jaC rfl hl hv;have := hW.int_run; subst this;obtain ⟨cn, rfl⟩ := Int.eq_ofNat_of_zero_le (show 0 <= n by omega);have hu : u = .slice none 0 0 := by
     cases hV with
     | nil => rfl
     | sl _ _ _ _ _ _ _ _ _ _ _ _ _ _ _ _ hn => exact absurd (hn rfl) (by simp)
   subst hu;simp only [Zp] at hk;split at hk
   . rename_i T U hta;split at hk
     . rename_i E hT hU;split at hk
       . rename_i i hi;split at hk
         . rename_i z hz;simp only [zA, beq_iff_eq] at hk;obtain ⟨⟨k1, k2⟩, k3, k4⟩ := hk;subst k1 k2;have hta' : c.argTypes = #[T, U] := by rw [<- Array.toList_inj, hta]
           have hcn : 0 < cn := by omega
           have hb1 : cn * i.bytes <= 140737488355328 := by
             have h9 := c2;rw [<- Int.natCast_mul] at h9;omega
           have hfit : Builtin.nextslicecap cn 0 * i.bytes <= 281474976710656 := by
             have : Builtin.nextslicecap cn 0 = cn := by unfold Builtin.nextslicecap; rw [if_pos (by omega)]
             rw [this]; omega
           have hrun := Xu (P := P) (w := w) (ty := o.type) hT hU hi hz hcn c5 hb1 (by omega) hfit;have hge := grownCap_ge w cn 0 E;generalize hcapd : grownCap w cn 0 E = cap' at hrun hge;obtain ⟨z1, z2⟩ := yD ((g.fresh w.heap.size)) k4;have hzl : zs.length = z.cells.size := by omega
           have hR0 : R g O l σ w.drew := hroot.world (Nat.le_refl _) (fun _ _ => rfl);have hG0 : Grow O g w O g w.drew := ⟨Nat.le_refl _, fun _ _ _ => ⟨rfl, rfl, fun _ => rfl⟩, fun _ _ _ h => h, fun _ _ h => h, fun _ h => .inl h, rfl, rfl, rfl, rfl, fun _ => Nat.le_refl _⟩;have hA : (Builtin.zeroCells z.cells cn).size = cn * i.size := by simp [Builtin.zeroCells, k3]
           have hB : (Builtin.zeroCells z.cells (cap' - cn)).size = (cap' - cn) * i.size := by simp [Builtin.zeroCells, k3]
           have hcs : (Builtin.zeroCells z.cells cn ++ Builtin.zeroCells z.cells (cap' - cn)).size = cap' * i.size := by
             rw [Array.size_append, hA, hB, <- Nat.add_mul]; congr 1; omega
           have hcells : ∀ (j : Nat) x v, (J2 cn zs)[j]? = some x -> (Builtin.zeroCells z.cells cn ++ Builtin.zeroCells z.cells (cap' - cn))[j]? = some v -> V (g.fresh w.heap.size) x v /\ kX x v = [] /\ x.isCell = true := by
             intro j x v hx hv;have hj : j < cn * zs.length := by rw [<- JQ]; exact jg hx
             rw [YH (by omega) cn j hj] at hx;rw [c4] at hj;rw [Array.getElem?_append_left (by rw [hA]; exact hj)] at hv;simp only [Builtin.zeroCells, Array.getElem?_map, Array.getElem?_range] at hv;rw [if_pos (by rw [k3]; exact hj)] at hv;simp only [Option.map_some, zO] at hv;have hmod : j % z.cells.size < z.cells.size := Nat.mod_lt _ (by omega);refine z2 (j % zs.length) x v hx ?_;rw [<- hv, hzl];simp [getElem!_pos, hmod]
           have hnew := (hR0.push (ky g) rfl).new (obr := .cells (Builtin.zeroCells z.cells cn ++ Builtin.zeroCells z.cells (cap' - cn)) E) (ob := .cells (J2 cn zs)) (fun _ =>
             ⟨_, E, jF _ _, by rw [JQ, c4, hcs]; exact Nat.mul_le_mul_right _ (by omega), fun j x v hx hv => ⟨(hcells j x v hx hv).1, (hcells j x v hx hv).2.2⟩⟩) ⟨[], by
             simp only [kV];rw [flatten_nil];intro cc hcm;obtain ⟨j, x, y, h1, h2, rfl⟩ := jN hcm;have hbk : jT (w.drew.alloc (.cells (Builtin.zeroCells z.cells cn ++ Builtin.zeroCells z.cells (cap' - cn)) E)) w.drew.heap.size = _ := j7 ..;rw [hbk] at h2;exact (hcells j x y h1 (by rw [<- Array.getElem?_toList]; exact h2)).2.1, by simp⟩
           refine ⟨_, _, _, w.heap.size :: O, hexec _ _ (by rw [hta']; exact hrun), hG0.trans ((kH hR0 _).trans (Grow.setZ _ _ _ _ _)), (hnew.setZ (z := cap' * i.size) (jF _ _) (by rw [hcs]; exact Nat.le_refl _)).push (.rs _ _ _ _ _ _ ?_ (by omega) (by rw [Nat.zero_add]; exact VT _ _ _)) rfl, Keep.snoc _ _⟩;simp [Gh.fresh, Gh.setZ, <- hR.len]
         . cases hk
       . cases hk
     . cases hk
   . cases hk
 . cases h
def jkm (P : Program) : Op -> MemK -> List Opd -> Bool
 | .call c, k, xs => (match c.callee with | .value (.func f) => jmd P f k | .builtin .append => Zp P c k | _ => false) && jD xs c.args.toList
 | .convert S T r, .uptr, xs => (match P.underlying S, P.underlying T with | some (.pointer t), some .unsafePointer => (P.info? t).map (fun i => decide (i.size = 0)) == some false | _, _ => false) && jD xs [r]
 | .range T r, .iter, xs => (match P.underlying T with | some .string => true | _ => false) && jD xs [r]
 | .next r is, .next, xs => is && jD xs [r]
 | _, _, _ => false
theorem jko {k : MemK} {xs : List Opd} (h : jkm P o.op k xs = true) (hs : ja cf (.mem k xs) s = some res) (hl : WT s.ts a.tmps) (hR : R g O (s.ts.roots a.tmps) s.σ w) : OpRes P o a g O w s res := by
 simp only [ja] at hs;split at hs
 . rename_i vs ts hga;split at hs
   . rename_i v σ' wr hm;simp only [zO] at hs;subst hs;have key : ∀ (rs : List Operand), jD xs rs = true -> (∀ c, o.op ≠ .defer c) -> (R g O (vs.zip (rs.map a.eval) ++ ts.roots a.tmps) s.σ w -> vs.length = (rs.map a.eval).length -> Xz P g O w s.σ (ts.roots a.tmps) (execOp a.eval o) v σ' wr) -> OpRes P o a g O w s ⟨false, v, { ts := ts, σ := σ', wr := wr ++ s.wr }⟩ := by
       intro rs hx hd hrun;obtain ⟨h1, h2, h3⟩ := jX (l := []) hx hga hl hR;obtain ⟨v', w', g', O', q1, q2, q3, q4⟩ := hrun (by simpa using h1) h3;exact .of_val ⟨rfl, v', w', _, q1, rfl, g', O', wr, q2, q3, h2, rfl, q4⟩ hd
     unfold jkm at h;split at h
     . rename_i c hop;simp only [zA] at h;obtain ⟨h1, h2⟩ := h;split at h1
       . rename_i f hc;unfold jmd at h1;split at h1
         . rename_i fn hf;simp only [zA, beq_iff_eq] at h1;refine key _ h2 (fun c h => by rw [hop] at h; cases h) (fun hR' hl' => ?_);have := jhr hf h1.1 h1.2.1 h1.2.2 hR' hl' hm;have e : execOp a.eval o = callFunc f ((c.args.toList.map a.eval).toArray) := by
             have ea : (c.args.toList.map a.eval).toArray = c.args.map a.eval := by apply Array.ext'; simp
             rw [ea];simp [execOp, hop, resolve, hc, Act.eval, Deferred.ofValue, invoke]
           rw [e]; exact this
         . cases h1
       . rename_i hc;refine key _ h2 (fun c h => by rw [hop] at h; cases h) (fun hR' hl' => ?_);obtain ⟨e, b, zs, rfl⟩ := jgZ h1
         . refine jkn (o := o) h1 hR' hl' hm (fun r w' hr => ?_);have ea : (c.args.toList.map a.eval).toArray = c.args.map a.eval := by apply Array.ext'; simp
           rw [ea] at hr;simp [execOp, hop, resolve, hc, invoke, builtin, hr]
       . cases h1
     . rename_i S T r hop;simp only [zA] at h;obtain ⟨h1, h2⟩ := h;split at h1
       . rename_i t hS hT;refine key _ h2 (fun c h => by rw [hop] at h; cases h) (fun hR' hl' => ?_);obtain ⟨u, hu, this⟩ := je9 hS hT (eq_of_beq h1) hR' hl' hm;simp only [List.map_cons, List.map_nil, List.cons.injEq, and_true] at hu;have e : execOp a.eval o = (do pure (.value (<- convert S T (a.eval r)))) := by simp only [execOp, hop]
         rw [e, hu]; exact this
       . cases h1
     . rename_i T r hop;simp only [zA] at h;obtain ⟨h1, h2⟩ := h;split at h1
       . rename_i hT;refine key _ h2 (fun c h => by rw [hop] at h; cases h) (fun hR' hl' => ?_);obtain ⟨u, hu, this⟩ := je6 hT hR' hl' hm;simp only [List.map_cons, List.map_nil, List.cons.injEq, and_true] at hu;have e : execOp a.eval o = (do pure (.value (<- Instr.range T (a.eval r)))) := by simp only [execOp, hop]
         rw [e, hu]; exact this
       . cases h1
     . rename_i r is hop;simp only [zA] at h;obtain ⟨h1, h2⟩ := h;subst h1;refine key _ h2 (fun c h => by rw [hop] at h; cases h) (fun hR' hl' => ?_);obtain ⟨u, hu, this⟩ := je7 (ty := o.type) hR' hl' hm;simp only [List.map_cons, List.map_nil, List.cons.injEq, and_true] at hu;have e : execOp a.eval o = (do pure (.value (<- Instr.next (a.eval r) true o.type))) := by simp only [execOp, hop]
       rw [e, hu]; exact this
     . cases h
   . cases hs
 . cases hs
theorem jfx {x : Opd} {r : Operand} (hop : o.op = .panic r) (hx : jl x r = true) (hs : ja cf (.panic x) s = some res) (hl : WT s.ts a.tmps) (hR : R g O (s.ts.roots a.tmps) s.σ w) : OpRes P o a g O w s res := by
 simp only [ja] at hs;split at hs
 . rename_i t v ts h;simp only [zO] at hs;subst hs;obtain ⟨h1, h2⟩ := jk (l := []) hx h hl hR;obtain ⟨u, hu, -, -⟩ := iface_inv h1.head;intro ρ n next Q _ hp;refine ⟨fun _ _ => trivial, ?_⟩;rw [Oper.semAt_eq _ _ _ (fun c h => by rw [hop] at h; cases h)];have e : (execOp a.eval o).run P w = .halt (.panic (.iface t u)) w := by
     simp only [execOp, hop, hu]; rfl
   rw [e];refine hp rfl (.iface t u) w ⟨g, O, [], .refl _ _ _, ?_, h2, rfl, .refl _⟩;have := h1; rw [hu] at this; simpa using this
 . cases hs
end Go.Idl
namespace Go.Idl
variable [Globs]
variable {P : Program} {g : Gh} {O : List Nat} {w : World}
theorem R.free_of {l : jH} {σ : List IObj} {b : Nat} (h : R g O l σ w) (hb : b ∉ jR l ++ kM w g.ι σ) : R g (O.filter (fun k => k != b)) l σ w := by
 have hm : ∀ k, k ∈ O.filter (fun k => k != b) -> k ∈ O := fun k hk => (List.mem_filter.1 hk).1;refine ⟨h.len, h.vals, h.objo, h.nodup, fun k hk => List.mem_filter.2 ⟨h.sub k hk, ?_⟩, fun k hk => h.lt k (hm k hk), h.claim, h.apart, fun k hk => h.spare k (hm k hk), h.glob, h.zs⟩;have : k ≠ b := fun e => hb (e ▸ hk);simpa using this
def Gh.renew (g : Gh) (b : Nat) : Gh := { g with ι := g.ι ++ [.bk b], T := fun k => if k = b then none else g.T k }
theorem R.renew {x y : IVal} {v u : Value} {l : jH} {σ : List IObj} {id b : Nat} {ob ob' : IObj} {w' : World} (h : R g O ((x, v) :: l) σ w) (hι : g.ι[id]? = some (.bk b)) (hσ : σ[id]? = some ob) (hlive : ob ≠ .dead)
   (hw : ∀ k, k ≠ b -> w'.heap[k]? = w.heap[k]?) (hs : w'.heap.size = w.heap.size) (hsp : ∀ c el fz, w.heap[b]? = some (.cells c el fz) -> ∃ c' el', w'.heap[b]? = some (.cells c' el' fz) /\ c'.size = c.size)
   (hy : V g y u) (hyo : SubP (jA y u) (jA x v ++ kV w b ob)) (hyb : b ∉ jA y u) (hob : OBJ (g.renew b) w' b ob') (hown : ∃ r, kV w' b ob' = b :: r /\ r.Sublist (jA y u)) (h1 : w'.os = w.os) (h2 : w'.tape = w.tape) (h3 : w'.output = w.output) :
   ∃ O', R (g.renew b) O' l ((σ.set id .dead) ++ [ob']) w' /\ Grow O g w O' (g.renew b) w' := by
 have hbO : b ∈ O := h.sub b (List.mem_append_right _ (j6 hι hσ (jU hlive)));have hM : ∀ o, g.M b o = none := h.apart id b ob hι hσ (jU hlive);have hd := h.upd (ob' := .dead) (w' := w') hy hι hσ hlive hw hs hsp trivial (by
   simp only [kV, List.append_nil];exact hyo)
 -- nothing owns the block now
 have hnb : b ∉ jR ((y, u) :: l) ++ kM w' g.ι (σ.set id .dead) := by
   intro hm;have hn := h.nodup;have hin : b ∈ kM w g.ι σ := j6 hι hσ (jU hlive);have e : jR ((y, u) :: l) = jA y u ++ jR l := by simp [jR]
   have e' : jR ((x, v) :: l) = jA x v ++ jR l := by simp [jR]
   rcases List.mem_append.1 hm with hm | hm
   . rw [e] at hm
     rcases List.mem_append.1 hm with hm | hm
     . exact hyb hm
     . exact (List.nodup_append.1 hn).2.2 b (by rw [e']; exact List.mem_append_right _ hm) b hin rfl
   . simp only [kM, List.mem_flatten] at hm;obtain ⟨c, hc, hbc⟩ := hm;obtain ⟨j, k, z, q1, q2, rfl⟩ := jN hc
     cases k with
     | un zs => cases hbc
     | bk k =>
     have hbc : b ∈ kV w' k z := hbc
     by_cases hj : j = id
     . subst hj;rw [List.getElem?_set_self (jg hσ)] at q2; cases q2;simp [kV] at hbc
     . rw [List.getElem?_set_ne (by omega)] at q2;have hk : kV w' k z = kV w k z \/ k = b := by
         by_cases e : k = b
         . exact .inr e
         . exact .inl (vQ (hw k e) z)
       have hnS := (List.nodup_append.1 hn).2.1;have g1 : (List.zipWith (qU w) g.ι σ)[id]? = some (kV w b ob) := by simp [List.getElem?_zipWith, hι, hσ, qU]
       have g2 : (List.zipWith (qU w) g.ι σ)[j]? = some (kV w k z) := by simp [List.getElem?_zipWith, q1, q2, qU]
       rcases hk with hk | hk
       . rw [hk] at hbc;exact y8 hnS g1 g2 (by omega) (jU hlive) hbc
       . subst hk
         by_cases hyd : z = .dead
         . subst hyd; simp [kV] at hbc
         . exact y8 hnS g1 g2 (by omega) (jU hlive) (jU hyd)
 have hf := hd.free_of hnb;have hkf : b ∉ O.filter (fun k => k != b) := by simp
 have hg : R { g with T := fun k => if k = b then none else g.T k } (O.filter (fun k => k != b)) ((y, u) :: l) (σ.set id .dead) w' := by
   refine hf.ghost hkf rfl rfl (fun _ _ _ => rfl) (fun _ _ h => h) (fun k hk => by simp [hk]) (fun o v hm => ?_);rw [hM o] at hm; cases hm
 have ha := hg.addObj (k := b) (ob := ob') hkf (by rw [hs]; exact h.lt b hbO) hM (by simp) hob hown;refine ⟨_, ha, ⟨by omega, fun k hk hkO => ⟨hw k (fun e => hkO (e ▸ hbO)), ?_, fun _ => rfl⟩, fun _ _ _ h => h, fun j k hj => ?_, fun k hk => ?_, rfl, h1, h2, h3, fun _ => Nat.le_refl _⟩⟩
 . have : k ≠ b := fun e => hkO (e ▸ hbO);simp [Gh.renew, this]
 . simp only [Gh.renew]; rw [zL (jg hj)]; exact hj
 . rcases List.mem_cons.1 hk with rfl | hk
   . exact .inl hbO
   . exact .inl (List.mem_filter.1 hk).1
end Go.Idl
namespace Go.Idl
variable [Globs]
variable {P : Program} {o : Oper} {a : Act} {g : Gh} {O : List Nat} {w : World} {s : St} {res : Res} {cf : jo}
theorem Zg : ∀ {ys : List IVal} {us : List Value}, ys.length = us.length -> (∀ (j : Nat) y u, ys[j]? = some y -> us[j]? = some u -> V g y u) -> (∀ y ∈ ys, nt y = true) ->
   (ys.flatMap fun v => (un2 v).cells).length = (jp us).length /\ ∀ (j : Nat) x v, (ys.flatMap fun v => (un2 v).cells)[j]? = some x -> (jp us)[j]? = some v -> V g x v /\ un1 x = x /\ x.isCell = true := by
 intro ys
 induction ys with
 | nil => intro us h _ _; have : us = [] := List.length_eq_zero_iff.1 h.symm; subst this; simp [jp]
 | cons y ys ih =>
   intro us h hv hn
   cases us with
   | nil => simp at h
   | cons u us =>
     have hV := hv 0 y u rfl rfl;obtain ⟨h1, h2⟩ := ih (us := us) (by simpa using h) (fun j y u hy hu => hv (j + 1) y u (by simpa using hy) (by simpa using hu)) (fun y hy => hn y (by simp [hy]));have e : jp (u :: us) = u.cells.toList ++ jp us := by simp [jp]
     obtain ⟨c1, c2⟩ := hV.un2.cells;have hfl := jeL hV (hn y (by simp));have el : (un2 y).cells.length = u.cells.toList.length := by simpa using c1
     simp only [List.flatMap_cons];rw [e];refine ⟨by simp only [List.length_append, h1, el], fun j x v hx hv' => ?_⟩
     by_cases hj : j < (un2 y).cells.length
     . rw [zL hj] at hx;rw [zL (by omega)] at hv';obtain ⟨q1, q2⟩ := hfl x (zM hx);exact ⟨c2 j x v hx (by simpa using hv'), q1, q2⟩
     . rw [zR (by omega)] at hx;rw [zR (by omega), <- el] at hv';exact h2 _ x v hx hv'
theorem jhH {ys : List IVal} {us : List Value} (hl : ys.length = us.length) (hv : ∀ (j : Nat) y u, ys[j]? = some y -> us[j]? = some u -> V g y u) (hn : ∀ y ∈ ys, nt y = true) : ∀ v ∈ jp us, v.oneCell' = true := by
 obtain ⟨h1, h2⟩ := Zg hl hv hn;intro v hv';obtain ⟨j, hj⟩ := jx hv';obtain ⟨x, hx⟩ := jE h1.symm hj;obtain ⟨q1, _, q3⟩ := h2 j x v hx hj;exact yK (by rw [<- q1.isCell]; exact q3)
theorem jfr {A : List IVal} {c : List Value} (n : Nat) : (List.zipWith kX (A.take n) (c.take n)).flatten.Sublist (List.zipWith kX A c).flatten := by
 rw [<- List.take_zipWith];generalize List.zipWith kX A c = l;have : l.flatten = (l.take n).flatten ++ (l.drop n).flatten := by rw [<- List.flatten_append, List.take_append_drop]
 rw [this]; exact List.sublist_append_left _ _
theorem jhK {A B : List IVal} {C D : List Value} (hl : A.length = C.length) (hB : ∀ (j : Nat) x v, B[j]? = some x -> D[j]? = some v -> kX x v = []) : (List.zipWith kX (A ++ B) (C ++ D)).flatten = (List.zipWith kX A C).flatten := by
 rw [List.zipWith_append hl, List.flatten_append];rw [show (List.zipWith kX B D).flatten = [] from flatten_nil (fun x hx => by
   obtain ⟨j, y, v, h1, h2, rfl⟩ := jN hx;exact hB j y v h1 h2)]
 simp
theorem jbv {isS : Bool} {x y : Opd} {rx ry : Operand} {c : Call} {T U E : TypeId} {du : TypeDesc} {i : TypeInfo} {z : Value} (hop : o.op = .call c) (hc : c.callee = .builtin .append) (ha : c.args = #[rx, ry]) (hta : c.argTypes = #[T, U]) (hx : jl x rx = true) (hy : jl y ry = true)
   (hT : P.underlying T = some (.slice E)) (hU : P.underlying U = some du) (hdu : ∀ k, du ≠ .int k) (hi : P.info? E = some i) (hz : i.zero = some z) (hzs : z.cells.size = i.size)
   (hs : ja cf (.append true isS i.size i.bytes x y) s = some res) (hl : WT s.ts a.tmps) (hR : R g O (s.ts.roots a.tmps) s.σ w) : SimV P o a g O w s res := by
 simp only [ja] at hs;split at hs
 . rename_i base ts h;split at hs
   . rename_i yv ts' h';split at hs
     . rename_i ys hys;have hexec : ∀ r w', (Builtin.append_ #[T, U] o.type #[a.eval rx, a.eval ry]).run P w = .ok r w' -> (execOp a.eval o).run P w = .ok (.value r) w' := by
         intro r w' hr;simp [execOp, hop, resolve, hc, ha, hta, invoke, builtin, hr]
       obtain ⟨h1, h2⟩ := jk (l := []) hx h hl hR;obtain ⟨h3, h4⟩ := jk (l := [(base, a.eval rx)]) hy h' h2 h1;obtain ⟨us, u1, u2, u3, u4, u5, u6⟩ := Vh (P := P) h3 h3.head hys;obtain ⟨k1, k2⟩ := Zg u1 u2 u3;have hflen : (jp us).length = ys.length * i.size := by rw [kb u4, u1]
       have hroot : R g O ((base, a.eval rx) :: ts'.roots a.tmps) s.σ w := h3.drop;have hroot := hroot.nilOwn i.size;have hV := hroot.head;generalize nilOwn i.size base = base at hs hV hroot;generalize hrx : a.eval rx = rxv at hV hroot;split at hs
       . rename_i own rf xs;split at hs
         . rename_i hcond;obtain ⟨hown, h0, hb1, hb2⟩ := hcond;subst hown;simp only [if_true] at hs;split at hs
           . rename_i hxs;have hxs : xs = [] := List.length_eq_zero_iff.1 hxs;subst hxs;have hlenx : ∃ ad, rxv = .slice ad 0 0 := by
               cases hV with
               | nil => exact ⟨none, rfl⟩
               | sl _ _ _ vs ad cap _ _ hc' hl' hv' hf' hr' hz' hcl ho hn =>
                 have := (ho (by omega)).2.1 rfl;subst this;exact ⟨some ad, rfl⟩
             obtain ⟨ad, rfl⟩ := hlenx;split at hs
             . rename_i hys0;have hys0 : ys = [] := List.length_eq_zero_iff.1 hys0;subst hys0;simp only [rv, zO] at hs;subst hs;have hus : us = [] := List.length_eq_zero_iff.1 (by simpa using u1.symm);subst hus;have hrun : (Builtin.append_ #[T, U] o.type #[.slice ad 0 0, a.eval ry]).run P w = .ok (.slice ad (0 + 0) 0) w := by
                 refine kZ hT hU hdu hi u5 (u6 w rfl) (by simp) ?_;cases ad <;> simp [jp, storeCells]
               exact SimV.same (hexec _ _ (by rw [hrx]; exact hrun)) hroot h4
             . rename_i hys0;simp only [zO] at hs;subst hs;have hneed : (0 + ys.length) * i.bytes <= 140737488355328 := by simp only [List.length_nil] at hb1; omega
               have hrun := vx (ty := o.type) (base := ad) (sLen := 0) (sCap := 0) (olds := []) hT hU hdu hi hz u5 u6 (fun W _ => by
                 cases ad with
                 | none => simp [Builtin.firstCells]
                 | some ad => exact run_firstCells_some (P := P) W i.size 0 ad 0 0 [] (by simp) (by simp)) (by omega) (by simp only [List.length_nil] at hb2; omega) (growslice_fits (by omega) hneed)
               have hge := grownCap_ge w (0 + ys.length) 0 E;generalize hcapd : grownCap w (0 + ys.length) 0 E = cap' at hrun hge;simp only [Nat.zero_add] at hrun hge;have hzc : (Builtin.zeroCells z.cells (cap' - ys.length)).size = (cap' - ys.length) * i.size := by
                 simp [Builtin.zeroCells, hzs]
               have hR0 : R g O ((.sl i.size rf [], .slice ad 0 0) :: ts'.roots a.tmps) s.σ w.drew := hroot.world (Nat.le_refl _) (fun _ _ => rfl);have hG0 : Grow O g w O g w.drew := ⟨Nat.le_refl _, fun _ _ _ => ⟨rfl, rfl, fun _ => rfl⟩, fun _ _ _ h => h, fun _ _ h => h, fun _ h => .inl h, rfl, rfl, rfl, rfl, fun _ => Nat.le_refl _⟩;have hcs : (([] : List Value).toArray ++ (jp us).toArray ++ Builtin.zeroCells z.cells (cap' - ys.length)).size = cap' * i.size := by
                 simp only [Array.size_append, hzc, List.size_toArray, hflen, List.length_nil, Nat.zero_add];rw [<- Nat.add_mul]; congr 1; omega
               have vU : ∀ (j : Nat) v, (([] : List Value).toArray ++ (jp us).toArray ++ Builtin.zeroCells z.cells (cap' - ys.length))[j]? = some v -> j < ys.length * i.size -> (jp us)[j]? = some v := by
                 intro j v hj hlt;rw [Array.getElem?_append_left (by simp [hflen]; exact hlt)] at hj;simpa using hj
               have hι : ∀ (id b : Nat), g.ι[id]? = some (Blk.bk b) -> (g.fresh w.heap.size).ι[id]? = some (Blk.bk b) := fun (id b : Nat) hb => by simp only [Gh.fresh]; rw [zL (jg hb)]; exact hb
               have hcl : ∀ (j : Nat) x v, (ys.flatMap fun v => (un2 v).cells)[j]? = some x -> (([] : List Value).toArray ++ (jp us).toArray ++ Builtin.zeroCells z.cells (cap' - ys.length))[j]? = some v -> V g x v /\ un1 x = x /\ x.isCell = true := by
                 intro j x v hxj hvj;have := jg hxj;rw [k1, hflen] at this;exact k2 j x v hxj (vU j v hvj this)
               have hnew := hR0.new (obr := .cells (([] : List Value).toArray ++ (jp us).toArray ++ Builtin.zeroCells z.cells (cap' - ys.length)) E) (ob := .cells (ys.flatMap fun v => (un2 v).cells)) (fun _ =>
                 ⟨_, E, jF _ _, by rw [k1, hflen, hcs]; exact Nat.mul_le_mul_right _ (by omega), fun j x v hxj hvj => by
                   obtain ⟨q1, q2, q3⟩ := hcl j x v hxj hvj;exact ⟨q1.mono hι (fun _ _ _ h => h) (by rw [kP q3, kY q2]; simp), q3⟩⟩) ⟨[], by
                 simp only [kV];rw [flatten_nil];intro cc hcm;obtain ⟨j, x, y, q1, q2, rfl⟩ := jN hcm;have hb : jT (w.drew.alloc (.cells (([] : List Value).toArray ++ (jp us).toArray ++ Builtin.zeroCells z.cells (cap' - ys.length)) E)) w.drew.heap.size = _ := j7 ..;rw [hb] at q2;exact kY (hcl j x y q1 (by rw [<- Array.getElem?_toList]; exact q2)).2.1 _, by simp⟩
               refine ⟨rfl, _, _, _, hexec _ _ (by rw [hrx]; exact hrun), rfl, _, w.heap.size :: O, [], hG0.trans ((kH hR0 _).trans (Grow.setZ _ _ _ _ _)), (hnew.setZ (z := cap' * i.size) (jF _ _) (by rw [hcs]; exact Nat.le_refl _)).push (.rs _ _ _ _ _ _ ?_ (by omega) (by rw [Nat.zero_add]; exact VT _ _ _)) rfl, h4, rfl, Keep.snoc _ _⟩;simp [Gh.fresh, Gh.setZ, <- hR.len]
           . cases hs
         . cases hs
       . rename_i e id off len;split at hs
         . rename_i hcond;obtain ⟨-, he, ho, h0, hb1, hb2⟩ := hcond;subst he ho;split at hs
           . rename_i cs hcs;split at hs
             . rename_i hlen;simp only [zO] at hs;subst hs;obtain ⟨b, cap, rfl, hι, hcap, hz0⟩ := hV.rs_inv';have hσ := jI hcs;obtain ⟨c, el, hh, hsz, hc'⟩ := hroot.objs id b _ hι hσ;have hA : (cs.take (len * i.size)).length = len * i.size := by simp; omega
               have hC : (c.toList.take (len * i.size)).length = len * i.size := by simp; omega
               have hVA : ∀ (j : Nat) x v, (cs.take (len * i.size))[j]? = some x -> (c.toList.take (len * i.size))[j]? = some v -> V g x v /\ x.isCell = true := by
                 intro j x v hx hv;have hj := jg hx;rw [hA] at hj;rw [List.getElem?_take, if_pos hj] at hx hv;exact hc' j x v hx (by simpa using hv)
               have hy : V g (.agg (cs.take (len * i.size))) (.agg (c.toList.take (len * i.size)).toArray) := by
                 refine .agg _ _ (by simp only [List.size_toArray]; rw [hA, hC]) (fun j x v hx hv => (hVA j x v hx (by simpa using hv)).1) (fun x hx => ?_);obtain ⟨j, hj⟩ := jx hx;obtain ⟨v, hv⟩ := jE (hA.trans hC.symm) hj;exact (hVA j x v hj hv).2
               have hoy : jA (.agg (cs.take (len * i.size))) (.agg (c.toList.take (len * i.size)).toArray) = (List.zipWith kX (cs.take (len * i.size)) (c.toList.take (len * i.size))).flatten := rfl;have hob : kV w b (.cells cs) = b :: (List.zipWith kX cs c.toList).flatten := by simp [kV, jT, hh]
               have hsub := jfr (A := cs) (c := c.toList) (len * i.size);have hlive : IObj.cells cs ≠ .dead := by simp
               have hnd : (kV w b (.cells cs)).Nodup := by
                 have h5 := (List.nodup_append.1 hroot.nodup).2.1;refine h5.sublist (List.sublist_flatten_of_mem ?_);refine zM (i := id) ?_;simp [List.getElem?_zipWith, hι, hσ, qU]
               have hbA : b ∉ (List.zipWith kX (cs.take (len * i.size)) (c.toList.take (len * i.size))).flatten := by
                 rw [hob, List.nodup_cons] at hnd;exact fun hm => hnd.1 (hsub.mem hm)
               have hyo : SubP (jA (.agg (cs.take (len * i.size))) (.agg (c.toList.take (len * i.size)).toArray)) (jA (.rs i.size id 0 len) (.slice (some ⟨b, 0, none⟩) len cap) ++ kV w b (.cells cs)) := by
                 rw [hoy, hob];exact .of_sub ((hsub.trans (List.sublist_cons_self _ _)).trans (List.sublist_append_right _ _))
               have hBget : ∀ {F : List Value} (j : Nat) x v, (cs.take (len * i.size) ++ ys.flatMap fun v => (un2 v).cells)[j]? = some x -> (c.toList.take (len * i.size) ++ (jp us ++ F))[j]? = some v ->
                   ((cs.take (len * i.size))[j]? = some x /\ (c.toList.take (len * i.size))[j]? = some v) \/ (V g x v /\ un1 x = x /\ x.isCell = true) := by
                 intro F j x v hx hv
                 by_cases hj : j < len * i.size
                 . rw [zL (by omega)] at hx hv;exact .inl ⟨hx, hv⟩
                 . rw [zR (by omega), hA] at hx;rw [zR (by omega), hC] at hv;have := jg hx;rw [zL (by omega)] at hv;exact .inr (k2 _ x v hx hv)
               have hownB : ∀ {F : List Value}, (List.zipWith kX (cs.take (len * i.size) ++ ys.flatMap fun v => (un2 v).cells) (c.toList.take (len * i.size) ++ (jp us ++ F))).flatten = (List.zipWith kX (cs.take (len * i.size)) (c.toList.take (len * i.size))).flatten := by
                 intro F;refine jhK (hA.trans hC.symm) (fun j x v hx hv => ?_);have := jg hx;rw [zL (by omega)] at hv;exact kY (k2 j x v hx hv).2.1 v
               have hlenN : (cs.take (len * i.size) ++ ys.flatMap fun v => (un2 v).cells).length = (len + ys.length) * i.size := by
                 rw [List.length_append, hA, k1, hflen, Nat.add_mul]
               have hkeep : Keep s.σ (s.σ.set id .dead ++ [.cells (cs.take (len * i.size) ++ ys.flatMap fun v => (un2 v).cells)]) [(id, false)] :=
                 (Keep.set (ob := .dead) (rf := false) (fun n _ _ _ => (trivial : True))).trans (Keep.snoc _ _)
               by_cases hroom : len + ys.length <= cap
               . have hcapc : cap * i.size <= c.size := by
                   rcases Nat.eq_zero_or_pos (cap * i.size) with h9 | h9
                   . omega
                   . obtain ⟨c2, el2, fz2, q1, q2⟩ := hroot.zs b (by omega);rw [hh] at q1; cases q1; omega
                 have hmul : len * i.size + ys.length * i.size <= cap * i.size := by rw [<- Nat.add_mul]; exact Nat.mul_le_mul_right _ hroom
                 have hst := run_storeCells_atF P b (0 + len * i.size) el (0, 0) (jp us) 0 c w hh (by simp) (by omega) (jhH u1 u2 u3);have hrun : (Builtin.append_ #[T, U] o.type #[.slice (some ⟨b, 0, none⟩) len cap, a.eval ry]).run P w = .ok (.slice (some ⟨b, 0, none⟩) (len + ys.length) cap) _ :=
                   kZ hT hU hdu hi u5 (u6 w rfl) hroom (by
                     simp only;rw [kq]; exact hst)
                 simp only [Nat.add_zero, Nat.zero_add, zS] at hrun;generalize hcc : (c.toList.take (len * i.size) ++ (jp us ++ c.toList.drop (len * i.size + (jp us).length))).toArray = c2 at hrun;have hc2 : c2.toList = c.toList.take (len * i.size) ++ (jp us ++ c.toList.drop (len * i.size + (jp us).length)) := by rw [<- hcc]
                 have hc2s : c2.size = c.size := by rw [<- hcc]; simp; omega
                 have hf := qE w b c2;have hrow := setRow_heap w b c c2 el _ hh;obtain ⟨O', hR', hg⟩ := hroot.renew (ob' := .cells (cs.take (len * i.size) ++ ys.flatMap fun v => (un2 v).cells)) hι hσ hlive (fun k hk => setRow_other w b k c2 hk) hf.2.2.2 (fun c0 el0 fz0 h9 => by
                     rw [hh] at h9; cases h9; exact ⟨c2, el, hrow, hc2s⟩) hy hyo (by rw [hoy]; exact hbA) ⟨c2, el, hrow, by rw [hlenN, hc2s, Nat.add_mul]; omega, fun j x v hx hv => by
                       have hv' : c2.toList[j]? = some v := by simpa using hv
                       rw [hc2] at hv'
                       rcases hBget j x v hx hv' with ⟨q1, q2⟩ | ⟨q1, q2, q3⟩
                       . obtain ⟨p1, p2⟩ := hVA j x v q1 q2;refine ⟨p1.mono (fun id' b' hb' => by simp only [Gh.renew]; rw [zL (jg hb')]; exact hb') (fun _ _ _ h => h) (fun b' hb' => ?_), p2⟩;have : b' ≠ b := fun e => hbA (by
                           subst e;rw [kP p2] at hb';exact qw (f := kX) q1 q2 hb')
                         simp [Gh.renew, this]
                       . exact ⟨q1.mono (fun id' b' hb' => by simp only [Gh.renew]; rw [zL (jg hb')]; exact hb') (fun _ _ _ h => h) (by rw [kP q3, kY q2]; simp), q3⟩⟩
                     ⟨_, by simp only [kV, jT, hrow]; rw [hc2], by rw [hownB, hoy]; exact .refl _⟩ hf.1 hf.2.1 hf.2.2.1
                 refine ⟨rfl, _, _, _, hexec _ _ (by rw [hrx]; exact hrun), rfl, _, O', [(id, false)], hg, hR'.push (.rs _ _ _ _ _ _ ?_ hroom hz0) rfl, h4, rfl, hkeep⟩;simp [Gh.renew, <- hR.len]
               . have hneed : (len + ys.length) * i.bytes <= 140737488355328 := by omega
                 have hold : ∀ W : World, W.heap = w.heap -> (Builtin.firstCells i.size len (.slice (some ⟨b, 0, none⟩) len cap)).run P W = .ok (c.toList.take (len * i.size)).toArray W := by
                   intro W hW;refine run_firstCells_some (P := P) W i.size len ⟨b, 0, none⟩ len cap _ hC (fun j v hj => ?_);have hjl := jg hj;rw [hC] at hjl;rw [List.getElem?_take, if_pos hjl] at hj;rw [kq];simp only [World.cell?, hW, hh, Nat.zero_add];simpa using hj
                 have hrun := vx (ty := o.type) hT hU hdu hi hz u5 u6 hold (by omega : cap < len + ys.length) (by omega) (growslice_fits (by omega) hneed);have hge := grownCap_ge w (len + ys.length) cap E;generalize hcapd : grownCap w (len + ys.length) cap E = cap' at hrun hge;have hzc : (Builtin.zeroCells z.cells (cap' - (len + ys.length))).size = (cap' - (len + ys.length)) * i.size := by
                   simp [Builtin.zeroCells, hzs]
                 have hdead := hroot.upd (ob' := .dead) (w' := w) hy hι hσ hlive (fun _ _ => rfl) rfl (fun c0 el0 fz0 h9 => ⟨c0, el0, h9, rfl⟩) trivial (by simp only [kV, List.append_nil]; exact hyo);have hR0 := hdead.world (w' := w.drew) (Nat.le_refl _) (fun _ _ => rfl);have hG0 : Grow O g w O g w.drew := ⟨Nat.le_refl _, fun _ _ _ => ⟨rfl, rfl, fun _ => rfl⟩, fun _ _ _ h => h, fun _ _ h => h, fun _ h => .inl h, rfl, rfl, rfl, rfl, fun _ => Nat.le_refl _⟩;generalize hcc : (c.toList.take (len * i.size)).toArray ++ (jp us).toArray ++ Builtin.zeroCells z.cells (cap' - (len + ys.length)) = c2 at hrun;have hc2 : c2.toList = c.toList.take (len * i.size) ++ (jp us ++ (Builtin.zeroCells z.cells (cap' - (len + ys.length))).toList) := by rw [<- hcc]; simp
                 have hc2s : c2.size = cap' * i.size := by
                   have : c2.size = c2.toList.length := by simp
                   rw [this, hc2, List.length_append, List.length_append, hC, hflen];have e9 : (Builtin.zeroCells z.cells (cap' - (len + ys.length))).toList.length = (cap' - (len + ys.length)) * i.size := by simpa using hzc
                   rw [e9, <- Nat.add_mul, <- Nat.add_mul]
                   congr 1; omega
                 have hnew := hR0.new (obr := .cells c2 E) (ob := .cells (cs.take (len * i.size) ++ ys.flatMap fun v => (un2 v).cells)) (fun hVf =>
                   ⟨c2, E, jF _ _, by rw [hlenN, hc2s]; exact Nat.mul_le_mul_right _ hge, fun j x v hx hv => by
                     have hv' : c2.toList[j]? = some v := by simpa using hv
                     rw [hc2] at hv'
                     rcases hBget j x v hx hv' with ⟨q1, q2⟩ | ⟨q1, q2, q3⟩
                     . cases hVf with
                       | agg _ _ hl' hv'' hi' => exact ⟨hv'' j x v q1 (by simpa using q2), hi' x (zM q1)⟩
                     . exact ⟨q1.mono (fun id' b' hb' => by simp only [Gh.fresh]; rw [zL (jg hb')]; exact hb') (fun _ _ _ h => h) (by rw [kP q3, kY q2]; simp), q3⟩⟩)
                   ⟨_, by
                     simp only [kV];have hb : jT (w.drew.alloc (.cells c2 E)) w.drew.heap.size = c2.toList := j7 ..;rw [hb, hc2], by rw [hownB, hoy]; exact .refl _⟩
                 refine ⟨rfl, _, _, _, hexec _ _ (by rw [hrx]; exact hrun), rfl, _, w.heap.size :: O, [(id, false)], hG0.trans ((kH hR0 _).trans (Grow.setZ _ _ _ _ _)), (hnew.setZ (z := cap' * i.size) (jF _ _) (by rw [hc2s]; exact Nat.le_refl _)).push (.rs _ _ _ _ _ _ ?_ hge (by rw [Nat.zero_add]; exact VT _ _ _)) rfl, h4, rfl, hkeep⟩;simp [Gh.fresh, Gh.setZ, <- hR.len]
             . cases hs
           . cases hs
         . cases hs
       . cases hs
     . cases hs
   . cases hs
 . cases hs
theorem jbu {br isS : Bool} {x y : Opd} {rx ry : Operand} {c : Call} {T U E : TypeId} {du : TypeDesc} {i : TypeInfo} {z : Value} (hop : o.op = .call c) (hc : c.callee = .builtin .append) (ha : c.args = #[rx, ry]) (hta : c.argTypes = #[T, U]) (hx : jl x rx = true) (hy : jl y ry = true)
   (hT : P.underlying T = some (.slice E)) (hU : P.underlying U = some du) (hdu : ∀ k, du ≠ .int k) (hi : P.info? E = some i) (hz : i.zero = some z) (hzs : z.cells.size = i.size)
   (hs : ja cf (.append br isS i.size i.bytes x y) s = some res) (hl : WT s.ts a.tmps) (hR : R g O (s.ts.roots a.tmps) s.σ w) : SimV P o a g O w s res := by
 cases br with
 | false => exact jdq hop hc ha hta hx hy hT hU hdu hi hz hzs hs hl hR
 | true => exact jbv hop hc ha hta hx hy hT hU hdu hi hz hzs hs hl hR
theorem YM {x : Opd} {r : Operand} {S T e : TypeId} (hop : o.op = .convert S T r) (hx : jl x r = true) (hS : P.underlying S = some .string) (hT : P.underlying T = some (.slice e)) (he : P.underlying e = some (.int .u8))
   (hs : ja cf (.conv .bytes x) s = some res) (hl : WT s.ts a.tmps) (hR : R g O (s.ts.roots a.tmps) s.σ w) : SimV P o a g O w s res := by
 simp only [ja] at hs;split at hs
 . rename_i av ts h
   cases av with
   | str b =>
     simp only [rv, zO] at hs;subst hs;obtain ⟨h1, h2⟩ := jk (l := []) hx h hl hR;obtain ⟨t, hu, ht⟩ := h1.head.str_inv;have hrun := run_bytes_of_string (P := P) w S T e t hS hT he;have hge := grownCap_ge w t.size 0 e;have hR0 : R g O (ts.roots a.tmps) s.σ w.drew := h1.drop.world (Nat.le_refl _) (fun _ _ => rfl);have hG0 : Grow O g w O g w.drew := ⟨Nat.le_refl _, fun _ _ _ => ⟨rfl, rfl, fun _ => rfl⟩, fun _ _ _ h => h, fun _ _ h => h, fun _ h => .inl h, rfl, rfl, rfl, rfl, fun _ => Nat.le_refl _⟩;have hlen : b.length = t.size := by rw [<- ht]; simp
     have hfl : jp (t.data.toList.map fun b => Value.int .u8 b.toNat) = t.data.toList.map fun b => Value.int .u8 b.toNat := K0 (by simp [Value.cells]);obtain ⟨g', O', hR', hg, hι⟩ := hR0.newSlice (xs := b.map fun c => .int .u8 c.toNat) (vs := t.data.toList.map fun b => .int .u8 b.toNat) (esz := 1) (cap := grownCap w t.size 0 e) (own := 0) (rf := false)
       (c := bytesRow t (grownCap w t.size 0 e)) (el := e) (fz := ((bytesRow t (grownCap w t.size 0 e)).size, (bytesRow t (grownCap w t.size 0 e)).size + 1)) (by rw [<- ht]; simp) (fun j x v hx hv => by
         rw [<- ht] at hx;simp only [List.getElem?_map, Option.map_eq_some_iff] at hx hv;obtain ⟨c, hc, rfl⟩ := hx;obtain ⟨c', hc', rfl⟩ := hv;rw [hc] at hc'; cases hc';exact .int _ _) (fun x hx => by
         simp only [List.mem_map] at hx;obtain ⟨c, _, rfl⟩ := hx;exact ⟨rfl, rfl⟩) (fun _ x hx => by
         simp only [List.mem_map] at hx;obtain ⟨c, _, rfl⟩ := hx;rfl) (fun v hv => by
         simp only [List.mem_map] at hv;obtain ⟨c, _, rfl⟩ := hv;rfl) (fun k v hk => by
         rw [hfl] at hk;simp only [List.getElem?_map, Option.map_eq_some_iff] at hk;obtain ⟨c, hc, rfl⟩ := hk;have hkl : k < t.data.size := by have := jg hc; simpa using this
         rw [bytesRow_at t _ k hkl];have : t.data[k] = c := Option.some.inj ((Array.getElem?_eq_getElem hkl).symm.trans (by simpa using hc));rw [this]) (by simpa [hlen] using hge) (by
         have : t.data.size = t.size := rfl;simp [bytesRow, this]; omega) (.inl rfl) (by simp) (by rw [hfl, <- ht]; simp)
     have e1 : (b.map fun c => IVal.int .u8 c.toNat).length = t.size := by simpa using hlen
     rw [e1] at hR';have hexec : ∀ r w', (convert S T (.string t)).run P w = .ok r w' -> (execOp a.eval o).run P w = .ok (.value r) w' := by
       intro r w' hr;simp only [execOp, hop, hu];simp only [Sem.run_bind, hr, Result.andThen_ok, Sem.run_pure]
     exact ⟨rfl, _, _, _, hexec _ _ hrun, rfl, g', O', [], hG0.trans hg, hR', h2, rfl, Keep.refl _⟩
   | _ => simp at hs
 . cases hs
theorem jf0 {zs : List IVal} {x : Opd} {rx : Operand} {c : Call} {T E : TypeId} {i : TypeInfo} {z : Value} (hop : o.op = .call c) (hc : c.callee = .builtin .clear) (ha : c.args = #[rx]) (hta : c.argTypes[0]? = some T) (hx : jl x rx = true)
   (hT : P.underlying T = some (.slice E)) (hi : P.info? E = some i) (hz : i.zero = some z) (hzc : Xi zs z.cells.toList = true) (hzs : z.cells.size = i.size)
   (hs : ja cf (.clear zs x) s = some res) (hl : WT s.ts a.tmps) (hR : R g O (s.ts.roots a.tmps) s.σ w) : SimV P o a g O w s res := by
 have hexec : ∀ r w', (Builtin.clear_ c.argTypes o.type #[a.eval rx]).run P w = .ok r w' -> (execOp a.eval o).run P w = .ok (.value r) w' := by
   intro r w' hr;simp [execOp, hop, resolve, hc, ha, invoke, builtin, hr]
 simp only [ja] at hs;split at hs
 . rename_i e id off len ts h;split at hs
   . rename_i cs hcs;split at hs
     . rename_i hcond;obtain ⟨he, h0, hle⟩ := hcond;simp only [zO] at hs;subst hs;obtain ⟨h1, h2⟩ := jk (l := []) hx h hl hR;obtain ⟨b, cap, hu, hι, hcap⟩ := h1.head.rs_inv;have hσ := jI hcs;obtain ⟨cc, el, hh, hsz, hcl⟩ := h1.objs id b _ hι hσ;obtain ⟨z1, z2⟩ := yD g hzc;have hzl : zs.length = z.cells.size := by simpa using z1
       have hrl : (J2 len zs).length = len * e := by rw [JQ, <- he]
       have hzsz : (Builtin.zeroCells z.cells len).toList.length = len * e := by
         simp [Builtin.zeroCells, he, hzl]
       have hpt : ∀ (k : Nat) x v, (J2 len zs)[k]? = some x -> (Builtin.zeroCells z.cells len).toList[k]? = some v -> V g x v /\ kX x v = [] /\ x.isCell = true := by
         intro k x v hxk hvk;have hk := jg hxk;rw [JQ] at hk;rw [YH (by omega) len k hk] at hxk;have hv' : (Builtin.zeroCells z.cells len)[k]? = some v := by simpa using hvk
         have hk2 : k < len * z.cells.size := by rw [<- hzl]; exact hk
         simp only [Builtin.zeroCells, Array.getElem?_map, Array.getElem?_range, if_pos hk2, Option.map_some, zO] at hv';have hmod : k % z.cells.size < z.cells.size := Nat.mod_lt _ (by omega);refine z2 (k % zs.length) x v hxk ?_;rw [<- hv', hzl];simp [getElem!_pos, hmod]
       have vB : off + (J2 len zs).length <= cs.length := by omega
       have hput' : off + (Builtin.zeroCells z.cells len).toList.length <= cc.toList.length := by rw [hzsz]; simp; omega
       have hones : ∀ u ∈ (Builtin.zeroCells z.cells len).toList, u.oneCell' = true := by
         intro u hu';obtain ⟨j, hj⟩ := jx hu';obtain ⟨x, hx'⟩ := jE (hzsz.trans hrl.symm) hj;obtain ⟨q1, _, q3⟩ := hpt j x u hx' hj;exact yK (by rw [<- q1.isCell]; exact q3)
       let row := (cc.toList.take off ++ (Builtin.zeroCells z.cells len).toList ++ cc.toList.drop (off + (Builtin.zeroCells z.cells len).toList.length)).toArray
       have hst : (storeCells ⟨b, off, none⟩ (Builtin.zeroCells z.cells len).toList).run P w = .ok () (w.setRow b row) := by
         have := run_storeCells_atF P b off el (0, 0) (Builtin.zeroCells z.cells len).toList 0 cc w hh (by simp) (by simpa using hput') hones;simpa [row] using this
       have hrun : (Builtin.clear_ c.argTypes o.type #[a.eval rx]).run P w = .ok (.tuple #[]) (w.setRow b row) := by
         rw [hu]
         by_cases hl0 : len = 0
         . subst hl0;have he0 : (Builtin.zeroCells z.cells 0).toList = [] := by simp [Builtin.zeroCells]
           rw [he0] at hst;have hws : w.setRow b row = w := by
             have : (storeCells ⟨b, off, none⟩ []).run P w = .ok () w := by simp [storeCells]
             have h9 := this.symm.trans hst;injection h9 with _ h10
             exact h10.symm
           rw [hws];simp [Builtin.clear_, hta, jm hT]
         . cases len with
           | zero => exact absurd rfl hl0
           | succ n => simp [Builtin.clear_, hta, jm hT, zeroValue, typeInfo, hi, hz, hst]
       have hrow : (w.setRow b row).heap[b]? = some (.cells row el (0, 0)) := setRow_heap w b cc row el _ hh;have hOB : OBJ g (w.setRow b row) b (.cells (ji cs off (J2 len zs))) := by
         refine ⟨row, el, hrow, ?_, fun j x u hxj huj => ?_⟩
         . rw [kQ vB]; simp [row]; simp at hput'; omega
         . rw [qn vB] at hxj;have huj' : (cc.toList.take off ++ (Builtin.zeroCells z.cells len).toList ++ cc.toList.drop (off + (Builtin.zeroCells z.cells len).toList.length))[j]? = some u := by simpa [row] using huj
           rw [QY hput', hzsz, <- hrl] at huj';split at hxj
           . rename_i hj;rw [if_pos hj] at huj';obtain ⟨q1, _, q3⟩ := hpt _ x u hxj huj';exact ⟨q1, q3⟩
           . rename_i hj;rw [if_neg hj] at huj';exact hcl j x u hxj (by simpa using huj')
       have hf := qE w b row;have hR' := h1.upd (y := ju) (u := undef) (id := id) (b := b) (ob := .cells cs) (ob' := .cells (ji cs off (J2 len zs))) (w' := w.setRow b row) (ky g) hι hσ (by simp) (fun k hk => setRow_other w b k row hk) hf.2.2.2 (fun c' el' fz' hc' => by
         rw [hh] at hc'; cases hc';exact ⟨row, el, hrow, by simp [row]; simp at hput'; omega⟩) hOB (by
         simp only [kV, jT, hh, hrow];obtain ⟨A, C, e1, e2⟩ := VG (cs := cs) (ws := J2 len zs) (c := cc.toList) (us := (Builtin.zeroCells z.cells len).toList) (off := off) (by simpa using hsz) (by rw [hzsz, hrl]) vB;have emid : (List.zipWith kX (J2 len zs) (Builtin.zeroCells z.cells len).toList).flatten = [] := flatten_nil (fun x hx => by
           obtain ⟨j, y, v, q1, q2, rfl⟩ := jN hx;exact (hpt j y v q1 q2).2.1)
         rw [show row.toList = cc.toList.take off ++ (Builtin.zeroCells z.cells len).toList ++ cc.toList.drop (off + (Builtin.zeroCells z.cells len).toList.length) from rfl, e1, e2, emid];refine SubP.of_sub ?_;show List.Sublist (b :: (A ++ [] ++ C)) (jA (.rs e id off len) (a.eval rx) ++ (b :: (A ++ _ ++ C)));refine List.Sublist.trans ?_ (List.sublist_append_right _ _);refine List.Sublist.cons_cons _ ?_;refine List.Sublist.append ?_ (.refl _);rw [List.append_nil]; exact List.sublist_append_left _ _)
       refine ⟨rfl, undef, _, _, hexec _ _ hrun, rfl, g, O, [(id, !(zs.all nr1))], ?_, hR', h2, rfl, Keep.set fun m hid hm ho => ?_⟩
       . exact Grow.of_setRow g w (h1.sub b (List.mem_append_right _ (j6 hι hσ (by simp [kV])))) _ (fun k hk => setRow_other w b k row hk) hf.2.2.2 hf.1 hf.2.1 hf.2.2.1
       . refine Q8 vB (ho _ hσ) (fun x hx => ?_);have hxz : x ∈ zs := by
           simp only [J2, List.mem_flatten] at hx;obtain ⟨l, hl', hxl⟩ := hx;rw [List.eq_of_mem_replicate hl'] at hxl; exact hxl
         obtain ⟨j, hj⟩ := jx hxz;obtain ⟨u, hu'⟩ := jE z1 hj;have hVx := (z2 j x u hj hu').1
         by_cases hnr : zs.all nr1 = true
         . exact hVx.norl m (kJ (vF (List.all_eq_true.1 hnr x hxz)))
         . exact absurd (hm (by simpa using hnr)) (by omega)
     . cases hs
   . cases hs
 . rename_i own r ts h;simp only [rv, zO] at hs;subst hs;obtain ⟨h1, h2⟩ := jk (l := []) hx h hl hR;have hV := h1.head;have hrun : (Builtin.clear_ c.argTypes o.type #[a.eval rx]).run P w = .ok (.tuple #[]) w := by
     generalize a.eval rx = u at hV
     cases hV with
     | nil => simp [Builtin.clear_, hta, jm hT]
     | sl _ _ _ vs ad cap _ _ hc' hl' => simp [Builtin.clear_, hta, jm hT]
   exact SimV.same (hexec _ _ hrun) (h1.swap (fun _ => ky g) (by simp [ju, undef, jA])) h2
 . cases hs
end Go.Idl
namespace Go.Idl
variable [Globs]
variable {P : Program}
def Vu (P : Program) (T : TypeId) : Option (TypeInfo × Value) :=
 match P.info? T with
 | some i => match i.zero with
   | some z => some (i, z)
   | none => none
 | none => none
theorem kI {T : TypeId} {i : TypeInfo} {z : Value} (h : Vu P T = some (i, z)) : P.info? T = some i /\ i.zero = some z := by
 unfold Vu at h;split at h
 . split at h
   . simp at h; obtain ⟨rfl, rfl⟩ := h; exact ⟨by assumption, by assumption⟩
   . cases h
 . cases h
def Kq (P : Program) (T : TypeId) : Option (Array Value × (Nat -> Option (Nat × Nat))) :=
 match P.info? T, P.underlying T with
 | some it, some (.array _ e) =>
   match it.zero, P.info? e with
   | some z, some ie => some (z.cells, fun i => some (i * ie.size, ie.size))
   | _, _ => none
 | some it, some (.struct fields) =>
   match it.zero, fields.toList.mapM (fun f => (P.info? f.type).map fun i => (f.offset, i.size)) with
   | some z, some places => some (z.cells, fun i => places.toArray[i]?)
   | _, _ => none
 | _, _ => none
theorem Xn {T : TypeId} {zc : Array Value} {place : Nat -> Option (Nat × Nat)} (h : Kq P T = some (zc, place)) (w : World) (ps : Array (Nat × Value)) (cells : Array Value) (hf : Instr.fill place zc ps.toList = some cells) :
   (Instr.build T ps).run P w = .ok (.agg cells) w := by
 refine run_build w T ps cells ?_;unfold Kq at h;unfold Program.built;split at h
 . rename_i h1 h2;split at h
   . rename_i h3 h4;simp at h; obtain ⟨rfl, rfl⟩ := h;simp only [h1, h2, h3, h4]; exact hf
   . cases h
 . rename_i h1 h2;split at h
   . rename_i h3 h4;simp only [zO, zP] at h; obtain ⟨rfl, rfl⟩ := h;simp only [h1, h2, h3, h4]; exact hf
   . cases h
 . cases h
def jmv (P : Program) (T : TypeId) (k : Nat) : Bool :=
 match P.underlying T with
 | some d => jfj k d && decide (k <= 3)
 | none => false
def JO (k : Nat) : Operand -> Bool
 | .const (.pointer none) => k == 0
 | .const .nilIface => k == 1
 | .const .nilFunc => k == 2
 | .const (.map none) => k == 3
 | _ => false
theorem zY {k : Nat} {r : Operand} (h : JO k r = true) : r = .const (yJ k) := by
 unfold JO at h;split at h <;> simp at h <;> subst h <;> rfl
def kU (P : Program) (T : TypeId) : Option (TypeId × TypeInfo) :=
 match P.underlying T with
 | some (.slice E) => match P.info? E with
   | some i => some (E, i)
   | none => none
 | _ => none
theorem kD {T E : TypeId} {i : TypeInfo} (h : kU P T = some (E, i)) : P.underlying T = some (.slice E) /\ P.info? E = some i := by
 unfold kU at h;split at h
 . split at h
   . simp at h; obtain ⟨rfl, rfl⟩ := h; exact ⟨by assumption, by assumption⟩
   . cases h
 . cases h
def jae (P : Program) (T : TypeId) (n : Nat) : Bool :=
 match P.info? T with
 | some i => i.size == n
 | none => false
def jj9 (d : TypeDesc) : Bool := match d with | .int _ => true | _ => false
def mfn (P : Program) (t : TypeId) (name : String) : Option FuncId := match P.info? t with
 | some i => match i.methods.find? (fun m => m.name == name) with
   | some m => m.func.map (·.1)
   | none => none
 | none => none
def jd4 (P : Program) (c : Call) : IOp -> Bool
 | .inv tab x xs => (match c.callee with | .invoke r name => jl x r && tab.all fun p => VI P p.1 name p.2.1 p.2.2 | _ => false) && jD xs c.args.toList
 | .vOf G tab x => (match c.callee, c.args.toList with | .value (.func f), [r] => jka P f G tab && jl x r | _, _ => false)
 | .vSet G tab x y => (match c.callee, c.args.toList with | .value (.func f), [rx, ry] => jeV P f G tab && (jl x rx && jl y ry) | _, _ => false)
 | .call f xs => (match c.callee with | .value (.func f') => f == f' | _ => false) && jD xs c.args.toList
 | .callp f xs => (match c.callee with | .value (.func f') => f == f' | _ => false) && jD xs c.args.toList
 | .callv x xs => (match c.callee with | .value r => jl x r | _ => false) && jD xs c.args.toList
 | .lenS x => (match c.callee, c.args.toList, c.argTypes[0]? with | .builtin .len, [r], some T => jl x r && (match P.underlying T with | some .string => true | _ => false) | _, _, _ => false)
 | .lenL x => (match c.callee, c.args.toList, c.argTypes[0]? with | .builtin .len, [r], some T => jl x r && (match P.underlying T with | some (.slice _) => true | _ => false) | _, _, _ => false)
 | .lenM x => (match c.callee, c.args.toList, c.argTypes[0]? with | .builtin .len, [r], some T => jl x r && (match P.underlying T with | some (.map _ _) => true | _ => false) | _, _, _ => false)
 | .clear zs x => (match c.callee, c.args.toList, c.argTypes[0]? with | .builtin .clear, [r], some T => jl x r && (match kU P T with | some (E, _) => (match Vu P E with | some (i, z) => z.cells.size == i.size && Xi zs z.cells.toList | none => false) | none => false) | _, _, _ => false)
 | .minmax mx [x, y] => (match c.callee, c.args.toList with | .builtin b, [rx, ry] => b == (if mx then .max else .min) && jl x rx && jl y ry | _, _ => false)
 | .append _ _ esz bytes x y => (match c.callee, c.args.toList, c.argTypes.toList with
     | .builtin .append, [rx, ry], [T, U] => jl x rx && jl y ry && (match kU P T, P.underlying U with
       | some (E, i), some du => !(jj9 du) && i.size == esz && i.bytes == bytes && (match Vu P E with | some (_, z) => z.cells.size == esz | none => false)
       | _, _ => false)
     | _, _, _ => false)
 | _ => false
def XN (P : Program) (want : Array (String × TypeId)) (t : TypeId) (b : Bool) : Bool :=
 match P.info? t with
 | some i => (lacking want i.methods).isEmpty == b
 | none => false
def Yy (ra rb : Operand) : Option Operand :=
 match ra, rb with
 | _, .const (.slice none 0 0) => some ra
 | .const (.slice none 0 0), _ => some rb
 | _, _ => none
def jkH (P : Program) : Op -> PurK -> List Opd -> Bool
 | .call c, .ext k, xs => (match c.callee with | .value (.func f) => jc5 P f k | _ => false) && jD xs c.args.toList
 | .call c, .invX tab, xs => (match c.callee with
   | .invoke r name => (tab.all fun p => match mfn P p.1 name with | some f => VI P p.1 name f p.2.2 && jc5 P f p.2.1 | none => false) && jD xs (r :: c.args.toList)
   | _ => false)
 | .binOp op T ra rb _, .eqa neg ks, xs => op == Yk neg && (JY P 1000 T == some ks && ((pnT P T).isSome && (!P.eqGuardType P.depth T && jD xs [ra, rb])))
 | .binOp op T ra rb _, .isnilS neg, xs => op == Yk neg && ((match P.underlying T with | some (.slice _) => true | _ => false) && (match Yy ra rb with | some r => jD xs [r] | none => false))
 | .binOp op T ra rb _, .eqi neg ks, xs => op == Yk neg && ((match P.underlying T with | some (.interface _) => true | _ => false) && ((ks.all fun p => match P.info? p.1, P.underlying p.1 with | some i, some d => i.comparable && jaU d p.2 | _, _ => false) && jD xs [ra, rb]))
 | .convert S T r, .text, xs => (match P.underlying S with | some (.slice e) => (match P.underlying e with | some (.int .u8) => true | _ => false) | _ => false) && ((match P.underlying T with | some .string => true | _ => false) && jD xs [r])
 | .makeFunc f rs qs, .mkM n, xs => (match f, rs.toList, qs.toList with | .method n', [r], [] => n == n' && jD xs [r] | _, _, _ => false)
 | .nilCheck r, .nilM ts n, xs => (ts.all fun t => jfi P t n) && jD xs [r]
 | .convert S T r, .rune, xs => (P.underlying S).isSome && ((match P.underlying T with | some .string => true | _ => false) && jD xs [r])
 | .typeAssert r _ A ok, .tyC t ok' z, xs => A == t && (ok == ok' && ((match P.underlying A with | some (.interface _) => false | some _ => true | none => false) && ((match Vu P A with | some (_, zv) => cOK z zv | none => false) && jD xs [r])))
 | .typeAssert r _ A ok, .tyI yes no ok', xs => ok == ok' && ((match P.underlying A with | some (.interface want) => yes.all (fun t => XN P want t true) && no.all (fun t => XN P want t false) | _ => false) && ((match Vu P A with | some (_, .nilIface) => true | _ => false) && jD xs [r]))
 | .call c, .cap0, xs => (match c.callee, c.args.toList, c.argTypes[0]? with | .builtin .cap, [r], some T => jD xs [r] && (match P.underlying T with | some (.slice _) => true | _ => false) | _, _, _ => false)
 | _, _, _ => false
def jmy (P : Program) : Op -> IOp -> Bool
 | op, .pur k xs => jkH P op k xs
 | op, .mem k xs => jkm P op k xs
 | .panic r, .panic x => jl x r
 | .move r, .mv x => jl x r
 | .assign r, .mv x => jl x r
 | .pick rc ra rb, .pick c a b => jl c rc && jl a ra && jl b rb
 | .alloc T, .alloc zs => (match Vu P T with | some (_, z) => Xi zs z.cells.toList | none => false)
 | .box _ r, .box x => jl x r
 | .box _ r, .boxv x => jl x r
 | .build T rp, .build zs parts => (match Kq P T with | some (zc, place) => Xi zs zc.toList && Kf place parts rp.toList | none => false)
 | .buildSlice T n rp, .buildSl esz xs => (match kU P T with
     | some (E, i) => i.size == esz && decide (0 < esz) && n == rp.size && (rp.toList.map (·.1) == List.range rp.size) && jD xs (rp.toList.map (·.2)) && (match Vu P E with | some (_, z) => z.cells.size == esz | none => false)
     | none => false)
 | .buildSlice T n rp, .buildRs esz xs => (match kU P T with
     | some (E, i) => i.size == esz && decide (0 < esz) && n == rp.size && (rp.toList.map (·.1) == List.range rp.size) && jD xs (rp.toList.map (·.2)) && (match Vu P E with | some (_, z) => z.cells.size == esz | none => false)
     | none => false)
 | .load T r, .load _ n x => jl x r && tyN P T n
 | .store T rx ry, .store n x y => jl x rx && jl y ry && jae P T n
 | .nilCheck r, .nilCheck x => jl x r
 | .binOp op _ rx ry _, .bin op' x y => op == op' && jl x rx && jl y ry
 | .binOp op T rx ry _, .eqb neg x y => op == (if neg then .neq else .eql) && jl x rx && jl y ry && (match P.underlying T with | some .bool => true | _ => false)
 | .binOp op T ra rb _, .isnil neg k x => op == (if neg then .neq else .eql) && jmv P T k && ((JO k rb && jl x ra) || (JO k ra && jl x rb))
 | .unOp op _ r, .un op' x => op == op' && jl x r
 | .convert S T r, .conv (.int k) x => jl x r && (P.underlying S).isSome && (match P.underlying T with | some (.int k') => k == k' | _ => false)
 | .convert S T r, .conv .same x => jl x r && (match P.underlying S, P.underlying T with | some .string, some .string => true | _, _ => false)
 | .convert S T r, .conv .bytes x => jl x r && (match P.underlying S, P.underlying T with | some .string, some (.slice e) => (match P.underlying e with | some (.int .u8) => true | _ => false) | _, _ => false)
 | .makeInterface T r, .mkIface T' x => T == T' && jl x r && (match P.underlying T with | some (.interface _) => false | some _ => true | none => false)
 | .makeFunc f rs qs, .mkFn f' xs ys => f == f' && jD xs rs.toList && jD ys qs.toList
 | .makeMap _ none, .mkMap => true
 | .makeSlice T rx ry, .mkSl _ esz bytes zs x y => jl x rx && jl y ry && (match kU P T with
     | some (E, i) => i.size == esz && i.bytes == bytes && (match Vu P E with | some (_, z) => z.cells.size == esz && Xi zs z.cells.toList | none => false)
     | none => false)
 | .slice T r lo hi none, .sliceS x l h => jl x r && Jl l lo && Jl h hi && (match P.underlying T with | some .string => true | _ => false)
 | .slice T r lo hi mx, .sliceL esz x l h m => jl x r && Jl l lo && Jl h hi && Jl m mx && (m.isNone || h.isSome) && (match kU P T with | some (_, i) => i.size == esz | none => false)
 | .fieldAddr T r k, .fieldAddr off x => jl x r && (match P.underlying T with | some (.struct fs) => (match fs[k]? with | some f => f.offset == off && (match P.info? f.type with | some i => i.size != 0 | none => false) | none => false) | _ => false)
 | .field T r k, .field off n x => jl x r && (match P.underlying T with | some (.struct fs) => (match fs[k]? with | some f => f.offset == off && tyN P f.type n | none => false) | _ => false)
 | .indexAddr T rx ry, .idxAddr esz x y => jl x rx && jl y ry && (match kU P T with | some (_, i) => i.size == esz | none => false)
 | .indexAddr T rx ry, .idxAddrA len esz x y => jl x rx && jl y ry && (match P.underlying T with | some (.array n E) => n == len && jae P E esz | _ => false)
 | .index T rx ry, .idxS x y => jl x rx && jl y ry && (match P.underlying T with | some .string => true | _ => false)
 | .index T rx ry, .idxA len esz n x y => jl x rx && jl y ry && (match P.underlying T with | some (.array m E) => m == len && jae P E esz && tyN P E n | _ => false)
 | .lookup T rx ry ok, .lookup kk z ok' x y => ok == ok' && jl x rx && jl y ry && nt z && (match P.underlying T with | some (.map K E) => (match P.underlying K, Vu P E with | some d, some (_, zv) => jay kk d && cOK z zv | _, _ => false) | _ => false)
 | .mapUpdate T rx ry rz, .mapSet kk x y z => jl x rx && jl y ry && jl z rz && (match P.underlying T with | some (.map K _) => (match P.underlying K with | some d => jay kk d | none => false) | _ => false)
 | .insert T rx ry rz, .mapSet kk x y z => jl x rx && jl y ry && jl z rz && (match P.underlying T with | some (.map K _) => (match P.underlying K with | some d => jay kk d | none => false) | _ => false)
 | .extract r i, .extract x j => i == j && jl x r
 | .call c, io => jd4 P c io
 | _, _ => false
end Go.Idl
namespace Go.Idl
variable [Globs]
variable {P : Program} {o : Oper} {a : Act} {g : Gh} {O : List Nat} {w : World} {s : St} {res : Res} {cf : jo}
theorem yS {α : Type} {xs : Array α} {r : α} (h : xs.toList = [r]) : xs = #[r] := Array.toList_inj.1 (by simpa using h)
theorem JV {α : Type} {xs : Array α} {r q : α} (h : xs.toList = [r, q]) : xs = #[r, q] := Array.toList_inj.1 (by simpa using h)
theorem Kh {T : TypeId} {n : Nat} (h : jae P T n = true) : ∃ i, P.info? T = some i /\ i.size = n := by
 unfold jae at h;split at h
 . exact ⟨_, by assumption, by simpa using h⟩
 . cases h
theorem jcH {c : Call} {io : IOp} {C0 : jaz} (hcf : CallOK P C0 cf) (hC : g.C = C0) (hop : o.op = .call c) (h : jd4 P c io = true) (hs : ja cf io s = some res)
   (hl : WT s.ts a.tmps) (hR : R g O (s.ts.roots a.tmps) s.σ w) : OpRes P o a g O w s res := by
 have hd : ∀ c', o.op ≠ .defer c' := fun c' h => by rw [hop] at h; cases h
 unfold jd4 at h;split at h
 . simp only [zA] at h;obtain ⟨h1, h2⟩ := h;split at h1
   . rename_i hc;simp only [zA, List.all_eq_true] at h1;exact jfp hcf hC hop hc h1.1 h2 h1.2 hs hl hR
   . cases h1
 . split at h
   . rename_i h1 h2;simp only [zA] at h;exact .of_val (jk1 hop h1 (yS h2) h.1 h.2 hs hl hR) hd
   . cases h
 . split at h
   . rename_i h1 h2;simp only [zA] at h;exact .of_val (jik hop h1 (JV h2) h.1 h.2.1 h.2.2 hs hl hR) hd
   . cases h
 . simp only [zA] at h;obtain ⟨h1, h2⟩ := h;split at h1
   . rename_i hc;have := eq_of_beq h1;subst this;exact QP hcf hC hop hc h2 hs hl hR
   . cases h1
 . simp only [zA] at h;obtain ⟨h1, h2⟩ := h;split at h1
   . rename_i hc;have := eq_of_beq h1;subst this;exact ja9 hcf hC hop hc h2 hs hl hR
   . cases h1
 . simp only [zA] at h;obtain ⟨h1, h2⟩ := h;split at h1
   . rename_i hc;exact jba hcf hC hop hc h1 h2 hs hl hR
   . cases h1
 . split at h
   . rename_i h1 h2 h3;simp only [zA] at h;obtain ⟨h4, h5⟩ := h;split at h5
     . rename_i hT; exact .of_val (jif hop h1 (yS h2) h3 h4 hT hs hl hR) hd
     . cases h5
   . cases h
 . split at h
   . rename_i h1 h2 h3;simp only [zA] at h;obtain ⟨h4, h5⟩ := h;split at h5
     . rename_i hT; exact .of_val (jid hop h1 (yS h2) h3 h4 hT hs hl hR) hd
     . cases h5
   . cases h
 . split at h
   . rename_i h1 h2 h3;simp only [zA] at h;obtain ⟨h4, h5⟩ := h;split at h5
     . rename_i hT; exact .of_val (jie hop h1 (yS h2) h3 h4 hT hs hl hR) hd
     . cases h5
   . cases h
 . split at h
   . rename_i h1 h2 h3;simp only [zA] at h;obtain ⟨h4, h5⟩ := h;split at h5
     . rename_i he;obtain ⟨e1, e2⟩ := kD he;split at h5
       . rename_i hz;obtain ⟨z1, z2⟩ := kI hz;simp only [zA] at h5;exact .of_val (jf0 hop h1 (yS h2) h3 h4 e1 z1 z2 h5.2 (by simpa using h5.1) hs hl hR) hd
       . cases h5
     . cases h5
   . cases h
 . split at h
   . rename_i h1 h2;simp only [zA] at h;obtain ⟨⟨h3, h4⟩, h5⟩ := h;have := eq_of_beq h3;subst this;exact .of_val (jds hop h1 (JV h2) h4 h5 hs hl hR) hd
   . cases h
 . split at h
   . rename_i h1 h2 h3;simp only [zA] at h;obtain ⟨⟨h4, h5⟩, h6⟩ := h;split at h6
     . rename_i he hu;obtain ⟨e1, e2⟩ := kD he;simp only [zA, Bool.not_eq_true'] at h6;obtain ⟨⟨⟨h7, h8⟩, h9⟩, h10⟩ := h6;have q1 := eq_of_beq h8;have q2 := eq_of_beq h9;subst q1 q2;split at h10
       . rename_i hz;obtain ⟨z1, z2⟩ := kI hz;rw [e2] at z1; cases z1;refine .of_val (jbu hop h1 (JV h2) (JV h3) h4 h5 e1 hu (fun k hk => ?_) e2 z2 (by simpa using h10) hs hl hR) hd;subst hk; simp [jj9] at h7
       . cases h10
     . cases h6
   . cases h
 . cases h
theorem VH : ∀ (l : List (Nat × Operand)) (k : Nat), l.map (·.1) = List.range' k l.length -> l = ((l.map (·.2)).zipIdx k).map fun p => (p.2, p.1) := by
 intro l
 induction l with
 | nil => intro k _; rfl
 | cons p l ih =>
   intro k h;simp only [List.map_cons, List.length_cons, List.range'_succ, List.cons.injEq] at h;simp only [List.map_cons, List.zipIdx_cons];rw [<- ih (k + 1) h.2, <- h.1]
theorem ZL {ra rb r : Operand} (h : Yy ra rb = some r) : (ra = r /\ rb = .const (.slice none 0 0)) \/ (rb = r /\ ra = .const (.slice none 0 0)) := by
 unfold Yy at h;split at h
 . simp at h; exact .inl ⟨h, rfl⟩
 . simp at h; exact .inr ⟨h, rfl⟩
 . cases h
theorem Vt {want : Array (String × TypeId)} {t : TypeId} {b : Bool} (h : XN P want t b = true) : ∃ i, P.info? t = some i /\ ((lacking want i.methods).isEmpty = b) := by
 unfold XN at h;split at h
 . exact ⟨_, by assumption, by simpa using h⟩
 . cases h
theorem jkM {k : PurK} {xs : List Opd} (h : jkH P o.op k xs = true) (hs : ja cf (.pur k xs) s = some res) (hl : WT s.ts a.tmps) (hR : R g O (s.ts.roots a.tmps) s.σ w) : OpRes P o a g O w s res := by
 unfold jkH at h;split at h
 . rename_i hop;simp only [zA] at h;obtain ⟨h1, h2⟩ := h;split at h1
   . rename_i hc; exact .of_val (vy h2 (jkK hop hc h1) hs hl hR) (fun c h => by rw [hop] at h; cases h)
   . cases h1
 . rename_i hop;split at h
   . rename_i hc;simp only [zA, List.all_eq_true] at h;obtain ⟨h1, h2⟩ := h;refine .of_val (vy h2 (jhQ hop hc fun p hp => ?_) hs hl hR) (fun c h => by rw [hop] at h; cases h);have := h1 p hp;split at this
     . rename_i f _;simp only [zA] at this;exact ⟨f, this⟩
     . cases this
   . cases h
 . rename_i hop;simp only [zA, Bool.not_eq_true'] at h;obtain ⟨h1, h2, h3, h4, h5⟩ := h;rw [eq_of_beq h1] at hop;exact .of_val (vy h5 (jkI hop (eq_of_beq h2) h3 h4) hs hl hR) (fun c h => by rw [hop] at h; cases h)
 . rename_i hop;simp only [zA] at h;obtain ⟨h1, h2, h3⟩ := h;rw [eq_of_beq h1] at hop;split at h2
   . rename_i hT;split at h3
     . rename_i hn; exact .of_val (vy h3 (jde hop hT (ZL hn)) hs hl hR) (fun c h => by rw [hop] at h; cases h)
     . cases h3
   . cases h2
 . rename_i hop;simp only [zA, List.all_eq_true] at h;obtain ⟨h1, h2, h3, h4⟩ := h;rw [eq_of_beq h1] at hop;split at h2
   . rename_i hT;refine .of_val (vy h4 (jkJ hop hT fun p hp => ?_) hs hl hR) (fun c h => by rw [hop] at h; cases h);have := h3 p hp;split at this
     . rename_i i d hi hd;simp only [zA] at this;exact ⟨i, d, hi, this.1, hd, this.2⟩
     . cases this
   . cases h2
 . rename_i hop;simp only [zA] at h;obtain ⟨h1, h2, h3⟩ := h;split at h1
   . rename_i hS;split at h1
     . rename_i he;split at h2
       . rename_i hT; exact .of_val (vy h3 (jhT hop hS he hT) hs hl hR) (fun c h => by rw [hop] at h; cases h)
       . cases h2
     . cases h1
   . cases h1
 . rename_i hop;split at h
   . rename_i hr hq;simp only [zA] at h;have e1 := eq_of_beq h.1;subst e1;exact .of_val (vy h.2 (jkL hop hr hq) hs hl hR) (fun c h => by rw [hop] at h; cases h)
   . cases h
 . rename_i hop;simp only [zA, List.all_eq_true] at h;exact .of_val (vy h.2 (jhR hop h.1) hs hl hR) (fun c h => by rw [hop] at h; cases h)
 . rename_i hop;simp only [zA] at h;obtain ⟨h1, h2, h3⟩ := h;split at h2
   . rename_i hT; exact .of_val (vy h3 (jhS hop h1 hT) hs hl hR) (fun c h => by rw [hop] at h; cases h)
   . cases h2
 . rename_i hop;simp only [zA] at h;obtain ⟨h1, h2, h3, h4, h5⟩ := h;have e1 := eq_of_beq h1;have e2 := eq_of_beq h2;subst e1 e2;split at h4
   . rename_i hz;obtain ⟨z1, z2⟩ := kI hz;split at h3
     . cases h3
     . rename_i d hne hA; exact .of_val (vy h5 (jkN hop hA (fun ms e => hne ms (by rw [e])) z1 z2 h4) hs hl hR) (fun c h => by rw [hop] at h; cases h)
     . cases h3
   . cases h4
 . rename_i hop;simp only [zA] at h;obtain ⟨h2, h3, h4, h5⟩ := h;have e2 := eq_of_beq h2;subst e2;split at h4
   . rename_i hz;obtain ⟨z1, z2⟩ := kI hz;split at h3
     . rename_i want hA;simp only [zA, List.all_eq_true] at h3;refine .of_val (vy h5 (jkO hop hA z1 z2 (fun t ht => ?_) (fun t ht => ?_)) hs hl hR) (fun c h => by rw [hop] at h; cases h)
       . obtain ⟨i, hi, hb⟩ := Vt (h3.1 t ht); exact ⟨i, hi, List.isEmpty_iff.1 hb⟩
       . obtain ⟨i, hi, hb⟩ := Vt (h3.2 t ht); exact ⟨i, hi, fun e => by rw [e] at hb; cases hb⟩
     . cases h3
   . cases h4
 . rename_i hop;split at h
   . rename_i hc ha hta;simp only [zA] at h;obtain ⟨h1, h2⟩ := h;split at h2
     . rename_i hT; exact .of_val (vy h1 (jhP hop hc ha hta hT) hs hl hR) (fun c h => by rw [hop] at h; cases h)
     . cases h2
   . cases h
 . cases h
theorem jcd {io : IOp} {C0 : jaz} (hcf : CallOK P C0 cf) (hC : g.C = C0) (h : jmy P o.op io = true) (hs : ja cf io s = some res) (hl : WT s.ts a.tmps) (hR : R g O (s.ts.roots a.tmps) s.σ w) : OpRes P o a g O w s res := by
 unfold jmy at h;split at h
 . exact jkM h hs hl hR
 . exact jko h hs hl hR
 . rename_i hop; exact jfx hop h hs hl hR
 . rename_i hop; exact .of_val (jjc (.inl hop) h hs hl hR) (fun c h => by rw [hop] at h; cases h)
 . rename_i hop; exact .of_val (jjc (.inr hop) h hs hl hR) (fun c h => by rw [hop] at h; cases h)
 . rename_i hop;simp only [zA] at h;exact .of_val (jij hop h.1.1 h.1.2 h.2 hs hl hR) (fun c h => by rw [hop] at h; cases h)
 . rename_i hop;split at h
   . rename_i hz;obtain ⟨z1, z2⟩ := kI hz;exact .of_val (jfY hop z1 z2 h hs hl hR) (fun c h => by rw [hop] at h; cases h)
   . cases h
 . rename_i hop; exact .of_val (jkZ hop h hs hl hR) (fun c h => by rw [hop] at h; cases h)
 . rename_i hop; exact .of_val (jia hop h hs hl hR) (fun c h => by rw [hop] at h; cases h)
 . rename_i hop;split at h
   . rename_i zc place hb;simp only [zA] at h;exact .of_val (jfZ (z := .agg zc) hop h.1 (fun ps cells hf => Xn hb w ps cells hf) h.2 hs hl hR) (fun c h => by rw [hop] at h; cases h)
   . cases h
 . rename_i hop;split at h
   . rename_i he;obtain ⟨e1, e2⟩ := kD he;simp only [zA] at h;obtain ⟨⟨⟨⟨⟨h1, h2⟩, h3⟩, h4⟩, h5⟩, h6⟩ := h;have q1 := eq_of_beq h1;subst q1;split at h6
     . rename_i hz;obtain ⟨z1, z2⟩ := kI hz;rw [e2] at z1; cases z1;refine .of_val (jbx hop (by rw [eq_of_beq h3]; simp) ?_ h5 e1 e2 z2 (by simpa using h6) (by simpa using h2) hs hl hR) (fun c h => by rw [hop] at h; cases h);have h4' := eq_of_beq h4;refine VH _ 0 ?_;rw [h4', List.range_eq_range']; simp
     . cases h6
   . cases h
 . rename_i hop;split at h
   . rename_i he;obtain ⟨e1, e2⟩ := kD he;simp only [zA] at h;obtain ⟨⟨⟨⟨⟨h1, h2⟩, h3⟩, h4⟩, h5⟩, h6⟩ := h;have q1 := eq_of_beq h1;subst q1;split at h6
     . rename_i hz;obtain ⟨z1, z2⟩ := kI hz;rw [e2] at z1; cases z1;refine .of_val (jbw hop (by rw [eq_of_beq h3]; simp) ?_ h5 e1 e2 z2 (by simpa using h6) (by simpa using h2) hs hl hR) (fun c h => by rw [hop] at h; cases h);have h4' := eq_of_beq h4;refine VH _ 0 ?_;rw [h4', List.range_eq_range']; simp
     . cases h6
   . cases h
 . rename_i hop;simp only [zA] at h;exact .of_val (jig hop h.1 h.2 hs hl hR) (fun c h => by rw [hop] at h; cases h)
 . rename_i hop;simp only [zA] at h;obtain ⟨i, i1, i2⟩ := Kh h.2;exact .of_val (jf3 hop h.1.1 h.1.2 i1 i2 hs hl hR) (fun c h => by rw [hop] at h; cases h)
 . rename_i hop; exact .of_val (jad hop h hs hl hR) (fun c h => by rw [hop] at h; cases h)
 . rename_i hop;simp only [zA] at h;have q1 := eq_of_beq h.1.1;subst q1;exact .of_val (jkY hop h.1.2 h.2 hs hl hR) (fun c h => by rw [hop] at h; cases h)
 . rename_i hop;simp only [zA] at h;obtain ⟨⟨⟨h1, h2⟩, h3⟩, h4⟩ := h;have q1 := eq_of_beq h1;subst q1;split at h4
   . rename_i hT; exact .of_val (jk0 hop h2 h3 hT hs hl hR) (fun c h => by rw [hop] at h; cases h)
   . cases h4
 . rename_i hop;simp only [zA, Bool.or_eq_true] at h;obtain ⟨⟨h1, h2⟩, h3⟩ := h;have q1 := eq_of_beq h1;subst q1;unfold jmv at h2;split at h2
   . rename_i d hT;simp only [zA, decide_eq_true_eq] at h2
     rcases h3 with ⟨h3, h4⟩ | ⟨h3, h4⟩
     . exact .of_val (jac hop (.inl ⟨rfl, zY h3⟩) h4 hT h2.1 hs hl hR) (fun c h => by rw [hop] at h; cases h)
     . exact .of_val (jac hop (.inr ⟨zY h3, rfl⟩) h4 hT h2.1 hs hl hR) (fun c h => by rw [hop] at h; cases h)
   . cases h2
 . rename_i hop;simp only [zA] at h;have q1 := eq_of_beq h.1;subst q1;exact .of_val (jmM hop h.2 hs hl hR) (fun c h => by rw [hop] at h; cases h)
 . rename_i hop;simp only [zA] at h;obtain ⟨⟨h1, h2⟩, h3⟩ := h;obtain ⟨ds, hds⟩ := Option.isSome_iff_exists.1 h2;split at h3
   . rename_i hT;have q1 := eq_of_beq h3;subst q1;exact .of_val (jby hop h1 hds hT hs hl hR) (fun c h => by rw [hop] at h; cases h)
   . cases h3
 . rename_i hop;simp only [zA] at h;obtain ⟨h1, h3⟩ := h;split at h3
   . rename_i hS hT; exact .of_val (jaa hop h1 hS hT hs hl hR) (fun c h => by rw [hop] at h; cases h)
   . cases h3
 . rename_i hop;simp only [zA] at h;obtain ⟨h1, h3⟩ := h;split at h3
   . rename_i hS hT;split at h3
     . rename_i he;exact .of_val (YM hop h1 hS hT he hs hl hR) (fun c h => by rw [hop] at h; cases h)
     . cases h3
   . cases h3
 . rename_i hop;simp only [zA] at h;obtain ⟨⟨h1, h2⟩, h3⟩ := h;have q1 := eq_of_beq h1;subst q1;split at h3
   . cases h3
   . rename_i d hne hT; exact .of_val (jbB hop h2 hT (fun ms e => hne ms (by rw [e])) hs hl hR) (fun c h => by rw [hop] at h; cases h)
   . cases h3
 . rename_i hop;simp only [zA] at h;obtain ⟨⟨h1, h2⟩, h3⟩ := h;have q1 := eq_of_beq h1;subst q1;exact .of_val (jih hop h2 h3 hs hl hR) (fun c h => by rw [hop] at h; cases h)
 . rename_i hop; exact .of_val (jf2 hop hs hl hR) (fun c h => by rw [hop] at h; cases h)
 . rename_i hop;simp only [zA] at h;obtain ⟨⟨h1, h2⟩, h3⟩ := h;split at h3
   . rename_i he;obtain ⟨e1, e2⟩ := kD he;simp only [zA] at h3;obtain ⟨⟨h4, h5⟩, h6⟩ := h3;have q1 := eq_of_beq h4;have q2 := eq_of_beq h5;subst q1 q2;split at h6
     . rename_i hz;obtain ⟨z1, z2⟩ := kI hz;rw [e2] at z1; cases z1;simp only [zA] at h6;exact .of_val (jii hop h1 h2 e1 e2 z2 h6.2 (by simpa using h6.1) hs hl hR) (fun c h => by rw [hop] at h; cases h)
     . cases h6
   . cases h3
 . rename_i hop;simp only [zA] at h;obtain ⟨⟨⟨h1, h2⟩, h3⟩, h4⟩ := h;split at h4
   . rename_i hT; exact .of_val (jdu hop h1 h2 h3 hT hs hl hR) (fun c h => by rw [hop] at h; cases h)
   . cases h4
 . rename_i hop;simp only [zA] at h;obtain ⟨⟨⟨⟨⟨h1, h2⟩, h3⟩, h4⟩, h5⟩, h6⟩ := h;split at h6
   . rename_i he;obtain ⟨e1, e2⟩ := kD he;have q1 := eq_of_beq h6;subst q1;refine .of_val (jdt hop h1 h2 h3 h4 ?_ e1 e2 hs hl hR) (fun c h => by rw [hop] at h; cases h);simp only [Bool.or_eq_true] at h5
     rcases h5 with h5 | h5
     . left; simpa using h5
     . right; intro e; rw [e] at h5; simp at h5
   . cases h6
 . rename_i hop;simp only [zA] at h;obtain ⟨h1, h2⟩ := h;split at h2
   . rename_i hT;split at h2
     . rename_i hf;simp only [zA] at h2;obtain ⟨h3, h4⟩ := h2;have q1 := eq_of_beq h3;subst q1;split at h4
       . rename_i hi; exact .of_val (YN hop h1 hT hf hi (by simpa using h4) hs hl hR) (fun c h => by rw [hop] at h; cases h)
       . cases h4
     . cases h2
   . cases h2
 . rename_i hop;simp only [zA] at h;obtain ⟨h1, h2⟩ := h;split at h2
   . rename_i hT;split at h2
     . rename_i hf;simp only [zA] at h2;obtain ⟨h3, h4⟩ := h2;have q1 := eq_of_beq h3;subst q1;exact .of_val (jf1 hop h1 hT hf h4 hs hl hR) (fun c h => by rw [hop] at h; cases h)
     . cases h2
   . cases h2
 . rename_i hop;simp only [zA] at h;obtain ⟨⟨h1, h2⟩, h3⟩ := h;split at h3
   . rename_i he;obtain ⟨e1, e2⟩ := kD he;have q1 := eq_of_beq h3;subst q1;exact .of_val (jbA hop h1 h2 e1 e2 hs hl hR) (fun c h => by rw [hop] at h; cases h)
   . cases h3
 . rename_i hop;simp only [zA] at h;obtain ⟨⟨h1, h2⟩, h3⟩ := h;split at h3
   . rename_i hT;simp only [zA] at h3;obtain ⟨h4, h5⟩ := h3;have q1 := eq_of_beq h4;subst q1;obtain ⟨i, i1, i2⟩ := Kh h5;subst i2;exact .of_val (jab hop h1 h2 hT i1 hs hl hR) (fun c h => by rw [hop] at h; cases h)
   . cases h3
 . rename_i hop;simp only [zA] at h;obtain ⟨⟨h1, h2⟩, h3⟩ := h;split at h3
   . rename_i hT; exact .of_val (jic hop h1 h2 hT hs hl hR) (fun c h => by rw [hop] at h; cases h)
   . cases h3
 . rename_i hop;simp only [zA] at h;obtain ⟨⟨h1, h2⟩, h3⟩ := h;split at h3
   . rename_i hT;simp only [zA] at h3;obtain ⟨⟨h4, h5⟩, h6⟩ := h3;have q1 := eq_of_beq h4;subst q1;obtain ⟨i, i1, i2⟩ := Kh h5;subst i2;exact .of_val (jib hop h1 h2 hT i1 h6 hs hl hR) (fun c h => by rw [hop] at h; cases h)
   . cases h3
 . rename_i hop;simp only [zA] at h;obtain ⟨⟨⟨⟨h1, h2⟩, h3⟩, h4⟩, h5⟩ := h;have q1 := eq_of_beq h1;subst q1;split at h5
   . rename_i hT;split at h5
     . rename_i hK hz;obtain ⟨z1, z2⟩ := kI hz;simp only [zA] at h5;exact .of_val (jdr hop h2 h3 hT hK h5.1 z1 z2 h5.2 h4 hs hl hR) (fun c h => by rw [hop] at h; cases h)
     . cases h5
   . cases h5
 . rename_i hop;simp only [zA] at h;obtain ⟨⟨⟨h1, h2⟩, h3⟩, h4⟩ := h;split at h4
   . rename_i hT;split at h4
     . rename_i hK; exact .of_val (X2 (.inl hop) h1 h2 h3 hT hK h4 hs hl hR) (fun c h => by rw [hop] at h; cases h)
     . cases h4
   . cases h4
 . rename_i hop;simp only [zA] at h;obtain ⟨⟨⟨h1, h2⟩, h3⟩, h4⟩ := h;split at h4
   . rename_i hT;split at h4
     . rename_i hK; exact .of_val (X2 (.inr hop) h1 h2 h3 hT hK h4 hs hl hR) (fun c h => by rw [hop] at h; cases h)
     . cases h4
   . cases h4
 . rename_i hop;simp only [zA] at h;have q1 := eq_of_beq h.1;subst q1;exact .of_val (jbz hop h.2 hs hl hR) (fun c h => by rw [hop] at h; cases h)
 . rename_i hop _ _; exact jcH hcf hC hop h hs hl hR
 . cases h
end Go.Idl
namespace Go.Idl
variable [Globs]
variable {C0 : jaz} {P : Program} {a : Act} {g : Gh} {O : List Nat} {w : World} {s : St} {cf : jo}
structure Shape where
 n : Nat
 nv : Nat
 m : Nat
def Shape.slot (z : Shape) (j : Nat) : Nat := bif Nat.blt j z.nv then j else z.nv + (j - z.nv) % z.m
def SameSh (ts ts' : Ts) : Prop := ts'.nv = ts.nv /\ ts'.m = ts.m /\ ts'.ds = ts.ds
theorem SameSh.refl (ts : Ts) : SameSh ts ts := ⟨rfl, rfl, rfl⟩
theorem SameSh.trans {a b c : Ts} (h : SameSh a b) (k : SameSh b c) : SameSh a c := ⟨k.1.trans h.1, k.2.1.trans h.2.1, k.2.2.trans h.2.2⟩
theorem SameSh.get {x : Opd} {ts ts' : Ts} {v : IVal} (h : x.get ts = some (v, ts')) : SameSh ts ts' := by
 cases x <;> simp only [Opd.get] at h
 . split at h <;> simp at h; obtain ⟨-, rfl⟩ := h; exact .refl _
 . split at h <;> simp at h; obtain ⟨-, rfl⟩ := h; exact ⟨rfl, rfl, rfl⟩
 . simp at h; obtain ⟨-, rfl⟩ := h; exact .refl _
theorem SameSh.getAll {xs : List Opd} : ∀ {ts ts' : Ts} {vs : List IVal}, Idl.getAll xs ts = some (vs, ts') -> SameSh ts ts' := by
 induction xs with
 | nil => intro ts ts' vs h; simp [Idl.getAll] at h; rw [h.2]; exact .refl _
 | cons x xs ih =>
   intro ts ts' vs h;simp only [Idl.getAll] at h;split at h
   . rename_i h1;split at h
     . rename_i h2;simp only [zO, zP] at h;obtain ⟨-, rfl⟩ := h;exact (SameSh.get h1).trans (ih h2)
     . cases h
   . cases h
theorem SameSh.fill : ∀ {vs : List IVal} {ts : Ts} {j : Nat}, SameSh ts (ts.fill j vs) := by
 intro vs
 induction vs with
 | nil => intro ts j; exact .refl _
 | cons v vs ih => intro ts j; exact SameSh.trans ⟨rfl, rfl, rfl⟩ ih
theorem SameSh.put {ts : Ts} {d : Option Nat} {v : IVal} : SameSh ts (ze ts d v) := by cases d <;> exact ⟨rfl, rfl, rfl⟩
theorem SameSh.stepCall {f : Cal} {vs : List IVal} {ts : Ts} {r : Res} (h : Idl.stepCall cf f vs ts s = some r) : r.s.ts = ts := by
 unfold Idl.stepCall at h;split at h
 . simp only [zO] at h; subst h; rfl
 . cases h
theorem SameSh.step {o : IOp} {r : Res} (h : ja cf o s = some r) : SameSh s.ts r.s.ts := by
 cases o <;> simp only [ja, rv] at h
 case call f xs =>
   split at h
   . rename_i h1; rw [SameSh.stepCall h]; exact .getAll h1
   . cases h
 case callv f xs =>
   split at h
   . rename_i h0;split at h
     . rename_i h1; rw [SameSh.stepCall h]; exact (SameSh.get h0).trans (.getAll h1)
     . cases h
   . rename_i h0;split at h
     . rename_i h1; rw [SameSh.stepCall h]; exact (SameSh.get h0).trans (.getAll h1)
     . cases h
   . cases h
 case inv tab x xs =>
   repeat' split at h
   all_goals first | (cases h; done) | (rw [SameSh.stepCall h]; exact (SameSh.get (by assumption)).trans (.getAll (by assumption)))
 case extract x i =>
   split at h
   . rename_i h0;split at h
     . split at h
       . simp only [zO] at h; subst h; exact (SameSh.get h0).trans ⟨rfl, rfl, rfl⟩
       . simp only [zO] at h; subst h; exact SameSh.get h0
     . cases h
   . cases h
 all_goals
   repeat' split at h
   all_goals first | (cases h; done) | (simp only [zO] at h; subst h; simp only; first | exact .refl _ | exact SameSh.get (by assumption) | exact SameSh.getAll (by assumption) | exact SameSh.trans (SameSh.get (by assumption)) (SameSh.get (by assumption)) | exact SameSh.trans (SameSh.getAll (by assumption)) (SameSh.getAll (by assumption)) | exact SameSh.trans (SameSh.get (by assumption)) (SameSh.trans (SameSh.get (by assumption)) (SameSh.get (by assumption))) | exact SameSh.trans (SameSh.get (by assumption)) ⟨rfl, rfl, rfl⟩)
class Base where
 B : List Deferred
def MarksR (g : Gh) (ds : List Nat) (ms : List Deferred) : Prop :=
 ms.length = ds.length /\ ∀ (i : Nat) id d, ds[i]? = some id -> ms[i]? = some d -> ∃ b, g.ι[id]? = some (Blk.bk b) /\ d = { target := .collected b, args := #[] }
def DefsR [Base] (g : Gh) (ds : List Nat) (defers : List Deferred) : Prop := ∃ ms, defers = ms ++ Base.B /\ MarksR g ds ms
theorem MarksR.mono {g g' : Gh} {ds : List Nat} {ms : List Deferred} (h : MarksR g ds ms) (hι : ∀ (id b : Nat), g.ι[id]? = some (Blk.bk b) -> g'.ι[id]? = some (Blk.bk b)) : MarksR g' ds ms :=
 ⟨h.1, fun i id d h1 h2 => let ⟨b, q1, q2⟩ := h.2 i id d h1 h2; ⟨b, hι _ _ q1, q2⟩⟩
theorem DefsR.mono [Base] {g g' : Gh} {ds : List Nat} {defers : List Deferred} (h : DefsR g ds defers) (hι : ∀ (id b : Nat), g.ι[id]? = some (Blk.bk b) -> g'.ι[id]? = some (Blk.bk b)) : DefsR g' ds defers :=
 let ⟨ms, e, h⟩ := h; ⟨ms, e, h.mono hι⟩
theorem DefsR.nil [Base] (g : Gh) : DefsR g [] Base.B := ⟨[], rfl, rfl, fun i id d h => by simp at h⟩
theorem DefsR.nil_iff [Base] {g : Gh} {defers : List Deferred} (h : DefsR g [] defers) : defers = Base.B := by
 obtain ⟨ms, rfl, h1, -⟩ := h;have := List.eq_nil_of_length_eq_zero (by simpa using h1);subst this; rfl
theorem DefsR.mark [Base] {g : Gh} {ds : List Nat} {defers : List Deferred} {id b : Nat} (h : DefsR g ds defers) (hb : g.ι[id]? = some (Blk.bk b)) : DefsR g (id :: ds) ({ target := .collected b, args := #[] } :: defers) := by
 obtain ⟨ms, rfl, h1, h2⟩ := h;refine ⟨_ :: ms, rfl, by simp [h1], fun i id' d q1 q2 => ?_⟩
 cases i with
 | zero => simp at q1 q2; subst q1 q2; exact ⟨b, hb, rfl⟩
 | succ i => simp at q1 q2; exact h2 i id' d q1 q2
variable [Base]
structure Stand (C0 : jaz) (N : Shape) (g : Gh) (O : List Nat) (s : St) (a : Act) (w : World) : Prop where
 rel : R g O (s.ts.roots a.tmps) s.σ w
 len : WT s.ts a.tmps
 defs : DefsR g s.ts.ds a.defers
 size : N.n <= a.tmps.size
 sh : s.ts.nv = N.nv /\ s.ts.m = N.m
 code : g.C = C0
structure Goes (g : Gh) (O : List Nat) (s : St) (w : World) (g' : Gh) (O' : List Nat) (s' : St) (w' : World) : Prop where
 grow : Grow O g w O' g' w'
 keep : ∃ wn, s'.wr = wn ++ s.wr /\ Keep s.σ s'.σ wn
theorem Goes.refl (g : Gh) (O : List Nat) (s : St) (w : World) : Goes g O s w g O s w := ⟨.refl O g w, ⟨[], rfl, .refl _⟩⟩
theorem Goes.trans {g1 g2 g3 : Gh} {O1 O2 O3 : List Nat} {s1 s2 s3 : St} {w1 w2 w3 : World} (h : Goes g1 O1 s1 w1 g2 O2 s2 w2) (k : Goes g2 O2 s2 w2 g3 O3 s3 w3) : Goes g1 O1 s1 w1 g3 O3 s3 w3 := by
 obtain ⟨wn, h1, h2⟩ := h.keep;obtain ⟨wn', k1, k2⟩ := k.keep;exact ⟨h.grow.trans k.grow, ⟨wn' ++ wn, by rw [k1, h1, zS], h2.trans k2⟩⟩
def vm : IExit -> Option Exit
 | .normal => some .normal
 | .exit id => some (.exit id)
 | .goto l => some (.goto l)
 | .ret => some .ret
 | .panic _ => none
def After (C0 : jaz) (N : Shape) (g : Gh) (O : List Nat) (s : St) (w : World) (x : IExit) (s' : St) (Q : Exit -> Act -> World -> Prop) : Prop :=
 (∀ e g' O' a' w', vm x = some e -> Goes g O s w g' O' s' w' -> Stand C0 N g' O' s' a' w' -> Q e a' w') /\
 (∀ v g' O' a' w' v', x = .panic v -> Goes g O s w g' O' s' w' -> R g' O' ((v, v') :: s'.ts.roots a'.tmps) s'.σ w' -> DefsR g' s'.ts.ds a'.defers -> WT s'.ts a'.tmps -> Q (.panic [{ v := v', recovered := false }]) a' w')
theorem After.of_goes {N : Shape} {g1 : Gh} {O1 : List Nat} {s1 : St} {w1 : World} {x : IExit} {s' : St} {Q : Exit -> Act -> World -> Prop} (h : After C0 N g O s w x s' Q) (hg : Goes g O s w g1 O1 s1 w1) : After C0 N g1 O1 s1 w1 x s' Q :=
 ⟨fun e g' O' a' w' he k st => h.1 e g' O' a' w' he (hg.trans k) st, fun v g' O' a' w' v' he k r d wt => h.2 v g' O' a' w' v' he (hg.trans k) r d wt⟩
def Yr (ops : Array Oper) : Option (Nat × Bool) -> Option (Nat × Bool) -> Bool
 | none, none => true
 | some (j, b), some (t, b') => b == b' && (match ops[j]? with | some o => o.dst == some t | none => false)
 | _, _ => false
def KD (P : Program) (ops : Array Oper) (o : Oper) (io : IOper) : Bool := jmy P o.op io.op && o.dst == io.dst && Yr ops o.guard io.guard
def y9 (P : Program) (ops : Array Oper) : List Oper -> List IOper -> Bool
 | [], [] => true
 | o :: os, io :: ios => KD P ops o io && y9 P ops os ios
 | _, _ => false
theorem V.bool_iff {x : IVal} {v : Value} (h : V g x v) (b : Bool) : v = .bool b ↔ x = .bool b := by
 cases h with
 | prim v hp => cases v <;> simp [jfo] at hp ⊢
 | _ => simp
theorem JX {N : Shape} {ops : Array Oper} {o : Oper} {io : IOper} {bw : Bool} (h : Yr ops o.guard io.guard = true) (hs : Stand C0 N g O s a w) (hw : ko io.guard s.ts = some bw) : Region.wanted o (yielded ops a.tmps) = bw := by
 unfold Yr at h;unfold ko at hw;unfold Region.wanted;split at h
 . rename_i h1 h2; rw [h2] at hw; simp at hw; simp [h1, hw]
 . rename_i j b t b' h1 h2;simp only [zA] at h;obtain ⟨h3, h4⟩ := h;have := eq_of_beq h3;subst this;rw [h1];rw [h2] at hw;simp only at hw ⊢;split at h4
   . rename_i og hog;have hdst : og.dst = some t := eq_of_beq h4;simp only [yielded, hog, Option.bind_some, hdst]
     cases ht : s.ts.get? t with
     | none => simp [ht] at hw
     | some x =>
       rw [ht] at hw;obtain ⟨rest, hp, -⟩ := Ts.roots_get a.tmps ht;have hV : V g x (a.tmps.getD t undef) := hs.rel.vals (x, a.tmps.getD t undef) (hp.mem_iff.2 (by simp));have hlt := (hs.len _ _ (Ts.get?_spec ht)).2;have vU : a.tmps[t]? = some (a.tmps.getD t undef) := by simp [hlt]
       rw [vU];generalize a.tmps.getD t undef = v at hV
       cases v with
       | bool b0 =>
         have := (hV.bool_iff b0).1 rfl;subst this;simp only [zO] at hw;subst hw;cases b0 <;> cases b <;> rfl
       | _ =>
         cases x with
         | bool b0 => have := (hV.bool_iff b0).2 rfl; cases this
         | _ => simp at hw; subst hw; cases b <;> rfl
   . cases h4
 . cases h
theorem yM {N : Shape} {d : Option Nat} {x : IVal} {v : Value} (hR : R g O ((x, v) :: s.ts.roots a.tmps) s.σ w) (hl : WT s.ts a.tmps) (hd : DefsR g s.ts.ds a.defers) (hN : N.n <= a.tmps.size) (hz : s.ts.nv = N.nv /\ s.ts.m = N.m) (hC : g.C = C0) (hlt : ∀ t, d = some t -> t < N.n) :
   Stand C0 N g O { s with ts := ze s.ts d x } (a.put d v) w := by
 cases d with
 | none => exact ⟨hR.drop, hl, hd, hN, hz, hC⟩
 | some t =>
   have ht : t < a.tmps.size := Nat.lt_of_lt_of_le (hlt t rfl) hN;have hW := hl.set ht x;refine ⟨?_, fun k p hp => by have := hW k p hp; simpa [Act.put, ze] using this, hd, by simpa [Act.put] using hN, hz, hC⟩;obtain ⟨rest, ev, h1, h2⟩ := Ts.roots_put hl ht x v;simp only [ze, Act.put];have h3 := hR.perm (h1.cons _)
   cases hb : s.ts.t.has (s.ts.slot t) with
   | true =>
     rw [hb] at h2;refine R.perm (R.drops (l := ev) (h3.perm ?_)) (h2.symm);simpa using (List.perm_middle (a := (x, v)) (l₁ := ev) (l₂ := rest)).symm
   | false =>
     rw [hb] at h2;exact R.perm (R.drops (l := ev) h3.drop) (by simpa using h2.symm)
def J1 (n : Nat) (ios : List IOper) : Bool := ios.all fun io => match io.dst with | some d => decide (d < n) | none => true
def Qk (P : Program) (ρ : Option Nat) (n : Nat) (ops : Array Oper) (Q : Exit -> Act -> World -> Prop) (tl : List Nat) : Exit -> Act -> World -> Prop := fun e a w => match e with
 | .normal => wpOpsIn (WF ρ) n P ops Q tl a w
 | e => Q e a w
theorem jlC {ρ : Option Nat} {n : Nat} {ops : Array Oper} {Q : Exit -> Act -> World -> Prop} : Qk P ρ n ops Q [] = Q := by
 funext e a w
 cases e <;> rfl
theorem jce {tl : List Nat} {more : List Oper} {ρ : Option Nat} {n : Nat} {N : Shape} {ops : Array Oper} {Q : Exit -> Act -> World -> Prop} (hcf : CallOK P C0 cf) : ∀ {ios : List IOper} {os pre : List Oper} {g : Gh} {O : List Nat} {s s' : St} {a : Act} {w : World} {x : IExit}, ops.toList = pre ++ (os ++ more) -> y9 P ops os ios = true ->
   J1 N.n ios = true -> jY cf ios s = some (x, s') -> Stand C0 N g O s a w -> After C0 N g O s w x s' (Qk P ρ n ops Q tl) -> wpOpsIn (WF ρ) n P ops Q (List.range' pre.length os.length ++ tl) a w := by
 intro ios
 induction ios with
 | nil =>
   intro os pre g O s s' a w x hops hok hds hrun hst haft;cases os <;> simp [y9] at hok;simp [jY] at hrun;obtain ⟨rfl, rfl⟩ := hrun;exact haft.1 _ g O a w rfl (.refl _ _ _ _) hst
 | cons io ios ih =>
   intro os pre g O s s' a w x hops hok hds hrun hst haft
   cases os with
   | nil => simp [y9] at hok
   | cons o os =>
     simp only [y9, zA, KD] at hok;obtain ⟨⟨⟨hop, hdst⟩, hgd⟩, hrest⟩ := hok;have hdst := eq_of_beq hdst;obtain ⟨iod, iop, iog⟩ := io;simp only at hop hdst hgd;subst hdst;simp only [J1, List.all_cons, zA] at hds;have hd0 : ∀ t, o.dst = some t -> t < N.n := by
       intro t ht;have := hds.1;rw [ht] at this;simpa using this
     have vU : ops[pre.length]? = some o := by
       rw [<- Array.getElem?_toList, hops]; simp
     simp only [List.length_cons, List.range'_succ, List.cons_append, wpOpsIn, vU];have hnext : ops.toList = (pre ++ [o]) ++ (os ++ more) := by rw [hops]; simp
     have hlenp : (pre ++ [o]).length = pre.length + 1 := by simp
     simp only [jY] at hrun;split at hrun
     . rename_i hwi;rw [if_pos (JX (o := o) (io := ⟨o.dst, iop, iog⟩) hgd hst hwi)];split at hrun
       . rename_i v s1 hstep;refine jcd hcf hst.code hop hstep hst.len hst.rel ρ n _ Q (fun _ v' w' hp => ?_) (fun h => by cases h);obtain ⟨g1, O1, wn, hg, hR, hl, hwr, hk⟩ := hp;have hst1 := yM (d := o.dst) (s := s1) hR hl (by rw [(SameSh.step hstep).2.2]; exact hst.defs.mono hg.pre) hst.size ⟨(SameSh.step hstep).1.trans hst.sh.1, (SameSh.step hstep).2.1.trans hst.sh.2⟩ (hg.code.trans hst.code) hd0;rw [<- hlenp];exact ih hnext hrest hds.2 hrun hst1 (haft.of_goes ⟨hg, ⟨wn, hwr, hk⟩⟩)
       . rename_i v s1 hstep;refine jcd hcf hst.code hop hstep hst.len hst.rel ρ n _ Q (fun h => by cases h) (fun _ v' w' hp => ?_);obtain ⟨g1, O1, wn, hg, hR, hl, hwr, hk⟩ := hp;simp only [zO, zP] at hrun;obtain ⟨rfl, rfl⟩ := hrun;exact haft.2 v g1 O1 a w' v' rfl ⟨hg, ⟨wn, hwr, hk⟩⟩ hR (by rw [(SameSh.step hstep).2.2]; exact hst.defs.mono hg.pre) hl
       . cases hrun
     . rename_i hwi;rw [if_neg (by rw [JX (o := o) (io := ⟨o.dst, iop, iog⟩) hgd hst hwi]; simp)];refine ⟨fun _ _ => trivial, ?_⟩;have hR : R g O ((ju, undef) :: s.ts.roots a.tmps) s.σ w := hst.rel.push (ky g) rfl;have hst1 := yM (d := o.dst) (s := s) hR hst.len hst.defs hst.size hst.sh hst.code hd0;rw [<- hlenp];exact ih hnext hrest hds.2 hrun hst1 (haft.of_goes ⟨.refl O g w, ⟨[], rfl, .refl _⟩⟩)
     . cases hrun
theorem jkD {ρ : Option Nat} {n : Nat} {N : Shape} {ops : Array Oper} {Q : Exit -> Act -> World -> Prop} (hcf : CallOK P C0 cf) {ios : List IOper} {os pre : List Oper} {g : Gh} {O : List Nat} {s s' : St} {a : Act} {w : World} {x : IExit} (hops : ops.toList = pre ++ os) (hok : y9 P ops os ios = true)
   (hds : J1 N.n ios = true) (hrun : jY cf ios s = some (x, s')) (hst : Stand C0 N g O s a w) (haft : After C0 N g O s w x s' Q) : wpOpsIn (WF ρ) n P ops Q (List.range' pre.length os.length) a w := by
 have := jce (ρ := ρ) (n := n) (Q := Q) (tl := []) (more := []) hcf (by rw [List.append_nil]; exact hops) hok hds hrun hst (by rw [jlC]; exact haft);simpa using this
end Go.Idl
