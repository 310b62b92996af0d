/-
  Calls by an interface value; reflection's values: made, set.
-/
import Derived.Test.YtkjcgfadojfeeaaIdlExt2
import Derived.Test.YtkjcgfadojfeeaaIdlOpsH
set_option linter.unusedSectionVars false
set_option linter.unusedVariables false
set_option linter.unusedSimpArgs false
namespace Go.Idl
open Go.Extern Go.Extern.Rtype
variable [Globs]

variable {P : Program} {o : Oper} {a : Act} {g : Gh} {O : List Nat} {w : World} {s : St} {res : Res} {cf : CallF}

theorem opRes_inv {tab : List (TypeId × FuncId × RecvK)} {c : Call} {r : Operand} {name : String} {x : Opd} {xs : List Opd} {C0 : CRel} (hcf : CallOK P C0 cf) (hC : g.C = C0) (hop : o.op = .call c) (hc : c.callee = .invoke r name)
    (hr : opdOK x r = true) (hx : opdsOK xs c.args.toList = true) (ht : ∀ p ∈ tab, recvOK P p.1 name p.2.1 p.2.2 = true) (hs : stepOp cf (.inv tab x xs) s = some res)
    (hl : WT s.ts a.tmps) (hR : R g O (s.ts.roots a.tmps) s.σ w) : OpRes P o a g O w s res := by
  simp only [stepOp] at hs
  split at hs
  · rename_i t v ts h
    split at hs
    · rename_i t' f rk hfind
      split at hs
      · rename_i y hy
        split at hs
        · rename_i vs ts' h'
          obtain ⟨hmem, he⟩ := find_mem hfind
          have := eq_of_beq he; subst this
          obtain ⟨h1, h2⟩ := get_sim (l := []) hr h hl hR
          obtain ⟨h3, h4, h5⟩ := getAll_sim (l := [(.iface t' v, a.eval r)]) hx h' h2 h1
          have hV : V g (.iface t' v) (a.eval r) := h3.vals (.iface t' v, a.eval r) (by simp)
          obtain ⟨xv, hxv, hVx, hfx⟩ := iface_inv hV
          obtain ⟨u, q1, q2, q3⟩ := run_method (w := w) (fuel := P.types.size + (Made.depth - 1)) (ht _ hmem) hVx hfx hy
          have hbase : R g O (vs.zip (c.args.toList.map a.eval) ++ ts'.roots a.tmps) s.σ w := by
            have hp : (vs.zip (c.args.toList.map a.eval) ++ ([(IVal.iface t' v, a.eval r)] ++ ts'.roots a.tmps)).Perm ((IVal.iface t' v, a.eval r) :: (vs.zip (c.args.toList.map a.eval) ++ ts'.roots a.tmps)) := List.perm_middle
            exact (h3.perm hp).drop
          refine opRes_call (rargs := #[u] ++ c.args.map a.eval) hcf hC (fun c' h => by rw [hop] at h; cases h) (fun hf => ?_) (by simp at h5 ⊢; omega) ?_ h4 hs
          · obtain ⟨fn, f1, f2, f3⟩ := hf
            have hfu : P.types.size + Made.depth = P.types.size + (Made.depth - 1) + 1 := rfl
            have harg : (#[Value.iface t' xv] ++ c.args.map a.eval)[0]? = some (.iface t' xv) := by rw [Array.getElem?_append_left (by simp)]; rfl
            simp only [execOp, hop, resolve, hc, Sem.run_bind, Sem.run_pure, Result.andThen, invoke, hxv]
            rw [harg]
            simp only [extract_one, callMethod, Sem.run_bind, run_program, Result.andThen, hfu, q1]
            simp [callFunc, f1, f2, f3]
          · have e : (y :: vs).zip (#[u] ++ c.args.map a.eval).toList = (y, u) :: vs.zip (c.args.toList.map a.eval) := by simp
            rw [e]
            exact hbase.push q2 q3
        · cases hs
      · cases hs
    · cases hs
  · cases hs

/-! ### a value's own variable -/
def isVOf (P : Program) (f : FuncId) (G : Nat) (tab : List (TypeId × Nat)) : Bool := match P.funcs[f]? with
  | some fn => fn.name == "internal/reflectlite.ValueOf" && (fn.origin == "" && (fn.body.isNone && (G == P.globals.size && tab.all fun p => kindP P p.1 == some p.2)))
  | none => false

theorem vOf_find {fn : Func} (h : fn.name = "internal/reflectlite.ValueOf") (ho : fn.origin = "") : Extern.findNext fn = none ∧ Extern.find fn = some (fun args => ReflectliteValue.unpack (args.getD 0 (.tuple #[]))) := by
  unfold Extern.findNext Extern.find
  rw [h, ho]
  exact ⟨by kernel_rfl, by kernel_rfl⟩

theorem sim_vOf {G : Nat} {tab : List (TypeId × Nat)} {c : Call} {f : FuncId} {r : Operand} {x : Opd} (hop : o.op = .call c) (hc : c.callee = .value (.func f)) (ha : c.args = #[r]) (hf : isVOf P f G tab = true) (hx : opdOK x r = true)
    (hs : stepOp cf (.vOf G tab x) s = some res) (hl : WT s.ts a.tmps) (hR : R g O (s.ts.roots a.tmps) s.σ w) : SimV P o a g O w s res := by
  unfold isVOf at hf
  split at hf
  · rename_i fn hfn
    simp only [Bool.and_eq_true, beq_iff_eq, List.all_eq_true] at hf
    obtain ⟨f1, f2, f3, f4, f5⟩ := hf
    obtain ⟨e1, e2⟩ := vOf_find f1 f2
    simp only [stepOp] at hs
    split at hs
    · rename_i t v ts h
      split at hs
      · rename_i t' k hfind
        split at hs
        · rename_i hcell
          simp only [rv, Option.some.injEq] at hs
          subst hs
          obtain ⟨hmem, he⟩ := find_mem hfind
          have := eq_of_beq he; subst this
          have hk := f5 _ hmem
          obtain ⟨h1, h2⟩ := get_sim (l := []) hx h hl hR
          obtain ⟨xv, hxv, hVx, hfx⟩ := iface_inv h1.head
          subst f4
          have hrun : (execOp a.eval o).run P w = .ok (.value (.agg #[.pointer (some ⟨P.globals.size, t', none⟩), .pointer (some ⟨w.heap.size, 0, none⟩), .int .u64 (k + 128 : Nat)])) (w.alloc (.cells xv.cells t')) := by
            have : (callFunc f #[.iface t' xv]).run P w = .ok (.value (.agg #[.pointer (some ⟨P.globals.size, t', none⟩), .pointer (some ⟨w.heap.size, 0, none⟩), .int .u64 (k + 128 : Nat)])) (w.alloc (.cells xv.cells t')) := by
              rw [run_callFunc_extern hfn (by rw [f1]; rfl) f3 e1 e2]
              show ((ReflectliteValue.unpack (.iface t' xv)).run P w).andThen _ = _
              simp [ReflectliteValue.unpack, ReflectliteValue.mk, run_newVar, run_handle, run_kind hk, Result.andThen, ReflectliteValue.flagIndir]
            simp only [execOp, hop, resolve, hc, Act.eval, Deferred.ofValue, Sem.run_bind, Sem.run_pure, Result.andThen, invoke, ha]
            have e : (#[] : Array Value) ++ (#[r].map a.eval) ++ #[] = #[.iface t' xv] := by simp [← hxv]
            simpa [← hxv] using this
          obtain ⟨q1, q2⟩ := hVx.cells
          obtain ⟨g', hR', hg, hι⟩ := h1.drop.newPv (cs := v.cells.map un1) (vs := xv.cells) (rf := ext v.cells) (el := t') (by simpa using q1) (fun i y u hy hu => by
              simp only [List.getElem?_map, Option.map_eq_some_iff] at hy
              obtain ⟨y', hy', rfl⟩ := hy
              exact (q2 i y' u hy' hu).un1) (fun y hy => by
              simp only [List.mem_map] at hy
              obtain ⟨y', hy', rfl⟩ := hy
              exact ⟨un1_un1 y', by rw [isCell_un1]; exact List.all_eq_true.1 hcell y' hy'⟩) (fun hrf y hy => by
              simp only [List.mem_map] at hy
              obtain ⟨y', hy', rfl⟩ := hy
              simp only [ext, Bool.not_eq_false', List.all_eq_true] at hrf
              have := hrf y' hy'
              have hcell := List.all_eq_true.1 hcell y' hy'
              cases y' <;> simp_all [nr2, nr1, nr0, un1, IVal.isCell])
          refine ⟨rfl, _, _, _, hrun, rfl, g', O, [], hg, ?_, h2, rfl, Keep.refl _⟩
          refine hR'.swap (fun hVp => ?_) (List.nil_sublist _)
          refine .agg _ _ rfl (fun i x v hx hv' => ?_) (by simp [hdlI, IVal.isCell])
          match i with
          | 0 => simp at hx hv'; subst hx hv'; exact .prim _ rfl
          | 1 => simp at hx hv'; subst hx hv'; exact hVp
          | 2 => simp at hx hv'; subst hx hv'; exact .int _ _
          | i + 3 => simp at hx
        · cases hs
      · cases hs
    · cases hs
  · cases hf

/-- A value put into an object. -/
theorem R.putAt {l : Roots} {σ : List IObj} {v : IVal} {uv : Value} {id off b : Nat} {cs : List IVal} (hroot : R g O ((v, uv) :: l) σ w) (hι : g.ι[id]? = some b) (hσ : σ[id]? = some (.cells cs)) (hput : off + v.cells.length ≤ cs.length) (hcell : v.cells.all IVal.isCell = true) :
    ∃ w', (storeCells ⟨b, off, none⟩ uv.cells.toList).run P w = .ok () w' ∧ R g O ((undefI, undef) :: l) (σ.set id (.cells (putCells cs off v.cells))) w' ∧ Grow O g w O g w' ∧ Keep σ (σ.set id (.cells (putCells cs off v.cells))) [(id, !(v.cells.all nr1))] := by
  obtain ⟨c, el, hh, hsz, hc⟩ := hroot.objs id b _ hι hσ
  have hV := hroot.head
  obtain ⟨p1, p2⟩ := hV.cells
  have hun : uv.cells.toList.length = v.cells.length := by rw [Array.length_toList, ← p1]
  have hput' : off + uv.cells.toList.length ≤ c.toList.length := by
    rw [hun]
    have h0 : c.toList.length = c.size := by simp
    omega
  have hones : ∀ u ∈ uv.cells.toList, u.oneCell' = true := by
    intro u hu
    obtain ⟨j, hj⟩ := mem_idx hu
    have hj' : uv.cells[j]? = some u := by simpa using hj
    obtain ⟨x, hx⟩ : ∃ x, v.cells[j]? = some x := by
      have := (Array.getElem?_eq_some_iff.1 hj').1
      exact ⟨v.cells[j]'(by omega), by simp⟩
    have hVj := p2 j x u hx hj'
    exact oneCell_of (by rw [← hVj.isCell]; exact List.all_eq_true.1 hcell x (List.mem_of_getElem? hx))
  let row := (c.toList.take off ++ uv.cells.toList ++ c.toList.drop (off + uv.cells.toList.length)).toArray
  have hst : (storeCells ⟨b, off, none⟩ uv.cells.toList).run P w = .ok () (w.setRow b row) := by
    have := run_storeCells_atF P b off el (0, 0) uv.cells.toList 0 c w hh (by simp) (by simpa using hput') hones
    simpa [row] using this
  have hrow : (w.setRow b row).heap[b]? = some (.cells row el (0, 0)) := setRow_heap w b c row el _ hh
  have hOB : OBJ g (w.setRow b row) b (.cells (putCells cs off v.cells)) := by
    refine ⟨row, el, hrow, ?_, fun j x u hxj huj => ?_⟩
    · rw [putCells_len hput]; simp [row]; simp at hput' hun; omega
    · rw [putCells_get hput] at hxj
      have huj' : (c.toList.take off ++ uv.cells.toList ++ c.toList.drop (off + uv.cells.toList.length))[j]? = some u := by simpa [row] using huj
      rw [putR_get hput', hun] at huj'
      split at hxj
      · rename_i hj
        rw [if_pos hj] at huj'
        have huj'' : uv.cells[j - off]? = some u := by simpa using huj'
        exact ⟨p2 _ _ _ hxj huj'', List.all_eq_true.1 hcell x (List.mem_of_getElem? hxj)⟩
      · rename_i hj
        rw [if_neg hj] at huj'
        exact hc j x u hxj (by simpa using huj')
  have hf := setRow_fields w b row
  have hR' := hroot.upd (y := undefI) (u := undef) (id := id) (b := b) (ob := .cells cs) (ob' := .cells (putCells cs off v.cells)) (w' := w.setRow b row) (undef_V g) hι hσ (by simp) (fun k hk => setRow_other w b k row hk) hf.2.2.2 (fun c' el' fz' hc' => by
    rw [hh] at hc'; cases hc'
    exact ⟨row, el, hrow, by simp [row]; simp at hput'; omega⟩) hOB (by
    simp only [ownO, blockCells, hh, hrow]
    obtain ⟨A, C, e1, e2⟩ := own_put (cs := cs) (ws := v.cells) (c := c.toList) (us := uv.cells.toList) (off := off) (by simpa using hsz.symm) (by rw [hun]) hput
    rw [show row.toList = c.toList.take off ++ uv.cells.toList ++ c.toList.drop (off + uv.cells.toList.length) from rfl, e1, e2, own_cells hV hcell]
    show SubP (b :: (A ++ own3 v uv ++ C)) (own3 v uv ++ b :: (A ++ _ ++ C))
    refine SubP.perm_right (List.perm_middle.symm) ?_
    refine SubP.append_left [b] ?_
    refine SubP.perm_left (a := own3 v uv ++ (A ++ C)) ?_ ?_
    · rw [← List.append_assoc]; exact List.perm_append_comm.append_right C
    · refine SubP.append_left _ (SubP.of_sub ?_)
      rw [List.append_assoc]
      exact List.Sublist.append (.refl _) (List.sublist_append_right _ _))
  refine ⟨_, hst, hR', ?_, Keep.set fun m hid hm ho => ?_⟩
  · exact Grow.of_setRow g w (hroot.sub b (List.mem_append_right _ (ownS_mem hι hσ (by simp [ownO])))) _ (fun k hk => setRow_other w b k row hk) hf.2.2.2 hf.1 hf.2.1 hf.2.2.1
  · refine RLO_put hput (ho _ hσ) (fun x hx => ?_)
    obtain ⟨j, hj⟩ := mem_idx hx
    obtain ⟨u, hu⟩ := get_of_size p1 hj
    have hVx := p2 j x u hj hu
    by_cases hnr : v.cells.all nr1 = true
    · exact hVx.norl m (nr3_of_nr2 (nr2_of_nr1 (List.all_eq_true.1 hnr x hx)))
    · exact absurd (hm (by simpa using hnr)) (by omega)

def isVSet (P : Program) (f : FuncId) (G : Nat) (tab : List TypeId) : Bool := match P.funcs[f]? with
  | some fn => fn.name == "(internal/reflectlite.Value).Set" && (fn.origin == "" && (fn.body.isNone && (G == P.globals.size && tab.all fun t => !P.packed t && tyN P t none)))
  | none => false

theorem vSet_find {fn : Func} (h : fn.name = "(internal/reflectlite.Value).Set") (ho : fn.origin = "") : Extern.findNext fn = none ∧ Extern.find fn = some ReflectliteValue.set := by
  unfold Extern.findNext Extern.find
  rw [h, ho]
  exact ⟨by kernel_rfl, by kernel_rfl⟩

theorem set_eq (v x : Value) : ReflectliteValue.set #[v, x] = (do
    let (some (dst, a, fl), some (src, b, _)) := (← ReflectliteValue.parts v, ← ReflectliteValue.parts x)
      | unsupported (.noEntry "extern/(internal/reflectlite.Value).Set.zeroValue")
    if fl / ReflectliteValue.flagAddr % 2 == 0 then unsupported (.noEntry "extern/(internal/reflectlite.Value).Set.unaddressable")
    let val ← loadVar src b
    if ← directlyAssignable dst src then storeVar dst a val
    else if ← implements dst src then
      if (← kind src) == 20 then
        match val with
        | .nilIface => unsupported (.noEntry "extern/reflectlite: a nil value of one interface type handed on as a value of another")
        | _ => storeVar dst a val
      else storeVar dst a (.iface src val)
    else panicString ("reflectlite.Set: value of type " ++ (← spelt src) ++ " is not assignable to type " ++ (← spelt dst))
    pure (.tuple #[])) := rfl

theorem sim_vSet {G : Nat} {tab : List TypeId} {c : Call} {f : FuncId} {rx ry : Operand} {x y : Opd} (hop : o.op = .call c) (hc : c.callee = .value (.func f)) (ha : c.args = #[rx, ry]) (hf : isVSet P f G tab = true) (hx : opdOK x rx = true) (hy : opdOK y ry = true)
    (hs : stepOp cf (.vSet G tab x y) s = some res) (hl : WT s.ts a.tmps) (hR : R g O (s.ts.roots a.tmps) s.σ w) : SimV P o a g O w s res := by
  unfold isVSet at hf
  split at hf
  · rename_i fn hfn
    simp only [Bool.and_eq_true, beq_iff_eq, List.all_eq_true, Bool.not_eq_true'] at hf
    obtain ⟨f1, f2, f3, rfl, f5⟩ := hf
    obtain ⟨e1, e2⟩ := vSet_find f1 f2
    simp only [stepOp] at hs
    split at hs
    · rename_i hd id off fl ts h
      split at hs
      · rename_i hd' rr v fl' ts' h'
        split at hs
        · rename_i t t' ht ht'
          split at hs
          · rename_i hcond
            obtain ⟨rfl, rfl, rfl, hcon⟩ := hcond
            split at hs
            · rename_i cs hcs
              split at hs
              · rename_i hoff
                simp only [Option.some.injEq] at hs
                subst hs
                obtain ⟨hp, hT⟩ := f5 t (List.contains_iff_mem.1 hcon)
                obtain ⟨h1, h2⟩ := get_sim (l := []) hx h hl hR
                have hVx : V g (.agg [hd, .ptr id off, .int .u64 406]) (a.eval rx) := h1.head
                obtain ⟨h3, h4⟩ := get_sim (l := [(.agg [hd, .ptr id off, .int .u64 406], a.eval rx)]) hy h' h2 h1
                obtain ⟨x1, x2, x3, ex, v1, v2, v3⟩ := agg3_inv hVx
                have := hdl_inv v1 ht; subst this
                obtain ⟨b, rfl, hι⟩ := v2.ptr_inv
                cases v3
                obtain ⟨y1, y2, y3, ey, u1, u2, u3⟩ := agg3_inv h3.head
                have := hdl_inv u1 ht'; subst this
                obtain ⟨b', o', cv, rfl, vc, hcell, hM, hun1⟩ := pv1_inv u2
                cases u3
                obtain ⟨lu, hlu, vlu⟩ := run_loadP (w := w) hT vc hcell (h3.claim _ _ _ hM)
                have hroot : R g O ((v, lu) :: ts'.roots a.tmps) s.σ w := by
                  have hb : R g O (ts'.roots a.tmps) s.σ w := by
                    have := h3.drop
                    exact R.drop (by simpa using this)
                  have hfl : Flat v := ⟨by cases v <;> simp_all [IVal.isCell, un2], by cases v <;> simp_all [IVal.isCell, nt]⟩
                  exact hb.push vlu (own3_flat hfl lu)
                have hσ := loadCell_some hcs
                have hvc : v.cells = [v] := by cases v <;> simp [IVal.isCell] at hcell <;> rfl
                obtain ⟨w', hst, hR', hg, hk⟩ := R.putAt (P := P) (off := off) hroot hι hσ (by rw [hvc]; simp; omega) (by rw [hvc]; simpa using hcell)
                rw [hvc] at hR' hk
                obtain ⟨i, hi, hisz⟩ : ∃ i, P.info? t = some i ∧ i.size = 1 := by
                  obtain ⟨-, i, q1, q2⟩ := run_isAgg (w := w) hT
                  exact ⟨i, q1, by simpa using q2⟩
                have hlsz : lu.cells.size = 1 := by
                  have := vlu.cells.1
                  rw [hvc] at this
                  simpa using this.symm
                have hrun : (execOp a.eval o).run P w = .ok (.value (.tuple #[])) w' := by
                  have hset : (ReflectliteValue.set #[a.eval rx, a.eval ry]).run P w = .ok (.tuple #[]) w' := by
                    rw [ex, ey, set_eq]
                    have hda : (directlyAssignable t t).run P w = .ok true w := run_da (by simp [daP])
                    have hfl : ((406 : Int).toNat / ReflectliteValue.flagAddr % 2 == 0) = false := rfl
                    have hsv : (storeVar t ⟨b, off, none⟩ lu).run P w = .ok () w' := by
                      simp [storeVar, run_sizeOf hi, hlsz, hisz, hst]
                    simp only [Sem.run_bind, run_parts (.inr rfl) hp, run_parts (.inl rfl) hp, Result.andThen, hfl, Bool.false_eq_true, if_false, hlu, hda, if_true, hsv, Sem.run_pure]
                  have : (callFunc f #[a.eval rx, a.eval ry]).run P w = .ok (.value (.tuple #[])) w' := by
                    rw [run_callFunc_extern hfn (by rw [f1]; rfl) f3 e1 e2, hset]; rfl
                  simp only [execOp, hop, resolve, hc, Deferred.ofValue, Sem.run_bind, Sem.run_pure, Result.andThen, invoke, ha]
                  simpa [Act.eval] using this
                refine ⟨rfl, undef, _, _, hrun, rfl, g, O, [(id, !([v].all nr1))], hg, hR', h4, rfl, hk⟩
              · cases hs
            · cases hs
          · cases hs
        · cases hs
      · cases hs
    · cases hs
  · cases hf

end Go.Idl
