/-
  Loads and stores.
-/
import Derived.Test.YtkjcgfadojfeeaaIdlOpsG
set_option linter.unusedSectionVars false
set_option linter.unusedVariables false
set_option linter.unusedSimpArgs false
namespace Go.Idl
variable [Globs]

variable {P : Program} {o : Oper} {a : Act} {g : Gh} {O : List Nat} {w : World} {s : St} {res : Res} {cf : CallF}

theorem takeV_cells {n : Option Nat} {cs : List IVal} {off : Nat} {z : IVal} (h : takeV n cs off = some z) (hi : ∀ x ∈ cs, x.isCell = true) :
    z.cells = (cs.drop off).take (n.getD 1) ∧ off + n.getD 1 ≤ cs.length ∧ nt z = true ∧ (un2 z).cells = ((cs.drop off).take (n.getD 1)).map un1 ∧ z.cells.all IVal.isCell = true := by
  cases n with
  | some n =>
    simp only [takeV] at h
    split at h
    · rename_i hlen
      simp only [Option.some.injEq] at h
      subst h
      refine ⟨rfl, hlen, rfl, rfl, ?_⟩
      simp only [IVal.cells, List.all_eq_true]
      exact fun x hx => hi x (List.mem_of_mem_drop (List.mem_of_mem_take hx))
    · cases h
  | none =>
    simp only [takeV] at h
    have hlt := lt_of_get h
    have hc := hi z (List.mem_of_getElem? h)
    have e2 : (cs.drop off).take 1 = [z] := by
      rw [List.drop_eq_getElem_cons hlt]
      have := (List.getElem?_eq_some_iff.1 h).2
      simp [this]
    have e1 : z.cells = [z] := by cases z <;> simp_all [IVal.cells, IVal.isCell]
    have e3 : (un2 z).cells = [un1 z] := by cases z <;> simp_all [IVal.cells, IVal.isCell, un2, un1]
    refine ⟨by rw [e1]; exact e2.symm, by simp only [Option.getD_none]; omega, by cases z <;> simp_all [nt, IVal.isCell], ?_, by rw [e1]; simp [hc]⟩
    rw [e3]
    simp only [Option.getD_none]
    rw [e2]; rfl

theorem own_un1s {cs : List IVal} (h : ∀ c ∈ cs, un1 c = c) (vs : List Value) : (List.zipWith own1 cs vs).flatten = [] := by
  apply flatten_nil
  intro c hc
  obtain ⟨i, x, y, h1, _, rfl⟩ := mem_zipWith hc
  exact own1_flat (h x (List.mem_of_getElem? h1)) y

theorem own3_cells {x : IVal} {v : Value} (h : V g x v) (hc : x.cells.all IVal.isCell = true) : own3 x v = (List.zipWith own1 x.cells v.cells.toList).flatten := (own_cells h hc).symm

theorem RLO_put {n : Nat} {cs ws : List IVal} {off : Nat} (h : off + ws.length ≤ cs.length) (h1 : RLO n (.cells cs)) (h2 : ∀ x ∈ ws, RL n x) : RLO n (.cells (putCells cs off ws)) := by
  intro x hx
  rw [putCells_eq _ _ _ h] at hx
  rcases List.mem_append.1 hx with hx | hx
  · rcases List.mem_append.1 hx with hx | hx
    · exact h1 x (List.mem_of_mem_take hx)
    · exact h2 x hx
  · exact h1 x (List.mem_of_mem_drop hx)

theorem loadCell_some {σ : List IObj} {id : Nat} {cs : List IVal} (h : loadCell σ id = some cs) : σ[id]? = some (.cells cs) := by
  unfold loadCell at h
  split at h
  · simp at h; subst h; assumption
  · cases h

/-- What is read of an object is taken out of it: its rights with it. -/
theorem R.loadMove {l : Roots} {σ : List IObj} {n : Option Nat} {T : TypeId} {id off b : Nat} {cs : List IVal} {z : IVal} (h1 : R g O l σ w) (hι : g.ι[id]? = some b) (hσ : σ[id]? = some (.cells cs)) (hT : tyN P T n = true) (hz : takeV n cs off = some z) :
    ∃ u, (loadVar T ⟨b, off, none⟩).run P w = .ok u w ∧ R g O ((z, u) :: l) (σ.set id (.cells (putCells cs off (un2 z).cells))) w ∧ Keep σ (σ.set id (.cells (putCells cs off (un2 z).cells))) [(id, false)] ∧ nt z = true := by
  obtain ⟨c, el, hh, hsz, hc⟩ := h1.objs id b _ hι hσ
  have hvc : ∀ (i : Nat) x u, cs[i]? = some x → c.toList[i]? = some u → V g x u := fun i x u hx hu => (hc i x u hx (by simpa using hu)).1
  have hic : ∀ x ∈ cs, x.isCell = true := fun x hx => by
    obtain ⟨i, hi⟩ := mem_idx hx
    obtain ⟨u, hu⟩ := get_of_size hsz.symm hi
    exact (hc i x u hi hu).2
  obtain ⟨u, hrun, hV, hu, _⟩ := run_loadVar (w := w) (b := b) (e := 0) hT (by simpa using hsz.symm) hvc hic (fun j v hj => by simp [World.cell?, hh]; simpa using hj) hz
  rw [Nat.zero_add] at hrun
  obtain ⟨q1, q2, q3, q4, q5⟩ := takeV_cells hz hic
  have hlen : ((un2 z).cells).length = n.getD 1 := by rw [q4]; simp; omega
  have hput : off + ((un2 z).cells).length ≤ cs.length := by rw [hlen]; exact q2
  have hulen : u.cells.toList.length = n.getD 1 := by rw [hu]; simp; omega
  have hsame : c.toList.take off ++ u.cells.toList ++ c.toList.drop (off + u.cells.toList.length) = c.toList := by
    rw [hulen, hu]; exact (split3 c.toList off (n.getD 1)).symm
  have hOB : OBJ g w b (.cells (putCells cs off (un2 z).cells)) := by
    refine ⟨c, el, hh, by rw [putCells_len hput]; exact hsz, fun i x v hx hv => ?_⟩
    rw [putCells_get hput] at hx
    split at hx
    · rename_i hi
      rw [q4] at hx
      simp only [List.getElem?_map, Option.map_eq_some_iff] at hx
      obtain ⟨x', hx', rfl⟩ := hx
      rw [List.getElem?_take] at hx'
      split at hx'
      · rw [List.getElem?_drop, show off + (i - off) = i by omega] at hx'
        exact ⟨(hc i x' v hx' hv).1.un1, by rw [isCell_un1]; exact (hc i x' v hx' hv).2⟩
      · cases hx'
    · exact hc i x v hx hv
  have hR' := (h1.push (undef_V g) rfl).upd (y := z) (u := u) (id := id) (b := b) (ob := .cells cs) (ob' := .cells (putCells cs off (un2 z).cells)) (w' := w) hV hι hσ (by simp) (fun _ _ => rfl) rfl (fun c el fz hc => ⟨c, el, hc, rfl⟩) hOB (by
    simp only [ownO, blockCells, hh]
    obtain ⟨A, C, e1, e2⟩ := own_put (cs := cs) (ws := (un2 z).cells) (c := c.toList) (us := u.cells.toList) (off := off) (by simpa using hsz.symm) (by rw [hlen, hulen]) hput
    rw [hsame] at e1
    have e3 : (List.zipWith own1 (un2 z).cells u.cells.toList).flatten = [] := own_un1s (fun x hx => by
      rw [q4] at hx; simp only [List.mem_map] at hx; obtain ⟨x', _, rfl⟩ := hx; exact un1_un1 x') _
    rw [e3, List.append_nil] at e1
    have e4 : (List.zipWith own1 ((cs.drop off).take (un2 z).cells.length) ((c.toList.drop off).take u.cells.toList.length)).flatten = own3 z u := by
      rw [own3_cells hV q5, hlen, q1, hulen, ← hu]
    rw [e4] at e2
    rw [e1, e2]
    refine SubP.perm_left ?_ (SubP.refl _)
    have : (own3 z u ++ b :: (A ++ C)).Perm (b :: (own3 z u ++ (A ++ C))) := List.perm_middle
    refine this.trans ?_
    show (b :: (own3 z u ++ (A ++ C))).Perm (own3 undefI undef ++ b :: (A ++ own3 z u ++ C))
    have e0 : own3 undefI undef = [] := rfl
    rw [e0, List.nil_append]
    refine List.Perm.cons _ ?_
    rw [← List.append_assoc, List.append_assoc A]
    rw [← List.append_assoc]
    exact List.perm_append_comm.append_right C)
  refine ⟨u, hrun, hR', Keep.set fun m _ _ ho => ?_, q3⟩
  refine RLO_put hput (ho _ hσ) (fun x hx => ?_)
  rw [q4] at hx; simp only [List.mem_map] at hx
  obtain ⟨x', hx', rfl⟩ := hx
  exact (ho _ hσ x' (List.mem_of_mem_drop (List.mem_of_mem_take hx'))).un1

theorem sim_load {mvf : Bool} {n : Option Nat} {x : Opd} {r : Operand} {T : TypeId} (hop : o.op = .load T r) (hx : opdOK x r = true) (hT : tyN P T n = true) (hs : stepOp cf (.load mvf n x) s = some res)
    (hl : WT s.ts a.tmps) (hR : R g O (s.ts.roots a.tmps) s.σ w) : SimV P o a g O w s res := by
  simp only [stepOp] at hs
  split at hs
  · rename_i rf cs off ts h
    split at hs
    · rename_i z hz
      simp only [rv, Option.some.injEq] at hs
      subst hs
      obtain ⟨h1, h2⟩ := get_sim (l := []) hx h hl hR
      obtain ⟨vs, b, e, hb, hl', hv, hf, hr, hm⟩ := h1.head.pv_inv
      obtain ⟨u, hrun, hV, hu, _⟩ := run_loadVar (w := w) hT hl' hv (fun x hx => (hf x hx).2) (fun j v hj => h1.claim _ _ _ (hm j v hj)) hz
      obtain ⟨q1, q2, q3, q4, q5⟩ := takeV_cells hz (fun x hx => (hf x hx).2)
      refine SimV.same (v' := u) ?_ (h1.drop.push hV ?_) h2
      · simp [execOp, hop, hb, Instr.loadAt, Instr.sureAddr, hrun]
      · rw [own3_cells hV q5, q1]
        exact own_un1s (fun c hc => (hf c (List.mem_of_mem_drop (List.mem_of_mem_take hc))).1) _
    · cases hs
  · rename_i id off ts h
    split at hs
    · rename_i cs hcs
      split at hs
      · rename_i z hz
        obtain ⟨h1, h2⟩ := get_sim (l := []) hx h hl hR
        obtain ⟨b, hb, hι⟩ := h1.head.ptr_inv
        have hσ := loadCell_some hcs
        obtain ⟨c, el, hh, hsz, hc⟩ := h1.objs id b _ hι hσ
        have hvc : ∀ (i : Nat) x u, cs[i]? = some x → c.toList[i]? = some u → V g x u := fun i x u hx hu => (hc i x u hx (by simpa using hu)).1
        have hic : ∀ x ∈ cs, x.isCell = true := fun x hx => by
          obtain ⟨i, hi⟩ := mem_idx hx
          obtain ⟨u, hu⟩ := get_of_size hsz.symm hi
          exact (hc i x u hi hu).2
        obtain ⟨u, hrun, hV, hu, _⟩ := run_loadVar (w := w) (b := b) (e := 0) hT (by simpa using hsz.symm) hvc hic (fun j v hj => by simp [World.cell?, hh]; simpa using hj) hz
        rw [Nat.zero_add] at hrun
        obtain ⟨q1, q2, q3, q4, q5⟩ := takeV_cells hz hic
        have hexec : (execOp a.eval o).run P w = .ok (.value u) w := by simp [execOp, hop, hb, Instr.loadAt, Instr.sureAddr, hrun]
        split at hs
        · simp only [Option.some.injEq] at hs
          subst hs
          have hlen : ((un2 z).cells).length = n.getD 1 := by rw [q4]; simp; omega
          have hput : off + ((un2 z).cells).length ≤ cs.length := by rw [hlen]; exact q2
          have hulen : u.cells.toList.length = n.getD 1 := by rw [hu]; simp; omega
          have hsame : c.toList.take off ++ u.cells.toList ++ c.toList.drop (off + u.cells.toList.length) = c.toList := by
            rw [hulen, hu]; exact (split3 c.toList off (n.getD 1)).symm
          have hOB : OBJ g w b (.cells (putCells cs off (un2 z).cells)) := by
            refine ⟨c, el, hh, by rw [putCells_len hput]; exact hsz, fun i x v hx hv => ?_⟩
            rw [putCells_get hput] at hx
            split at hx
            · rename_i hi
              rw [q4] at hx
              simp only [List.getElem?_map, Option.map_eq_some_iff] at hx
              obtain ⟨x', hx', rfl⟩ := hx
              rw [List.getElem?_take] at hx'
              split at hx'
              · rw [List.getElem?_drop, show off + (i - off) = i by omega] at hx'
                exact ⟨(hc i x' v hx' hv).1.un1, by rw [isCell_un1]; exact (hc i x' v hx' hv).2⟩
              · cases hx'
            · exact hc i x v hx hv
          have hR' := (h1.drop.push (undef_V g) rfl).upd (y := z) (u := u) (id := id) (b := b) (ob := .cells cs) (ob' := .cells (putCells cs off (un2 z).cells)) (w' := w) hV hι hσ (by simp) (fun _ _ => rfl) rfl (fun c el fz hc => ⟨c, el, hc, rfl⟩) hOB (by
            simp only [ownO, blockCells, hh]
            obtain ⟨A, C, e1, e2⟩ := own_put (cs := cs) (ws := (un2 z).cells) (c := c.toList) (us := u.cells.toList) (off := off) (by simpa using hsz.symm) (by rw [hlen, hulen]) hput
            rw [hsame] at e1
            have e3 : (List.zipWith own1 (un2 z).cells u.cells.toList).flatten = [] := own_un1s (fun x hx => by
              rw [q4] at hx; simp only [List.mem_map] at hx; obtain ⟨x', _, rfl⟩ := hx; exact un1_un1 x') _
            rw [e3, List.append_nil] at e1
            have e4 : (List.zipWith own1 ((cs.drop off).take (un2 z).cells.length) ((c.toList.drop off).take u.cells.toList.length)).flatten = own3 z u := by
              rw [own3_cells hV q5, hlen, q1, hulen, ← hu]
            rw [e4] at e2
            rw [e1, e2]
            refine SubP.perm_left ?_ (SubP.refl _)
            have : (own3 z u ++ b :: (A ++ C)).Perm (b :: (own3 z u ++ (A ++ C))) := List.perm_middle
            refine this.trans ?_
            show (b :: (own3 z u ++ (A ++ C))).Perm (own3 undefI undef ++ b :: (A ++ own3 z u ++ C))
            have e0 : own3 undefI undef = [] := rfl
            rw [e0, List.nil_append]
            refine List.Perm.cons _ ?_
            rw [← List.append_assoc, List.append_assoc A]
            rw [← List.append_assoc]
            exact List.perm_append_comm.append_right C)
          refine ⟨rfl, u, w, _, hexec, rfl, g, O, [(id, false)], .refl O g w, hR', h2, rfl, Keep.set fun m _ _ ho => ?_⟩
          refine RLO_put hput (ho _ hσ) (fun x hx => ?_)
          rw [q4] at hx; simp only [List.mem_map] at hx
          obtain ⟨x', hx', rfl⟩ := hx
          exact (ho _ hσ x' (List.mem_of_mem_drop (List.mem_of_mem_take hx'))).un1
        · simp only [rv, Option.some.injEq] at hs
          subst hs
          exact SimV.same hexec (h1.drop.push hV.un2 (own3_flat (nt_un2_of q3) _)) h2
      · cases hs
    · cases hs
  · cases hs

theorem oneCell_of {v : Value} (h : isCellV v = true) : v.oneCell' = true := by cases v <;> simp_all [isCellV, Value.oneCell']

theorem setRow_fields (w : World) (b : Nat) (c : Array Value) : (w.setRow b c).os = w.os ∧ (w.setRow b c).tape = w.tape ∧ (w.setRow b c).output = w.output ∧ (w.setRow b c).heap.size = w.heap.size := by
  simp [World.setRow]

theorem sim_store {n : Nat} {x y : Opd} {rx ry : Operand} {T : TypeId} {i : TypeInfo} (hop : o.op = .store T rx ry) (hx : opdOK x rx = true) (hy : opdOK y ry = true) (hT : P.info? T = some i) (hn : i.size = n) (hs : stepOp cf (.store n x y) s = some res)
    (hl : WT s.ts a.tmps) (hR : R g O (s.ts.roots a.tmps) s.σ w) : SimV P o a g O w s res := by
  simp only [stepOp] at hs
  split at hs
  · rename_i id off ts h
    split at hs
    · rename_i v ts' h'
      split at hs
      · rename_i cs hcs
        split at hs
        · rename_i hc3
          simp only [Option.some.injEq] at hs
          subst hs
          obtain ⟨hvn, hlen, hcell⟩ := hc3
          obtain ⟨h1, h2⟩ := get_sim (l := []) hx h hl hR
          obtain ⟨h3, h4⟩ := get_sim (l := [(.ptr id off, a.eval rx)]) hy h' h2 h1
          obtain ⟨b, hb, hι⟩ := h3.drop.head.ptr_inv
          have hσ := loadCell_some hcs
          obtain ⟨c, el, hh, hsz, hc⟩ := h3.objs id b _ hι hσ
          have hV := h3.head
          obtain ⟨p1, p2⟩ := hV.cells
          have hput : off + v.cells.length ≤ cs.length := by omega
          have hun : (a.eval ry).cells.toList.length = n := by rw [Array.length_toList, ← p1]; exact hvn
          have hput' : off + (a.eval ry).cells.toList.length ≤ c.toList.length := by rw [hun, Array.length_toList]; omega
          have hones : ∀ u ∈ (a.eval ry).cells.toList, u.oneCell' = true := by
            intro u hu
            obtain ⟨j, hj⟩ := mem_idx hu
            have hj' : (a.eval ry).cells[j]? = some u := by simpa using hj
            obtain ⟨x, hx⟩ : ∃ x, v.cells[j]? = some x := by
              have := (Array.getElem?_eq_some_iff.1 hj').1
              exact ⟨v.cells[j]'(by omega), by simp⟩
            have hVj := p2 j x u hx hj'
            exact oneCell_of (by rw [← hVj.isCell]; exact List.all_eq_true.1 hcell x (List.mem_of_getElem? hx))
          let row := (c.toList.take off ++ (a.eval ry).cells.toList ++ c.toList.drop (off + (a.eval ry).cells.toList.length)).toArray
          have hst : (storeCells ⟨b, off, none⟩ (a.eval ry).cells.toList).run P w = .ok () (w.setRow b row) := by
            have := run_storeCells_atF P b off el (0, 0) (a.eval ry).cells.toList 0 c w hh (by simp) (by simpa using hput') hones
            simpa [row] using this
          have hexec : (execOp a.eval o).run P w = .ok .skip (w.setRow b row) := by
            have hne : (a.eval ry).cells.size = i.size := by rw [hn]; simpa using hun
            simp [execOp, hop, hb, Instr.storeAt, Instr.sureAddr, storeVar, run_sizeOf hT, hne, hst]
          have hrow : (w.setRow b row).heap[b]? = some (.cells row el (0, 0)) := setRow_heap w b c row el _ hh
          have hOB : OBJ g (w.setRow b row) b (.cells (putCells cs off v.cells)) := by
            refine ⟨row, el, hrow, ?_, fun j x u hxj huj => ?_⟩
            · rw [putCells_len hput]; simp [row]; simp at hput' hun; omega
            · rw [putCells_get hput] at hxj
              have huj' : (c.toList.take off ++ (a.eval ry).cells.toList ++ c.toList.drop (off + (a.eval ry).cells.toList.length))[j]? = some u := by simpa [row] using huj
              rw [putR_get hput', hun] at huj'
              rw [hvn] at hxj
              split at hxj
              · rename_i hj
                rw [if_pos hj] at huj'
                have huj'' : (a.eval ry).cells[j - off]? = some u := by simpa using huj'
                exact ⟨p2 _ _ _ hxj huj'', List.all_eq_true.1 hcell x (List.mem_of_getElem? hxj)⟩
              · rename_i hj
                rw [if_neg hj] at huj'
                exact hc j x u hxj (by simpa using huj')
          have hf := setRow_fields w b row
          have hroot : R g O ((v, a.eval ry) :: ts'.roots a.tmps) s.σ w := by
            have := h3.perm (.swap _ _ _)
            exact this.drop
          have hR' := hroot.upd (y := undefI) (u := undef) (id := id) (b := b) (ob := .cells cs) (ob' := .cells (putCells cs off v.cells)) (w' := w.setRow b row) (undef_V g) hι hσ (by simp) (fun k hk => setRow_other w b k row hk) hf.2.2.2 (fun c' el' fz' hc' => by
            rw [hh] at hc'; cases hc'
            exact ⟨row, el, hrow, by simp [row]; simp at hput'; omega⟩) hOB (by
            simp only [ownO, blockCells, hh, hrow]
            obtain ⟨A, C, e1, e2⟩ := own_put (cs := cs) (ws := v.cells) (c := c.toList) (us := (a.eval ry).cells.toList) (off := off) (by simpa using hsz.symm) (by rw [hun, hvn]) hput
            rw [show row.toList = c.toList.take off ++ (a.eval ry).cells.toList ++ c.toList.drop (off + (a.eval ry).cells.toList.length) from rfl, e1, e2, own_cells hV hcell]
            show SubP (b :: (A ++ own3 v (a.eval ry) ++ C)) (own3 v (a.eval ry) ++ b :: (A ++ _ ++ C))
            refine SubP.perm_right (List.perm_middle.symm) ?_
            refine SubP.append_left [b] ?_
            refine SubP.perm_left (a := own3 v (a.eval ry) ++ (A ++ C)) ?_ ?_
            · rw [← List.append_assoc]; exact List.perm_append_comm.append_right C
            · refine SubP.append_left _ (SubP.of_sub ?_)
              rw [List.append_assoc]
              exact List.Sublist.append (.refl _) (List.sublist_append_right _ _))
          refine ⟨rfl, undef, _, _, hexec, rfl, g, O, [(id, !(v.cells.all nr1))], ?_, hR', h4, rfl, Keep.set fun m hid hm ho => ?_⟩
          · exact Grow.of_setRow g w (h1.sub b (List.mem_append_right _ (ownS_mem hι hσ (by simp [ownO])))) _ (fun k hk => setRow_other w b k row hk) hf.2.2.2 hf.1 hf.2.1 hf.2.2.1
          · refine RLO_put hput (ho _ hσ) (fun x hx => ?_)
            obtain ⟨j, hj⟩ := mem_idx hx
            obtain ⟨u, hu⟩ := get_of_size p1 hj
            have hVx := p2 j x u hj hu
            by_cases hnr : v.cells.all nr1 = true
            · exact hVx.norl m (nr3_of_nr2 (nr2_of_nr1 (List.all_eq_true.1 hnr x hx)))
            · exact absurd (hm (by simpa using hnr)) (by omega)
        · cases hs
      · cases hs
    · cases hs
  · cases hs

end Go.Idl
