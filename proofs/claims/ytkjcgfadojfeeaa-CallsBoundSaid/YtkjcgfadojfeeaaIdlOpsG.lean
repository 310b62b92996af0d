/-
  Operations that make memory, read it, write it: each ideal step is met by the model's.
-/
import Derived.Test.YtkjcgfadojfeeaaIdlMem3
set_option linter.unusedSectionVars false
set_option linter.unusedVariables false
set_option linter.unusedSimpArgs false
namespace Go.Idl
variable [Globs]

variable {P : Program} {o : Oper} {a : Act} {g : Gh} {O : List Nat} {w : World} {s : St} {res : Res} {cf : CallF}

theorem undef_V (g : Gh) : V g undefI undef := .tup [] #[] rfl (by simp) (by simp)

theorem run_newVar {T : TypeId} {v : Value} : (newVar T v).run P w = .ok ⟨w.heap.size, 0, none⟩ (w.alloc (.cells v.cells T)) := by
  simp [newVar, newRow]

theorem blockCells_new (w : World) (c : Array Value) (el : TypeId) (fz : Nat × Nat) : blockCells (w.alloc (.cells c el fz)) w.heap.size = c.toList := by
  simp only [blockCells]; rw [alloc_new]

theorem sim_alloc {zs : List IVal} {T : TypeId} {i : TypeInfo} {z : Value} (hop : o.op = .alloc T) (hi : P.info? T = some i) (hz : i.zero = some z) (hc : cOKs zs z.cells.toList = true)
    (hs : stepOp cf (.alloc zs) s = some res) (hl : WT s.ts a.tmps) (hR : R g O (s.ts.roots a.tmps) s.σ w) : SimV P o a g O w s res := by
  simp only [stepOp, Option.some.injEq] at hs
  subst hs
  have hrun : (execOp a.eval o).run P w = .ok (.value (.pointer (some ⟨w.heap.size, 0, none⟩))) (w.alloc (.cells z.cells T)) := by
    simp [execOp, hop, Instr.alloc, zeroValue, typeInfo, hi, hz, run_newVar]
  have hnew := (hR.push (undef_V g) rfl).new (obr := .cells z.cells T) (ob := .cells zs) (fun _ => by
      obtain ⟨h1, h2⟩ := cOKs_V (g.fresh w.heap.size) hc
      exact ⟨z.cells, T, alloc_new w _, by simpa using h1.symm, fun i x v hx hv => by
        obtain ⟨q1, _, q3⟩ := h2 i x v hx (by simpa using hv)
        exact ⟨q1, q3⟩⟩) ⟨[], by
      simp only [ownO, blockCells_new]
      rw [flatten_nil]
      intro c hcm
      obtain ⟨i, x, y, h1, h2, rfl⟩ := mem_zipWith hcm
      exact ((cOKs_V g hc).2 i x y h1 h2).2.1, by simp⟩
  refine ⟨rfl, _, _, _, hrun, rfl, g.fresh w.heap.size, w.heap.size :: O, [], growFresh hR _, hnew.push (.ptr _ 0 _ ?_) rfl, hl, rfl, Keep.snoc _ _⟩
  simp [Gh.fresh, ← hR.len]

theorem own_cells {x : IVal} {v : Value} (h : V g x v) (hc : x.cells.all IVal.isCell = true) : (List.zipWith own1 x.cells v.cells.toList).flatten = own3 x v := by
  cases x with
  | agg xs =>
    obtain ⟨vs, rfl, _⟩ := h.agg_inv
    simp [IVal.cells, Value.cells, own3, own2]
  | tup xs => simp [IVal.cells, IVal.isCell] at hc
  | _ =>
    have hi := h.isCell
    have hv : v.cells = #[v] := by cases v <;> simp_all [Value.cells, isCellV, IVal.isCell]
    rw [hv]
    simp [IVal.cells, own3, own2]

theorem sim_box {x : Opd} {r : Operand} {T : TypeId} (hop : o.op = .box T r) (hx : opdOK x r = true) (hs : stepOp cf (.box x) s = some res)
    (hl : WT s.ts a.tmps) (hR : R g O (s.ts.roots a.tmps) s.σ w) : SimV P o a g O w s res := by
  simp only [stepOp] at hs
  split at hs
  · rename_i v ts h
    split at hs
    · rename_i hc
      simp only [Option.some.injEq] at hs
      subst hs
      obtain ⟨h1, h2⟩ := get_sim (l := []) hx h hl hR
      have hrun : (execOp a.eval o).run P w = .ok (.value (.pointer (some ⟨w.heap.size, 0, none⟩))) (w.alloc (.cells (a.eval r).cells T)) := by
        simp [execOp, hop, Instr.box, run_newVar]
      have hnew := h1.new (obr := .cells (a.eval r).cells T) (ob := .cells v.cells) (fun hV => by
        obtain ⟨q1, q2⟩ := hV.cells
        exact ⟨_, T, alloc_new w _, q1.symm, fun i x u hx hu => ⟨q2 i x u hx hu, by have := List.all_eq_true.1 hc x (List.mem_of_getElem? hx); exact this⟩⟩) ⟨own3 v (a.eval r), by
        simp only [ownO, blockCells_new]
        rw [own_cells h1.head hc], .refl _⟩
      refine ⟨rfl, _, _, _, hrun, rfl, g.fresh w.heap.size, w.heap.size :: O, [], growFresh hR _, hnew.push (.ptr _ 0 _ ?_) rfl, h2, rfl, Keep.snoc _ _⟩
      simp [Gh.fresh, ← hR.len]
    · cases hs
  · cases hs

theorem sim_boxv {x : Opd} {r : Operand} {T : TypeId} (hop : o.op = .box T r) (hx : opdOK x r = true) (hs : stepOp cf (.boxv x) s = some res)
    (hl : WT s.ts a.tmps) (hR : R g O (s.ts.roots a.tmps) s.σ w) : SimV P o a g O w s res := by
  simp only [stepOp] at hs
  split at hs
  · rename_i v ts h
    split at hs
    · rename_i hc
      simp only [rv, Option.some.injEq] at hs
      subst hs
      obtain ⟨h1, h2⟩ := get_sim (l := []) hx h hl hR
      have hrun : (execOp a.eval o).run P w = .ok (.value (.pointer (some ⟨w.heap.size, 0, none⟩))) (w.alloc (.cells (a.eval r).cells T)) := by
        simp [execOp, hop, Instr.box, run_newVar]
      obtain ⟨q1, q2⟩ := h1.head.cells
      obtain ⟨g', hR', hg, hι⟩ := h1.drop.newPv (cs := v.cells.map un1) (vs := (a.eval r).cells) (rf := ext v.cells) (el := T) (by simpa using q1) (fun i y u hy hu => by
          simp only [List.getElem?_map, Option.map_eq_some_iff] at hy
          obtain ⟨y', hy', rfl⟩ := hy
          exact (q2 i y' u hy' hu).un1) (fun y hy => by
          simp only [List.mem_map] at hy
          obtain ⟨y', hy', rfl⟩ := hy
          exact ⟨un1_un1 y', by rw [isCell_un1]; exact List.all_eq_true.1 hc y' hy'⟩) (fun hrf y hy => by
          simp only [List.mem_map] at hy
          obtain ⟨y', hy', rfl⟩ := hy
          simp only [ext, Bool.not_eq_false', List.all_eq_true] at hrf
          have := hrf y' hy'
          have hcell := List.all_eq_true.1 hc y' hy'
          cases y' <;> simp_all [nr2, nr1, nr0, un1, IVal.isCell])
      exact ⟨rfl, _, _, _, hrun, rfl, g', O, [], hg, hR', h2, rfl, Keep.refl _⟩
    · cases hs
  · cases hs

/-! ### reading -/
theorem run_loadVar {T : TypeId} {n : Option Nat} {vs : List Value} {b e off : Nat} {cs : List IVal} {z : IVal} (hT : tyN P T n = true) (hl : cs.length = vs.length) (hv : ∀ (i : Nat) x u, cs[i]? = some x → vs[i]? = some u → V g x u)
    (hi : ∀ x ∈ cs, x.isCell = true) (hm : ∀ (j : Nat) v, vs[j]? = some v → w.cell? ⟨b, e + j, none⟩ = some v) (hz : takeV n cs off = some z) :
    ∃ u, (loadVar T ⟨b, e + off, none⟩).run P w = .ok u w ∧ V g z u ∧ u.cells.toList = (vs.drop off).take (n.getD 1) ∧ (n = none → isCellV u = true) ∧ (n ≠ none → ∃ us, u = .agg us) := by
  obtain ⟨h1, i, h2, h3⟩ := run_isAgg (w := w) hT
  cases n with
  | some n =>
    simp only [takeV] at hz
    split at hz
    · rename_i hlen
      simp only [Option.some.injEq] at hz
      subst hz
      have hload : (loadCells ⟨b, e + off, none⟩ n).run P w = .ok ((vs.drop off).take n).toArray w := by
        have hlen' : ((vs.drop off).take n).length = n := by simp; omega
        have := run_loadCells_list (P := P) (w := w) ⟨b, e + off, none⟩ ((vs.drop off).take n) (fun j v hj => by
          rw [addr_add, Nat.add_assoc]
          refine hm _ v ?_
          rw [List.getElem?_take] at hj
          split at hj
          · simpa using hj
          · cases hj)
        rw [hlen'] at this
        exact this
      refine ⟨.agg ((vs.drop off).take n).toArray, ?_, ?_, by simp [Value.cells], by simp, fun _ => ⟨_, rfl⟩⟩
      · simp [loadVar, h1, run_sizeOf h2, h3, hload]
      · refine .agg _ _ (by simp; omega) (fun j x u hx hu => ?_) (fun x hx => hi x (List.mem_of_mem_drop (List.mem_of_mem_take hx)))
        simp only [List.getElem?_take, List.getElem?_drop] at hx
        split at hx
        · rename_i hj
          refine hv _ _ _ hx ?_
          simp only [List.getElem?_toArray, List.getElem?_take, List.getElem?_drop] at hu
          rw [if_pos hj] at hu
          exact hu
        · cases hx
    · cases hz
  | none =>
    simp only [takeV] at hz
    obtain ⟨u, hu⟩ := get_of_len hl hz
    have hV := hv _ _ _ hz hu
    have hcell := hi z (List.mem_of_getElem? hz)
    have hcu : isCellV u = true := by rw [← hV.isCell]; exact hcell
    refine ⟨u, ?_, hV, ?_, fun _ => hcu, fun h => absurd rfl h⟩
    · have := hm off u hu
      simp [loadVar, h1, load, Sem.run, this]
    · have e1 : u.cells = #[u] := by cases u <;> simp_all [Value.cells, isCellV]
      rw [e1]
      have hlt := lt_of_get hu
      have e2 : (vs.drop off).take 1 = [u] := by
        rw [List.drop_eq_getElem_cons hlt]
        have := (List.getElem?_eq_some_iff.1 hu).2
        simp [this]
      simpa using e2.symm

theorem putCells_eq : ∀ (ws cs : List IVal) (off : Nat), off + ws.length ≤ cs.length → putCells cs off ws = cs.take off ++ ws ++ cs.drop (off + ws.length) := by
  intro ws
  induction ws with
  | nil => intro cs off h; simp [putCells]
  | cons v ws ih =>
    intro cs off h
    simp at h
    simp only [putCells]
    rw [ih (cs.set off v) (off + 1) (by simp; omega)]
    have h1 : (cs.set off v).take (off + 1) = cs.take off ++ [v] := by
      rw [List.take_set, List.take_add_one, List.set_append_right _ _ (by simp; omega)]
      have : off < cs.length := by omega
      simp [List.length_take, Nat.min_eq_left (Nat.le_of_lt this), List.getElem?_eq_getElem this]
    rw [h1, List.drop_set_of_lt (by omega)]
    simp [Nat.add_assoc, Nat.add_comm 1]

theorem zipWith_app {f : IVal → Value → List Nat} {a b : List IVal} {c d : List Value} (h : a.length = c.length) : List.zipWith f (a ++ b) (c ++ d) = List.zipWith f a c ++ List.zipWith f b d := List.zipWith_append h

theorem split3 {α : Type} (cs : List α) (off n : Nat) : cs = cs.take off ++ (cs.drop off).take n ++ cs.drop (off + n) := by
  rw [List.append_assoc, show cs.drop (off + n) = (cs.drop off).drop n by rw [List.drop_drop], List.take_append_drop, List.take_append_drop]

/-- What cells own of which a row is other ones. -/
theorem own_put {cs ws : List IVal} {c us : List Value} {off : Nat} (hl : cs.length = c.length) (hw : ws.length = us.length) (h : off + ws.length ≤ cs.length) :
    ∃ A C, (List.zipWith own1 (putCells cs off ws) (c.take off ++ us ++ c.drop (off + us.length))).flatten = A ++ (List.zipWith own1 ws us).flatten ++ C ∧
      (List.zipWith own1 cs c).flatten = A ++ (List.zipWith own1 ((cs.drop off).take ws.length) ((c.drop off).take us.length)).flatten ++ C := by
  refine ⟨(List.zipWith own1 (cs.take off) (c.take off)).flatten, (List.zipWith own1 (cs.drop (off + ws.length)) (c.drop (off + us.length))).flatten, ?_, ?_⟩
  · rw [putCells_eq _ _ _ h, zipWith_app (by simp [hl, hw]), zipWith_app (by simp [hl])]
    simp
  · have e1 := split3 cs off ws.length
    have e2 := split3 c off us.length
    conv => lhs; rw [e1, e2]
    rw [zipWith_app (by simp [hl, hw]), zipWith_app (by simp [hl])]
    simp

theorem putCells_get {cs ws : List IVal} {off : Nat} (h : off + ws.length ≤ cs.length) (i : Nat) : (putCells cs off ws)[i]? = if off ≤ i ∧ i < off + ws.length then ws[i - off]? else cs[i]? := by
  rw [putCells_eq _ _ _ h]
  have hl : (cs.take off).length = off := by simp; omega
  by_cases h1 : i < off
  · rw [if_neg (by omega), List.append_assoc, List.getElem?_append_left (by omega), List.getElem?_take, if_pos h1]
  · by_cases h2 : i < off + ws.length
    · rw [if_pos ⟨by omega, h2⟩, List.append_assoc, List.getElem?_append_right (by omega), hl, List.getElem?_append_left (by omega)]
    · rw [if_neg (by omega), List.getElem?_append_right (by simp; omega), List.getElem?_drop]
      simp only [List.length_append, hl]
      congr 1; omega

theorem putCells_len {cs ws : List IVal} {off : Nat} (h : off + ws.length ≤ cs.length) : (putCells cs off ws).length = cs.length := by
  rw [putCells_eq _ _ _ h]; simp; omega

theorem putR_get {c us : List Value} {off : Nat} (h : off + us.length ≤ c.length) (i : Nat) : (c.take off ++ us ++ c.drop (off + us.length))[i]? = if off ≤ i ∧ i < off + us.length then us[i - off]? else c[i]? := by
  have hl : (c.take off).length = off := by simp; omega
  by_cases h1 : i < off
  · rw [if_neg (by omega), List.append_assoc, List.getElem?_append_left (by omega), List.getElem?_take, if_pos h1]
  · by_cases h2 : i < off + us.length
    · rw [if_pos ⟨by omega, h2⟩, List.append_assoc, List.getElem?_append_right (by omega), hl, List.getElem?_append_left (by omega)]
    · rw [if_neg (by omega), List.getElem?_append_right (by simp; omega), List.getElem?_drop]
      simp only [List.length_append, hl]
      congr 1; omega

end Go.Idl
