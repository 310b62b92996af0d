/-
  Operations that touch no memory, third part: addresses, indexes, slices, parts.
-/
import Derived.Test.YtkjcgfadojfeeaaIdlOpsB
set_option linter.unusedSectionVars false
set_option linter.unusedVariables false
set_option linter.unusedSimpArgs false
namespace Go.Idl
variable [Globs]

variable {P : Program} {o : Oper} {a : Act} {g : Gh} {O : List Nat} {w : World} {s : St} {res : Res} {cf : CallF}

theorem run_sizeOf {T : TypeId} {i : TypeInfo} (h : P.info? T = some i) : (sizeOf T).run P w = .ok i.size w := by simp [sizeOf, typeInfo, h]

theorem V.pv_inv {rf : Bool} {cs : List IVal} {off : Nat} {v : Value} (h : V g (.pv rf cs off) v) : ∃ (vs : List Value) (b e : Nat), v = .pointer (some ⟨b, e + off, none⟩) ∧ cs.length = vs.length ∧
    (∀ (i : Nat) x u, cs[i]? = some x → vs[i]? = some u → V g x u) ∧ (∀ x ∈ cs, Idl.un1 x = x ∧ x.isCell = true) ∧ (rf = false → ∀ x ∈ cs, nr1 x = true) ∧ Claims g b e vs := by
  cases h with
  | pv _ _ _ vs a hs ho hl hv hf hr hm =>
    refine ⟨vs, a.block, a.off - off, ?_, hl, hv, hf, hr, hm⟩
    cases a with
    | mk b p sp => simp at hs ho ⊢; exact ⟨by omega, hs⟩

theorem V.pv_mk {rf : Bool} {cs : List IVal} (off : Nat) {vs : List Value} {b e : Nat} (hl : cs.length = vs.length)
    (hv : ∀ (i : Nat) x u, cs[i]? = some x → vs[i]? = some u → V g x u) (hf : ∀ x ∈ cs, Idl.un1 x = x ∧ x.isCell = true) (hr : rf = false → ∀ x ∈ cs, nr1 x = true) (hm : Claims g b e vs) :
    V g (.pv rf cs off) (.pointer (some ⟨b, e + off, none⟩)) :=
  .pv rf cs off vs ⟨b, e + off, none⟩ rfl (by simp) hl hv hf hr (by simpa using hm)

theorem run_fieldPlace {b off : Nat} {f : Field} {i : TypeInfo} (h : P.info? f.type = some i) (h0 : i.size ≠ 0) : (fieldPlace ⟨b, off, none⟩ f).run P w = .ok ⟨b, off + f.offset, none⟩ w := by
  simp [fieldPlace, run_sizeOf h, h0, addr_add]

theorem sim_fieldAddr {x : Opd} {r : Operand} {T : TypeId} {fs : Array Field} {k : Nat} {f : Field} {i : TypeInfo} (hop : o.op = .fieldAddr T r k) (hx : opdOK x r = true) (hT : P.underlying T = some (.struct fs)) (hf : fs[k]? = some f)
    (hi : P.info? f.type = some i) (h0 : i.size ≠ 0) (hs : stepOp cf (.fieldAddr f.offset x) s = some res) (hl : WT s.ts a.tmps) (hR : R g O (s.ts.roots a.tmps) s.σ w) : SimV P o a g O w s res := by
  simp only [stepOp] at hs
  split at hs
  · rename_i id off ts h
    simp only [rv, Option.some.injEq] at hs
    subst hs
    obtain ⟨h1, h2⟩ := get_sim (l := []) hx h hl hR
    obtain ⟨b, hb, hι⟩ := h1.head.ptr_inv
    refine SimV.same (v' := .pointer (some ⟨b, off + f.offset, none⟩)) ?_ (h1.drop.push (.ptr id _ b hι) rfl) h2
    simp [execOp, hop, hb, Instr.fieldAt, run_und hT, hf, Instr.sureAddr, run_fieldPlace hi h0]
  · rename_i rf cs off ts h
    simp only [rv, Option.some.injEq] at hs
    subst hs
    obtain ⟨h1, h2⟩ := get_sim (l := []) hx h hl hR
    obtain ⟨vs, b, e, hb, hl', hv, hf', hr, hm⟩ := h1.head.pv_inv
    refine SimV.same (v' := .pointer (some ⟨b, e + (off + f.offset), none⟩)) ?_ (h1.drop.push (V.pv_mk _ hl' hv hf' hr hm) rfl) h2
    simp [execOp, hop, hb, Instr.fieldAt, run_und hT, hf, Instr.sureAddr, run_fieldPlace hi h0, Nat.add_assoc]
  · cases hs

/-- A type that is one value of so many cells, or one cell. -/
def tyN (P : Program) (T : TypeId) (n : Option Nat) : Bool :=
  match P.underlying T, P.info? T, n with
  | some (.struct _), some i, some n => i.size == n
  | some (.array _ _), some i, some n => i.size == n
  | some (.struct _), _, none => false
  | some (.array _ _), _, none => false
  | some _, some i, none => i.size == 1
  | _, _, _ => false

theorem run_isAgg {T : TypeId} {n : Option Nat} (h : tyN P T n = true) : (isAgg T).run P w = .ok n.isSome w ∧ ∃ i, P.info? T = some i ∧ i.size = n.getD 1 := by
  unfold tyN at h
  split at h
  · rename_i h1 h2; exact ⟨by simp [isAgg, run_und h1], _, h2, by simpa using h⟩
  · rename_i h1 h2; exact ⟨by simp [isAgg, run_und h1], _, h2, by simpa using h⟩
  · cases h
  · cases h
  · rename_i h3 h4 h1 h2
    refine ⟨?_, _, h2, by simpa using h⟩
    simp only [isAgg, Sem.run_bind, run_und h1, Result.andThen_ok]
    simp
  · cases h

theorem sub_flatten {α : Type} {l l' : List (List α)} (h : l.Sublist l') : l.flatten.Sublist l'.flatten := by
  induction h with
  | slnil => exact .slnil
  | cons a _ ih => exact ih.trans (by simp)
  | cons_cons a _ ih => simp only [List.flatten_cons]; exact List.Sublist.append (.refl _) ih

theorem map_self {f : IVal → IVal} {xs : List IVal} (h : xs.map f = xs) : ∀ c ∈ xs, f c = c := by
  induction xs with
  | nil => simp
  | cons x xs ih =>
    simp at h
    intro c hc
    simp at hc
    rcases hc with rfl | hc
    · exact h.1
    · exact ih (by simpa using h.2) c hc

/-- A part of an aggregate. -/
theorem run_part {T : TypeId} {n : Option Nat} {cs : List IVal} {vs : Array Value} {off : Nat} {z : IVal} (hT : tyN P T n = true) (hl : cs.length = vs.size) (hv : ∀ (i : Nat) x u, cs[i]? = some x → vs[i]? = some u → V g x u)
    (hi : ∀ x ∈ cs, x.isCell = true) (hz : takeV n cs off = some z) : ∃ u, (part T vs off).run P w = .ok u w ∧ V g z u ∧ (own3 z u).Sublist (List.zipWith own1 cs vs.toList).flatten := by
  obtain ⟨h1, i, h2, h3⟩ := run_isAgg (w := w) hT
  cases n with
  | some n =>
    simp only [takeV] at hz
    split at hz
    · rename_i hlen
      simp only [Option.some.injEq] at hz
      subst hz
      refine ⟨.agg (vs.extract off (off + n)), ?_, ?_, ?_⟩
      · simp [part, h1, run_sizeOf h2, h3]
      · refine .agg _ _ (by simp; omega) (fun j x u hx hu => ?_) (fun x hx => hi x (List.mem_of_mem_drop (List.mem_of_mem_take hx)))
        simp only [List.getElem?_take, List.getElem?_drop] at hx
        split at hx
        · rename_i hj
          have : vs[off + j]? = some u := by
            rw [Array.getElem?_extract] at hu
            split at hu
            · exact hu
            · cases hu
          exact hv _ _ _ hx this
        · cases hx
      · simp only [own3, own2]
        have e : (vs.extract off (off + n)).toList = (vs.toList.drop off).take n := by
          simp [List.take_drop]
        rw [e, ← List.take_zipWith, ← List.drop_zipWith]
        exact sub_flatten ((List.take_sublist _ _).trans (List.drop_sublist _ _))
    · cases hz
  | none =>
    simp only [takeV] at hz
    obtain ⟨u, hu⟩ := get_of_size hl hz
    refine ⟨u, ?_, hv _ _ _ hz hu, ?_⟩
    · simp [part, h1, hu]
    · rw [own3_cell (hi z (List.mem_of_getElem? hz))]
      have : (List.zipWith own1 cs vs.toList)[off]? = some (own1 z u) := by
        have hu' : vs.toList[off]? = some u := by simpa using hu
        simp [List.getElem?_zipWith, hz, hu']
      exact List.sublist_flatten_of_mem (List.mem_of_getElem? this)

theorem sim_field {x : Opd} {r : Operand} {T : TypeId} {fs : Array Field} {k : Nat} {f : Field} {n : Option Nat} (hop : o.op = .field T r k) (hx : opdOK x r = true) (hT : P.underlying T = some (.struct fs)) (hf : fs[k]? = some f)
    (hi : tyN P f.type n = true) (hs : stepOp cf (.field f.offset n x) s = some res) (hl : WT s.ts a.tmps) (hR : R g O (s.ts.roots a.tmps) s.σ w) : SimV P o a g O w s res := by
  simp only [stepOp] at hs
  split at hs
  · rename_i cs ts h
    split at hs
    · rename_i z hz
      simp only [rv, Option.some.injEq] at hs
      subst hs
      obtain ⟨h1, h2⟩ := get_sim (l := []) hx h hl hR
      obtain ⟨vs, hb, hl', hv, hc⟩ := h1.head.agg_inv
      obtain ⟨u, hu, hV, ho⟩ := run_part (P := P) (w := w) hi hl' hv hc hz
      refine SimV.same (v' := u) ?_ (h1.swap (fun _ => hV) ?_) h2
      · simp [execOp, hop, hb, Instr.field, run_und hT, hf, asAgg, hu]
      · rw [hb]; exact ho
    · cases hs
  · cases hs

theorem flatV_get {vs : List Value} {esz : Nat} (hz : ∀ v ∈ vs, v.cells.size = esz) {n k : Nat} {v c : Value} (hv : vs[n]? = some v) (hc : v.cells[k]? = some c) : (flatV vs)[n * esz + k]? = some c := by
  induction vs generalizing n with
  | nil => simp at hv
  | cons u vs ih =>
    have hu := hz u (by simp)
    cases n with
    | zero =>
      simp at hv; subst hv
      have hk : k < u.cells.toList.length := by simpa using (Array.getElem?_eq_some_iff.1 hc).1
      simp only [flatV, List.flatMap_cons, Nat.zero_mul, Nat.zero_add]
      rw [List.getElem?_append_left hk]
      simpa using hc
    | succ n =>
      simp at hv
      have := ih (fun v h => hz v (by simp [h])) hv
      simp only [flatV, List.flatMap_cons] at this ⊢
      have e : (n + 1) * esz + k = u.cells.toList.length + (n * esz + k) := by simp [hu, Nat.add_mul]; omega
      rw [e, List.getElem?_append_right (by omega)]
      simpa using this

theorem flat_cells {x : IVal} {v : Value} (h : V g x v) (hf : Flat x) : ∀ c ∈ x.cells, un1 c = c ∧ c.isCell = true := by
  intro c hc
  cases x with
  | agg xs =>
    obtain ⟨_, _, _, _, hi⟩ := h.agg_inv
    have := hf.1
    simp only [un2, IVal.agg.injEq] at this
    refine ⟨?_, hi c hc⟩
    exact map_self this c hc
  | tup xs => simp [Flat, nt] at hf
  | _ => simp [IVal.cells] at hc; subst hc; exact ⟨hf.1, rfl⟩

theorem nr_cells {x : IVal} (hn : nr2 x = true) : ∀ c ∈ x.cells, nr1 c = true := by
  intro c hc
  cases x with
  | agg xs => simp only [nr2, List.all_eq_true] at hn; exact hn c hc
  | _ => simp [IVal.cells] at hc; subst hc; exact hn

theorem toNat_lt {n : Int} {k : Nat} (h0 : 0 ≤ n) (h : n < k) : n.toNat < k := by omega

theorem sim_idxAddr {x y : Opd} {rx ry : Operand} {T E : TypeId} {i : TypeInfo} (hop : o.op = .indexAddr T rx ry) (hx : opdOK x rx = true) (hy : opdOK y ry = true) (hT : P.underlying T = some (.slice E)) (hE : P.info? E = some i)
    (hs : stepOp cf (.idxAddr i.size x y) s = some res) (hl : WT s.ts a.tmps) (hR : R g O (s.ts.roots a.tmps) s.σ w) : SimV P o a g O w s res := by
  simp only [stepOp] at hs
  split at hs
  · rename_i own rf xs ts h
    split at hs
    · rename_i k n ts' h'
      split at hs
      · rename_i h0
        split at hs
        · rename_i v hv
          split at hs
          · rename_i hsz
            simp only [rv, Option.some.injEq] at hs
            subst hs
            obtain ⟨h1, h2⟩ := get_sim (l := []) hx h hl hR
            obtain ⟨h3, h4⟩ := get_sim (l := [(.sl own rf xs, a.eval rx)]) hy h' h2 h1
            have hn := h3.head.int_inv
            have hV := h3.drop.head
            generalize hu : a.eval rx = u at hV
            cases hV with
            | nil => simp at hv
            | sl _ _ _ vs ad cap esz hs' hc hl' hv' hf hr hz hm ho =>
              obtain ⟨vv, hvv⟩ := get_of_len hl' hv
              have hVv := hv' _ _ _ hv hvv
              have hsz' : esz = i.size := by rw [← hz vv (List.mem_of_getElem? hvv), ← hsz]; exact (hVv.cells.1).symm
              have hlt := lt_of_get hv
              refine SimV.same (v' := .pointer (some ⟨ad.block, (ad.off + n.toNat * i.size) + 0, none⟩)) ?_ (h3.drop.drop.push (V.pv_mk (vs := vv.cells.toList) 0 ?_ ?_ ?_ ?_ ?_) rfl) h4
              · have had : ad = ⟨ad.block, ad.off, none⟩ := by have := hs' (by omega); cases ad; simp at this; simp [this]
                have hlt' : n < (xs.length : Int) := by omega
                rw [had] at hu
                simp only [execOp, hop, hu, hn, Instr.indexAt, asIntOf, Sem.run_bind, Sem.run_pure, Result.andThen_ok, run_und hT]
                simp [run_sizeOf hE, h0, hlt', addr_add]
              · rw [hVv.cells.1]; simp
              · intro j c d hc' hd; exact hVv.cells.2 j c d hc' (by simpa using hd)
              · exact flat_cells hVv (hf v (List.mem_of_getElem? hv))
              · intro hrf; exact nr_cells (hr hrf v (List.mem_of_getElem? hv))
              · intro j c hj
                have := hm (n.toNat * esz + j) c (flatV_get hz hvv (by simpa using hj))
                rw [← hsz', Nat.add_assoc]; exact this
          · cases hs
        · cases hs
      · cases hs
    · cases hs
  · rename_i e id off len ts h
    split at hs
    · rename_i k n ts' h'
      split at hs
      · rename_i hn0
        simp only [rv, Option.some.injEq] at hs
        subst hs
        obtain ⟨h1, h2⟩ := get_sim (l := []) hx h hl hR
        obtain ⟨h3, h4⟩ := get_sim (l := [(.rs e id off len, a.eval rx)]) hy h' h2 h1
        have hn := h3.head.int_inv
        obtain ⟨b, cap, hb, hι, hc⟩ := h3.drop.head.rs_inv
        obtain ⟨ha, hbd, he⟩ := hn0
        subst he
        refine SimV.same (v' := .pointer (some ⟨b, off + n.toNat * i.size, none⟩)) ?_ (h3.drop.drop.push (.ptr id _ b hι) rfl) h4
        simp only [execOp, hop, hb, hn, Instr.indexAt, asIntOf, Sem.run_bind, Sem.run_pure, Result.andThen_ok, run_und hT]
        simp [run_sizeOf hE, ha, hbd, addr_add]
      · cases hs
    · cases hs
  · cases hs

end Go.Idl
