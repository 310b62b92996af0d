/-
  Slices that are built, made, appended to.
-/
import Derived.Test.YtkjcgfadojfeeaaIdlOpsI
set_option linter.unusedSectionVars false
set_option linter.unusedVariables false
set_option linter.unusedSimpArgs false
namespace Go.Idl
variable [Globs]

variable {P : Program} {o : Oper} {a : Act} {g : Gh} {O : List Nat} {w : World} {s : St} {res : Res} {cf : CallF}

theorem flatV_len {us : List Value} {esz : Nat} (hu : ∀ u ∈ us, u.cells.size = esz) : (flatV us).length = us.length * esz := by
  induction us with
  | nil => simp [flatV]
  | cons u us ih =>
    have := ih (fun v hv => hu v (by simp [hv]))
    simp only [flatV, List.flatMap_cons, List.length_append] at this ⊢
    rw [this]
    have := hu u (by simp)
    simp [this, Nat.add_mul]; omega

/-- A slice's elements, put one behind the other. -/
theorem fill_all {size : Nat} : ∀ (us : List Value) (k : Nat) (pre zeros : List Value), (∀ u ∈ us, u.cells.size = size) → pre.length = k * size → zeros.length = us.length * size →
    Instr.fill (fun i => some (i * size, size)) (pre ++ zeros).toArray ((us.zipIdx k).map fun p => (p.2, p.1)) = some (pre ++ flatV us).toArray := by
  intro us
  induction us with
  | nil => intro k pre zeros _ _ hz; simp at hz; subst hz; simp [Instr.fill, flatV]
  | cons u us ih =>
    intro k pre zeros hu hp hz
    have hus := hu u (by simp)
    simp only [List.zipIdx_cons, List.map_cons, Instr.fill]
    have hlen : (us.length + 1) * size = size + us.length * size := by rw [Nat.add_mul]; omega
    simp only [List.length_cons, hlen] at hz
    rw [if_neg (by simp [hp, hz, hus])]
    have hto := fold_fill (v := u) (off := k * size) (c := (pre ++ zeros).toArray) (by simp [hp, hz, hus])
    have e : (u.cells.zipIdx.foldl (fun cs (p : Value × Nat) => cs.setIfInBounds (k * size + p.2) p.1) (pre ++ zeros).toArray) = ((pre ++ u.cells.toList) ++ zeros.drop size).toArray := by
      apply Array.toList_inj.1 
      rw [hto]
      have e1 : (pre ++ zeros).take (k * size) = pre := by rw [← hp]; exact List.take_left' rfl
      have e2 : (pre ++ zeros).drop (k * size + u.cells.toList.length) = zeros.drop size := by
        rw [List.drop_append, List.drop_eq_nil_of_le (by simp [hp])]
        simp [hp, hus]
      simp only [e1, e2]
    rw [e, ih (k + 1) (pre ++ u.cells.toList) (zeros.drop size) (fun v hv => hu v (by simp [hv])) (by simp [hp, hus, Nat.add_mul]) (by simp; omega)]
    simp [flatV]

theorem flatV_self {us : List Value} (h : ∀ u ∈ us, u.cells = #[u]) : flatV us = us := by
  induction us with
  | nil => rfl
  | cons u us ih =>
    have := ih fun v hv => h v (by simp [hv])
    simp only [flatV, List.flatMap_cons] at this ⊢
    rw [this, h u (by simp)]; rfl

theorem range_zip (rs : List Operand) (f : Operand → Value) : (rs.zipIdx.map fun p => (p.2, f p.1)) = ((rs.map f).zipIdx.map fun p => (p.2, p.1)) := by
  rw [List.zipIdx_map, List.map_map]; rfl

theorem buildSl_run {T E : TypeId} {n : Nat} {rs : List Operand} {rparts : Array (Nat × Operand)} {i : TypeInfo} {z : Value} {vs : List IVal} {ts : Ts} (hop : o.op = .buildSlice T n rparts) (hn : n = rs.length) (hp : rparts.toList = rs.zipIdx.map fun p => (p.2, p.1))
    (hT : P.underlying T = some (.slice E)) (hi : P.info? E = some i) (hz : i.zero = some z) (hzs : z.cells.size = i.size) (h0 : 0 < i.size)
    (hc2 : vs.all (fun v => v.cells.length == i.size) = true) (hc4 : vs.length * i.size ≤ 16777216)
    (h3 : vs.length = rs.length) (h1 : R g O ([] ++ vs.zip (rs.map a.eval) ++ ts.roots a.tmps) s.σ w) :
    vs.length = rs.length ∧ (∀ u ∈ rs.map a.eval, u.cells.size = i.size) ∧ (execOp a.eval o).run P w = .ok (.value (.slice (some ⟨w.heap.size, 0, none⟩) n n)) (w.alloc (.cells (flatV (rs.map a.eval)).toArray E)) := by
  have hlen : vs.length = rs.length := by simpa using h3
  have hsz : ∀ u ∈ rs.map a.eval, u.cells.size = i.size := by
    intro u hu
    obtain ⟨j, hj⟩ := mem_idx hu
    obtain ⟨v, hv⟩ := get_of_len (l := rs.map a.eval) (m := vs) (by simp [hlen]) hj
    have hV := getAll_V h1 hv hj
    have := List.all_eq_true.1 hc2 v (List.mem_of_getElem? hv)
    rw [← hV.cells.1]; simpa using this
  have hrun : (execOp a.eval o).run P w = .ok (.value (.slice (some ⟨w.heap.size, 0, none⟩) n n)) (w.alloc (.cells (flatV (rs.map a.eval)).toArray E)) := by
    have hparts : (rparts.map fun (i, x) => (i, a.eval x)).toList = (((rs.map a.eval).zipIdx).map fun p => (p.2, p.1)) := by
      rw [Array.toList_map, hp, List.map_map, ← range_zip]; rfl
    have hzl : ((Array.range (n * i.size)).map (fun k => z.cells[k % z.cells.size]!)).toList.length = (rs.map a.eval).length * i.size := by simp [hn]
    have hfill := fill_all (size := i.size) (rs.map a.eval) 0 [] ((Array.range (n * i.size)).map (fun k => z.cells[k % z.cells.size]!)).toList hsz (by simp) hzl
    simp only [List.nil_append, Array.toArray_toList] at hfill
    have hle : ¬ (n * i.size > 2 ^ 24) := by rw [hn, ← hlen]; omega
    simp only [execOp, hop, Instr.buildSlice, Sem.run_bind, run_und hT, Result.andThen_ok, run_sizeOf hi]
    rw [if_neg hle]
    by_cases hn0 : n * i.size = 0
    · have hrs : rs = [] := by
        have : rs.length = 0 := by
          rcases Nat.mul_eq_zero.1 hn0 with h | h
          · omega
          · omega
        exact List.length_eq_zero_iff.1 this
      subst hrs
      simp at hn
      subst hn
      have hpe : rparts = #[] := Array.toList_inj.1 (by rw [hp]; rfl)
      subst hpe
      have h00 : Array.map (fun x : Nat => (default : Value)) (Array.range 0) = #[] := Array.eq_empty_of_size_eq_zero (by simp)
      simp [Instr.fill, newRow, flatV, h00]
    · simp only [hn0, if_false, Sem.run_bind, zeroValue, typeInfo, Result.andThen_ok, Sem.run_pure]
      simp only [hi, hz, run_program, Result.andThen_ok, Sem.run_pure, Sem.run_bind]
      rw [hparts, hfill]
      simp [newRow]
  exact ⟨hlen, hsz, hrun⟩

theorem sim_buildSl {xs : List Opd} {T E : TypeId} {n : Nat} {rs : List Operand} {rparts : Array (Nat × Operand)} {i : TypeInfo} {z : Value} (hop : o.op = .buildSlice T n rparts) (hn : n = rs.length) (hp : rparts.toList = rs.zipIdx.map fun p => (p.2, p.1)) (hx : opdsOK xs rs = true)
    (hT : P.underlying T = some (.slice E)) (hi : P.info? E = some i) (hz : i.zero = some z) (hzs : z.cells.size = i.size) (h0 : 0 < i.size)
    (hs : stepOp cf (.buildSl i.size xs) s = some res) (hl : WT s.ts a.tmps) (hR : R g O (s.ts.roots a.tmps) s.σ w) : SimV P o a g O w s res := by
  simp only [stepOp] at hs
  split at hs
  · rename_i vs ts h
    split at hs
    · rename_i hcond
      obtain ⟨hc1, hc2, hc3, hc4⟩ := hcond
      simp only [rv, Option.some.injEq] at hs
      subst hs
      obtain ⟨h1, h2, h3⟩ := getAll_sim (l := []) hx h hl hR
      obtain ⟨hlen, hsz, hrun⟩ := buildSl_run hop hn hp hT hi hz hzs h0 hc2 hc4 (by simpa using h3) h1
      obtain ⟨g', O', hR', hg, hι⟩ := (R.drops h1).newSlice (xs := vs.map un2) (vs := rs.map a.eval) (esz := i.size) (cap := n) (own := i.size) (rf := ext vs) (c := (flatV (rs.map a.eval)).toArray) (el := E) (fz := (0, 0)) (by simp [hlen]) (fun j x u hx hu => by
          simp only [List.getElem?_map, Option.map_eq_some_iff] at hx
          obtain ⟨x', hx', rfl⟩ := hx
          exact (getAll_V h1 hx' hu).un2) (fun x hx => by
          simp only [List.mem_map] at hx
          obtain ⟨x', hx', rfl⟩ := hx
          exact nt_un2_of (List.all_eq_true.1 hc3 x' hx')) (fun hrf x hx => by
          simp only [List.mem_map] at hx
          obtain ⟨x', hx', rfl⟩ := hx
          simp only [ext, Bool.not_eq_false', List.all_eq_true] at hrf
          have := hrf x' hx'
          cases x' <;> simp_all [nr2, un2, un1, nr1, nr0]
          rename_i cs
          intro c hc
          have := this c hc
          cases c <;> simp_all [nr1, nr0, un1]) hsz (fun k v hk => by simpa using hk) (by simp [hlen, hn]) (by
          have := flatV_len hsz
          simp only [List.size_toArray]; rw [this]; simp [hn]) (.inr rfl) (by simp) (by rw [flatV_len hsz]; simp [hlen])
      simp only [List.length_map] at hR'
      have e : n = vs.length := by omega
      rw [← e] at hR'
      exact ⟨rfl, _, _, _, hrun, rfl, g', O', [], hg, hR', h2, rfl, Keep.refl _⟩
    · cases hs
  · cases hs

theorem flat_of {x : IVal} {v : Value} (hV : V g x v) (hx : nt x = true) : ∀ c ∈ (un2 x).cells, un1 c = c ∧ c.isCell = true := flat_cells hV.un2 (nt_un2_of hx)

theorem sim_buildRs {xs : List Opd} {T E : TypeId} {n : Nat} {rs : List Operand} {rparts : Array (Nat × Operand)} {i : TypeInfo} {z : Value} (hop : o.op = .buildSlice T n rparts) (hn : n = rs.length) (hp : rparts.toList = rs.zipIdx.map fun p => (p.2, p.1)) (hx : opdsOK xs rs = true)
    (hT : P.underlying T = some (.slice E)) (hi : P.info? E = some i) (hz : i.zero = some z) (hzs : z.cells.size = i.size) (h0 : 0 < i.size)
    (hs : stepOp cf (.buildRs i.size xs) s = some res) (hl : WT s.ts a.tmps) (hR : R g O (s.ts.roots a.tmps) s.σ w) : SimV P o a g O w s res := by
  simp only [stepOp] at hs
  split at hs
  · rename_i vs ts h
    split at hs
    · rename_i hcond
      obtain ⟨hc1, hc2, hc3, hc4⟩ := hcond
      simp only [Option.some.injEq] at hs
      subst hs
      obtain ⟨h1, h2, h3⟩ := getAll_sim (l := []) hx h hl hR
      obtain ⟨hlen, hsz, hrun⟩ := buildSl_run hop hn hp hT hi hz hzs h0 hc2 hc4 (by simpa using h3) h1
      have hlV := flatV_len hsz
      have hcl : ∀ (l : List IVal), (∀ v ∈ l, v.cells.length = i.size) → (l.flatMap fun v => (un2 v).cells).length = l.length * i.size := by
        intro l
        induction l with
        | nil => intro _; simp
        | cons v l ih =>
          intro hv
          have e1 : (un2 v).cells.length = v.cells.length := by cases v <;> simp [un2, un1, IVal.cells]
          simp only [List.flatMap_cons, List.length_append, List.length_cons, ih (fun u hu => hv u (by simp [hu])), e1, hv v (by simp), Nat.add_mul]
          omega
      have hvl : ∀ v ∈ vs, v.cells.length = i.size := fun v hv => by simpa using List.all_eq_true.1 hc2 v hv
      have hcells : ∀ (j : Nat) x v, (vs.flatMap fun v => (un2 v).cells)[j]? = some x → (flatV (rs.map a.eval))[j]? = some v → V g x v ∧ own1 x v = [] ∧ x.isCell = true := by
        intro j x v hxj hvj
        have hj := lt_of_get hxj
        rw [hcl vs hvl] at hj
        have hk : j / i.size < vs.length := by rw [Nat.div_lt_iff_lt_mul h0]; exact hj
        have hm : j % i.size < i.size := Nat.mod_lt _ h0
        have hje : j = j / i.size * i.size + j % i.size := by have := Nat.div_add_mod j i.size; rw [Nat.mul_comm] at this; omega
        obtain ⟨y, hy⟩ : ∃ y, vs[j / i.size]? = some y := ⟨_, List.getElem?_eq_getElem hk⟩
        obtain ⟨u, hu⟩ := get_of_len (l := vs) (m := rs.map a.eval) (by simp [hlen]) hy
        have hV := getAll_V h1 hy hu
        have hxy : (un2 y).cells[j % i.size]? = some x := by
          have key : ∀ (l : List IVal) (k m : Nat) (y : IVal), (∀ v ∈ l, v.cells.length = i.size) → l[k]? = some y → m < i.size → (l.flatMap fun v => (un2 v).cells)[k * i.size + m]? = (un2 y).cells[m]? := by
            intro l
            induction l with
            | nil => intro k m y _ h; simp at h
            | cons v l ih =>
              intro k m y hv hk hm
              have e1 : (un2 v).cells.length = i.size := by
                have e0 : (un2 v).cells.length = v.cells.length := by cases v <;> simp [un2, un1, IVal.cells]
                rw [e0]; exact hv v (by simp)
              cases k with
              | zero =>
                simp at hk; subst hk
                simp only [List.flatMap_cons, Nat.zero_mul, Nat.zero_add]
                rw [List.getElem?_append_left (by omega)]
              | succ k =>
                simp at hk
                simp only [List.flatMap_cons]
                rw [List.getElem?_append_right (by rw [e1, Nat.add_mul]; omega), e1]
                have : (k + 1) * i.size + m - i.size = k * i.size + m := by rw [Nat.add_mul]; omega
                rw [this]
                exact ih k m y (fun u hu => hv u (by simp [hu])) hk hm
          rw [hje] at hxj
          rw [key vs (j / i.size) (j % i.size) y hvl hy hm] at hxj
          exact hxj
        have hvu : u.cells.toList[j % i.size]? = some v := by
          cases hcu : u.cells.toList[j % i.size]? with
          | none =>
            have h5 := List.getElem?_eq_none_iff.1 hcu
            have h6 := hsz u (List.mem_of_getElem? hu)
            simp at h5; omega
          | some v' =>
            have := flatV_get hsz hu (by simpa using hcu)
            rw [← hje, hvj] at this
            exact this.symm
        obtain ⟨q1, q2⟩ := flat_of hV (List.all_eq_true.1 hc3 y (List.mem_of_getElem? hy)) x (List.mem_of_getElem? hxy)
        exact ⟨hV.un2.cells.2 _ x v hxy (by simpa using hvu), own1_flat q1 v, q2⟩
      have hroot : R g O (ts.roots a.tmps) s.σ w := R.drops h1
      have hι : ∀ id b, g.ι[id]? = some b → (g.fresh w.heap.size).ι[id]? = some b := fun id b hb => by simp only [Gh.fresh]; rw [List.getElem?_append_left (lt_of_get hb)]; exact hb
      have hnew := (hroot.push (undef_V g) rfl).new (obr := .cells (flatV (rs.map a.eval)).toArray E) (ob := .cells (vs.flatMap fun v => (un2 v).cells)) (fun _ =>
        ⟨_, E, alloc_new w _, by simp only [List.size_toArray]; rw [hlV, hcl vs hvl]; simp [hlen], fun j x v hxj hvj => by
          have h6 := hcells j x v hxj (by simpa using hvj)
          refine ⟨h6.1.mono hι (fun _ _ _ h => h) (fun b hb => ?_), h6.2.2⟩
          rw [own3_cell h6.2.2, h6.2.1] at hb; cases hb⟩) ⟨[], by
        simp only [ownO, blockCells_new]
        rw [flatten_nil]
        intro cc hcm
        obtain ⟨j, x, y, q1, q2, rfl⟩ := mem_zipWith hcm
        exact (hcells j x y q1 (by simpa using q2)).2.1, by simp⟩
      have e : n = vs.length := by omega
      rw [e] at hrun
      refine ⟨rfl, _, _, _, hrun, rfl, g.fresh w.heap.size, w.heap.size :: O, [], growFresh hR _, hnew.push (.rs i.size s.σ.length 0 vs.length vs.length w.heap.size ?_ (Nat.le_refl _)) rfl, h2, rfl, Keep.snoc _ _⟩
      simp [Gh.fresh, ← hR.len]
    · cases hs
  · cases hs

/-- What is appended, on the model's side. -/
theorem elemsOf_sim {isS : Bool} {esz : Nat} {y : IVal} {ys : List IVal} {xv : Value} {l : Roots} {σ : List IObj} (hR : R g O l σ w) (hV : V g y xv) (h : elemsOf isS esz y σ = some ys) :
    ∃ us : List Value, ys.length = us.length ∧ (∀ (i : Nat) x u, ys[i]? = some x → us[i]? = some u → V g x u) ∧ (∀ x ∈ ys, nt x = true) ∧ (∀ u ∈ us, u.cells.size = esz) ∧ (Builtin.lenOf xv).run P w = .ok ys.length w ∧
      ∀ W : World, W.heap = w.heap → (Builtin.firstCells esz ys.length xv).run P W = .ok (flatV us).toArray W := by
  unfold elemsOf at h
  split at h
  · rename_i b
    split at h
    · rename_i he
      subst he
      simp only [Option.some.injEq] at h; subst h
      obtain ⟨t, rfl, rfl⟩ := hV.str_inv
      refine ⟨t.data.toList.map fun b => .int .u8 b.toNat, by simp, fun i x u hx hu => ?_, by simp [nt], by simp [Value.cells], by simp [Builtin.lenOf], fun W _ => ?_⟩
      · simp only [List.getElem?_map, Option.map_eq_some_iff] at hx hu
        obtain ⟨c, hc, rfl⟩ := hx
        obtain ⟨c', hc', rfl⟩ := hu
        rw [hc] at hc'; cases hc'
        exact .int _ _
      · simp only [Builtin.firstCells, Sem.run_pure]
        congr 1
        have e1 : (t.extract 0 (t.data.toList.map fun c => IVal.int .u8 c.toNat).length) = t := by
          apply ByteArray.ext; simp
        rw [e1]
        apply Array.toList_inj.1
        show _ = flatV _
        rw [flatV_self (by simp [Value.cells])]
        simp
    · cases h
  · rename_i own rf xs
    split at h
    · rename_i hall
      simp only [Option.some.injEq] at h; subst h
      cases hV with
      | nil => exact ⟨[], rfl, by simp, by simp, by simp, by simp [Builtin.lenOf], fun W _ => by simp [Builtin.firstCells, flatV]⟩
      | sl _ _ _ vs ad cap esz' hs hc hl hv hf hr hz hm ho =>
        have hz' : ∀ v ∈ vs, v.cells.size = esz := by
          intro v hv'
          obtain ⟨j, hj⟩ := mem_idx hv'
          obtain ⟨x, hx⟩ := get_of_len hl.symm hj
          rw [← (hv j x v hx hj).cells.1]
          simpa using List.all_eq_true.1 hall x (List.mem_of_getElem? hx)
        refine ⟨vs, hl, hv, fun x hx => (hf x hx).2, hz', by simp [Builtin.lenOf], fun W hW => ?_⟩
        refine run_firstCells_some (P := P) W esz xs.length ad xs.length cap (flatV vs) (by rw [flatV_len hz', hl]) (fun j v hj => ?_)
        have hpos : 0 < cap := by
          have h0 := lt_of_get hj
          rw [flatV_len hz', ← hl] at h0
          rcases Nat.eq_zero_or_pos xs.length with h1 | h1
          · simp [h1] at h0
          · omega
        have had : ad = ⟨ad.block, ad.off, none⟩ := by have := hs hpos; cases ad; simp at this; simp [this]
        rw [had, addr_add]
        have := hR.claim _ _ _ (hm j v hj)
        simpa [World.cell?, hW] using this
    · cases h
  · rename_i e id off len
    split at h
    · rename_i he
      obtain ⟨rfl, rfl⟩ := he
      split at h
      · rename_i cs hcs
        split at h
        · rename_i hlen
          simp only [Option.some.injEq] at h; subst h
          obtain ⟨b, cap, rfl, hι, hcap⟩ := hV.rs_inv
          have hσ := loadCell_some hcs
          obtain ⟨c, el, hh, hsz, hc⟩ := hR.objs id b _ hι hσ
          have hll : ((cs.drop off).take len).length = len := by simp; omega
          have hz' : ∀ u ∈ (c.toList.drop off).take len, u.cells.size = 1 := by
            intro u hu
            obtain ⟨j, hj⟩ := mem_idx (List.mem_of_mem_drop (List.mem_of_mem_take hu))
            have hj' : c[j]? = some u := by simpa using hj
            obtain ⟨x, hx⟩ : ∃ x, cs[j]? = some x := by
              have := (Array.getElem?_eq_some_iff.1 hj').1
              exact ⟨cs[j]'(by omega), by simp⟩
            have := hc j x u hx hj'
            have hcu : isCellV u = true := by rw [← this.1.isCell]; exact this.2
            cases u <;> simp_all [Value.cells, isCellV]
          refine ⟨(c.toList.drop off).take len, by simp; omega, fun j x u hx hu => ?_, fun x hx => ?_, hz', by simp [Builtin.lenOf]; omega, fun W hW => ?_⟩
          · simp only [List.getElem?_take, List.getElem?_drop] at hx hu
            split at hx
            · rename_i hj
              rw [if_pos hj] at hu
              exact (hc _ x u hx (by simpa using hu)).1
            · cases hx
          · have hx' := List.mem_of_mem_drop (List.mem_of_mem_take hx)
            obtain ⟨j, hj⟩ := mem_idx hx'
            obtain ⟨u, hu⟩ := get_of_size hsz.symm hj
            have := (hc j x u hj hu).2
            cases x <;> simp_all [nt, IVal.isCell]
          · rw [hll]
            refine run_firstCells_some (P := P) W 1 len ⟨b, off, none⟩ len cap _ (by rw [flatV_len hz']; simp; omega) (fun j v hj => ?_)
            have hfe : flatV ((c.toList.drop off).take len) = (c.toList.drop off).take len := flatV_self fun u hu => by
              obtain ⟨j, hj⟩ := mem_idx (List.mem_of_mem_drop (List.mem_of_mem_take hu))
              have hj' : c[j]? = some u := by simpa using hj
              obtain ⟨x, hx⟩ : ∃ x, cs[j]? = some x := by
                have := (Array.getElem?_eq_some_iff.1 hj').1
                exact ⟨cs[j]'(by omega), by simp⟩
              have := hc j x u hx hj'
              have hcu : isCellV u = true := by rw [← this.1.isCell]; exact this.2
              cases u <;> simp_all [Value.cells, isCellV]
            rw [hfe, List.getElem?_take] at hj
            split at hj
            · rw [addr_add]
              simp only [World.cell?, hW, hh]
              rw [List.getElem?_drop] at hj
              simpa using hj
            · cases hj
        · cases h
      · cases h
    · cases h
  · cases h

theorem nr2_un2 (x : IVal) : nr2 (un2 x) = nr2 x := by
  cases x with
  | agg cs =>
    simp only [un2, nr2, List.all_map]
    congr 1
    funext c
    cases c <;> rfl
  | _ => rfl

theorem grownCap_le_need (w : World) (need old : Nat) (e : TypeId) : need ≤ grownCap w need old e := grownCap_ge w need old e

theorem run_append_room' {T U ty E : TypeId} {du : TypeDesc} {i : TypeInfo} {base : Option Addr} {sLen sCap n : Nat} {xv : Value} {news : List Value} {w' : World} (hT : P.underlying T = some (.slice E)) (hU : P.underlying U = some du) (hdu : ∀ k, du ≠ .int k) (hi : P.info? E = some i)
    (hlen : (Builtin.lenOf xv).run P w = .ok n w) (hsrc : (Builtin.firstCells i.size n xv).run P w = .ok news.toArray w) (hroom : sLen + n ≤ sCap)
    (hst : match base with | some a => (storeCells (a.add (sLen * i.size)) news).run P w = .ok () w' | none => w' = w) :
    (Builtin.append_ #[T, U] ty #[.slice base sLen sCap, xv]).run P w = .ok (.slice base (sLen + n) sCap) w' := by
  have hz : (du matches .int _) = false := by
    cases du <;> simp at hdu ⊢
  cases base with
  | none => subst hst; simp [Builtin.append_, run_und hT, run_und hU, run_sizeOf hi, hz, hlen, hsrc, hroom]
  | some a => simp [Builtin.append_, run_und hT, run_und hU, run_sizeOf hi, hz, hlen, hsrc, hroom, hst]

theorem run_append_grow' {T U ty E : TypeId} {du : TypeDesc} {i : TypeInfo} {z : Value} {base : Option Addr} {sLen sCap n : Nat} {xv : Value} {olds news : List Value} (hT : P.underlying T = some (.slice E)) (hU : P.underlying U = some du) (hdu : ∀ k, du ≠ .int k) (hi : P.info? E = some i) (hz : i.zero = some z)
    (hlen : (Builtin.lenOf xv).run P w = .ok n w) (hsrc : ∀ W : World, W.heap = w.heap → (Builtin.firstCells i.size n xv).run P W = .ok news.toArray W) (hold : ∀ W : World, W.heap = w.heap → (Builtin.firstCells i.size sLen (.slice base sLen sCap)).run P W = .ok olds.toArray W)
    (hg : sCap < sLen + n) (h63 : ((sLen + n : Nat) : Int) ≤ 9223372036854775807) (hfit : Builtin.nextslicecap (sLen + n) sCap * i.bytes ≤ 281474976710656) :
    (Builtin.append_ #[T, U] ty #[.slice base sLen sCap, xv]).run P w = .ok (.slice (some ⟨w.heap.size, 0, none⟩) (sLen + n) (grownCap w (sLen + n) sCap E))
        (w.drew.alloc (.cells (olds.toArray ++ news.toArray ++ Builtin.zeroCells z.cells (grownCap w (sLen + n) sCap E - (sLen + n))) E)) := by
  have hzz : (du matches .int _) = false := by
    cases du <;> simp at hdu ⊢
  have hn : ¬ (sLen + n ≤ sCap) := by omega
  have h63' : ¬ (9223372036854775807 < ((sLen : Int) + (n : Int))) := by omega
  have h48' : ¬ (281474976710656 < Builtin.nextslicecap (sLen + n) sCap * i.bytes) := by omega
  have hf := hsrc w.drew rfl
  have hfo := hold w.drew rfl
  simp [Builtin.append_, run_und hT, run_und hU, sizeOf, typeInfo, zeroValue, hi, hz, hzz, hlen, hn, h63', h48', Question.forced, hf, hfo, newRow, grownCap]
  congr 2
  apply Array.ext'
  simp [List.append_assoc]

theorem sim_append {isS : Bool} {x y : Opd} {rx ry : Operand} {c : Call} {T U E : TypeId} {du : TypeDesc} {i : TypeInfo} {z : Value} (hop : o.op = .call c) (hc : c.callee = .builtin .append) (ha : c.args = #[rx, ry]) (hta : c.argTypes = #[T, U]) (hx : opdOK x rx = true) (hy : opdOK y ry = true)
    (hT : P.underlying T = some (.slice E)) (hU : P.underlying U = some du) (hdu : ∀ k, du ≠ .int k) (hi : P.info? E = some i) (hz : i.zero = some z) (hzs : z.cells.size = i.size)
    (hs : stepOp cf (.append false isS i.size i.bytes x y) s = some res) (hl : WT s.ts a.tmps) (hR : R g O (s.ts.roots a.tmps) s.σ w) : SimV P o a g O w s res := by
  simp only [stepOp] at hs
  split at hs
  · rename_i base ts h
    split at hs
    · rename_i yv ts' h'
      split at hs
      · rename_i ys hys
        split at hs
        · rename_i own rf xs
          split at hs
          · rename_i hcond
            obtain ⟨hown, h0, hb1, hb2⟩ := hcond
            subst hown
            simp only [Bool.false_eq_true, if_false, rv, Option.some.injEq] at hs
            subst hs
            obtain ⟨h1, h2⟩ := get_sim (l := []) hx h hl hR
            obtain ⟨h3, h4⟩ := get_sim (l := [(.sl i.size rf xs, a.eval rx)]) hy h' h2 h1
            obtain ⟨us, u1, u2, u3, u4, u5, u6⟩ := elemsOf_sim (P := P) h3 h3.head hys
            have hroot : R g O ((.sl i.size rf xs, a.eval rx) :: ts'.roots a.tmps) s.σ w := h3.drop
            have hexec : ∀ r w', (Builtin.append_ #[T, U] o.type #[a.eval rx, a.eval ry]).run P w = .ok r w' → (execOp a.eval o).run P w = .ok (.value r) w' := by
              intro r w' hr
              simp [execOp, hop, resolve, hc, ha, hta, invoke, builtin, hr]
            have hpt : ∀ (j : Nat) y u, (ys.map un2)[j]? = some y → us[j]? = some u → V g y u := by
              intro j y u hy hu
              simp only [List.getElem?_map, Option.map_eq_some_iff] at hy
              obtain ⟨y', hy', rfl⟩ := hy
              exact (u2 j y' u hy' hu).un2
            have hflat : ∀ y ∈ ys.map un2, Flat y := by
              intro y hy
              simp only [List.mem_map] at hy
              obtain ⟨y', hy', rfl⟩ := hy
              exact nt_un2_of (u3 y' hy')
            have hnr : (rf || ext ys) = false → rf = false ∧ ∀ y ∈ ys.map un2, nr2 y = true := by
              intro hh
              simp only [Bool.or_eq_false_iff, ext, Bool.not_eq_false', List.all_eq_true] at hh
              refine ⟨hh.1, fun y hy => ?_⟩
              simp only [List.mem_map] at hy
              obtain ⟨y', hy', rfl⟩ := hy
              rw [nr2_un2]; exact hh.2 y' hy'
            have hV := hroot.head
            generalize hrx : a.eval rx = rxv at hV hroot
            have hlenx : ∃ ad cap, rxv = .slice ad xs.length cap ∧ xs.length ≤ cap := by
              cases hV with
              | nil => exact ⟨none, 0, rfl, by simp⟩
              | sl _ _ _ vs ad cap _ _ hc => exact ⟨some ad, cap, rfl, hc⟩
            obtain ⟨ad, cap, rfl, hcap⟩ := hlenx
            by_cases hroom : xs.length + ys.length ≤ cap
            · by_cases hys0 : ys = []
              · subst hys0
                have hus : us = [] := List.length_eq_zero_iff.1 (by simpa using u1.symm)
                subst hus
                have hrun : (Builtin.append_ #[T, U] o.type #[.slice ad xs.length cap, a.eval ry]).run P w = .ok (.slice ad (xs.length + 0) cap) w := by
                  refine run_append_room' hT hU hdu hi u5 (u6 w rfl) hroom ?_
                  cases ad <;> simp [flatV, storeCells]
                refine SimV.same (hexec _ _ (by rw [hrx]; exact hrun)) ?_ h4
                simp only [List.map_nil, List.append_nil, Nat.add_zero, ext, List.all_nil, Bool.not_true, Bool.or_false]
                exact hroot
              · have hpos : 0 < ys.length := List.length_pos_iff.2 hys0
                cases ad with
                | none =>
                  cases hV with
                  | nil => simp at hroom; exact absurd hroom hys0
                | some ad =>
                  have hTb : g.T ad.block = some (ad.off + xs.length * i.size, ad.off + cap * i.size) ∧ ad.spot = none := by
                    cases hV with
                    | sl _ _ _ vs _ _ esz' hsp hc' hl' hv' hf' hr' hz' hcl ho =>
                      obtain ⟨e1, e2⟩ := ho (by omega)
                      subst e1
                      exact ⟨e2 (by omega), hsp (by omega)⟩
                  have hbO : ad.block ∈ O := by
                    refine hroot.sub _ (List.mem_append_left _ ?_)
                    simp only [ownL, List.map_cons, List.flatten_cons, List.mem_append]
                    left
                    simp only [own3, own2, own1]
                    rw [if_neg (by omega)]; simp
                  obtain ⟨⟨cc, el, fz, q1, q2, q3⟩, q4⟩ := hroot.spare _ hbO _ _ hTb.1
                  have had : ad = ⟨ad.block, ad.off, none⟩ := by cases ad; simp at hTb; simp [hTb.2]
                  have hflen : (flatV us).length = ys.length * i.size := by rw [flatV_len u4, u1]
                  have hmul : xs.length * i.size + ys.length * i.size ≤ cap * i.size := by rw [← Nat.add_mul]; exact Nat.mul_le_mul_right _ hroom
                  have hones : ∀ v ∈ flatV us, v.oneCell' = true := by
                    intro v hv
                    simp only [flatV, List.mem_flatMap] at hv
                    obtain ⟨u, hu, hvu⟩ := hv
                    obtain ⟨j, hj⟩ := mem_idx hu
                    obtain ⟨y', hy'⟩ := get_of_len u1.symm hj
                    have hVy := u2 j y' u hy' hj
                    obtain ⟨k, hk⟩ := mem_idx hvu
                    have hk' : u.cells[k]? = some v := by simpa using hk
                    obtain ⟨p1, p2⟩ := hVy.un2.cells
                    obtain ⟨x', hx'⟩ : ∃ x', (un2 y').cells[k]? = some x' := by
                      have := (Array.getElem?_eq_some_iff.1 hk').1
                      exact ⟨(un2 y').cells[k]'(by omega), by simp⟩
                    have hcell := (flat_cells hVy.un2 (nt_un2_of (u3 y' (List.mem_of_getElem? hy'))) x' (List.mem_of_getElem? hx')).2
                    exact oneCell_of (by rw [← (p2 k x' v hx' hk').isCell]; exact hcell)
                  have hst := run_storeCells_atF P ad.block (ad.off + xs.length * i.size) el fz (flatV us) 0 cc w q1 (by simpa using q3) (by simp; omega) hones
                  simp only [Nat.add_zero] at hst
                  have hrun : (Builtin.append_ #[T, U] o.type #[.slice (some ad) xs.length cap, a.eval ry]).run P w = .ok (.slice (some ad) (xs.length + ys.length) cap) _ :=
                    run_append_room' hT hU hdu hi u5 (u6 w rfl) hroom (by
                      simp only
                      rw [had, addr_add]; exact hst)
                  have hf := setRow_fields w ad.block (cc.toList.take (ad.off + xs.length * i.size) ++ flatV us ++ cc.toList.drop (ad.off + xs.length * i.size + (flatV us).length)).toArray
                  obtain ⟨g', hR', hg, hι⟩ := hroot.appendIn (ys := ys.map un2) (us := us) (rf' := rf || ext ys) (c := cc) (el := el) (fz := fz) h0 (by simpa using u1) hpt hflat hnr u4 (by simpa using hroom) (by simpa using hys0) q1
                    (fun k hk => setRow_other w ad.block k _ hk) hf.2.2.2 (setRow_heap w ad.block cc _ el _ q1) (by simpa using hflen) hf.1 hf.2.1 hf.2.2.1
                  have e : (xs ++ ys.map un2).length = xs.length + ys.length := by simp
                  rw [e] at hR'
                  exact ⟨rfl, _, _, _, hexec _ _ (by rw [hrx]; exact hrun), rfl, g', O, [], hg, hR', h4, rfl, Keep.refl _⟩
            · -- it grows
              have hparts : ∃ vs : List Value, xs.length = vs.length ∧ (∀ (j : Nat) x v, xs[j]? = some x → vs[j]? = some v → V g x v) ∧ (∀ x ∈ xs, Flat x) ∧ (rf = false → ∀ x ∈ xs, nr2 x = true) ∧ (∀ v ∈ vs, v.cells.size = i.size) ∧
                  ∀ W : World, W.heap = w.heap → (Builtin.firstCells i.size xs.length (.slice ad xs.length cap)).run P W = .ok (flatV vs).toArray W := by
                cases hV with
                | nil => exact ⟨[], rfl, by simp, by simp, by simp, by simp, fun W _ => by simp [Builtin.firstCells, flatV]⟩
                | sl _ _ _ vs ad _ esz' hsp hc' hl' hv' hf' hr' hz' hcl ho =>
                  obtain ⟨e1, _⟩ := ho (by omega)
                  subst e1
                  refine ⟨vs, hl', hv', hf', hr', hz', fun W hW => ?_⟩
                  refine run_firstCells_some (P := P) W i.size xs.length ad xs.length cap (flatV vs) (by rw [flatV_len hz', hl']) (fun j v hj => ?_)
                  have hpos : 0 < cap := by
                    have h0 := lt_of_get hj
                    rw [flatV_len hz', ← hl'] at h0
                    rcases Nat.eq_zero_or_pos xs.length with h1 | h1
                    · simp [h1] at h0
                    · omega
                  have had : ad = ⟨ad.block, ad.off, none⟩ := by have := hsp hpos; cases ad; simp at this; simp [this]
                  rw [had, addr_add]
                  have := hroot.claim _ _ _ (hcl j v hj)
                  simpa [World.cell?, hW] using this
              obtain ⟨vs, v1, v2, v3, v4, v5, v6⟩ := hparts
              have hneed : (xs.length + ys.length) * i.bytes ≤ 140737488355328 := by omega
              have hrun := run_append_grow' (ty := o.type) hT hU hdu hi hz u5 u6 v6 (by omega : cap < xs.length + ys.length) (by omega) (growslice_fits (by omega) hneed)
              have hge := grownCap_ge w (xs.length + ys.length) cap E
              have hzc : (Builtin.zeroCells z.cells (grownCap w (xs.length + ys.length) cap E - (xs.length + ys.length))).size = (grownCap w (xs.length + ys.length) cap E - (xs.length + ys.length)) * i.size := by
                simp [Builtin.zeroCells, hzs]
              have hR0 : R g O (ts'.roots a.tmps) s.σ w.drew := hroot.drop.world (Nat.le_refl _) (fun _ _ => rfl)
              have hG0 : Grow O g w O g w.drew := ⟨Nat.le_refl _, fun _ _ _ => ⟨rfl, rfl, fun _ => rfl⟩, fun _ _ _ h => h, fun _ _ h => h, fun _ h => .inl h, rfl, rfl, rfl, rfl⟩
              have hflv : flatV (vs ++ us) = flatV vs ++ flatV us := by simp [flatV]
              have hz2 : ∀ v ∈ vs ++ us, v.cells.size = i.size := by
                intro v hv
                rcases List.mem_append.1 hv with hv | hv
                · exact v5 v hv
                · exact u4 v hv
              obtain ⟨g', O', hR', hg, hι⟩ := hR0.newSlice (xs := xs ++ ys.map un2) (vs := vs ++ us) (esz := i.size) (cap := grownCap w (xs.length + ys.length) cap E) (own := i.size) (rf := rf || ext ys)
                (c := (flatV vs).toArray ++ (flatV us).toArray ++ Builtin.zeroCells z.cells (grownCap w (xs.length + ys.length) cap E - (xs.length + ys.length))) (el := E) (fz := (0, 0)) (by simp [v1, u1]) (fun j x v hx hv => by
                  by_cases hj : j < xs.length
                  · rw [List.getElem?_append_left hj] at hx
                    rw [List.getElem?_append_left (by omega)] at hv
                    exact v2 j x v hx hv
                  · rw [List.getElem?_append_right (by omega)] at hx
                    rw [List.getElem?_append_right (by omega), ← v1] at hv
                    exact hpt _ x v hx hv) (fun x hx => by
                  rcases List.mem_append.1 hx with hx | hx
                  · exact v3 x hx
                  · exact hflat x hx) (fun hh x hx => by
                  rcases List.mem_append.1 hx with hx | hx
                  · exact v4 (hnr hh).1 x hx
                  · exact (hnr hh).2 x hx) hz2 (fun k v hk => by
                  rw [hflv] at hk
                  rw [Array.getElem?_append_left (by simp; have := lt_of_get hk; simpa using this)]
                  simpa using hk) (by simpa using hge) (by
                  simp only [Array.size_append, hzc, List.size_toArray, flatV_len v5, flatV_len u4, ← v1, ← u1]
                  rw [← Nat.add_mul, ← Nat.add_mul]
                  refine Nat.mul_le_mul_right _ (by omega)) (.inr rfl) (by simp) (by rw [flatV_len hz2]; simp [v1, u1])
              have e : (xs ++ ys.map un2).length = xs.length + ys.length := by simp
              rw [e] at hR'
              exact ⟨rfl, _, _, _, hexec _ _ (by rw [hrx]; exact hrun), rfl, g', O', [], hG0.trans hg, hR', h4, rfl, Keep.refl _⟩
          · cases hs
        · cases hs
      · cases hs
    · cases hs
  · cases hs

end Go.Idl
