/- The ideal machine and its evaluators, part 3; no conditions. -/
import Derived.RangeFuncRecord
import Derived.ChangeKeysEq
import Derived.Laws.BytesString
import Derived.Laws.Runes
import Derived.Stop.Asserts
import Derived.Laws.Externs
import Derived.Lib.Bytealg
import Derived.KernelRfl
import Derived.Test.YtbhnokhofcgjmaaGreatDoorIdlB
set_option linter.unusedSectionVars false
set_option linter.unusedVariables false
set_option linter.unusedSimpArgs false
namespace Go.Idl
variable [Globs]
variable {P : Program} {o : Oper} {a : Act} {g : Gh} {O : List Nat} {w : World} {s : St} {res : Res} {cf : jo}
theorem kb {us : List Value} {esz : Nat} (hu : ∀ u ∈ us, u.cells.size = esz) : (jp us).length = us.length * esz := by
 induction us with
 | nil => simp [jp]
 | cons u us ih =>
   have := ih (fun v hv => hu v (by simp [hv]))
   simp only [jp, List.flatMap_cons, List.length_append] at this ⊢
   rw [this]
   have := hu u (by simp)
   simp [this, Nat.add_mul]; omega
theorem jg1 {size : Nat} : ∀ (us : List Value) (k : Nat) (pre zeros : List Value), (∀ u ∈ us, u.cells.size = size) -> pre.length = k * size -> zeros.length = us.length * size ->
   Instr.fill (fun i => some (i * size, size)) (pre ++ zeros).toArray ((us.zipIdx k).map fun p => (p.2, p.1)) = some (pre ++ jp us).toArray := by
 intro us
 induction us with
 | nil => intro k pre zeros _ _ hz; simp at hz; subst hz; simp [Instr.fill, jp]
 | cons u us ih =>
   intro k pre zeros hu hp hz
   have hus := hu u (by simp)
   simp only [List.zipIdx_cons, List.map_cons, Instr.fill]
   have hlen : (us.length + 1) * size = size + us.length * size := by rw [Nat.add_mul]; omega
   simp only [List.length_cons, hlen] at hz
   rw [if_neg (by simp [hp, hz, hus])]
   have hto := Zu (v := u) (off := k * size) (c := (pre ++ zeros).toArray) (by simp [hp, hz, hus])
   have e : (u.cells.zipIdx.foldl (fun cs (p : Value × Nat) => cs.setIfInBounds (k * size + p.2) p.1) (pre ++ zeros).toArray) = ((pre ++ u.cells.toList) ++ zeros.drop size).toArray := by
     apply Array.toList_inj.1
     rw [hto]
     have e1 : (pre ++ zeros).take (k * size) = pre := by rw [<- hp]; exact List.take_left' rfl
     have e2 : (pre ++ zeros).drop (k * size + u.cells.toList.length) = zeros.drop size := by
       rw [List.drop_append, List.drop_eq_nil_of_le (by simp [hp])]
       simp [hp, hus]
     simp only [e1, e2]
   rw [e, ih (k + 1) (pre ++ u.cells.toList) (zeros.drop size) (fun v hv => hu v (by simp [hv])) (by simp [hp, hus, Nat.add_mul]) (by simp; omega)]
   simp [jp]
theorem K0 {us : List Value} (h : ∀ u ∈ us, u.cells = #[u]) : jp us = us := by
 induction us with
 | nil => rfl
 | cons u us ih =>
   have := ih fun v hv => h v (by simp [hv])
   simp only [jp, List.flatMap_cons] at this ⊢
   rw [this, h u (by simp)]; rfl
theorem jfF (rs : List Operand) (f : Operand -> Value) : (rs.zipIdx.map fun p => (p.2, f p.1)) = ((rs.map f).zipIdx.map fun p => (p.2, p.1)) := by
 rw [List.zipIdx_map, List.map_map]; rfl
theorem Va {T E : TypeId} {n : Nat} {rs : List Operand} {rparts : Array (Nat × Operand)} {i : TypeInfo} {z : Value} {vs : List IVal} {ts : Ts} (hop : o.op = .buildSlice T n rparts) (hn : n = rs.length) (hp : rparts.toList = rs.zipIdx.map fun p => (p.2, p.1))
   (hT : P.underlying T = some (.slice E)) (hi : P.info? E = some i) (hz : i.zero = some z) (hzs : z.cells.size = i.size) (h0 : 0 < i.size)
   (hc2 : vs.all (fun v => v.cells.length == i.size) = true) (hc4 : vs.length * i.size <= 16777216)
   (h3 : vs.length = rs.length) (h1 : R g O ([] ++ vs.zip (rs.map a.eval) ++ ts.roots a.tmps) s.σ w) :
   vs.length = rs.length /\ (∀ u ∈ rs.map a.eval, u.cells.size = i.size) /\ (execOp a.eval o).run P w = .ok (.value (.slice (some ⟨w.heap.size, 0, none⟩) n n)) (w.alloc (.cells (jp (rs.map a.eval)).toArray E)) := by
 have hlen : vs.length = rs.length := by simpa using h3
 have hsz : ∀ u ∈ rs.map a.eval, u.cells.size = i.size := by
   intro u hu
   obtain ⟨j, hj⟩ := jx hu
   obtain ⟨v, hv⟩ := jE (l := rs.map a.eval) (m := vs) (by simp [hlen]) hj
   have hV := QT h1 hv hj
   have := List.all_eq_true.1 hc2 v (zM hv)
   rw [<- hV.cells.1]; simpa using this
 have hrun : (execOp a.eval o).run P w = .ok (.value (.slice (some ⟨w.heap.size, 0, none⟩) n n)) (w.alloc (.cells (jp (rs.map a.eval)).toArray E)) := by
   have hparts : (rparts.map fun (i, x) => (i, a.eval x)).toList = (((rs.map a.eval).zipIdx).map fun p => (p.2, p.1)) := by
     rw [Array.toList_map, hp, List.map_map, <- jfF]; rfl
   have hzl : ((Array.range (n * i.size)).map (fun k => z.cells[k % z.cells.size]!)).toList.length = (rs.map a.eval).length * i.size := by simp [hn]
   have hfill := jg1 (size := i.size) (rs.map a.eval) 0 [] ((Array.range (n * i.size)).map (fun k => z.cells[k % z.cells.size]!)).toList hsz (by simp) hzl
   simp only [List.nil_append, Array.toArray_toList] at hfill
   have hle : ¬ (n * i.size > 2 ^ 24) := by rw [hn, <- hlen]; omega
   simp only [execOp, hop, Instr.buildSlice, Sem.run_bind, jm hT, Result.andThen_ok, jP hi]
   rw [if_neg hle]
   by_cases hn0 : n * i.size = 0
   . have hrs : rs = [] := by
       have : rs.length = 0 := by
         rcases Nat.mul_eq_zero.1 hn0 with h | h
         . omega
         . omega
       exact List.length_eq_zero_iff.1 this
     subst hrs
     simp at hn
     subst hn
     have hpe : rparts = #[] := Array.toList_inj.1 (by rw [hp]; rfl)
     subst hpe
     have h00 : Array.map (fun x : Nat => (default : Value)) (Array.range 0) = #[] := Array.eq_empty_of_size_eq_zero (by simp)
     simp [Instr.fill, newRow, jp, h00]
   . simp only [hn0, if_false, Sem.run_bind, zeroValue, typeInfo, Result.andThen_ok, Sem.run_pure]
     simp only [hi, hz, run_program, Result.andThen_ok, Sem.run_pure, Sem.run_bind]
     rw [hparts, hfill]
     simp [newRow]
 exact ⟨hlen, hsz, hrun⟩
theorem jbx {xs : List Opd} {T E : TypeId} {n : Nat} {rs : List Operand} {rparts : Array (Nat × Operand)} {i : TypeInfo} {z : Value} (hop : o.op = .buildSlice T n rparts) (hn : n = rs.length) (hp : rparts.toList = rs.zipIdx.map fun p => (p.2, p.1)) (hx : jD xs rs = true)
   (hT : P.underlying T = some (.slice E)) (hi : P.info? E = some i) (hz : i.zero = some z) (hzs : z.cells.size = i.size) (h0 : 0 < i.size)
   (hs : ja cf (.buildSl i.size xs) s = some res) (hl : WT s.ts a.tmps) (hR : R g O (s.ts.roots a.tmps) s.σ w) : SimV P o a g O w s res := by
 simp only [ja] at hs
 split at hs
 . rename_i vs ts h
   split at hs
   . rename_i hcond
     obtain ⟨hc1, hc2, hc3, hc4⟩ := hcond
     simp only [rv, zO] at hs
     subst hs
     obtain ⟨h1, h2, h3⟩ := jX (l := []) hx h hl hR
     obtain ⟨hlen, hsz, hrun⟩ := Va hop hn hp hT hi hz hzs h0 hc2 hc4 (by simpa using h3) h1
     obtain ⟨g', O', hR', hg, hι⟩ := (R.drops h1).newSlice (xs := vs.map un2) (vs := rs.map a.eval) (esz := i.size) (cap := n) (own := i.size) (rf := ext vs) (c := (jp (rs.map a.eval)).toArray) (el := E) (fz := (0, 0)) (by simp [hlen]) (fun j x u hx hu => by
         simp only [List.getElem?_map, Option.map_eq_some_iff] at hx
         obtain ⟨x', hx', rfl⟩ := hx
         exact (QT h1 hx' hu).un2) (fun x hx => by
         simp only [List.mem_map] at hx
         obtain ⟨x', hx', rfl⟩ := hx
         exact kO (List.all_eq_true.1 hc3 x' hx')) (fun hrf x hx => by
         simp only [List.mem_map] at hx
         obtain ⟨x', hx', rfl⟩ := hx
         simp only [ext, Bool.not_eq_false', List.all_eq_true] at hrf
         have := hrf x' hx'
         cases x' <;> simp_all [nr2, un2, un1, nr1, nr0]
         rename_i cs
         intro c hc
         have := this c hc
         cases c <;> simp_all [nr1, nr0, un1]) hsz (fun k v hk => by simpa using hk) (by simp [hlen, hn]) (by
         have := kb hsz
         simp only [List.size_toArray]; rw [this]; simp [hn]) (.inr rfl) (by simp) (by rw [kb hsz]; simp [hlen]) (fun _ he => by
         have h9 : vs.length = 0 := by rw [List.map_eq_nil_iff.1 he]; rfl
         omega) (fun he => by rw [List.map_eq_nil_iff.1 he]; rfl)
     simp only [List.length_map] at hR'
     have e : n = vs.length := by omega
     rw [<- e] at hR'
     exact ⟨rfl, _, _, _, hrun, rfl, g', O', [], hg, hR', h2, rfl, Keep.refl _⟩
   . cases hs
 . cases hs
theorem jeL {x : IVal} {v : Value} (hV : V g x v) (hx : nt x = true) : ∀ c ∈ (un2 x).cells, un1 c = c /\ c.isCell = true := JN hV.un2 (kO hx)
theorem jbw {xs : List Opd} {T E : TypeId} {n : Nat} {rs : List Operand} {rparts : Array (Nat × Operand)} {i : TypeInfo} {z : Value} (hop : o.op = .buildSlice T n rparts) (hn : n = rs.length) (hp : rparts.toList = rs.zipIdx.map fun p => (p.2, p.1)) (hx : jD xs rs = true)
   (hT : P.underlying T = some (.slice E)) (hi : P.info? E = some i) (hz : i.zero = some z) (hzs : z.cells.size = i.size) (h0 : 0 < i.size)
   (hs : ja cf (.buildRs i.size xs) s = some res) (hl : WT s.ts a.tmps) (hR : R g O (s.ts.roots a.tmps) s.σ w) : SimV P o a g O w s res := by
 simp only [ja] at hs
 split at hs
 . rename_i vs ts h
   split at hs
   . rename_i hcond
     obtain ⟨hc1, hc2, hc3, hc4⟩ := hcond
     simp only [zO] at hs
     subst hs
     obtain ⟨h1, h2, h3⟩ := jX (l := []) hx h hl hR
     obtain ⟨hlen, hsz, hrun⟩ := Va hop hn hp hT hi hz hzs h0 hc2 hc4 (by simpa using h3) h1
     have hlV := kb hsz
     have hcl : ∀ (l : List IVal), (∀ v ∈ l, v.cells.length = i.size) -> (l.flatMap fun v => (un2 v).cells).length = l.length * i.size := by
       intro l
       induction l with
       | nil => intro _; simp
       | cons v l ih =>
         intro hv
         have e1 : (un2 v).cells.length = v.cells.length := by cases v <;> simp [un2, un1, IVal.cells]
         simp only [List.flatMap_cons, List.length_append, List.length_cons, ih (fun u hu => hv u (by simp [hu])), e1, hv v (by simp), Nat.add_mul]
         omega
     have hvl : ∀ v ∈ vs, v.cells.length = i.size := fun v hv => by simpa using List.all_eq_true.1 hc2 v hv
     have hcells : ∀ (j : Nat) x v, (vs.flatMap fun v => (un2 v).cells)[j]? = some x -> (jp (rs.map a.eval))[j]? = some v -> V g x v /\ kX x v = [] /\ x.isCell = true := by
       intro j x v hxj hvj
       have hj := jg hxj
       rw [hcl vs hvl] at hj
       have hk : j / i.size < vs.length := by rw [Nat.div_lt_iff_lt_mul h0]; exact hj
       have hm : j % i.size < i.size := Nat.mod_lt _ h0
       have hje : j = j / i.size * i.size + j % i.size := by have := Nat.div_add_mod j i.size; rw [Nat.mul_comm] at this; omega
       obtain ⟨y, hy⟩ : ∃ y, vs[j / i.size]? = some y := ⟨_, List.getElem?_eq_getElem hk⟩
       obtain ⟨u, hu⟩ := jE (l := vs) (m := rs.map a.eval) (by simp [hlen]) hy
       have hV := QT h1 hy hu
       have hxy : (un2 y).cells[j % i.size]? = some x := by
         have key : ∀ (l : List IVal) (k m : Nat) (y : IVal), (∀ v ∈ l, v.cells.length = i.size) -> l[k]? = some y -> m < i.size -> (l.flatMap fun v => (un2 v).cells)[k * i.size + m]? = (un2 y).cells[m]? := by
           intro l
           induction l with
           | nil => intro k m y _ h; simp at h
           | cons v l ih =>
             intro k m y hv hk hm
             have e1 : (un2 v).cells.length = i.size := by
               have e0 : (un2 v).cells.length = v.cells.length := by cases v <;> simp [un2, un1, IVal.cells]
               rw [e0]; exact hv v (by simp)
             cases k with
             | zero =>
               simp at hk; subst hk
               simp only [List.flatMap_cons, Nat.zero_mul, Nat.zero_add]
               rw [zL (by omega)]
             | succ k =>
               simp at hk
               simp only [List.flatMap_cons]
               rw [zR (by rw [e1, Nat.add_mul]; omega), e1]
               have : (k + 1) * i.size + m - i.size = k * i.size + m := by rw [Nat.add_mul]; omega
               rw [this]
               exact ih k m y (fun u hu => hv u (by simp [hu])) hk hm
         rw [hje] at hxj
         rw [key vs (j / i.size) (j % i.size) y hvl hy hm] at hxj
         exact hxj
       have hvu : u.cells.toList[j % i.size]? = some v := by
         cases hcu : u.cells.toList[j % i.size]? with
         | none =>
           have h5 := List.getElem?_eq_none_iff.1 hcu
           have h6 := hsz u (zM hu)
           simp at h5; omega
         | some v' =>
           have := Zs hsz hu (by simpa using hcu)
           rw [<- hje, hvj] at this
           exact this.symm
       obtain ⟨q1, q2⟩ := jeL hV (List.all_eq_true.1 hc3 y (zM hy)) x (zM hxy)
       exact ⟨hV.un2.cells.2 _ x v hxy (by simpa using hvu), kY q1 v, q2⟩
     have hroot : R g O (ts.roots a.tmps) s.σ w := R.drops h1
     have hι : ∀ (id b : Nat), g.ι[id]? = some (Blk.bk b) -> (g.fresh w.heap.size).ι[id]? = some (Blk.bk b) := fun (id b : Nat) hb => by simp only [Gh.fresh]; rw [zL (jg hb)]; exact hb
     have hnew := (hroot.push (ky g) rfl).new (obr := .cells (jp (rs.map a.eval)).toArray E) (ob := .cells (vs.flatMap fun v => (un2 v).cells)) (fun _ =>
       ⟨_, E, jF w _, by simp only [List.size_toArray]; rw [hlV, hcl vs hvl]; simp [hlen], fun j x v hxj hvj => by
         have h6 := hcells j x v hxj (by simpa using hvj)
         refine ⟨h6.1.mono hι (fun _ _ _ h => h) (fun b hb => ?_), h6.2.2⟩
         rw [kP h6.2.2, h6.2.1] at hb; cases hb⟩) ⟨[], by
       simp only [kV, j7]
       rw [flatten_nil]
       intro cc hcm
       obtain ⟨j, x, y, q1, q2, rfl⟩ := jN hcm
       exact (hcells j x y q1 (by simpa using q2)).2.1, by simp⟩
     have e : n = vs.length := by omega
     rw [e] at hrun
     have hnew2 := hnew.setZ (z := vs.length * i.size) (jF w _) (by simp only [List.size_toArray]; rw [kb hsz]; simp [hlen])
     refine ⟨rfl, _, _, _, hrun, rfl, _, w.heap.size :: O, [], (kH hR _).trans (Grow.setZ _ _ _ _ _), hnew2.push (.rs i.size s.σ.length 0 vs.length vs.length w.heap.size ?_ (Nat.le_refl _) (by rw [Nat.zero_add]; exact VT _ _ _)) rfl, h2, rfl, Keep.snoc _ _⟩
     simp [Gh.fresh, Gh.setZ, <- hR.len]
   . cases hs
 . cases hs
theorem Vh {isS : Bool} {esz : Nat} {y : IVal} {ys : List IVal} {xv : Value} {l : jH} {σ : List IObj} (hR : R g O l σ w) (hV : V g y xv) (h : qr isS esz y σ = some ys) :
   ∃ us : List Value, ys.length = us.length /\ (∀ (i : Nat) x u, ys[i]? = some x -> us[i]? = some u -> V g x u) /\ (∀ x ∈ ys, nt x = true) /\ (∀ u ∈ us, u.cells.size = esz) /\ (Builtin.lenOf xv).run P w = .ok ys.length w /\
     ∀ W : World, W.heap = w.heap -> (Builtin.firstCells esz ys.length xv).run P W = .ok (jp us).toArray W := by
 unfold qr at h
 split at h
 . rename_i b
   split at h
   . rename_i he
     subst he
     simp only [zO] at h; subst h
     obtain ⟨t, rfl, rfl⟩ := hV.str_inv
     refine ⟨t.data.toList.map fun b => .int .u8 b.toNat, by simp, fun i x u hx hu => ?_, by simp [nt], by simp [Value.cells], by simp [Builtin.lenOf], fun W _ => ?_⟩
     . simp only [List.getElem?_map, Option.map_eq_some_iff] at hx hu
       obtain ⟨c, hc, rfl⟩ := hx
       obtain ⟨c', hc', rfl⟩ := hu
       rw [hc] at hc'; cases hc'
       exact .int _ _
     . simp only [Builtin.firstCells, Sem.run_pure]
       congr 1
       have e1 : (t.extract 0 (t.data.toList.map fun c => IVal.int .u8 c.toNat).length) = t := by
         apply ByteArray.ext; simp
       rw [e1]
       apply Array.toList_inj.1
       show _ = jp _
       rw [K0 (by simp [Value.cells])]
       simp
   . cases h
 . rename_i own rf xs
   split at h
   . rename_i hall
     simp only [zO] at h; subst h
     cases hV with
     | nil => exact ⟨[], rfl, by simp, by simp, by simp, by simp [Builtin.lenOf], fun W _ => by simp [Builtin.firstCells, jp]⟩
     | sl _ _ _ vs ad cap esz' hs hc hl hv hf hr hz hm ho =>
       have hz' : ∀ v ∈ vs, v.cells.size = esz := by
         intro v hv'
         obtain ⟨j, hj⟩ := jx hv'
         obtain ⟨x, hx⟩ := jE hl.symm hj
         rw [<- (hv j x v hx hj).cells.1]
         simpa using List.all_eq_true.1 hall x (zM hx)
       refine ⟨vs, hl, hv, fun x hx => (hf x hx).2, hz', by simp [Builtin.lenOf], fun W hW => ?_⟩
       refine run_firstCells_some (P := P) W esz xs.length ad xs.length cap (jp vs) (by rw [kb hz', hl]) (fun j v hj => ?_)
       have hpos : 0 < cap := by
         have h0 := jg hj
         rw [kb hz', <- hl] at h0
         rcases Nat.eq_zero_or_pos xs.length with h1 | h1
         . simp [h1] at h0
         . omega
       have had : ad = ⟨ad.block, ad.off, none⟩ := by have := hs hpos; cases ad; simp at this; simp [this]
       rw [had, kq]
       have := hR.claim _ _ _ (hm j v hj)
       simpa [World.cell?, hW] using this
   . cases h
 . rename_i e id off len
   split at h
   . rename_i he
     obtain ⟨rfl, rfl⟩ := he
     split at h
     . rename_i cs hcs
       split at h
       . rename_i hlen
         simp only [zO] at h; subst h
         obtain ⟨b, cap, rfl, hι, hcap⟩ := hV.rs_inv
         have hσ := jI hcs
         obtain ⟨c, el, hh, hsz, hc⟩ := hR.objs id b _ hι hσ
         have hll : ((cs.drop off).take len).length = len := by simp; omega
         have hz' : ∀ u ∈ (c.toList.drop off).take len, u.cells.size = 1 := by
           intro u hu
           obtain ⟨j, hj⟩ := jx hu
           have hjl : j < len := by have := jg hj; simp at this; omega
           have hj' : c[off + j]? = some u := by rw [List.getElem?_take, if_pos hjl, List.getElem?_drop] at hj; simpa using hj
           obtain ⟨x, hx⟩ : ∃ x, cs[off + j]? = some x := ⟨cs[off + j]'(by omega), by simp⟩
           have := hc (off + j) x u hx hj'
           have hcu : qu u = true := by rw [<- this.1.isCell]; exact this.2
           cases u <;> simp_all [Value.cells, qu]
         refine ⟨(c.toList.drop off).take len, by simp; omega, fun j x u hx hu => ?_, fun x hx => ?_, hz', by simp [Builtin.lenOf]; omega, fun W hW => ?_⟩
         . simp only [List.getElem?_take, List.getElem?_drop] at hx hu
           split at hx
           . rename_i hj
             rw [if_pos hj] at hu
             exact (hc _ x u hx (by simpa using hu)).1
           . cases hx
         . have hx' := List.mem_of_mem_drop (List.mem_of_mem_take hx)
           obtain ⟨j, hj⟩ := jx hx'
           obtain ⟨u, hu⟩ := Ku hsz hj
           have := (hc j x u hj hu).2
           cases x <;> simp_all [nt, IVal.isCell]
         . rw [hll]
           refine run_firstCells_some (P := P) W 1 len ⟨b, off, none⟩ len cap _ (by rw [kb hz']; simp; omega) (fun j v hj => ?_)
           have hfe : jp ((c.toList.drop off).take len) = (c.toList.drop off).take len := K0 fun u hu => by
             obtain ⟨j, hj⟩ := jx hu
             have hjl : j < len := by have := jg hj; simp at this; omega
             have hj' : c[off + j]? = some u := by rw [List.getElem?_take, if_pos hjl, List.getElem?_drop] at hj; simpa using hj
             obtain ⟨x, hx⟩ : ∃ x, cs[off + j]? = some x := ⟨cs[off + j]'(by omega), by simp⟩
             have := hc (off + j) x u hx hj'
             have hcu : qu u = true := by rw [<- this.1.isCell]; exact this.2
             cases u <;> simp_all [Value.cells, qu]
           rw [hfe, List.getElem?_take] at hj
           split at hj
           . rw [kq]
             simp only [World.cell?, hW, hh]
             rw [List.getElem?_drop] at hj
             simpa using hj
           . cases hj
       . cases h
     . cases h
   . cases h
 . cases h
theorem jkz (x : IVal) : nr2 (un2 x) = nr2 x := by
 cases x with
 | agg cs =>
   simp only [un2, nr2, List.all_map]
   congr 1
   funext c
   cases c <;> rfl
 | _ => rfl
theorem kZ {T U ty E : TypeId} {du : TypeDesc} {i : TypeInfo} {base : Option Addr} {sLen sCap n : Nat} {xv : Value} {news : List Value} {w' : World} (hT : P.underlying T = some (.slice E)) (hU : P.underlying U = some du) (hdu : ∀ k, du ≠ .int k) (hi : P.info? E = some i)
   (hlen : (Builtin.lenOf xv).run P w = .ok n w) (hsrc : (Builtin.firstCells i.size n xv).run P w = .ok news.toArray w) (hroom : sLen + n <= sCap)
   (hst : match base with | some a => (storeCells (a.add (sLen * i.size)) news).run P w = .ok () w' | none => w' = w) :
   (Builtin.append_ #[T, U] ty #[.slice base sLen sCap, xv]).run P w = .ok (.slice base (sLen + n) sCap) w' := by
 have hz : (du matches .int _) = false := by
   cases du <;> simp at hdu ⊢
 cases base with
 | none => subst hst; simp [Builtin.append_, jm hT, jm hU, jP hi, hz, hlen, hsrc, hroom]
 | some a => simp [Builtin.append_, jm hT, jm hU, jP hi, hz, hlen, hsrc, hroom, hst]
theorem vx {T U ty E : TypeId} {du : TypeDesc} {i : TypeInfo} {z : Value} {base : Option Addr} {sLen sCap n : Nat} {xv : Value} {olds news : List Value} (hT : P.underlying T = some (.slice E)) (hU : P.underlying U = some du) (hdu : ∀ k, du ≠ .int k) (hi : P.info? E = some i) (hz : i.zero = some z)
   (hlen : (Builtin.lenOf xv).run P w = .ok n w) (hsrc : ∀ W : World, W.heap = w.heap -> (Builtin.firstCells i.size n xv).run P W = .ok news.toArray W) (hold : ∀ W : World, W.heap = w.heap -> (Builtin.firstCells i.size sLen (.slice base sLen sCap)).run P W = .ok olds.toArray W)
   (hg : sCap < sLen + n) (h63 : ((sLen + n : Nat) : Int) <= 9223372036854775807) (hfit : Builtin.nextslicecap (sLen + n) sCap * i.bytes <= 281474976710656) :
   (Builtin.append_ #[T, U] ty #[.slice base sLen sCap, xv]).run P w = .ok (.slice (some ⟨w.heap.size, 0, none⟩) (sLen + n) (grownCap w (sLen + n) sCap E))
       (w.drew.alloc (.cells (olds.toArray ++ news.toArray ++ Builtin.zeroCells z.cells (grownCap w (sLen + n) sCap E - (sLen + n))) E)) := by
 have hzz : (du matches .int _) = false := by
   cases du <;> simp at hdu ⊢
 have hn : ¬ (sLen + n <= sCap) := by omega
 have h63' : ¬ (9223372036854775807 < ((sLen : Int) + (n : Int))) := by omega
 have h48' : ¬ (281474976710656 < Builtin.nextslicecap (sLen + n) sCap * i.bytes) := by omega
 have hf := hsrc w.drew rfl
 have hfo := hold w.drew rfl
 simp [Builtin.append_, jm hT, jm hU, sizeOf, typeInfo, zeroValue, hi, hz, hzz, hlen, hn, h63', h48', Question.forced, hf, hfo, newRow, grownCap]
 congr 2
 apply Array.ext'
 simp [zS]
theorem jdq {isS : Bool} {x y : Opd} {rx ry : Operand} {c : Call} {T U E : TypeId} {du : TypeDesc} {i : TypeInfo} {z : Value} (hop : o.op = .call c) (hc : c.callee = .builtin .append) (ha : c.args = #[rx, ry]) (hta : c.argTypes = #[T, U]) (hx : jl x rx = true) (hy : jl y ry = true)
   (hT : P.underlying T = some (.slice E)) (hU : P.underlying U = some du) (hdu : ∀ k, du ≠ .int k) (hi : P.info? E = some i) (hz : i.zero = some z) (hzs : z.cells.size = i.size)
   (hs : ja cf (.append false isS i.size i.bytes x y) s = some res) (hl : WT s.ts a.tmps) (hR : R g O (s.ts.roots a.tmps) s.σ w) : SimV P o a g O w s res := by
 simp only [ja] at hs
 split at hs
 . rename_i base ts h
   split at hs
   . rename_i yv ts' h'
     split at hs
     . rename_i ys hys
       obtain ⟨h1, h2⟩ := jk (l := []) hx h hl hR
       obtain ⟨h3, h4⟩ := jk (l := [(base, a.eval rx)]) hy h' h2 h1
       obtain ⟨us, u1, u2, u3, u4, u5, u6⟩ := Vh (P := P) h3 h3.head hys
       have hroot0 : R g O ((base, a.eval rx) :: ts'.roots a.tmps) s.σ w := h3.drop
       have hroot0 := hroot0.nilOwn i.size
       generalize nilOwn i.size base = b0 at hs hroot0
       split at hs
       . rename_i own rf xs
         split at hs
         . rename_i hcond
           obtain ⟨hown, h0, hb1, hb2⟩ := hcond
           subst hown
           simp only [Bool.false_eq_true, if_false, rv, zO] at hs
           subst hs
           have hroot : R g O ((.sl i.size rf xs, a.eval rx) :: ts'.roots a.tmps) s.σ w := hroot0
           have hexec : ∀ r w', (Builtin.append_ #[T, U] o.type #[a.eval rx, a.eval ry]).run P w = .ok r w' -> (execOp a.eval o).run P w = .ok (.value r) w' := by
             intro r w' hr
             simp [execOp, hop, resolve, hc, ha, hta, invoke, builtin, hr]
           have hpt : ∀ (j : Nat) y u, (ys.map un2)[j]? = some y -> us[j]? = some u -> V g y u := by
             intro j y u hy hu
             simp only [List.getElem?_map, Option.map_eq_some_iff] at hy
             obtain ⟨y', hy', rfl⟩ := hy
             exact (u2 j y' u hy' hu).un2
           have hflat : ∀ y ∈ ys.map un2, yX y := by
             intro y hy
             simp only [List.mem_map] at hy
             obtain ⟨y', hy', rfl⟩ := hy
             exact kO (u3 y' hy')
           have hnr : (jiK rf xs ys) = false -> (∀ x ∈ xs, rf = false) /\ ∀ y ∈ ys.map un2, nr2 y = true := by
             intro hh
             unfold jiK at hh
             split at hh
             . rename_i he
               have he : ys = [] := List.isEmpty_iff.1 he
               subst he
               exact ⟨fun _ _ => hh, by simp⟩
             . simp only [Bool.or_eq_false_iff, Bool.and_eq_false_iff, Bool.not_eq_false', List.all_eq_true, List.isEmpty_iff] at hh
               refine ⟨fun x hx => ?_, fun y hy => ?_⟩
               . rcases hh.1 with h9 | h9
                 . rw [h9] at hx; cases hx
                 . exact h9
               . simp only [List.mem_map] at hy
                 obtain ⟨y', hy', rfl⟩ := hy
                 rw [jkz]; exact hh.2 y' hy'
           have hnil : xs ++ ys.map un2 = [] -> ys = [] := fun h9 => List.map_eq_nil_iff.1 (List.append_eq_nil_iff.1 h9).2
           have hV := hroot.head
           generalize hrx : a.eval rx = rxv at hV hroot
           have hlenx : ∃ ad cap, rxv = .slice ad xs.length cap /\ xs.length <= cap := by
             cases hV with
             | nil => exact ⟨none, 0, rfl, by simp⟩
             | sl _ _ _ vs ad cap _ _ hc => exact ⟨some ad, cap, rfl, hc⟩
           obtain ⟨ad, cap, rfl, hcap⟩ := hlenx
           by_cases hroom : xs.length + ys.length <= cap
           . by_cases hys0 : ys = []
             . subst hys0
               have hus : us = [] := List.length_eq_zero_iff.1 (by simpa using u1.symm)
               subst hus
               have hrun : (Builtin.append_ #[T, U] o.type #[.slice ad xs.length cap, a.eval ry]).run P w = .ok (.slice ad (xs.length + 0) cap) w := by
                 refine kZ hT hU hdu hi u5 (u6 w rfl) hroom ?_
                 cases ad <;> simp [jp, storeCells]
               refine SimV.same (hexec _ _ (by rw [hrx]; exact hrun)) ?_ h4
               simp only [List.map_nil, List.append_nil, Nat.add_zero, jiK, List.isEmpty_nil, if_true]
               exact hroot
             . have hpos : 0 < ys.length := List.length_pos_iff.2 hys0
               cases ad with
               | none =>
                 cases hV with
                 | nil => simp at hroom; exact absurd hroom hys0
               | some ad =>
                 have hTb : g.T ad.block = some (ad.off + xs.length * i.size, ad.off + cap * i.size) /\ ad.spot = none := by
                   cases hV with
                   | sl _ _ _ vs _ _ esz' hsp hc' hl' hv' hf' hr' hz' hcl ho hn =>
                     obtain ⟨e1, _, e2⟩ := ho (by omega)
                     subst e1
                     exact ⟨e2 (by omega), hsp (by omega)⟩
                 have hbO : ad.block ∈ O := by
                   refine hroot.sub _ (List.mem_append_left _ ?_)
                   simp only [jR, List.map_cons, List.flatten_cons, List.mem_append]
                   left
                   simp only [jA, zB, kX]
                   rw [if_neg (by omega)]; simp
                 obtain ⟨⟨cc, el, fz, q1, q2, q3⟩, q4⟩ := hroot.spare _ hbO _ _ hTb.1
                 have had : ad = ⟨ad.block, ad.off, none⟩ := by cases ad; simp at hTb; simp [hTb.2]
                 have hflen : (jp us).length = ys.length * i.size := by rw [kb u4, u1]
                 have hmul : xs.length * i.size + ys.length * i.size <= cap * i.size := by rw [<- Nat.add_mul]; exact Nat.mul_le_mul_right _ hroom
                 have hones : ∀ v ∈ jp us, v.oneCell' = true := by
                   intro v hv
                   simp only [jp, List.mem_flatMap] at hv
                   obtain ⟨u, hu, hvu⟩ := hv
                   obtain ⟨j, hj⟩ := jx hu
                   obtain ⟨y', hy'⟩ := jE u1.symm hj
                   have hVy := u2 j y' u hy' hj
                   obtain ⟨k, hk⟩ := jx hvu
                   have hk' : u.cells[k]? = some v := by simpa using hk
                   obtain ⟨p1, p2⟩ := hVy.un2.cells
                   obtain ⟨x', hx'⟩ : ∃ x', (un2 y').cells[k]? = some x' := by
                     have := (Array.getElem?_eq_some_iff.1 hk').1
                     exact ⟨(un2 y').cells[k]'(by omega), by simp⟩
                   have hcell := (JN hVy.un2 (kO (u3 y' (zM hy'))) x' (zM hx')).2
                   exact yK (by rw [<- (p2 k x' v hx' hk').isCell]; exact hcell)
                 have hst := run_storeCells_atF P ad.block (ad.off + xs.length * i.size) el fz (jp us) 0 cc w q1 (by simpa using q3) (by simp; omega) hones
                 simp only [Nat.add_zero] at hst
                 have hrun : (Builtin.append_ #[T, U] o.type #[.slice (some ad) xs.length cap, a.eval ry]).run P w = .ok (.slice (some ad) (xs.length + ys.length) cap) _ :=
                   kZ hT hU hdu hi u5 (u6 w rfl) hroom (by
                     simp only
                     rw [had, kq]; exact hst)
                 have hf := qE w ad.block (cc.toList.take (ad.off + xs.length * i.size) ++ jp us ++ cc.toList.drop (ad.off + xs.length * i.size + (jp us).length)).toArray
                 obtain ⟨g', hR', hg, hι⟩ := hroot.appendIn (ys := ys.map un2) (us := us) (rf' := jiK rf xs ys) (c := cc) (el := el) (fz := fz) h0 (by simpa using u1) hpt hflat hnr u4 (by simpa using hroom) (by simpa using hys0) q1
                   (fun k hk => setRow_other w ad.block k _ hk) hf.2.2.2 (setRow_heap w ad.block cc _ el _ q1) (by simpa using hflen) hf.1 hf.2.1 hf.2.2.1
                 have e : (xs ++ ys.map un2).length = xs.length + ys.length := by simp
                 rw [e] at hR'
                 exact ⟨rfl, _, _, _, hexec _ _ (by rw [hrx]; exact hrun), rfl, g', O, [], hg, hR', h4, rfl, Keep.refl _⟩
           . -- it grows
             have hparts : ∃ vs : List Value, xs.length = vs.length /\ (∀ (j : Nat) x v, xs[j]? = some x -> vs[j]? = some v -> V g x v) /\ (∀ x ∈ xs, yX x) /\ (rf = false -> ∀ x ∈ xs, nr2 x = true) /\ (∀ v ∈ vs, v.cells.size = i.size) /\
                 ∀ W : World, W.heap = w.heap -> (Builtin.firstCells i.size xs.length (.slice ad xs.length cap)).run P W = .ok (jp vs).toArray W := by
               cases hV with
               | nil => exact ⟨[], rfl, by simp, by simp, by simp, by simp, fun W _ => by simp [Builtin.firstCells, jp]⟩
               | sl _ _ _ vs ad _ esz' hsp hc' hl' hv' hf' hr' hz' hcl ho hn =>
                 obtain ⟨e1, _⟩ := ho (by omega)
                 subst e1
                 refine ⟨vs, hl', hv', hf', hr', hz', fun W hW => ?_⟩
                 refine run_firstCells_some (P := P) W i.size xs.length ad xs.length cap (jp vs) (by rw [kb hz', hl']) (fun j v hj => ?_)
                 have hpos : 0 < cap := by
                   have h0 := jg hj
                   rw [kb hz', <- hl'] at h0
                   rcases Nat.eq_zero_or_pos xs.length with h1 | h1
                   . simp [h1] at h0
                   . omega
                 have had : ad = ⟨ad.block, ad.off, none⟩ := by have := hsp hpos; cases ad; simp at this; simp [this]
                 rw [had, kq]
                 have := hroot.claim _ _ _ (hcl j v hj)
                 simpa [World.cell?, hW] using this
             obtain ⟨vs, v1, v2, v3, v4, v5, v6⟩ := hparts
             have hneed : (xs.length + ys.length) * i.bytes <= 140737488355328 := by omega
             have hrun := vx (ty := o.type) hT hU hdu hi hz u5 u6 v6 (by omega : cap < xs.length + ys.length) (by omega) (growslice_fits (by omega) hneed)
             have hge := grownCap_ge w (xs.length + ys.length) cap E
             have hzc : (Builtin.zeroCells z.cells (grownCap w (xs.length + ys.length) cap E - (xs.length + ys.length))).size = (grownCap w (xs.length + ys.length) cap E - (xs.length + ys.length)) * i.size := by
               simp [Builtin.zeroCells, hzs]
             have hR0 : R g O (ts'.roots a.tmps) s.σ w.drew := hroot.drop.world (Nat.le_refl _) (fun _ _ => rfl)
             have hG0 : Grow O g w O g w.drew := ⟨Nat.le_refl _, fun _ _ _ => ⟨rfl, rfl, fun _ => rfl⟩, fun _ _ _ h => h, fun _ _ h => h, fun _ h => .inl h, rfl, rfl, rfl, rfl, fun _ => Nat.le_refl _⟩
             have hflv : jp (vs ++ us) = jp vs ++ jp us := by simp [jp]
             have hz2 : ∀ v ∈ vs ++ us, v.cells.size = i.size := by
               intro v hv
               rcases List.mem_append.1 hv with hv | hv
               . exact v5 v hv
               . exact u4 v hv
             obtain ⟨g', O', hR', hg, hι⟩ := hR0.newSlice (xs := xs ++ ys.map un2) (vs := vs ++ us) (esz := i.size) (cap := grownCap w (xs.length + ys.length) cap E) (own := i.size) (rf := jiK rf xs ys)
               (c := (jp vs).toArray ++ (jp us).toArray ++ Builtin.zeroCells z.cells (grownCap w (xs.length + ys.length) cap E - (xs.length + ys.length))) (el := E) (fz := (0, 0)) (by simp [v1, u1]) (fun j x v hx hv => by
                 by_cases hj : j < xs.length
                 . rw [zL hj] at hx
                   rw [zL (by omega)] at hv
                   exact v2 j x v hx hv
                 . rw [zR (by omega)] at hx
                   rw [zR (by omega), <- v1] at hv
                   exact hpt _ x v hx hv) (fun x hx => by
                 rcases List.mem_append.1 hx with hx | hx
                 . exact v3 x hx
                 . exact hflat x hx) (fun hh x hx => by
                 rcases List.mem_append.1 hx with hx | hx
                 . exact v4 ((hnr hh).1 x hx) x hx
                 . exact (hnr hh).2 x hx) hz2 (fun k v hk => by
                 rw [hflv] at hk
                 rw [Array.getElem?_append_left (by simp; have := jg hk; simpa using this)]
                 simpa using hk) (by simpa using hge) (by
                 simp only [Array.size_append, hzc, List.size_toArray, kb v5, kb u4, <- v1, <- u1]
                 rw [<- Nat.add_mul, <- Nat.add_mul]
                 refine Nat.mul_le_mul_right _ (by omega)) (.inr rfl) (by simp) (by rw [kb hz2]; simp [v1, u1]) (fun _ he => by
                 have h9 := congrArg List.length he
                 simp at h9
                 have h10 : xs.length = 0 := by rw [h9.1]; rfl
                 have h11 : ys.length = 0 := by rw [h9.2]; rfl
                 omega) (fun he => by
                 exfalso
                 have h9 := congrArg List.length he
                 simp at h9
                 have h10 : xs.length = 0 := by rw [h9.1]; rfl
                 have h11 : ys.length = 0 := by rw [h9.2]; rfl
                 omega)
             have e : (xs ++ ys.map un2).length = xs.length + ys.length := by simp
             rw [e] at hR'
             exact ⟨rfl, _, _, _, hexec _ _ (by rw [hrx]; exact hrun), rfl, g', O', [], hG0.trans hg, hR', h4, rfl, Keep.refl _⟩
         . cases hs
       . simp at hs
       . cases hs
     . cases hs
   . cases hs
 . cases hs
end Go.Idl
namespace Go.Idl
variable [Globs]
variable {P : Program} {o : Oper} {a : Act} {g : Gh} {O : List Nat} {w : World} {s : St} {res : Res} {cf : jo}
theorem YH {zs : List IVal} (hz : 0 < zs.length) : ∀ (n k : Nat), k < n * zs.length -> (J2 n zs)[k]? = zs[k % zs.length]? := by
 intro n
 induction n with
 | zero => intro k hk; simp at hk
 | succ n ih =>
   intro k hk;have e : J2 (n + 1) zs = zs ++ J2 n zs := by simp [J2, List.replicate_succ]
   rw [e]
   by_cases h : k < zs.length
   . rw [zL h, Nat.mod_eq_of_lt h]
   . rw [zR (by omega), ih (k - zs.length) (by rw [Nat.add_mul] at hk; omega)]
     congr 1
     exact (Nat.mod_eq_sub_mod (by omega)).symm
theorem JQ (n : Nat) (zs : List IVal) : (J2 n zs).length = n * zs.length := by simp [J2]
theorem X7 {n : Int} (h0 : 0 <= n) (h : n <= 1099511627776) : IntKind.i64.wrap n = n := by
 have e : n % (18446744073709551616 : Int) = n := Int.emod_eq_of_lt h0 (by omega);show (if (true && decide (n % (18446744073709551616 : Int) ≥ 9223372036854775808)) = true then n % (18446744073709551616 : Int) - 18446744073709551616 else n % (18446744073709551616 : Int)) = n;rw [e, if_neg]
 simp; omega
theorem Xv {T E : TypeId} {i : TypeInfo} {z : Value} {l c : Nat} {k k' : IntKind} (hT : P.underlying T = some (.slice E)) (hi : P.info? E = some i) (hz : i.zero = some z) (hlc : l <= c) (hb : c * i.bytes <= 1099511627776) (hc : c <= 1099511627776) :
   (Instr.makeSlice T (.int k l) (.int k' c)).run P w = .ok (.slice (some ⟨w.heap.size, 0, none⟩) l c) (w.alloc (.cells ((Array.range (c * i.size)).map (fun j => z.cells[j % z.cells.size]!)) E)) := by
 have h1 : IntKind.i64.wrap (l : Int) = l := X7 (by omega) (by omega);have h2 : IntKind.i64.wrap (c : Int) = c := X7 (by omega) (by omega);have h3 : ¬ ((i.bytes : Int) * (c : Int) > 281474976710656) := by
   have : ((c * i.bytes : Nat) : Int) <= 1099511627776 := by omega
   rw [Int.natCast_mul, Int.mul_comm] at this;omega
 have h4 : (decide ((c : Int) < 0) || decide ((i.bytes : Int) * (c : Int) > 281474976710656) || decide ((l : Int) < 0) || decide ((l : Int) > (c : Int))) = false := by
   simp only [Bool.or_eq_false_iff, decide_eq_false_iff_not];refine ⟨⟨⟨by omega, h3⟩, by omega⟩, by omega⟩
 simp only [Instr.makeSlice, Sem.run_bind, jm hT, Result.andThen_ok, asInt, asIntOf, Sem.run_pure, typeInfo, run_program, hi, h1, h2];simp only [show (2 : Int) ^ 48 = 281474976710656 from rfl] at *;rw [if_neg (by simpa using h4)]
 by_cases hn : c * i.size = 0
 . have h00 : Array.map (fun x : Nat => (default : Value)) (Array.range 0) = #[] := Array.eq_empty_of_size_eq_zero (by simp);have h01 : Array.map (fun j : Nat => z.cells[j % z.cells.size]!) (Array.range 0) = #[] := Array.eq_empty_of_size_eq_zero (by simp);simp [jP hi, hn, newRow, h00, h01]
 . simp [jP hi, hn, newRow, zeroValue, typeInfo, hi, hz]
def jev (l : List Value) : Value := match l with
 | [c] => c
 | l => .agg l.toArray
def Zk (z : Value) : Value := jev z.cells.toList
theorem jaK : ∀ {l : List Value}, (∀ c, l = [c] -> c.cells = #[c]) -> (jev l).cells = l.toArray
 | [], _ => rfl
 | [c], h => h c rfl
 | _ :: _ :: _, _ => rfl
theorem jlY {g : Gh} {zs : List IVal} {z : Value} (hc : Xi zs z.cells.toList = true) : V g (Xo zs) (Zk z) := by
 obtain ⟨z1, z2⟩ := yD g hc;have hagg : V g (.agg (zs.map un1)) (.agg z.cells.toList.toArray) := by
   refine .agg _ _ (by simpa using z1) (fun i x v hx hv => ?_) (fun x hx => ?_)
   . simp only [List.getElem?_map, Option.map_eq_some_iff] at hx;obtain ⟨x', hx', rfl⟩ := hx;exact (z2 i x' v hx' (by simpa using hv)).1.un1
   . simp only [List.mem_map] at hx;obtain ⟨x', hx', rfl⟩ := hx;obtain ⟨j, hj⟩ := jx hx';obtain ⟨v, hv⟩ := jE z1 hj;rw [qQ]; exact (z2 j x' v hj hv).2.2
 cases hzs : zs with
 | nil =>
   rw [hzs] at z1 hagg;have e : z.cells.toList = [] := List.length_eq_zero_iff.1 z1.symm;simp only [Xo, Zk, jev, e];simpa [e] using hagg
 | cons x xs =>
   cases hxs : xs with
   | nil =>
     rw [hzs, hxs] at z1 z2;obtain ⟨c, e⟩ := List.length_eq_one_iff.1 z1.symm;simp only [Xo, Zk, jev, e];exact (z2 0 x c rfl (by simp [e])).1.un1
   | cons y ys =>
     rw [hzs, hxs] at z1 hagg
     cases e : z.cells.toList with
     | nil => simp [e] at z1
     | cons c cs =>
       cases e2 : cs with
       | nil => simp [e, e2] at z1
       | cons d ds =>
         simp only [Xo, Zk, jev, e, e2];simpa [e, e2] using hagg
theorem J8 {g : Gh} {zs : List IVal} {z : Value} (hc : Xi zs z.cells.toList = true) : (Zk z).cells = z.cells := by
 obtain ⟨z1, z2⟩ := yD g hc;have := jaK (l := z.cells.toList) (fun c e => by
   rw [e] at z1 z2;obtain ⟨x, hx⟩ : ∃ x, zs[0]? = some x := ⟨zs[0]'(by rw [z1]; simp), by simp⟩;have hV := z2 0 x c hx rfl;have h9 := hV.1.isCell;rw [hV.2.2] at h9;cases c <;> first | rfl | (simp [qu] at h9))
 simpa [Zk] using this
theorem jew {g : Gh} {zs : List IVal} {z : Value} (hc : Xi zs z.cells.toList = true) : yX (Xo zs) := by
 obtain ⟨z1, z2⟩ := yD g hc;have hagg : yX (.agg (zs.map Idl.un1)) := by
   refine ⟨?_, rfl⟩;simp only [un2, List.map_map]
   congr 1
   apply List.map_congr_left;intro x _;exact zo x
 cases zs with
 | nil => exact hagg
 | cons x xs =>
   cases xs with
   | cons y ys => exact hagg
   | nil =>
     obtain ⟨c, e⟩ := List.length_eq_one_iff.1 z1.symm;have := (z2 0 x c rfl (by simp [e])).2.2;have h1 : (Idl.un1 x).isCell = true := by rw [qQ]; exact this
     have h2 := zo x;show yX (Idl.un1 x)
     revert h1 h2
     cases Idl.un1 x <;> simp [yX, un2, nt, IVal.isCell]
theorem jeK (n : Nat) (v : Value) : jp (List.replicate n v) = (List.replicate n v.cells.toList).flatten := by
 simp [jp, List.flatMap]
theorem Zt {α : Type} {l : List α} (hl : 0 < l.length) : ∀ (n k : Nat), k < n * l.length -> (List.replicate n l).flatten[k]? = l[k % l.length]? := by
 intro n
 induction n with
 | zero => intro k hk; simp at hk
 | succ n ih =>
   intro k hk;have e : (List.replicate (n + 1) l).flatten = l ++ (List.replicate n l).flatten := by simp [List.replicate_succ]
   rw [e]
   by_cases h : k < l.length
   . rw [zL h, Nat.mod_eq_of_lt h]
   . rw [zR (by omega), ih (k - l.length) (by rw [Nat.add_mul] at hk; omega)]
     congr 1
     exact (Nat.mod_eq_sub_mod (by omega)).symm
theorem jii {byref : Bool} {zs : List IVal} {x y : Opd} {rx ry : Operand} {T E : TypeId} {i : TypeInfo} {z : Value} (hop : o.op = .makeSlice T rx ry) (hx : jl x rx = true) (hy : jl y ry = true) (hT : P.underlying T = some (.slice E)) (hi : P.info? E = some i) (hz : i.zero = some z)
   (hc : Xi zs z.cells.toList = true) (hzs : z.cells.size = i.size) (hs : ja cf (.mkSl byref i.size i.bytes zs x y) s = some res) (hl : WT s.ts a.tmps) (hR : R g O (s.ts.roots a.tmps) s.σ w) : SimV P o a g O w s res := by
 simp only [ja] at hs;split at hs
 . rename_i k l ts h;split at hs
   . rename_i k' c ts' h';split at hs
     . rename_i hcond;obtain ⟨c1, c2, c3, c4, c5, c6⟩ := hcond;obtain ⟨h1, h2⟩ := jk (l := []) hx h hl hR;obtain ⟨h3, h4⟩ := jk (l := [(.int k l, a.eval rx)]) hy h' h2 h1;obtain ⟨ln, rfl⟩ := Int.eq_ofNat_of_zero_le c1;obtain ⟨cn, rfl⟩ := Int.eq_ofNat_of_zero_le (Int.le_trans c1 c2);have hb : cn * i.bytes <= 1099511627776 := by
         have h9 := c3;rw [<- Int.natCast_mul] at h9;omega
       have hrun := Xv (P := P) (w := w) (l := ln) (c := cn) (k := k) (k' := k') hT hi hz (by omega) hb (by omega);have hexec : ∀ r w', (Instr.makeSlice T (.int k ln) (.int k' cn)).run P w = .ok r w' -> (execOp a.eval o).run P w = .ok (.value r) w' := by
         intro r w' hr;have e1 := h3.head.int_inv;have e2 := h3.drop.head.int_inv;simp only [execOp, hop, e1, e2];simp [hr]
       obtain ⟨z1, z2⟩ := yD (g.fresh w.heap.size) hc;have hroot : R g O (ts'.roots a.tmps) s.σ w := h3.drop.drop;split at hs
       . simp only [zO] at hs;subst hs;have hcells : ∀ (j : Nat) x v, (J2 cn zs)[j]? = some x -> ((Array.range (cn * i.size)).map (fun j => z.cells[j % z.cells.size]!))[j]? = some v -> V (g.fresh w.heap.size) x v /\ kX x v = [] /\ x.isCell = true := by
           intro j x v hx hv;have hj : j < cn * zs.length := by rw [<- JQ]; exact jg hx
           rw [YH (by omega) cn j hj] at hx;simp only [Array.getElem?_map, Array.getElem?_range] at hv;rw [c5] at hj;rw [if_pos hj] at hv;simp only [Option.map_some, zO] at hv;have hmod : j % z.cells.size < z.cells.size := Nat.mod_lt _ (by omega);refine z2 (j % zs.length) x v hx ?_;rw [<- hv];have : zs.length = z.cells.size := by omega
           rw [this];simp [getElem!_pos, hmod]
         have hnew := (hroot.push (ky g) rfl).new (obr := .cells ((Array.range (cn * i.size)).map (fun j => z.cells[j % z.cells.size]!)) E) (ob := .cells (J2 cn zs)) (fun _ =>
           ⟨_, E, jF w _, by simp [JQ, c5], fun j x v hx hv => ⟨(hcells j x v hx hv).1, (hcells j x v hx hv).2.2⟩⟩) ⟨[], by
           simp only [kV, j7];rw [flatten_nil];intro cc hcm;obtain ⟨j, x, y, h1, h2, rfl⟩ := jN hcm;exact (hcells j x y h1 (by rw [<- Array.getElem?_toList]; exact h2)).2.1, by simp⟩
         refine ⟨rfl, _, _, _, hexec _ _ hrun, rfl, _, w.heap.size :: O, [], (kH hR _).trans (Grow.setZ _ _ _ _ _), (hnew.setZ (z := cn * i.size) (jF w _) (by simp)).push (.rs _ _ _ _ _ _ ?_ (by exact_mod_cast c2) (by rw [Nat.zero_add]; exact VT _ _ _)) rfl, h4, rfl, Keep.snoc _ _⟩;simp [Gh.fresh, Gh.setZ, <- hR.len]
       . split at hs
         . rename_i hq;simp only [rv, zO] at hs;subst hs;have hfz : (jp (List.replicate ln (Zk z))).length = ln * i.size := by
             rw [kb (esz := i.size)]
             . simp
             . intro v hv; rw [List.eq_of_mem_replicate hv, J8 (g := g) hc]; exact hzs
           obtain ⟨g', O', hR', hg, hι⟩ := hroot.newSlice (xs := List.replicate ln (Xo zs)) (vs := List.replicate ln (Zk z)) (esz := i.size) (cap := cn) (own := jda i.size ln cn) (rf := false)
             (c := (Array.range (cn * i.size)).map (fun j => z.cells[j % z.cells.size]!)) (el := E) (fz := (0, 0)) (by simp) (fun j x v hx hv => by
               rw [List.eq_of_mem_replicate (zM hx), List.eq_of_mem_replicate (zM hv)];exact jlY hc) (fun x hx => by rw [List.eq_of_mem_replicate hx]; exact jew (g := g) hc) (fun _ x hx => by rw [List.eq_of_mem_replicate hx]; exact hq.1)
             (fun v hv => by rw [List.eq_of_mem_replicate hv, J8 (g := g) hc]; exact hzs) (fun k v hk => by
               have hk' := jg hk;rw [hfz] at hk';rw [jeK, J8 (g := g) hc, Zt (by simp [hzs]; omega) ln k (by simpa [hzs] using hk')] at hk;have hk2 : k < cn * i.size := Nat.lt_of_lt_of_le hk' (Nat.mul_le_mul_right _ (by omega));simp only [Array.getElem?_map, Array.getElem?_range, if_pos hk2, Option.map_some];have hmod : k % z.cells.size < z.cells.size := Nat.mod_lt _ (by omega);rw [<- hk];simp [getElem!_pos, hmod]) (by simp; omega) (by simp) (by unfold jda; split; exact .inl rfl; exact .inr rfl) (by simp) (by simpa using hfz) (fun h0 he => by
               have e0 : ln = 0 := by simpa using he
               by_cases hcn : cn = 0
               . exact hcn
               . exfalso; apply h0; unfold jda; rw [if_pos]; exact ⟨by omega, by omega⟩)
           simp only [List.length_replicate] at hR';exact ⟨rfl, _, _, _, hexec _ _ hrun, rfl, g', O', [], hg, hR', h4, rfl, Keep.refl _⟩
         . cases hs
     . cases hs
   . cases hs
 . cases hs
end Go.Idl
namespace Go.Idl
variable [Globs]
variable {P : Program} {o : Oper} {a : Act} {g : Gh} {O : List Nat} {w : World} {s : St} {res : Res} {cf : jo}
theorem vP (l l' : jH) : jR (l ++ l') = jR l ++ jR l' := by simp [jR]
theorem R.sub_own {A l : jH} {σ : List IObj} (h : R g O (A ++ l) σ w) : R g (jR A ++ kM w g.ι σ) A σ w := by
 have hn := h.nodup;have hs := h.sub;rw [vP] at hn hs;have hsub : (jR A ++ kM w g.ι σ).Sublist (jR A ++ jR l ++ kM w g.ι σ) := by
   rw [zS]; exact List.Sublist.append (.refl _) (List.sublist_append_right _ _)
 have hO : ∀ b ∈ jR A ++ kM w g.ι σ, b ∈ O := fun b hb => hs b (hsub.mem hb);exact ⟨h.len, fun p hp => h.vals p (by simp [hp]), h.objo, hn.sublist hsub, fun b hb => hb, fun b hb => h.lt b (hO b hb), h.claim, h.apart, fun b hb => h.spare b (hO b hb), h.glob, h.zs⟩
theorem R.frame {A A' l : jH} {σ σ' : List IObj} {g' : Gh} {Oa' : List Nat} {w' : World} (h : R g O (A ++ l) σ w) (hg : Grow (jR A ++ kM w g.ι σ) g w Oa' g' w') (h' : R g' Oa' A' σ' w') :
   ∃ O', R g' O' (A' ++ l) σ' w' /\ Grow O g w O' g' w' := by
 have hn := h.nodup;have hs := h.sub;rw [vP] at hn hs;have hOa : ∀ b ∈ jR A ++ kM w g.ι σ, b ∈ O := fun b hb => hs b (by
   rcases List.mem_append.1 hb with hb | hb
   . simp [hb]
   . simp [hb])
 have hlO : ∀ b ∈ jR l, b ∈ O := fun b hb => hs b (by simp [hb]);have hdis : ∀ b ∈ jR l, b ∉ jR A ++ kM w g.ι σ := by
   intro b hb hm;rw [List.nodup_append] at hn;obtain ⟨h1, h2, h3⟩ := hn;rw [List.nodup_append] at h1
   rcases List.mem_append.1 hm with hm | hm
   . exact h1.2.2 b hm b hb rfl
   . exact h3 b (by simp [hb]) b hm rfl
 have hdis' : ∀ b ∈ jR l, b ∉ Oa' := by
   intro b hb hm
   rcases hg.fresh b hm with h1 | h1
   . exact hdis b hb h1
   . have := h.lt b (hlO b hb); omega
 refine ⟨Oa' ++ O.filter (fun b => decide (b ∉ jR A ++ kM w g.ι σ)), ⟨h'.len, fun p hp => ?_, h'.objo, ?_, fun b hb => ?_, fun b hb => ?_, h'.claim, h'.apart, fun b hb => ?_, h'.glob, h'.zs⟩, ⟨hg.size, fun b hb hO => hg.same b hb (fun hm => hO (hOa b hm)), hg.mono, hg.preo, fun b hb => ?_, hg.code, hg.os, hg.tape, hg.output, hg.zm⟩⟩
 . rcases List.mem_append.1 hp with hp | hp
   . exact h'.vals p hp
   . have hpl : ∀ b ∈ jA p.1 p.2, b ∈ jR l := fun b hb => by
       simp only [jR, List.mem_flatten, List.mem_map]; exact ⟨_, ⟨p, hp, rfl⟩, hb⟩
     exact (h.vals p (by simp [hp])).mono hg.pre hg.mono (fun b hb => (hg.same b (h.lt b (hlO b (hpl b hb))) (hdis b (hpl b hb))).2.1) hg.zm
 . rw [vP, zS];have h1 := h'.nodup;have h2 : (jR l).Nodup := (List.nodup_append.1 (List.nodup_append.1 hn).1).2.1;have hp : (jR A' ++ (jR l ++ kM w' g'.ι σ')).Perm (jR l ++ (jR A' ++ kM w' g'.ι σ')) := by
     rw [<- zS, <- zS];exact List.perm_append_comm.append_right _
   rw [hp.nodup_iff, List.nodup_append];exact ⟨h2, h1, fun b hb c hc e => hdis' b hb (e ▸ h'.sub c hc)⟩
 . rw [vP] at hb;simp only [List.mem_append] at hb
   rcases hb with (hb | hb) | hb
   . exact List.mem_append_left _ (h'.sub b (by simp [hb]))
   . refine List.mem_append_right _ (List.mem_filter.2 ⟨hlO b hb, ?_⟩);simpa using hdis b hb
   . exact List.mem_append_left _ (h'.sub b (by simp [hb]))
 . rcases List.mem_append.1 hb with hb | hb
   . exact h'.lt b hb
   . exact Nat.lt_of_lt_of_le (h.lt b (List.mem_filter.1 hb).1) hg.size
 . rcases List.mem_append.1 hb with hb | hb
   . exact h'.spare b hb
   . obtain ⟨hbO, hbn⟩ := List.mem_filter.1 hb;have hbn' : b ∉ jR A ++ kM w g.ι σ := by simpa using hbn
     obtain ⟨e1, e2, e3⟩ := hg.same b (h.lt b hbO) hbn';intro ext top ht;rw [e2] at ht;obtain ⟨⟨c, el, fz, q1, q2, q3⟩, q4⟩ := h.spare b hbO ext top ht;exact ⟨⟨c, el, fz, by rw [e1]; exact q1, q2, q3⟩, fun o ho => by rw [e3]; exact q4 o ho⟩
 . rcases List.mem_append.1 hb with hb | hb
   . rcases hg.fresh b hb with h1 | h1
     . exact .inl (hOa b h1)
     . exact .inr h1
   . exact .inl (List.mem_filter.1 hb).1
def WF (ρ : Option Nat) : Fence := { Fence.wide with round := ρ }
def jcS (pan : Bool) (v : Value) : Ending := if pan then .panicked [{ v, recovered := false }] else .returned v
def Callable (P : Program) (f : FuncId) : Prop := ∃ fn, P.funcs[f]? = some fn /\ fn.name ≠ "runtime.NumGoroutine" /\ fn.body ≠ none
def JH (g : Gh) (O : List Nat) (w : World) (σ : List IObj) (out : Out) (e : Ending) (w' : World) : Prop :=
 ∃ g' O' v', e = jcS out.pan v' /\ Grow O g w O' g' w' /\ R g' O' [(out.v, v')] out.σ w' /\ Keep σ out.σ out.wr
abbrev jaz := Nat -> Nat -> Nat -> Code -> ICode -> Prop
def vp (r : Loop) (rargs : Array Value) : Array Value := (r.params.zip rargs).foldl (fun tmps (t, a) => tmps.setIfInBounds t a) r.tmps
structure CallOK (P : Program) (C0 : jaz) (cf : jo) : Prop where
 fn : ∀ f args σ out, cf (.f f) args σ = some out -> Callable P f /\
   ∀ g O (rargs : Array Value) w, g.C = C0 -> args.length = rargs.toList.length -> R g O (args.zip rargs.toList) σ w -> CallsIn Fence.wide 0 P f rargs w (JH g O w σ out)
 yl : ∀ id args σ out, cf (.y id) args σ = some out -> ∀ g O (rargs : Array Value) w b, g.C = C0 -> g.ι[id]? = some (Blk.bk b) -> args.length = rargs.toList.length -> R g O (args.zip rargs.toList) σ w ->
   ∃ r : Loop, w.heap[b]? = some (.loop r) /\ rargs.size = r.params.size /\ RoundIn Fence.wide 0 P b r.fn (vp r rargs) r.assign r.body w (JH g O w σ out)
theorem jdj {ρ : Option Nat} {n l : Nat} {f : FuncId} {tmps : Array Value} {x y : Code} {R : Ending -> World -> Prop} (h : RoundIn Fence.wide 0 P l f tmps x y w R) : RoundIn (WF ρ) n P l f tmps x y w R :=
 ⟨trivial, fun c cs _ => h.2 c cs (room_wide _)⟩
theorem KV {ρ : Option Nat} {n : Nat} {f : FuncId} {args : Array Value} {R : Ending -> World -> Prop} (h : CallsIn Fence.wide 0 P f args w R) : CallsIn (WF ρ) n P f args w R := by
 cases ρ with
 | none => exact h.more (Nat.zero_le _)
 | some l => exact (h.more (Nat.zero_le _)).inRound l
def OpRes (P : Program) (o : Oper) (a : Act) (g : Gh) (O : List Nat) (w : World) (s : St) (res : Res) : Prop :=
 ∀ (ρ : Option Nat) (n : Nat) (next : Act -> World -> Prop) (Q : Exit -> Act -> World -> Prop),
   (res.pan = false -> ∀ v' w', Post g O w s res.v v' res.s a w' -> next (a.put o.dst v') w') ->
   (res.pan = true -> ∀ v' w', Post g O w s res.v v' res.s a w' -> Q (.panic [{ v := v', recovered := false }]) a w') ->
   o.wpIn (WF ρ) n P a w next Q
theorem OpRes.of_val (h : SimV P o a g O w s res) (hd : ∀ c, o.op ≠ .defer c) : OpRes P o a g O w s res := by
 intro ρ n next Q h1 _;obtain ⟨hp, v', w', nx, hrun, hnx, hpost⟩ := h;refine ⟨fun _ _ => trivial, ?_⟩;rw [Oper.semAt_eq _ _ _ hd, hrun]
 cases nx with
 | value u => simp only [jhG] at hnx; subst hnx; exact h1 hp _ _ hpost
 | skip => simp only [jhG] at hnx; subst hnx; exact h1 hp _ _ hpost
 | _ => exact absurd hnx (by simp [jhG])
theorem K7 {f : FuncId} {vs : List IVal} {ts : Ts} {rargs : Array Value} {C0 : jaz} (hcf : CallOK P C0 cf) (hC : g.C = C0) (hd : ∀ c, o.op ≠ .defer c) (hrun : Callable P f -> (execOp a.eval o).run P w = .ok (.enter f rargs) w) (hlen : vs.length = rargs.toList.length)
   (hR : R g O (vs.zip rargs.toList ++ ts.roots a.tmps) s.σ w) (hl : WT ts a.tmps) (hs : stepCall cf (.f f) vs ts s = some res) : OpRes P o a g O w s res := by
 intro ρ n next Q h1 h2;unfold stepCall at hs;split at hs
 . rename_i out hout;simp only [zO] at hs;subst hs;obtain ⟨hcall, hc⟩ := hcf.fn f vs s.σ out hout;refine ⟨fun _ _ => trivial, ?_⟩;rw [Oper.semAt_eq _ _ _ hd, hrun hcall, Oper.uponIn_enter];refine ⟨fun h => by simp [WF, Fence.wide] at h, ?_⟩;refine KV ((hc g _ rargs w hC hlen hR.sub_own).mono ?_);rintro e w' ⟨g', O', v', rfl, hg, hR', hk⟩;obtain ⟨O'', hR'', hg''⟩ := hR.frame hg hR';have hpost : Post g O w s out.v v' (jQ out s ts).s a w' := ⟨g', O'', out.wr, hg'', by simpa [jQ] using hR'', hl, rfl, hk⟩
   cases hpan : out.pan with
   | false =>
     have : jcS false v' = .returned v' := rfl;rw [this];exact h1 (by simp [jQ, hpan]) _ _ hpost
   | true =>
     have : jcS true v' = .panicked [{ v := v', recovered := false }] := rfl;rw [this];exact h2 (by simp [jQ, hpan]) _ _ hpost
 . cases hs
theorem jbb {id b : Nat} {vs : List IVal} {ts : Ts} {rargs : Array Value} {C0 : jaz} (hcf : CallOK P C0 cf) (hC : g.C = C0) (hd : ∀ c, o.op ≠ .defer c)
   (hrun : ∀ r : Loop, w.heap[b]? = some (.loop r) -> rargs.size = r.params.size -> (execOp a.eval o).run P w = .ok (.round b r.fn (vp r rargs) r.assign r.body) w) (hι : g.ι[id]? = some (Blk.bk b)) (hlen : vs.length = rargs.toList.length)
   (hR : R g O (vs.zip rargs.toList ++ ts.roots a.tmps) s.σ w) (hl : WT ts a.tmps) (hs : stepCall cf (.y id) vs ts s = some res) : OpRes P o a g O w s res := by
 intro ρ n next Q h1 h2;unfold stepCall at hs;split at hs
 . rename_i out hout;simp only [zO] at hs;subst hs;obtain ⟨r, q1, q2, q3⟩ := hcf.yl id vs s.σ out hout g _ rargs w b hC hι hlen hR.sub_own;refine ⟨fun _ _ => trivial, ?_⟩;rw [Oper.semAt_eq _ _ _ hd, hrun r q1 q2, Oper.uponIn_round];refine ⟨fun h => by simp [WF, Fence.wide] at h, ?_⟩;refine jdj (q3.mono ?_);rintro e w' ⟨g', O', v', rfl, hg, hR', hk⟩;obtain ⟨O'', hR'', hg''⟩ := hR.frame hg hR';have hpost : Post g O w s out.v v' (jQ out s ts).s a w' := ⟨g', O'', out.wr, hg'', by simpa [jQ] using hR'', hl, rfl, hk⟩
   cases hpan : out.pan with
   | false =>
     have : jcS false v' = .returned v' := rfl;rw [this];exact h1 (by simp [jQ, hpan]) _ _ hpost
   | true =>
     have : jcS true v' = .panicked [{ v := v', recovered := false }] := rfl;rw [this];exact h2 (by simp [jQ, hpan]) _ _ hpost
 . cases hs
theorem jbq {c : Call} {r : Operand} {b : Nat} {L : Loop} (hop : o.op = .call c) (hc : c.callee = .value r) (hr : a.eval r = .func (.yield b) #[] #[]) (h : w.heap[b]? = some (.loop L)) (hs : (c.args.map a.eval).size = L.params.size) :
   (execOp a.eval o).run P w = .ok (.round b L.fn (vp L (c.args.map a.eval)) L.assign L.body) w := by
 have := run_yield (P := P) (w := w) (args := c.args.map a.eval) h hs;simp [execOp, hop, resolve, hc, hr, Deferred.ofValue, invoke, vp, this]
theorem YJ {f : FuncId} {c : Call} {args : Array Value} {caps firsts : Array Value} (hop : o.op = .call c) {r : Operand} (hc : c.callee = .value r) (hr : a.eval r = .func (.func f) firsts caps) (hf : Callable P f) :
   (execOp a.eval o).run P w = .ok (.enter f (firsts ++ c.args.map a.eval ++ caps)) w := by
 obtain ⟨fn, h1, h2, h3⟩ := hf;simp [execOp, hop, resolve, hc, hr, Deferred.ofValue, invoke, callFunc, h1, h2, h3]
theorem QP {f : FuncId} {c : Call} {xs : List Opd} {C0 : jaz} (hcf : CallOK P C0 cf) (hC : g.C = C0) (hop : o.op = .call c) (hc : c.callee = .value (.func f)) (hx : jD xs c.args.toList = true) (hs : ja cf (.call f xs) s = some res)
   (hl : WT s.ts a.tmps) (hR : R g O (s.ts.roots a.tmps) s.σ w) : OpRes P o a g O w s res := by
 simp only [ja] at hs;split at hs
 . rename_i vs ts h;obtain ⟨h1, h2, h3⟩ := jX (l := []) hx h hl hR;refine K7 (rargs := c.args.map a.eval) hcf hC (fun c' h => by rw [hop] at h; cases h) (fun hf => ?_) (by simpa using h3) (by simpa using h1) h2 hs;rw [YJ (args := #[]) hop hc (f := f) (firsts := #[]) (caps := #[]) rfl hf];simp
 . cases hs
theorem jba {c : Call} {r : Operand} {x : Opd} {xs : List Opd} {C0 : jaz} (hcf : CallOK P C0 cf) (hC : g.C = C0) (hop : o.op = .call c) (hc : c.callee = .value r) (hr : jl x r = true) (hx : jD xs c.args.toList = true) (hs : ja cf (.callv x xs) s = some res)
   (hl : WT s.ts a.tmps) (hR : R g O (s.ts.roots a.tmps) s.σ w) : OpRes P o a g O w s res := by
 simp only [ja] at hs;split at hs
 . rename_i gf us ws ts h;split at hs
   . rename_i vs ts' h';obtain ⟨h1, h2⟩ := jk (l := []) hr h hl hR;obtain ⟨h3, h4, h5⟩ := jX (l := [(.fn (.func gf) us ws, a.eval r)]) hx h' h2 h1;have hV : V g (.fn (.func gf) us ws) (a.eval r) := h3.vals (.fn (.func gf) us ws, a.eval r) (by simp);generalize hrv : a.eval r = rv at hV h3
     cases hV with
     | fn _ _ _ firsts caps hl1 hv1 hf1 hl2 hv2 hf2 =>
     refine K7 (rargs := firsts ++ c.args.map a.eval ++ caps) hcf hC (fun c' h => by rw [hop] at h; cases h) (fun hf => YJ (args := #[]) hop hc hrv hf) (by simp at h5 ⊢; omega) ?_ h4 hs;have hz : (us ++ vs ++ ws).zip (firsts ++ c.args.map a.eval ++ caps).toList = us.zip firsts.toList ++ vs.zip (c.args.toList.map a.eval) ++ ws.zip caps.toList := by
       simp only [Array.toList_append, Array.toList_map];rw [List.zip_append (by simp at h5 ⊢; omega), List.zip_append (by simpa using hl1)]
     rw [hz];have hbase : R g O (vs.zip (c.args.toList.map a.eval) ++ ts'.roots a.tmps) s.σ w := by
       have hp : (vs.zip (c.args.toList.map a.eval) ++ ([(IVal.fn (.func gf) us ws, Value.func (.func gf) firsts caps)] ++ ts'.roots a.tmps)).Perm ((IVal.fn (.func gf) us ws, Value.func (.func gf) firsts caps) :: (vs.zip (c.args.toList.map a.eval) ++ ts'.roots a.tmps)) := List.perm_middle;exact (h3.perm hp).drop
     have y0 : ∀ (l0 : jH) (xs : List IVal) (vs : List Value), xs.length = vs.length -> (∀ (i : Nat) x v, xs[i]? = some x -> vs[i]? = some v -> V g x v) -> (∀ x ∈ xs, yX x) -> R g O l0 s.σ w -> R g O (xs.zip vs ++ l0) s.σ w := by
       intro l0 xs
       induction xs with
       | nil => intro vs _ _ _ h; simpa using h
       | cons x xs ih =>
         intro vs hl hv hf h
         cases vs with
         | nil => simp at hl
         | cons v vs =>
           simp only [List.zip_cons_cons, List.cons_append];exact (ih vs (by simpa using hl) (fun i x v hx hw => hv (i + 1) x v (by simpa using hx) (by simpa using hw)) (fun x hx => hf x (by simp [hx])) h).push (hv 0 x v rfl rfl) (jK (hf x (by simp)) v)
     have h6 := y0 _ ws caps.toList (by simpa using hl2) (fun i x v hx hw => hv2 i x v hx (by simpa using hw)) hf2 hbase;have h7 := y0 _ us firsts.toList (by simpa using hl1) (fun i x v hx hw => hv1 i x v hx (by simpa using hw)) hf1 h6;refine h7.perm ?_;rw [zS, zS];refine List.Perm.append_left _ ?_;rw [<- zS, <- zS];exact List.perm_append_comm.append_right _
   . cases hs
 . rename_i id ts h;split at hs
   . rename_i vs ts' h';obtain ⟨h1, h2⟩ := jk (l := []) hr h hl hR;obtain ⟨h3, h4, h5⟩ := jX (l := [(.yl id, a.eval r)]) hx h' h2 h1;have hV : V g (.yl id) (a.eval r) := h3.vals (.yl id, a.eval r) (by simp);generalize hrv : a.eval r = rv at hV h3
     cases hV with
     | yl _ b hb =>
     have hbase : R g O (vs.zip (c.args.map a.eval).toList ++ ts'.roots a.tmps) s.σ w := by
       have hp : (vs.zip (c.args.toList.map a.eval) ++ ([(IVal.yl id, Value.func (.yield b) #[] #[])] ++ ts'.roots a.tmps)).Perm ((IVal.yl id, Value.func (.yield b) #[] #[]) :: (vs.zip (c.args.toList.map a.eval) ++ ts'.roots a.tmps)) := List.perm_middle;simpa using (h3.perm hp).drop
     exact jbb (rargs := c.args.map a.eval) hcf hC (fun c' h => by rw [hop] at h; cases h) (fun L q1 q2 => jbq hop hc hrv q1 q2) hb (by simpa using h5) hbase h4 hs
   . cases hs
 . cases hs
theorem ja9 {f : FuncId} {c : Call} {xs : List Opd} {C0 : jaz} (hcf : CallOK P C0 cf) (hC : g.C = C0) (hop : o.op = .call c) (hc : c.callee = .value (.func f)) (hx : jD xs c.args.toList = true) (hs : ja cf (.callp f xs) s = some res)
   (hl : WT s.ts a.tmps) (hR : R g O (s.ts.roots a.tmps) s.σ w) : OpRes P o a g O w s res := by
 simp only [ja] at hs;split at hs
 . rename_i vs ts h;split at hs
   . rename_i hnr;split at hs
     . rename_i v σ1 wr1 hout;split at hs
       . rename_i hnv;simp only [rv, zO] at hs;subst hs;obtain ⟨h1, h2, h3⟩ := jX (l := []) hx h hl hR;simp only [List.nil_append] at h1;obtain ⟨hcall, hcc⟩ := hcf.fn f vs [] _ hout;intro ρ n next Q n1 _;refine ⟨fun _ _ => trivial, ?_⟩;rw [Oper.semAt_eq _ _ _ (fun c' h => by rw [hop] at h; cases h), YJ (args := #[]) hop hc (f := f) (firsts := #[]) (caps := #[]) rfl hcall, Oper.uponIn_enter];refine ⟨fun h => by simp [WF, Fence.wide] at h, ?_⟩;have hsub := h1.sub_own;have hnl : ∀ p ∈ vs.zip (c.args.toList.map a.eval), V (g.cut 0) p.1 p.2 := by
           intro p hp;have hm : p.1 ∈ vs := (List.of_mem_zip hp).1;exact (h1.vals p (by simp [hp])).cut 0 ((h1.vals p (by simp [hp])).norl 0 (kJ (List.all_eq_true.1 hnr p.1 hm)))
         have hcut : (g.cut 0).ι = [] := by simp [Gh.cut]
         have hOs : kM w (g.cut 0).ι [] = [] := by simp [kM]
         have hRa : R (g.cut 0) (jR (vs.zip (c.args.toList.map a.eval))) (vs.zip (c.args.toList.map a.eval)) [] w := by
           refine ⟨by simp [Gh.cut], hnl, fun id b o h => by rw [hcut] at h; simp at h, ?_, ?_, fun b hb => hsub.lt b (by simp [hb]), h1.claim, fun id b o h => by rw [hcut] at h; simp at h, fun b hb => hsub.spare b (by simp [hb]), h1.glob, h1.zs⟩
           . rw [hOs, List.append_nil]; exact (List.nodup_append.1 hsub.nodup).1
           . rw [hOs, List.append_nil]; exact fun b hb => hb
         have hlen : vs.length = (c.args.map a.eval).toList.length := by simpa using h3
         have hcall' := hcc (g.cut 0) _ (c.args.map a.eval) w hC hlen (by simpa using hRa);have e : (#[] : Array Value) ++ c.args.map a.eval ++ #[] = c.args.map a.eval := by simp
         rw [e];refine KV (hcall'.mono ?_);rintro e w' ⟨g', O', v', rfl, hg, hR', hk⟩
         -- the caller's own ghost, with what has come to be known
         let g'' : Gh := { ι := g.ι, M := g'.M, T := g'.T, C := g.C, Z := g'.Z }
         have hV0 : V (g'.cut 0) v v' := (hR'.vals (v, v') (by simp)).cut 0 ((hR'.vals (v, v') (by simp)).norl 0 hnv);have hV : V g'' v v' := by
           refine hV0.mono (fun id b hb => by simp [Gh.cut] at hb) (fun _ _ _ h => h) (fun _ _ => rfl) (fun _ => Nat.le_refl _)
         have hgrow : Grow (jR (vs.zip (c.args.toList.map a.eval)) ++ kM w g.ι s.σ) g w (jR [(v, v')] ++ kM w g.ι s.σ) g'' w' := by
           refine ⟨hg.size, fun b hb hO => hg.same b hb (fun hm => hO (by simp [show b ∈ jR (vs.zip (c.args.toList.map a.eval)) by simpa using hm])), hg.mono, fun _ _ h => h, fun b hb => ?_, rfl, hg.os, hg.tape, hg.output, hg.zm⟩
           rcases List.mem_append.1 hb with hb | hb
           . rcases hg.fresh b (hR'.sub b (by simp [hb])) with h1 | h1
             . exact .inl (by simp at h1 ⊢; exact .inl h1)
             . exact .inr h1
           . exact .inl (by simp [hb])
         have hSlt : ∀ b ∈ kM w g.ι s.σ, b < w.heap.size /\ b ∉ jR (vs.zip (c.args.toList.map a.eval)) := by
           intro b hb;refine ⟨hsub.lt b (by simp [hb]), fun hm => (List.nodup_append.1 hsub.nodup).2.2 b hm b hb rfl⟩
         have hSsame : ∀ b ∈ kM w g.ι s.σ, w'.heap[b]? = w.heap[b]? /\ g'.T b = g.T b /\ ∀ o, g'.M b o = g.M b o := by
           intro b hb;obtain ⟨q1, q2⟩ := hSlt b hb;exact hg.same b q1 (by simpa using q2)
         have hOO : ∀ (id b : Nat) x, g.ι[id]? = some (Blk.bk b) -> s.σ[id]? = some x -> kV w' b x = kV w b x := by
           intro id b x q1 q2
           by_cases hd : x = .dead
           . subst hd; rfl
           . exact vQ (hSsame b (j6 q1 q2 (jU hd))).1 x
         have hS' : kM w' g.ι s.σ = kM w g.ι s.σ := by simp only [kM]; rw [zu (Ke hOO)]
         have hRes : R g'' (jR [(v, v')] ++ kM w g.ι s.σ) [(v, v')] s.σ w' := by
           refine ⟨hsub.len, fun p hp => by simp at hp; subst hp; exact hV, fun id b x q1 q2 => ?_, ?_, fun b hb => by rw [hS'] at hb; exact hb, fun b hb => ?_, hR'.claim, fun id b x q1 q2 hm k => ?_, fun b hb => ?_, hR'.glob, hR'.zs⟩
           . cases b with
             | un zs => exact hsub.objo id (.un zs) x q1 q2
             | bk b =>
             by_cases hd : x = .dead
             . subst hd; trivial
             . exact (hsub.objs id b x q1 q2).mono (hSsame b (j6 q1 q2 (jU hd))).1 (fun _ _ h => h) hg.mono rfl (fun b' hb' => (hSsame b' (j6 q1 q2 hb')).2.1) hg.zm
           . rw [hS', List.nodup_append];refine ⟨(List.nodup_append.1 hR'.nodup).1, (List.nodup_append.1 hsub.nodup).2.1, fun b hb c hc e => ?_⟩;subst e;obtain ⟨q1, q2⟩ := hSlt b hc
             rcases hg.fresh b (hR'.sub b (by simp [hb])) with h1 | h1
             . exact q2 (by simpa using h1)
             . omega
           . rcases List.mem_append.1 hb with hb | hb
             . exact hR'.lt b (hR'.sub b (by simp [hb]))
             . exact Nat.lt_of_lt_of_le (hSlt b hb).1 hg.size
           . rw [hOO id b x q1 q2] at hm;rw [(hSsame b (j6 q1 q2 hm)).2.2 k];exact hsub.apart id b x q1 q2 hm k
           . rcases List.mem_append.1 hb with hb | hb
             . exact hR'.spare b (hR'.sub b (by simp [hb]))
             . obtain ⟨e1, e2, e3⟩ := hSsame b hb;intro ext top ht;have ht' : g.T b = some (ext, top) := by rw [<- e2]; exact ht
               obtain ⟨⟨c, el, fz, q1, q2, q3⟩, q4⟩ := hsub.spare b (by simp [hb]) ext top ht';exact ⟨⟨c, el, fz, by rw [e1]; exact q1, q2, q3⟩, fun o ho => by show g'.M b o = none; rw [e3]; exact q4 o ho⟩
         obtain ⟨O'', hR'', hg''⟩ := h1.frame hgrow hRes;exact n1 rfl _ _ ⟨g'', O'', [], hg'', by simpa using hR'', h2, rfl, Keep.refl _⟩
       . cases hs
     . cases hs
   . cases hs
 . cases hs
end Go.Idl
namespace Go.Idl
variable [Globs]
variable {P : Program} {g : Gh} {w : World}
def jmg (P : Program) (fl : TypeId -> Option (List Nat)) : Nat -> List Field -> Option (List Nat)
 | _, [] => some []
 | off, f :: fs => if f.name != "_" && f.offset == off then match fl f.type, P.info? f.type with
   | some ks, some i => if ks.length == i.size then match jmg P fl (off + i.size) fs with
     | some r => some (ks ++ r)
     | none => none
     else none
   | _, _ => none
   else none
def JY (P : Program) : Nat -> TypeId -> Option (List Nat)
 | 0, _ => none
 | d + 1, T => match P.underlying T, P.info? T with
   | some .bool, some i => if i.size == 1 then some [2] else none
   | some (.int _), some i => if i.size == 1 then some [0] else none
   | some .string, some i => if i.size == 1 then some [1] else none
   | some (.array n E), some i => match JY P d E, P.info? E with
     | some ks, some e => if ks.length == e.size && i.size == n * e.size then some (List.replicate n ks).flatten else none
     | _, _ => none
   | some (.struct fs), some i => match jmg P (JY P d) 0 fs.toList with
     | some ks => if ks.length == i.size && !P.stoodInHeld T then some ks else none
     | none => none
   | _, _ => none
def pnT (P : Program) (T : TypeId) : Option Nat :=
 match P.underlying T with
 | some (.struct _) => (P.info? T).map (·.size)
 | some (.array _ _) => (P.info? T).map (·.size)
 | _ => none
def Z7 : Option Nat -> IVal -> Prop
 | some n, z => ∃ cs, z = .agg cs /\ cs.length = n
 | none, z => z.isCell = true
theorem VU {n : Option Nat} {cs : List IVal} {off : Nat} {z : IVal} (hi : ∀ x ∈ cs, x.isCell = true) (h : kx n cs off = some z) : Z7 n z := by
 cases n with
 | some n =>
   simp only [kx] at h
   split at h
   . simp only [zO] at h; subst h; exact ⟨_, rfl, by simp; omega⟩
   . cases h
 | none => exact hi z (zM h)
theorem Zr {d : Nat} {T : TypeId} {ks : List Nat} (h : JY P d T = some ks) : tyN P T (pnT P T) = true /\ ∃ i, P.info? T = some i /\ i.size = (pnT P T).getD 1 /\ ks.length = i.size := by
 cases d with
 | zero => simp [JY] at h
 | succ d =>
   simp only [JY] at h
   split at h
   . rename_i h1 h2; split at h <;> simp at h; subst h; rename_i h3; simp only [beq_iff_eq] at h3; simp [tyN, pnT, h1, h2, h3]
   . rename_i h1 h2; split at h <;> simp at h; subst h; rename_i h3; simp only [beq_iff_eq] at h3; simp [tyN, pnT, h1, h2, h3]
   . rename_i h1 h2; split at h <;> simp at h; subst h; rename_i h3; simp only [beq_iff_eq] at h3; simp [tyN, pnT, h1, h2, h3]
   . rename_i n E i h1 h2
     split at h
     . split at h <;> simp at h; subst h; rename_i h3
       simp only [zA, beq_iff_eq] at h3
       simp [tyN, pnT, h1, h2, h3]
     . cases h
   . rename_i h1 h2
     split at h
     . split at h <;> simp at h; subst h; rename_i h3
       simp only [zA, beq_iff_eq] at h3
       simp [tyN, pnT, h1, h2, h3.1]
     . cases h
   . cases h
theorem X6 {n : Option Nat} {cs : List IVal} {off : Nat} (h : off + n.getD 1 <= cs.length) : ∃ z, kx n cs off = some z := by
 cases n with
 | some n => simp only [kx]; rw [if_pos (by simpa using h)]; exact ⟨_, rfl⟩
 | none => simp only [kx]; simp at h; exact ⟨cs[off], by rw [List.getElem?_eq_getElem]⟩
theorem jjP : ∀ {ks ls : List Nat} {a b c d : List IVal}, a.length = ks.length -> c.length = ks.length -> eqK (ks ++ ls) (a ++ b) (c ++ d) = match eqK ks a c with
   | some true => eqK ls b d
   | some false => some false
   | none => none := by
 intro ks
 induction ks with
 | nil => intro ls a b c d h h'; cases a <;> simp at h; cases c <;> simp at h'; simp [eqK]
 | cons k ks ih =>
   intro ls a b c d h h'
   cases a with
   | nil => simp at h
   | cons x a =>
   cases c with
   | nil => simp at h'
   | cons y c =>
     simp only [List.cons_append, eqK]
     split
     . cases vA x y with
       | none => rfl
       | some r => cases r with
         | false => rfl
         | true => exact ih (by simpa using h) (by simpa using h')
     . rfl
theorem jgT {ks ls : List Nat} {xs ys : List IVal} {off : Nat} {r : Bool} (h1 : off + ks.length <= xs.length) (h2 : off + ks.length <= ys.length) (h : eqK (ks ++ ls) (xs.drop off) (ys.drop off) = some r) :
   ∃ r1, eqK ks ((xs.drop off).take ks.length) ((ys.drop off).take ks.length) = some r1 /\ ((r1 = false /\ r = false) \/ (r1 = true /\ eqK ls (xs.drop (off + ks.length)) (ys.drop (off + ks.length)) = some r)) := by
 have e1 : xs.drop off = (xs.drop off).take ks.length ++ xs.drop (off + ks.length) := by rw [<- List.drop_drop]; exact (List.take_append_drop _ _).symm
 have e2 : ys.drop off = (ys.drop off).take ks.length ++ ys.drop (off + ks.length) := by rw [<- List.drop_drop]; exact (List.take_append_drop _ _).symm
 rw [e1, e2, jjP (by simp; omega) (by simp; omega)] at h
 split at h
 . rename_i q; exact ⟨true, q, .inr ⟨rfl, h⟩⟩
 . rename_i q; simp at h; exact ⟨false, q, .inl ⟨rfl, h⟩⟩
 . cases h
def EqP (P : Program) (g : Gh) (d : Nat) (T : TypeId) (ks : List Nat) : Prop := ∀ (w : World) (z1 z2 : IVal) (u1 u2 : Value) (r : Bool), V g z1 u1 -> V g z2 u2 -> Z7 (pnT P T) z1 -> Z7 (pnT P T) z2 -> eqK ks z1.cells z2.cells = some r ->
 (Op.equalIn d T u1 u2).run P w = .ok r w
theorem J0 {n : Option Nat} {cs : List IVal} {off : Nat} {z : IVal} (hi : ∀ x ∈ cs, x.isCell = true) (h : kx n cs off = some z) : z.cells = (cs.drop off).take (n.getD 1) := by
 cases n with
 | some n =>
   simp only [kx] at h
   split at h
   . simp only [zO] at h; subst h; rfl
   . cases h
 | none =>
   simp only [kx] at h
   have hc := hi z (zM h)
   have e1 : z.cells = [z] := by cases z <;> simp_all [IVal.cells, IVal.isCell]
   have hlt := jg h
   rw [e1, List.drop_eq_getElem_cons hlt]
   have := (List.getElem?_eq_some_iff.1 h).2
   simp [this]
structure AggV (g : Gh) (xs : List IVal) (us : Array Value) : Prop where
 len : xs.length = us.size
 vals : ∀ (i : Nat) x u, xs[i]? = some x -> us[i]? = some u -> V g x u
 cell : ∀ x ∈ xs, x.isCell = true
theorem jiQ {d D : Nat} {T : TypeId} {ks ls : List Nat} {xs ys : List IVal} {us vs : Array Value} {off : Nat} {r : Bool} (w : World) (hu : AggV g xs us) (hv : AggV g ys vs) (hT : JY P d T = some ks) (IH : EqP P g D T ks) (h1 : off + ks.length <= xs.length) (h2 : off + ks.length <= ys.length)
   (he : eqK (ks ++ ls) (xs.drop off) (ys.drop off) = some r) : ∃ a b r1, (part T us off).run P w = .ok a w /\ (part T vs off).run P w = .ok b w /\ (Op.equalIn D T a b).run P w = .ok r1 w /\
     ((r1 = false /\ r = false) \/ (r1 = true /\ eqK ls (xs.drop (off + ks.length)) (ys.drop (off + ks.length)) = some r)) := by
 obtain ⟨ht, j, hj, hsz, hkl⟩ := Zr hT
 obtain ⟨z1, hz1⟩ := X6 (n := pnT P T) (cs := xs) (off := off) (by rw [<- hsz, <- hkl]; exact h1)
 obtain ⟨z2, hz2⟩ := X6 (n := pnT P T) (cs := ys) (off := off) (by rw [<- hsz, <- hkl]; exact h2)
 obtain ⟨a, ha, hVa, -⟩ := KI (P := P) (w := w) ht hu.len hu.vals hu.cell hz1
 obtain ⟨b, hb, hVb, -⟩ := KI (P := P) (w := w) ht hv.len hv.vals hv.cell hz2
 obtain ⟨r1, hr1, hr2⟩ := jgT h1 h2 he
 exact ⟨a, b, r1, ha, hb, IH w z1 z2 a b r1 hVa hVb (VU hu.cell hz1) (VU hv.cell hz2) (by rw [J0 hu.cell hz1, J0 hv.cell hz2, <- hsz, <- hkl]; exact hr1), hr2⟩
theorem jeA {xs ys : List IVal} {r : Bool} (h : eqK [] xs ys = some r) : r = true := by
 cases xs <;> cases ys <;> simp [eqK] at h; exact h
theorem jeB {d D : Nat} {xs ys : List IVal} {us vs : Array Value} (hu : AggV g xs us) (hv : AggV g ys vs) (IH : ∀ T ks, JY P d T = some ks -> EqP P g D T ks) : ∀ (fs : List Field) (off : Nat) (ks : List Nat) (r : Bool) (w : World), jmg P (JY P d) off fs = some ks -> off + ks.length <= xs.length -> off + ks.length <= ys.length ->
   eqK ks (xs.drop off) (ys.drop off) = some r -> (Op.eqFields D us vs fs).run P w = .ok r w := by
 intro fs
 induction fs with
 | nil =>
   intro off ks r w hl h1 h2 he
   simp [jmg] at hl
   subst hl
   rw [jeA he]
   simp [Op.eqFields]
 | cons f fs ih =>
   intro off ks r w hl h1 h2 he
   simp only [jmg] at hl
   split at hl
   . rename_i hc
     simp only [zA, bne_iff_ne, beq_iff_eq] at hc
     obtain ⟨c1, c2⟩ := hc
     split at hl
     . rename_i kf i hk hi
       split at hl
       . rename_i hsz
         simp only [beq_iff_eq] at hsz
         split at hl
         . rename_i kr hr
           simp only [zO] at hl
           subst hl
           simp only [List.length_append] at h1 h2
           obtain ⟨a, b, r1, ha, hb, hq, hr2⟩ := jiQ w hu hv hk (IH _ _ hk) (by omega) (by omega) he
           simp only [Op.eqFields]
           rw [if_pos c1, c2]
           simp only [Sem.run_bind, ha, hb, hq, Result.andThen_ok]
           rcases hr2 with ⟨rfl, rfl⟩ | ⟨rfl, hr2⟩
           . simp
           . simp only [Bool.not_true, Bool.false_eq_true, if_false]
             exact ih (off + i.size) kr r w hr (by omega) (by omega) (by rw [<- hsz]; exact hr2)
         . cases hl
       . cases hl
     . cases hl
   . cases hl
theorem jgU {d D : Nat} {E : TypeId} {ks : List Nat} {xs ys : List IVal} {us vs : Array Value} (hu : AggV g xs us) (hv : AggV g ys vs) (hE : JY P d E = some ks) (IH : EqP P g D E ks) : ∀ (m k : Nat) (r : Bool) (w : World), (k + m) * ks.length <= xs.length -> (k + m) * ks.length <= ys.length ->
   eqK (List.replicate m ks).flatten (xs.drop (k * ks.length)) (ys.drop (k * ks.length)) = some r -> (Op.eqItems D E ks.length us vs (List.range' k m)).run P w = .ok r w := by
 intro m
 induction m with
 | zero =>
   intro k r w h1 h2 he
   simp only [List.replicate_zero, List.flatten_nil] at he
   rw [jeA he]
   simp [Op.eqItems]
 | succ m ih =>
   intro k r w h1 h2 he
   have hx : k * ks.length + ks.length <= xs.length := by
     refine Nat.le_trans ?_ h1
     rw [show k + (m + 1) = (k + 1) + m by omega, Nat.add_mul, Nat.add_mul]; omega
   have hy : k * ks.length + ks.length <= ys.length := by
     refine Nat.le_trans ?_ h2
     rw [show k + (m + 1) = (k + 1) + m by omega, Nat.add_mul, Nat.add_mul]; omega
   simp only [List.replicate_succ, List.flatten_cons] at he
   obtain ⟨a, b, r1, ha, hb, hq, hr2⟩ := jiQ w hu hv hE IH hx hy he
   simp only [List.range'_succ, Op.eqItems]
   simp only [Sem.run_bind, ha, hb, hq, Result.andThen_ok]
   rcases hr2 with ⟨rfl, rfl⟩ | ⟨rfl, hr2⟩
   . simp
   . simp only [Bool.not_true, Bool.false_eq_true, if_false]
     refine ih (k + 1) r w (by rw [show k + 1 + m = k + (m + 1) by omega]; exact h1) (by rw [show k + 1 + m = k + (m + 1) by omega]; exact h2) ?_
     rw [Nat.add_mul, Nat.one_mul]; exact hr2
def jaU : TypeDesc -> Nat -> Bool
 | .int _, 0 => true
 | .string, 1 => true
 | .bool, 2 => true
 | _, _ => false
theorem jaN {d : Nat} {T : TypeId} {kd : TypeDesc} {k : Nat} {z1 z2 : IVal} {u1 u2 : Value} {r : Bool} (hT : P.underlying T = some kd) (hk : jaU kd k = true) (hV1 : V g z1 u1) (hV2 : V g z2 u2) (hkk : Xk k z1 = true) (he : vA z1 z2 = some r) : (Op.equalIn (d + 1) T u1 u2).run P w = .ok r w := by
 unfold vA at he
 split at he
 . rename_i k1 a k2 b
   split at he
   . rename_i hkk2
     subst hkk2
     simp at he; subst he
     rw [hV1.int_inv, hV2.int_inv]
     have : k = 0 := by unfold Xk at hkk; split at hkk <;> simp_all
     subst this
     cases kd <;> simp [jaU] at hk
     exact run_equalIn_int w d T _ _ _ _ hT
   . cases he
 . simp at he; subst he
   rw [hV1.bool_inv, hV2.bool_inv]
   have : k = 2 := by unfold Xk at hkk; split at hkk <;> simp_all
   subst this
   cases kd <;> simp [jaU] at hk
   exact run_equalIn_bool w d T _ _ hT
 . simp at he; subst he
   obtain ⟨t1, rfl, e1⟩ := hV1.str_inv
   obtain ⟨t2, rfl, e2⟩ := hV2.str_inv
   have : k = 1 := by unfold Xk at hkk; split at hkk <;> simp_all
   subst this
   cases kd <;> simp [jaU] at hk
   rw [run_equalIn_string w d T _ _ hT, ByteArray.toList_eq, ByteArray.toList_eq, e1, e2]
 . cases he
theorem jjS : ∀ (d : Nat) (T : TypeId) (ks : List Nat), JY P d T = some ks -> ∀ D, d <= D -> EqP P g D T ks := by
 intro d
 induction d with
 | zero => intro T ks h; simp [JY] at h
 | succ d ih =>
   intro T ks h D0 hD w z1 z2 u1 u2 r hV1 hV2 s1 s2 he
   obtain ⟨D, rfl⟩ : ∃ D, D0 = D + 1 := ⟨D0 - 1, by omega⟩
   simp only [JY] at h
   have cell : ∀ kd k, P.underlying T = some kd -> jaU kd k = true -> pnT P T = none -> eqK [k] z1.cells z2.cells = some r -> (Op.equalIn (D + 1) T u1 u2).run P w = .ok r w := by
     intro kd k hT hk hp he
     rw [hp] at s1 s2
     have e1 : z1.cells = [z1] := by cases z1 <;> simp_all [IVal.cells, IVal.isCell, Z7]
     have e2 : z2.cells = [z2] := by cases z2 <;> simp_all [IVal.cells, IVal.isCell, Z7]
     rw [e1, e2] at he
     simp only [eqK] at he
     split at he
     . rename_i hkk
       split at he
       . rename_i q; simp at he; subst he; exact jaN hT hk hV1 hV2 hkk q
       . rename_i q; simp at he; subst he; exact jaN hT hk hV1 hV2 hkk q
       . cases he
     . cases he
   split at h
   . rename_i h1 h2; split at h <;> simp at h; subst h; exact cell _ 2 h1 rfl (by simp [pnT, h1]) he
   . rename_i h1 h2; split at h <;> simp at h; subst h; exact cell _ 0 h1 rfl (by simp [pnT, h1]) he
   . rename_i h1 h2; split at h <;> simp at h; subst h; exact cell _ 1 h1 rfl (by simp [pnT, h1]) he
   . rename_i n E i h1 h2
     split at h
     . rename_i kE e hk hi
       split at h <;> simp at h
       rename_i h3
       subst h
       simp only [zA, beq_iff_eq] at h3
       obtain ⟨h3, h4⟩ := h3
       have hp : pnT P T = some i.size := by simp [pnT, h1, h2]
       rw [hp] at s1 s2
       obtain ⟨xs, rfl, l1⟩ := s1
       obtain ⟨ys, rfl, l2⟩ := s2
       obtain ⟨us, rfl, a1, a2, a3⟩ := hV1.agg_inv
       obtain ⟨vs, rfl, b1, b2, b3⟩ := hV2.agg_inv
       rw [run_equalIn_array w D us vs h1 hi]
       have hc : P.cellsOf E = kE.length := by rw [h3]; simp [Program.cellsOf, hi]
       rw [hc, List.range_eq_range']
       refine jgU ⟨a1, a2, a3⟩ ⟨b1, b2, b3⟩ hk (ih E kE hk D (by omega)) n 0 r w ?_ ?_ (by simpa [IVal.cells] using he)
       . rw [l1, h4, h3]; simp
       . rw [l2, h4, h3]; simp
     . cases h
   . rename_i fs i h1 h2
     split at h
     . rename_i kF hk
       split at h <;> simp at h
       rename_i h3
       subst h
       simp only [zA, beq_iff_eq, Bool.not_eq_true'] at h3
       obtain ⟨h3, h4⟩ := h3
       have hp : pnT P T = some i.size := by simp [pnT, h1, h2]
       rw [hp] at s1 s2
       obtain ⟨xs, rfl, l1⟩ := s1
       obtain ⟨ys, rfl, l2⟩ := s2
       obtain ⟨us, rfl, a1, a2, a3⟩ := hV1.agg_inv
       obtain ⟨vs, rfl, b1, b2, b3⟩ := hV2.agg_inv
       have hF : P.fieldsOf T = fs := by simp [Program.fieldsOf, h1]
       rw [run_equalIn_struct w D T us vs (by rw [hF]; exact h1) h4, hF]
       exact jeB ⟨a1, a2, a3⟩ ⟨b1, b2, b3⟩ (fun T ks h => ih T ks h D (by omega)) fs.toList 0 kF r w hk (by omega) (by omega) (by simpa [IVal.cells] using he)
     . cases h
   . cases h
end Go.Idl
namespace Go.Idl
variable [Globs]
variable {P : Program} {o : Oper} {a : Act} {g : Gh} {O : List Nat} {w : World} {s : St} {res : Res} {cf : jo}
def yC (P : Program) (o : Oper) (a : Act) (k : PurK) (rs : List Operand) : Prop :=
 ∀ (g : Gh) (w : World) (vs : List IVal) (v : IVal), vs.length = rs.length -> (∀ (i : Nat) x r, vs[i]? = some x -> rs[i]? = some r -> V g x (a.eval r)) -> (∀ b o c, g.M b o = some c -> w.cell? ⟨b, o, none⟩ = some c) -> Y6 k vs = some v ->
   ∃ u, (execOp a.eval o).run P w = .ok (.value u) w /\ V g v u /\ jA v u = []
theorem vy {k : PurK} {xs : List Opd} {rs : List Operand} (hx : jD xs rs = true) (hp : yC P o a k rs) (hs : ja cf (.pur k xs) s = some res)
   (hl : WT s.ts a.tmps) (hR : R g O (s.ts.roots a.tmps) s.σ w) : SimV P o a g O w s res := by
 simp only [ja] at hs
 split at hs
 . rename_i vs ts h
   split at hs
   . rename_i v hv
     simp only [rv, zO] at hs
     subst hs
     obtain ⟨h1, h2, h3⟩ := jX (l := []) hx h hl hR
     simp only [List.length_map] at h3
     obtain ⟨u, hu, hV, ho⟩ := hp g w vs v h3 (fun i x r hx hr => h1.vals (x, a.eval r) (List.mem_append_left _ (zM (i := i) (by simp [List.getElem?_zip_eq_some, hx, hr])))) h1.claim hv
     exact SimV.same hu ((R.drops h1).push hV ho) h2
   . cases hs
 . cases hs
def Yk (neg : Bool) : BinOp := if neg then .neq else .eql
theorem jkW {neg : Bool} {T : TypeId} {us vs : Array Value} {r : Bool} (h : (Op.equalIn 10000 T (.agg us) (.agg vs)).run P w = .ok r w) : (binOp (Yk neg) T (.agg us) (.agg vs)).run P w = .ok (.bool (r != neg)) w := by
 cases neg
 . simp only [Yk, Bool.false_eq_true, if_false]; rw [run_eql_struct, h]; cases r <;> rfl
 . simp only [Yk, if_true]; rw [run_neq_struct, h]; cases r <;> rfl
theorem ji0 {α : Type} {vs : List α} (h : vs.length = 1) : ∃ x, vs = [x] := by
 rcases vs with _ | ⟨x, _ | ⟨y, vs⟩⟩ <;> simp at h
 exact ⟨x, rfl⟩
theorem jpl {α : Type} {vs : List α} (h : vs.length = 2) : ∃ x y, vs = [x, y] := by
 rcases vs with _ | ⟨x, _ | ⟨y, _ | ⟨z, vs⟩⟩⟩ <;> simp at h
 exact ⟨x, y, rfl⟩
theorem jkI {neg : Bool} {ks : List Nat} {T T' : TypeId} {rx ry : Operand} (hop : o.op = .binOp (Yk neg) T rx ry T') (hT : JY P 1000 T = some ks) (hag : (pnT P T).isSome = true) (hg : P.eqGuardType P.depth T = false) :
   yC P o a (.eqa neg ks) [rx, ry] := by
 intro g w vs v hl hV hm hv
 obtain ⟨x, y, rfl⟩ := jpl hl
 cases x <;> cases y <;> simp only [Y6] at hv <;> try (cases hv; done)
 rename_i xs ys
 split at hv
 . rename_i hlen
   split at hv
   . rename_i r hr
     simp only [zO] at hv
     subst hv
     have hx := hV 0 _ rx rfl rfl
     have hy := hV 1 _ ry rfl rfl
     obtain ⟨us, e1, a1, a2, a3⟩ := hx.agg_inv
     obtain ⟨vs, e2, b1, b2, b3⟩ := hy.agg_inv
     obtain ⟨n, hn⟩ := Option.isSome_iff_exists.1 hag
     obtain ⟨-, i, -, hi2, hi3⟩ := Zr hT
     rw [hn] at hi2
     simp only [Option.getD_some] at hi2
     have hq := jjS 1000 T ks hT 10000 (by omega) w (.agg xs) (.agg ys) (a.eval rx) (a.eval ry) r hx hy (by rw [hn]; exact ⟨xs, rfl, by omega⟩) (by rw [hn]; exact ⟨ys, rfl, by omega⟩) (by simpa [IVal.cells] using hr)
     rw [e1, e2] at hq
     refine ⟨.bool (r != neg), ?_, .bool _, rfl⟩
     have hb := jkW (neg := neg) hq
     have hgd := run_eqGuard_agg (P := P) w (Yk neg) T rx ry us vs hg
     simp [execOp, hop, e1, e2, hgd, hb]
   . cases hv
 . cases hv
theorem jaj : ∀ {xs : List IVal} {l : List UInt8}, zl xs = some l -> ∃ ns : List Int, xs = ns.map (.int .u8) /\ l = ns.map fun n => UInt8.ofNat n.toNat := by
 intro xs
 induction xs with
 | nil => intro l h; simp [zl] at h; exact ⟨[], rfl, h⟩
 | cons x xs ih =>
   intro l h
   unfold zl at h
   split at h
   . cases ‹_ = []›
   . rename_i n ys e
     cases e
     split at h
     . rename_i l' h'
       simp only [zO] at h
       obtain ⟨ns, rfl, rfl⟩ := ih h'
       exact ⟨n :: ns, rfl, h.symm⟩
     . cases h
   . cases h
theorem jc3 (ns : List Int) : ∀ (b : ByteArray), (ns.foldl (fun r n => r.push (UInt8.ofNat n.toNat)) b).data.toList = b.data.toList ++ ns.map fun n => UInt8.ofNat n.toNat := by
 induction ns with
 | nil => intro b; simp
 | cons n ns ih => intro b; simp only [List.foldl_cons, List.map_cons]; rw [ih]; simp [ByteArray.push]
theorem jgn {xs : List IVal} {vs : List Value} {ns : List Int} (hx : xs = ns.map (.int .u8)) (hl : xs.length = vs.length) (hv : ∀ (i : Nat) x v, xs[i]? = some x -> vs[i]? = some v -> V g x v) : vs = ns.map (.int .u8) := by
 apply List.ext_getElem?
 intro i
 subst hx
 simp only [List.length_map] at hl
 by_cases hi : i < ns.length
 . have h1 : (ns.map (IVal.int .u8))[i]? = some (.int .u8 ns[i]) := by simp [hi]
   have h2 : vs[i]? = some (vs[i]'(by omega)) := by simp
   have := (hv i _ _ h1 h2).int_inv
   rw [h2, this]
   simp [hi]
 . rw [List.getElem?_eq_none (by omega), List.getElem?_eq_none (by simp; omega)]
theorem jhT {S T e : TypeId} {r : Operand} (hop : o.op = .convert S T r) (hS : P.underlying S = some (.slice e)) (he : P.underlying e = some (.int .u8)) (hT : P.underlying T = some .string) : yC P o a .text [r] := by
 intro g w vs v hl hV hm hv
 obtain ⟨x, rfl⟩ := ji0 hl
 cases x <;> simp only [Y6] at hv <;> try (cases hv; done)
 rename_i own rf xs
 split at hv
 . rename_i l hb
   simp only [zO] at hv
   subst hv
   obtain ⟨ns, hns, rfl⟩ := jaj hb
   have hx := hV 0 _ r rfl rfl
   have key : ∀ t : ByteArray, (execOp a.eval o).run P w = .ok (.value (.string t)) w -> t.data.toList = ns.map (fun n => UInt8.ofNat n.toNat) -> ∃ u, (execOp a.eval o).run P w = .ok (.value u) w /\ V g (.str (ns.map fun n => UInt8.ofNat n.toNat)) u /\ jA (.str (ns.map fun n => UInt8.ofNat n.toNat)) u = [] := by
     intro t h1 h2
     refine ⟨_, h1, ?_, rfl⟩
     rw [<- h2]; exact .str t
   generalize hu : a.eval r = u at hx
   cases hx with
   | nil =>
     have : ns = [] := by cases ns <;> simp at hns ⊢
     subst this
     refine key .empty ?_ rfl
     have := run_convert_bytes_string (P := P) w S T e none 0 0 hS he hT
     simp [execOp, hop, hu, this, Conv.bytesToString]
   | sl _ _ _ vs ad cap esz hs' hc hl' hv' hf hr hz hcl ho =>
     have hvs := jgn hns hl' hv'
     have hfl : jp vs = vs := by rw [hvs]; clear hvs hns hb hv' hl' key hl; induction ns with
       | nil => rfl
       | cons n ns ih => simp only [jp, List.map_cons, List.flatMap_cons] at ih ⊢; rw [ih]; rfl
     refine key (ns.foldl (fun r n => r.push (UInt8.ofNat n.toNat)) ByteArray.empty) ?_ (by rw [jc3]; rfl)
     have hload : (loadCells ad xs.length).run P w = .ok (ns.map (Value.int .u8)).toArray w := by
       have hlen : xs.length = (ns.map (Value.int .u8)).length := by rw [hns]; simp
       rw [hlen]
       refine run_loadCells_list (P := P) (w := w) ad (ns.map (Value.int .u8)) (fun j c hj => ?_)
       have had : 0 < cap := by have := jg hj; simp at this; rw [hns] at hc; simp at hc; omega
       have hsp := hs' had
       have hadd : ad.add j = ⟨ad.block, ad.off + j, none⟩ := by
         cases ad; simp at hsp; subst hsp; exact kq _ _ _
       rw [hadd]
       refine hm _ _ _ (hcl j c ?_)
       rw [hfl, hvs]; exact hj
     have h1 := run_convert_bytes_string (P := P) w S T e (some ad) xs.length cap hS he hT
     have h2 := run_bytesToString (P := P) w ad xs.length cap ns hload
     simp [execOp, hop, hu, h1, h2]
 . cases hv
theorem jhS {S T : TypeId} {r : Operand} (hop : o.op = .convert S T r) (hS : (P.underlying S).isSome = true) (hT : P.underlying T = some .string) : yC P o a .rune [r] := by
 intro g w vs v hl hV hm hv
 obtain ⟨x, rfl⟩ := ji0 hl
 cases x <;> simp only [Y6] at hv <;> try (cases hv; done)
 rename_i k n
 split at hv
 . rename_i hn
   simp only [zO] at hv
   subst hv
   have hx := (hV 0 _ r rfl rfl).int_inv
   have he : Utf8.encode n = ⟨#[UInt8.ofNat n.toNat]⟩ := by
     have hv : Utf8.valid n = true := by simp [Utf8.valid]; omega
     have hc : n.toNat < 0x80 := by omega
     simp [Utf8.encode, hv, hc]
   refine ⟨.string (Utf8.encode n), ?_, ?_, rfl⟩
   . simp [execOp, hop, hx, run_convert_int_string (P := P) w S T k n hS hT]
   . rw [he]; exact .str (g := g) ⟨#[UInt8.ofNat n.toNat]⟩
 . cases hv
theorem jps {ok : Bool} {x : IVal} {v : Value} (hV : V g x v) (hf : yX x) : V g (jap ok x) (if ok then .tuple #[v, .bool true] else v) /\ jA (jap ok x) (if ok then .tuple #[v, .bool true] else v) = [] := by
 cases ok
 . exact ⟨hV, jK hf v⟩
 . simp only [jap, if_true]
   refine ⟨.tup _ _ rfl (fun i y u hy hu => ?_) (fun y hy => ?_), ?_⟩
   . rcases i with _ | _ | i <;> simp at hy hu
     . subst hy hu; exact hV
     . subst hy hu; exact .bool true
   . simp at hy; rcases hy with rfl | rfl
     . exact hf.2
     . rfl
   . have : zB x v = [] := by rw [<- Jn hf.2]; exact jK hf v
     show (zB x v ++ []) = []
     rw [this]; rfl
theorem jlb {x : IVal} {v : Value} (hV : V g x v) (hn : nt x = true) (ho : jA x v = []) : V g (.tup [x, .bool false]) (.tuple #[v, .bool false]) /\ jA (.tup [x, .bool false]) (.tuple #[v, .bool false]) = [] := by
 refine ⟨.tup _ _ rfl (fun i y u hy hu => ?_) (fun y hy => ?_), ?_⟩
 . rcases i with _ | _ | i <;> simp at hy hu
   . subst hy hu; exact hV
   . subst hy hu; exact .bool false
 . simp at hy; rcases hy with rfl | rfl
   . exact hn
   . rfl
 . rw [Jn hn] at ho
   show (zB x v ++ []) = []
   rw [ho]; rfl
theorem V.nilI_inv {v : Value} (h : V g (.prim .nilIface) v) : v = .nilIface := by cases h; rfl
theorem jkN {r : Operand} {xT A : TypeId} {ok : Bool} {z : IVal} {d : TypeDesc} {i : TypeInfo} {zv : Value} (hop : o.op = .typeAssert r xT A ok) (hA : P.underlying A = some d) (hd : ∀ ms, d ≠ .interface ms) (hi : P.info? A = some i) (hz : i.zero = some zv) (hc : cOK z zv = true) : yC P o a (.tyC A ok z) [r] := by
 intro g w vs v hl hV hm hv
 obtain ⟨x, rfl⟩ := ji0 hl
 have hzero : (zeroValue A).run P w = .ok zv w := by simp [zeroValue, typeInfo, hi, hz]
 have hno : ∀ (x : Value), (∀ t u, x = .iface t u -> t ≠ A) -> (x = .nilIface \/ ∃ t u, x = .iface t u) -> (Instr.typeAssert x xT A true).run P w = .ok (.tuple #[zv, .bool false]) w := by
   intro x h1 h2
   rcases h2 with rfl | ⟨t, u, rfl⟩
   . cases d <;> simp [Instr.typeAssert, jm hA, hzero]
   . have := h1 t u rfl
     cases d <;> simp [Instr.typeAssert, jm hA, hzero, this] <;> exact absurd rfl (hd _)
 cases x <;> simp only [Y6] at hv <;> try (cases hv; done)
 . rename_i pv
   cases pv <;> simp only at hv <;> try (cases hv; done)
   split at hv
   . rename_i hc2
     simp only [zA] at hc2
     obtain ⟨rfl, hn⟩ := hc2
     simp only [zO] at hv
     subst hv
     have hx := (hV 0 _ r rfl rfl).nilI_inv
     obtain ⟨z1, z2⟩ := jgI g hc
     obtain ⟨k1, k2⟩ := jlb z1 hn z2
     refine ⟨_, ?_, k1, k2⟩
     simp [execOp, hop, hx, hno .nilIface (fun _ _ h => by cases h) (.inl rfl)]
   . cases hv
 . rename_i t x
   obtain ⟨u, hu, hVu, hf⟩ := (hV 0 _ r rfl rfl).iface_inv
   split at hv
   . rename_i ht
     subst ht
     simp only [zO] at hv
     subst hv
     obtain ⟨k1, k2⟩ := jps (ok := ok) hVu hf
     refine ⟨_, ?_, k1, k2⟩
     have : (Instr.typeAssert (.iface t u) xT t ok).run P w = .ok (if ok then .tuple #[u, .bool true] else u) w := by
       cases d <;> cases ok <;> simp [Instr.typeAssert, jm hA] <;> exact absurd rfl (hd _)
     simp [execOp, hop, hu, this]
   . rename_i ht
     split at hv
     . rename_i hc2
       simp only [zA] at hc2
       obtain ⟨rfl, hn⟩ := hc2
       simp only [zO] at hv
       subst hv
       obtain ⟨z1, z2⟩ := jgI g hc
       obtain ⟨k1, k2⟩ := jlb z1 hn z2
       refine ⟨_, ?_, k1, k2⟩
       simp [execOp, hop, hu, hno (.iface t u) (fun t' u' h => by cases h; exact ht) (.inr ⟨_, _, rfl⟩)]
     . cases hv
theorem jkO {r : Operand} {xT A : TypeId} {ok : Bool} {yes no : List TypeId} {want : Array (String × TypeId)} {j : TypeInfo} (hop : o.op = .typeAssert r xT A ok) (hA : P.underlying A = some (.interface want)) (hj : P.info? A = some j) (hz : j.zero = some .nilIface)
   (hy : ∀ t ∈ yes, ∃ i, P.info? t = some i /\ lacking want i.methods = []) (hn : ∀ t ∈ no, ∃ i, P.info? t = some i /\ lacking want i.methods ≠ []) : yC P o a (.tyI yes no ok) [r] := by
 intro g w vs v hl hV hm hv
 obtain ⟨x, rfl⟩ := ji0 hl
 have hzero : (zeroValue A).run P w = .ok .nilIface w := by simp [zeroValue, typeInfo, hj, hz]
 obtain ⟨k1, k2⟩ := jlb (g := g) (x := jkw) (v := .nilIface) (.prim _ rfl) rfl rfl
 cases x <;> simp only [Y6] at hv <;> try (cases hv; done)
 . rename_i pv
   cases pv <;> simp only at hv <;> try (cases hv; done)
   split at hv
   . rename_i hok
     subst hok
     simp only [zO] at hv
     subst hv
     have hx := (hV 0 _ r rfl rfl).nilI_inv
     refine ⟨_, ?_, k1, k2⟩
     simp [execOp, hop, hx, Instr.typeAssert, jm hA, hzero]
   . cases hv
 . rename_i t x
   have hxx := hV 0 _ r rfl rfl
   obtain ⟨u, hu, hVu, hf⟩ := hxx.iface_inv
   split at hv
   . rename_i ht
     simp only [List.contains_iff_mem] at ht
     simp only [zO] at hv
     subst hv
     obtain ⟨i, hi, hla⟩ := hy t ht
     have hfl : yX (.iface t x) := ⟨rfl, rfl⟩
     rw [hu] at hxx
     obtain ⟨k1, k2⟩ := jps (ok := ok) hxx hfl
     refine ⟨_, ?_, k1, k2⟩
     have : (Instr.typeAssert (.iface t u) xT A ok).run P w = .ok (if ok then .tuple #[.iface t u, .bool true] else .iface t u) w := by
       cases ok <;> simp [Instr.typeAssert, jm hA, typeInfo, hi, missingMethod_none hla]
     simp [execOp, hop, hu, this]
   . split at hv
     . rename_i hc2
       simp only [zA, List.contains_iff_mem] at hc2
       obtain ⟨rfl, ht⟩ := hc2
       simp only [zO] at hv
       subst hv
       obtain ⟨i, hi, hla⟩ := hn t ht
       refine ⟨_, ?_, k1, k2⟩
       simp [execOp, hop, hu, run_typeAssert_lacks (P := P) (w := w) (v := u) (xT := xT) hA hi hj hz hla]
     . cases hv
theorem jhP {c : Call} {T E : TypeId} {r : Operand} (hop : o.op = .call c) (hc : c.callee = .builtin .cap) (ha : c.args.toList = [r]) (hta : c.argTypes[0]? = some T) (hT : P.underlying T = some (.slice E)) : yC P o a .cap0 [r] := by
 intro g w vs v hl hV hm hv
 obtain ⟨x, rfl⟩ := ji0 hl
 have ha' : c.args = #[r] := by rw [<- Array.toList_inj, ha]
 cases x
 case sl own rf xs =>
   cases rf
   . simp only [Y6] at hv; cases hv
   cases xs with
   | cons y ys => simp only [Y6] at hv; cases hv
   | nil =>
     simp only [Y6, zO] at hv
     subst hv
     have hx := hV 0 _ r rfl rfl
     have hb : a.eval r = .slice none 0 0 := by
       generalize a.eval r = u at hx
       cases hx with
       | nil => rfl
       | sl _ _ _ _ _ _ _ _ _ _ _ _ _ _ _ _ hn => exact absurd (hn rfl) (by simp)
     refine ⟨.int .i64 0, ?_, .int _ _, rfl⟩
     simp [execOp, hop, resolve, hc, ha', invoke, builtin, hb, Builtin.cap_, hta, jm hT, goInt]
 all_goals (simp only [Y6] at hv; cases hv)
theorem jde {neg : Bool} {T E : TypeId} {ra rb r : Operand} {T' : TypeId} (hop : o.op = .binOp (Yk neg) T ra rb T') (hT : P.underlying T = some (.slice E)) (hn : (ra = r /\ rb = .const (.slice none 0 0)) \/ (rb = r /\ ra = .const (.slice none 0 0))) : yC P o a (.isnilS neg) [r] := by
 intro g w vs v hl hV hm hv
 obtain ⟨x, rfl⟩ := ji0 hl
 have key : (∃ ad n c, a.eval r = .slice (some ad) n c) -> v = .bool neg -> ∃ u, (execOp a.eval o).run P w = .ok (.value u) w /\ V g v u /\ jA v u = [] := by
   rintro ⟨ad, n, c, hr⟩ rfl
   refine ⟨.bool neg, ?_, .bool _, rfl⟩
   have hg : ∀ (x y : Value) op, (x = .slice (some ad) n c \/ x = .slice none 0 0) -> (y = .slice (some ad) n c \/ y = .slice none 0 0) -> (eqGuard op T ra rb x y).run P w = .ok () w := by
     intro x y op h1 h2
     unfold eqGuard
     rcases h1 with rfl | rfl <;> rcases h2 with rfl | rfl <;> split <;> simp
   have he : ∀ d : Nat, (Op.equalIn (d + 1) T (.slice (some ad) n c) (.slice none 0 0)).run P w = .ok false w /\ (Op.equalIn (d + 1) T (.slice none 0 0) (.slice (some ad) n c)).run P w = .ok false w := fun d => by
     constructor <;> simp [Op.equalIn, jm hT]
   obtain ⟨e1, e2⟩ := he 9999
   have hc : a.eval (.const (.slice none 0 0)) = .slice none 0 0 := rfl
   rcases hn with ⟨rfl, rfl⟩ | ⟨rfl, rfl⟩
   . have hb : (binOp (Yk neg) T (.slice (some ad) n c) (.slice none 0 0)).run P w = .ok (.bool neg) w := by
       cases neg <;> simp [Yk, binOp, Op.equal, Op.maxDepth, e1]
     simp [execOp, hop, hr, hc, hg _ _ _ (.inl rfl) (.inr rfl), hb]
   . have hb : (binOp (Yk neg) T (.slice none 0 0) (.slice (some ad) n c)).run P w = .ok (.bool neg) w := by
       cases neg <;> simp [Yk, binOp, Op.equal, Op.maxDepth, e2]
     simp [execOp, hop, hr, hc, hg _ _ _ (.inr rfl) (.inl rfl), hb]
 have key2 : a.eval r = .slice none 0 0 -> v = .bool (!neg) -> ∃ u, (execOp a.eval o).run P w = .ok (.value u) w /\ V g v u /\ jA v u = [] := by
   rintro hr rfl
   refine ⟨.bool (!neg), ?_, .bool _, rfl⟩
   have hg : ∀ op, (eqGuard op T ra rb (.slice none 0 0) (.slice none 0 0)).run P w = .ok () w := by
     intro op
     unfold eqGuard
     split <;> simp
   have he : ∀ d : Nat, (Op.equalIn (d + 1) T (.slice none 0 0) (.slice none 0 0)).run P w = .ok true w := fun d => by simp [Op.equalIn, jm hT]
   have e1 := he 9999
   have hc : a.eval (.const (.slice none 0 0)) = .slice none 0 0 := rfl
   have hb : (binOp (Yk neg) T (.slice none 0 0) (.slice none 0 0)).run P w = .ok (.bool (!neg)) w := by
     cases neg <;> simp [Yk, binOp, Op.equal, Op.maxDepth, e1]
   rcases hn with ⟨rfl, rfl⟩ | ⟨rfl, rfl⟩ <;> simp [execOp, hop, hr, hc, hg, hb]
 have hx := hV 0 _ r rfl rfl
 cases x <;> simp only [Y6] at hv <;> try (cases hv; done)
 . rename_i own rf xs
   cases xs with
   | nil =>
     simp only [zO] at hv
     generalize hu : a.eval r = u at hx
     cases hx with
     | nil => exact key2 hu (by rw [<- hv]; cases neg <;> rfl)
     | sl _ _ _ vs ad cap _ _ _ _ _ _ _ _ _ _ hnn => exact key ⟨_, _, _, hu⟩ (by rw [<- hv, hnn rfl]; cases neg <;> rfl)
   | cons y ys =>
     simp only [zO] at hv
     refine key ?_ hv.symm
     generalize a.eval r = u at hx
     cases hx with
     | sl => exact ⟨_, _, _, rfl⟩
 . simp only [zO] at hv
   obtain ⟨b, cap, hb, -⟩ := hx.rs_inv
   exact key ⟨_, _, _, hb⟩ hv.symm
def jfi (P : Program) (t : TypeId) (n : String) : Bool := match P.info? t, P.underlying t with
 | some i, some _ => (match i.methods.find? (fun m => m.name == n) with
   | some m => m.path.toList.isEmpty && m.func.isSome
   | none => false)
 | _, _ => false
theorem jkL {n : String} {r : Operand} {rs qs : Array Operand} (hop : o.op = .makeFunc (.method n) rs qs) (hr : rs.toList = [r]) (hq : qs.toList = []) : yC P o a (.mkM n) [r] := by
 intro g w vs v hl hV hm hv
 obtain ⟨x, rfl⟩ := ji0 hl
 simp only [Y6] at hv
 split at hv
 . rename_i hn
   simp only [zO] at hv
   subst hv
   have hx := hV 0 _ r rfl rfl
   have e1 : rs = #[r] := Array.toList_inj.1 (by simpa using hr)
   have e2 : qs = #[] := Array.toList_inj.1 (by simpa using hq)
   refine ⟨.func (.method n) #[a.eval r] #[], ?_, ?_, by simp [jA, zB, kX]⟩
   . simp [execOp, hop, Instr.makeFunc, e1, e2]
   . refine .fn _ _ _ _ _ (by simp) (fun i y u hy hu => ?_) (fun y hy => ?_) (by simp) (fun i y u hy hu => by simp at hy) (fun y hy => by simp at hy)
     . cases i with
       | zero =>
         simp at hy hu
         subst hy hu
         exact hx.un2
       | succ i => simp at hy
     . simp at hy
       subst hy
       exact kO hn
 . cases hv
theorem Z5 {t : TypeId} {n : String} {v : Value} {f : Nat} (h : jfi P t n = true) (hv : v ≠ .pointer none) (hf : 0 < f) : (nilAhead f t v n).run P w = .ok (some false) w := by
 unfold jfi at h
 split at h
 . rename_i hi hu
   split at h
   . rename_i hm
     simp only [zA] at h
     obtain ⟨h1, h2⟩ := h
     have h1 := List.isEmpty_iff.1 h1
     obtain ⟨q, hq⟩ := Option.isSome_iff_exists.1 h2
     obtain ⟨q1, q2⟩ := q
     cases f with
     | zero => omega
     | succ f =>
       simp only [nilAhead, typeInfo, Sem.run_bind, run_program, hi, Result.andThen_ok, Sem.run_pure, hm, h1, followBlind, hq]
       cases q2 with
       | true => simp [hq]
       | false =>
         simp only [hq, jm hu, Sem.run_bind, Result.andThen_ok]
         split
         . rename_i h9
           simp only [zO] at h9
           exact absurd h9 hv
         . simp
         . rename_i h9; cases h9
         . simp
   . cases h
 . cases h
theorem jhR {ts : List TypeId} {n : String} {r : Operand} (hop : o.op = .nilCheck r) (hts : ∀ t ∈ ts, jfi P t n = true) : yC P o a (.nilM ts n) [r] := by
 intro g w vs v hl hV hm hv
 obtain ⟨x, rfl⟩ := ji0 hl
 have hx := hV 0 _ r rfl rfl
 simp only [Y6] at hv
 unfold jmu at hv
 split at hv
 . rename_i n' t wv
   split at hv
   . rename_i hc
     obtain ⟨rfl, hc, hw⟩ := hc
     simp only [zO] at hv
     subst hv
     have hform : ∃ q, q ≠ Value.pointer none /\ a.eval r = .func (.method n) #[.iface t q] #[] := by
       generalize a.eval r = u at hx
       cases hx with
       | fn _ _ _ vs us hl1 hv1 hf1 hl2 hv2 hf2 =>
         have e2 : us = #[] := Array.eq_empty_of_size_eq_zero (by simpa using hl2.symm)
         obtain ⟨u, hu⟩ : ∃ u, vs = #[u] := by
           have : vs.size = 1 := by simpa using hl1.symm
           exact Array.size_eq_one_iff.1 this
         subst e2 hu
         have h0 := hv1 0 _ u rfl rfl
         obtain ⟨q, rfl, hq, _⟩ := h0.iface_inv
         refine ⟨_, ?_, rfl⟩
         rintro rfl
         cases hq <;> simp [ji6] at hw
     obtain ⟨q, hqn, hform⟩ := hform
     refine ⟨a.eval r, ?_, hx, by simp [jA, zB, kX]⟩
     have hrun := Z5 (P := P) (w := w) (v := q) (f := P.types.size + Made.depth) (hts t (by simpa using hc)) hqn (by simp [Made.depth])
     simp only [execOp, hop, hform]
     simp [hrun]
   . cases hv
 . cases hv
theorem jkJ {neg : Bool} {ks : List (TypeId × Nat)} {T : TypeId} {ms : Array (String × TypeId)} {rx ry : Operand} {T' : TypeId} (hop : o.op = .binOp (Yk neg) T rx ry T') (hT : P.underlying T = some (.interface ms))
   (hk : ∀ p ∈ ks, ∃ i d, P.info? p.1 = some i /\ i.comparable = true /\ P.underlying p.1 = some d /\ jaU d p.2 = true) : yC P o a (.eqi neg ks) [rx, ry] := by
 intro g w vs v hl hV hm hv
 obtain ⟨x, y, rfl⟩ := jpl hl
 have key : ∀ (r : Bool) (ux uy : Value), a.eval rx = ux -> a.eval ry = uy -> (Op.equalIn 10000 T ux uy).run P w = .ok r w -> ((∃ t u, ux = .iface t u /\ ((∃ t' u', uy = .iface t' u') \/ uy = .nilIface)) \/ (ux = .nilIface /\ ∃ t u, uy = .iface t u)) -> v = .bool (r != neg) -> ∃ u, (execOp a.eval o).run P w = .ok (.value u) w /\ V g v u /\ jA v u = [] := by
   rintro r ux uy ex ey hr h1 rfl
   refine ⟨.bool (r != neg), ?_, .bool _, rfl⟩
   have hgb : (eqGuard (Yk neg) T rx ry ux uy).run P w = .ok () w /\ (binOp (Yk neg) T ux uy).run P w = .ok (.bool (r != neg)) w := by
     rcases h1 with ⟨t, u, rfl, ⟨t', u', rfl⟩ | rfl⟩ | ⟨rfl, t, u, rfl⟩ <;> refine ⟨by unfold eqGuard; split <;> simp, ?_⟩ <;> cases neg <;> cases r <;> simp [Yk, binOp, Op.equal, Op.maxDepth, hr]
   simp [execOp, hop, ex, ey, hgb.1, hgb.2]
 have hxx := hV 0 _ rx rfl rfl
 have hyy := hV 1 _ ry rfl rfl
 cases x <;> cases y <;> simp only [Y6] at hv <;> try (cases hv; done)
 . rename_i pv t y
   cases pv <;> simp only at hv <;> try (cases hv; done)
   simp only [zO] at hv
   obtain ⟨u, hu, -⟩ := hyy.iface_inv
   refine key false _ _ hxx.nilI_inv hu ?_ (.inr ⟨rfl, _, _, rfl⟩) (by rw [<- hv]; cases neg <;> rfl)
   have hd : ∀ d : Nat, (Op.equalIn (d + 1) T (.nilIface) (.iface t u)).run P w = .ok false w /\ (Op.equalIn (d + 1) T (.iface t u) (.nilIface)).run P w = .ok false w := fun d => by constructor <;> simp [Op.equalIn, jm hT]
   exact (hd 9999).1
 . rename_i t x pv
   cases pv <;> simp only at hv <;> try (cases hv; done)
   simp only [zO] at hv
   obtain ⟨u, hu, -⟩ := hxx.iface_inv
   refine key false _ _ hu hyy.nilI_inv ?_ (.inl ⟨_, _, rfl, .inr rfl⟩) (by rw [<- hv]; cases neg <;> rfl)
   have hd : ∀ d : Nat, (Op.equalIn (d + 1) T (.nilIface) (.iface t u)).run P w = .ok false w /\ (Op.equalIn (d + 1) T (.iface t u) (.nilIface)).run P w = .ok false w := fun d => by constructor <;> simp [Op.equalIn, jm hT]
   exact (hd 9999).2
 . rename_i t x t' y
   obtain ⟨u, hu, hVu, hfu⟩ := hxx.iface_inv
   obtain ⟨u', hu', hVu', hfu'⟩ := hyy.iface_inv
   split at hv
   . rename_i ht
     subst ht
     split at hv
     . rename_i t1 k hf
       split at hv
       . rename_i hkk
         split at hv
         . rename_i r hr
           simp only [zO] at hv
           have hmem := List.mem_of_find?_eq_some hf
           have hpt := List.find?_some hf
           simp only [beq_iff_eq] at hpt
           subst hpt
           obtain ⟨i, d, k1, k2, k3, k4⟩ := hk _ hmem
           refine key r _ _ hu hu' ?_ (.inl ⟨_, _, rfl, .inl ⟨_, _, rfl⟩⟩) hv.symm
           have hc := jaN (d := 9998) (w := w) k3 k4 hVu hVu' hkk hr
           have hd : ∀ d : Nat, (Op.equalIn (d + 1) T (.iface t1 u) (.iface t1 u')).run P w = (Op.equalIn d t1 u u').run P w := by
             intro d
             conv => lhs; unfold Op.equalIn
             simp [jm hT, typeInfo, k1, k2]
           exact (hd 9999).trans hc
         . cases hv
       . cases hv
     . cases hv
   . rename_i ht
     simp only [zO] at hv
     refine key false _ _ hu hu' ?_ (.inl ⟨_, _, rfl, .inl ⟨_, _, rfl⟩⟩) (by rw [<- hv]; cases neg <;> rfl)
     have hd : ∀ d : Nat, (Op.equalIn (d + 1) T (.iface t u) (.iface t' u')).run P w = .ok false w := fun d => by simp [Op.equalIn, jm hT, ht]
     exact hd 9999
end Go.Idl
namespace Go.Idl
open Go Go.Extern Go.Extern.Rtype
variable [Globs]
variable {P : Program} {o : Oper} {a : Act} {g : Gh} {O : List Nat} {w : World} {s : St} {res : Res} {cf : jo}
def jji (P : Program) (t : TypeId) : Option (TypeId × TypeInfo) :=
 match P.info? t with
 | some i => match i.desc with
   | .named _ u => match P.info? u with
     | some j => some (u, j)
     | none => none
   | _ => some (t, i)
 | none => none
theorem yP {t : TypeId} {r : TypeId × TypeInfo} (h : jji P t = some r) : (under t).run P w = .ok r w := by
 unfold jji at h;split at h
 . rename_i i hi;split at h
   . rename_i n u hd;split at h
     . rename_i j hj;simp only [zO] at h;subst h;simp [under, typeInfo, hi, hd, hj]
     . cases h
   . rename_i hd;simp only [zO] at h;subst h;simp only [under];simp only [typeInfo, Sem.run_bind, run_program, Result.andThen, hi];simp only [Sem.run_pure]
 . cases h
def jmf (i : TypeInfo) : Option Nat :=
 match i.desc with
 | .bool => some 1
 | .int .i64 => some (if i.str == "int" then 2 else 6)
 | .int .i8 => some 3 | .int .i16 => some 4 | .int .i32 => some 5
 | .int .u64 => some (if i.str == "uint" then 7 else if i.str == "uintptr" then 12 else 11)
 | .int .u8 => some 8 | .int .u16 => some 9 | .int .u32 => some 10
 | .func _ _ _ => some 19 | .interface _ => some 20 | .map _ _ => some 21
 | .pointer _ => some 22 | .slice _ => some 23 | .string => some 24 | .struct _ => some 25
 | _ => none
def Xr (P : Program) (t : TypeId) : Option Nat := match jji P t with
 | some r => jmf r.2
 | none => none
theorem Q0 {t : TypeId} {k : Nat} (h : Xr P t = some k) : (kind t).run P w = .ok k w := by
 unfold Xr at h;split at h
 . rename_i r hr;simp only [kind, Sem.run_bind, yP hr, Result.andThen];unfold jmf at h;split at h <;> first | (cases h; done) | (rename_i e; simp only [zO] at h; subst h; simp only [e]; rfl)
 . cases h
def jlX : TypeDesc -> Option TypeId
 | .array _ e => some e
 | .chan _ e => some e
 | .map _ e => some e
 | .pointer e => some e
 | .slice e => some e
 | _ => none
def jcQ (P : Program) (t : TypeId) : Option TypeId := match jji P t with
 | some r => jlX r.2.desc
 | none => none
theorem jcj {t e : TypeId} (h : jcQ P t = some e) : (elem? t).run P w = .ok (some e) w := by
 unfold jcQ at h;split at h
 . rename_i r hr;simp only [elem?, Sem.run_bind, yP hr, Result.andThen];unfold jlX at h;split at h <;> first | (cases h; done) | (rename_i e; simp only [zO] at h; subst h; simp only [e]; rfl)
 . cases h
def jb7 : TypeDesc -> Bool
 | .named _ _ => true
 | .bool => true
 | .int _ => true
 | .float _ => true
 | .complex _ => true
 | .string => true
 | .unsafePointer => true
 | _ => false
theorem VP {t : TypeId} {i : TypeInfo} (h : P.info? t = some i) : (hasName t).run P w = .ok (jb7 i.desc) w := by
 simp only [hasName, typeInfo, Sem.run_bind, run_program, Result.andThen, h, Sem.run_pure];unfold jb7;split <;> rename_i e <;> first | rfl | simp_all
def daP (P : Program) (T V : TypeId) : Option Bool :=
 if T == V then some true else match P.info? T, P.info? V with
   | some i, some j => if jb7 i.desc && jb7 j.desc then some false else match jji P T, jji P V with
     | some (t, ti), some (v, vi) => match ti.desc with
       | .chan _ _ => none
       | _ => some (t == v)
     | _, _ => none
   | _, _ => none
theorem jfQ {T U : TypeId} {b : Bool} (h : daP P T U = some b) : (directlyAssignable T U).run P w = .ok b w := by
 unfold daP at h;unfold directlyAssignable;split at h
 . rename_i e;simp only [zO] at h;subst h;simp [e]
 . rename_i e;split at h
   . rename_i i j hi hj;simp only [e, Bool.false_eq_true, if_false, Sem.run_bind, VP hi, VP hj, Result.andThen];split at h
     . rename_i hn;simp only [zO] at h;subst h;simp [hn]
     . rename_i hn;simp only [hn, Bool.false_eq_true, if_false, Sem.run_bind];split at h
       . rename_i t ti v vi ht hv;simp only [Sem.run_pure, Result.andThen, yP ht, yP hv];split at h
         . cases h
         . rename_i hd;simp only [zO] at h;subst h;split
           . rename_i e1 _; exact absurd e1 (hd _ _)
           . rfl
       . cases h
   . cases h
def ZA : TypeDesc -> Option (Array (String × TypeId))
 | .interface ms => some ms
 | _ => none
def jc4 (P : Program) (T U : TypeId) : Option Bool :=
 match jji P T, jji P U, P.info? U with
 | some r, some q, some i => match ZA r.2.desc, ZA q.2.desc with
   | none, _ => some false
   | some want, none => some (Go.lacking want i.methods).isEmpty
   | some _, some _ => none
 | _, _, _ => none
theorem YL {T U : TypeId} {b : Bool} (h : jc4 P T U = some b) (h1 : P.methodsOfAPack P.depth T = false) (h2 : P.methodsOfAPack P.depth U = false) : (implements T U).run P w = .ok b w := by
 unfold jc4 at h;split at h
 . rename_i r q i hT hU hi;simp only [implements, noPackMethods, Sem.run_bind, run_program, Result.andThen, h1, h2, Bool.false_eq_true, if_false, Sem.run_pure, yP hT, yP hU];generalize r.2.desc = d1 at h ⊢;generalize q.2.desc = d2 at h ⊢;have hm : ∀ want, (Instr.missingMethod want i.methods).isNone = (Go.lacking want i.methods).isEmpty := by
     intro want
     by_cases e : Go.lacking want i.methods = []
     . rw [missingMethod_none e, e]; rfl
     . obtain ⟨m, hm⟩ := missingMethod_some e;rw [hm]
       cases hl : Go.lacking want i.methods with
       | nil => exact absurd hl e
       | cons a r => rfl
   cases d1 with
   | interface want =>
     cases d2 with
     | interface got => simp [ZA] at h
     | _ =>
       simp only [ZA, zO] at h;subst h;simp only [typeInfo, Sem.run_bind, run_program, Result.andThen, hi, Sem.run_pure, hm]
   | _ =>
     simp only [ZA, zO] at h;subst h;rfl
 . cases h
def jcO (P : Program) (name : String) (t : TypeId) : Bool := match P.cutTypes.find? (·.1 == name) with
 | some (_, u) => t == u
 | none => false
theorem jkV {name : String} {t : TypeId} (h : jcO P name t = true) : (cutType name).run P w = .ok t w := by
 unfold jcO at h;split at h
 . rename_i n u hf;have := eq_of_beq h;subst this;simp [cutType, hf]
 . cases h
theorem Qe (t : TypeId) : (handle t).run P w = .ok (.pointer (some ⟨P.globals.size, t, none⟩)) w := rfl
theorem Jr (t : TypeId) : (ofHandle (.pointer (some ⟨P.globals.size, t, none⟩))).run P w = .ok t w := by
 simp [ofHandle, handleType]
theorem JS {what : String} {t : TypeId} (h : P.packed t = false) : (noPack what t).run P w = .ok () w := by simp [noPack, h]
theorem Xw {what : String} {t : TypeId} (h : P.holdsPacked P.depth t = false) : (noPackHeld what t).run P w = .ok () w := by simp [noPackHeld, h]
theorem qV {what : String} {t : TypeId} (h : P.methodsOfAPack P.depth t = false) : (noPackMethods what t).run P w = .ok () w := by simp [noPackMethods, h]
theorem Qf {rt t : TypeId} (h : jcO P "internal/reflectlite.rtype" rt = true) : (ReflectliteType.toType t).run P w = .ok (.iface rt (.agg #[.pointer (some ⟨P.globals.size, t, none⟩)])) w := by
 simp [ReflectliteType.toType, jkV h, Qe, Result.andThen]
theorem jdc (h : Value) : ReflectliteType.ofRtype (.agg #[h]) = (do let t <- ofHandle h; noPack "a Type asked or handed on" t; pure t) := rfl
theorem qW {t : TypeId} (h : P.packed t = false) : (ReflectliteType.ofRtype (.agg #[.pointer (some ⟨P.globals.size, t, none⟩)])).run P w = .ok t w := by
 rw [jdc];simp [Jr, JS h, Result.andThen]
def jeE : ExtK -> String
 | .typeOf _ _ => "internal/reflectlite.TypeOf"
 | .vType _ _ => "(internal/reflectlite.Value).Type"
 | .vIsNil _ _ => "(internal/reflectlite.Value).IsNil"
 | .vElem _ _ => "(internal/reflectlite.Value).Elem"
 | .rElem _ _ _ => "(internal/reflectlite.rtype).Elem"
 | .rCmp _ _ => "(internal/reflectlite.rtype).Comparable"
 | .rImpl _ _ => "(internal/reflectlite.rtype).Implements"
 | .rAsg _ _ => "(internal/reflectlite.rtype).AssignableTo"
 | .aKind _ _ => "(*internal/abi.Type).Kind"
 | .cntS => "internal/bytealg.CountString"
 | .idxBS => "internal/bytealg.IndexByteString"
 | .mk0 a => if a then "internal/race.Disable" else "internal/race.Enable"
 | .mk1 a => if a then "internal/race.Acquire" else "internal/race.ReleaseMerge"
def Vj : ExtK -> Array Value -> Sem Value
 | .typeOf _ _ => ReflectliteType.typeOf
 | .vType _ _ => ReflectliteValue.methodAny (ReflectliteValue.valueError "reflectlite.Value.Type" 0) fun t _ _ _ => ReflectliteType.toType t
 | .vIsNil _ _ => ReflectliteValue.method (ReflectliteValue.valueError "reflectlite.Value.IsNil" 0) ReflectliteValue.isNil
 | .vElem _ _ => ReflectliteValue.method (ReflectliteValue.valueError "reflectlite.Value.Elem" 0) ReflectliteValue.elem
 | .rElem _ _ _ => ReflectliteType.method ReflectliteType.elem
 | .rCmp _ _ => ReflectliteType.method fun t => do noPackHeld "Comparable" t; pure (.bool (<- typeInfo t).comparable)
 | .rImpl _ _ => ReflectliteType.relation "Implements" ReflectliteType.implements_
 | .rAsg _ _ => ReflectliteType.relation "AssignableTo" ReflectliteType.assignableTo
 | .aKind _ _ => ReflectliteType.abiMethod fun t => do pure (.int .u8 (<- kind t))
 | .cntS => BytealgCount.count
 | .idxBS => BytealgIndexByte.indexByte
 | .mk0 a => if a then fun _ => do mark .disable; pure Race.none_ else fun _ => do mark .enable; pure Race.none_
 | .mk1 a => if a then Race.marked .acquire else Race.marked .releaseMerge
theorem jg0 {fn : Func} {k : ExtK} (h : fn.name = jeE k) (ho : fn.origin = "") : Extern.findNext fn = none /\ Extern.find fn = some (Vj k) := by
 unfold Extern.findNext Extern.find;rw [h, ho];cases k
 case mk0 a => cases a <;> exact ⟨by kernel_rfl, by kernel_rfl⟩
 case mk1 a => cases a <;> exact ⟨by kernel_rfl, by kernel_rfl⟩
 all_goals exact ⟨by kernel_rfl, by kernel_rfl⟩
def Vk (P : Program) : ExtK -> Bool
 | .typeOf rt G => G == P.globals.size && jcO P "internal/reflectlite.rtype" rt
 | .vType rt G => G == P.globals.size && jcO P "internal/reflectlite.rtype" rt
 | .vIsNil G tab => G == P.globals.size && tab.all fun t => !P.packed t && tyN P t none
 | .vElem G tab => G == P.globals.size && tab.all fun p => !P.packed p.1 && (tyN P p.1 none && (jcQ P p.1 == some p.2.1 && Xr P p.2.1 == some p.2.2))
 | .rElem rt G tab => G == P.globals.size && (jcO P "internal/reflectlite.rtype" rt && tab.all fun p => !P.packed p.1 && jcQ P p.1 == some p.2)
 | .rCmp G tab => G == P.globals.size && tab.all fun p => !P.packed p.1 && (!P.holdsPacked P.depth p.1 && (match P.info? p.1 with | some i => i.comparable == p.2 | none => false))
 | .rImpl G tab => G == P.globals.size && tab.all fun p => !P.packed p.1.1 && (!P.packed p.1.2 && (!P.methodsOfAPack P.depth p.1.1 && (!P.methodsOfAPack P.depth p.1.2 && (Xr P p.1.2 == some 20 && jc4 P p.1.2 p.1.1 == some p.2))))
 | .rAsg G tab => G == P.globals.size && tab.all fun p => !P.packed p.1.1 && (!P.packed p.1.2 && (!P.methodsOfAPack P.depth p.1.1 && (!P.methodsOfAPack P.depth p.1.2 && (match daP P p.1.2 p.1.1, jc4 P p.1.2 p.1.1 with | some a, some b => (a || b) == p.2 | _, _ => false))))
 | .aKind G tab => G == P.globals.size && tab.all fun p => !P.packed p.1 && Xr P p.1 == some p.2
 | _ => true
theorem jjJ (c : UInt8) : ∀ (l : List UInt8) (n : Nat), jlR c.toNat l n = n + Lib.countByte l c := by
 intro l
 induction l with
 | nil => intro n; simp [jlR, Lib.countByte]
 | cons b l ih =>
   intro n;have hb : Nat.beq b.toNat c.toNat = (b == c) := by
     cases h : b == c with
     | true => have := eq_of_beq h; subst this; exact Nat.beq_refl _
     | false =>
       cases h' : Nat.beq b.toNat c.toNat with
       | false => rfl
       | true => have := UInt8.toNat.inj (zN h'); subst this; simp at h
   simp only [jlR, ih, hb, Lib.countByte, List.count_cons];cases b == c <;> simp; omega
theorem jj8 (c : UInt8) : ∀ (l : List UInt8) (k : Nat), jmb c.toNat l k = if Lib.indexByte l c = -1 then -1 else Lib.indexByte l c + k := by
 intro l
 induction l with
 | nil => intro k; simp [jmb, Lib.indexByte]
 | cons b l ih =>
   intro k;have hb : Nat.beq b.toNat c.toNat = (b == c) := by
     cases h : b == c with
     | true => have := eq_of_beq h; subst this; exact Nat.beq_refl _
     | false =>
       cases h' : Nat.beq b.toNat c.toNat with
       | false => rfl
       | true => have := UInt8.toNat.inj (zN h'); subst this; simp at h
   have hge := Lib.indexByte_ge l c;have e : Lib.indexByte (b :: l) c = if b == c then 0 else if Lib.indexByte l c == -1 then -1 else Lib.indexByte l c + 1 := rfl
   generalize Lib.indexByte (b :: l) c = x at e ⊢;simp only [jmb, ih, hb];generalize Lib.indexByte l c = y at e hge ⊢
   cases hbc : b == c with
   | true => rw [hbc] at e; simp at e; subst e; simp
   | false =>
     rw [hbc] at e;simp at e
     by_cases h : y = -1
     . simp [h] at e ⊢; simp [e]
     . simp [h] at e ⊢;subst e;rw [if_neg (by omega)];omega
theorem vt {G : Nat} {h : IVal} {hv : Value} {t : TypeId} (hV : V g h hv) (ht : Zw G h = some t) : hv = .pointer (some ⟨G, t, none⟩) := by
 unfold Zw at ht;split at ht
 . split at ht
   . rename_i e;simp only [zO] at ht;subst ht e;cases hV; rfl
   . cases ht
 . cases ht
theorem JJ {h : IVal} {u : Value} (hV : V g (.agg [h]) u) : ∃ hv, u = .agg #[hv] /\ V g h hv := by
 cases hV with
 | agg _ vs hl hv hi =>
   obtain ⟨hv', e⟩ : ∃ x, vs = #[x] := by
     obtain ⟨l⟩ := vs
     match l, hl with
     | [x], _ => exact ⟨x, rfl⟩
   subst e;exact ⟨hv', rfl, hv 0 _ _ rfl rfl⟩
theorem Kp {h p q : IVal} {u : Value} (hV : V g (.agg [h, p, q]) u) : ∃ hv pv qv, u = .agg #[hv, pv, qv] /\ V g h hv /\ V g p pv /\ V g q qv := by
 cases hV with
 | agg _ vs hl hv hi =>
   obtain ⟨x, y, z, e⟩ : ∃ x y z, vs = #[x, y, z] := by
     obtain ⟨l⟩ := vs
     match l, hl with
     | [x, y, z], _ => exact ⟨x, y, z, rfl⟩
   subst e;exact ⟨x, y, z, rfl, hv 0 _ _ rfl rfl, hv 1 _ _ rfl rfl, hv 2 _ _ rfl rfl⟩
theorem jbe {r : Bool} {c : IVal} {u : Value} (hV : V g (.pv r [c] 0) u) : ∃ b o cv, u = .pointer (some ⟨b, o, none⟩) /\ V g c cv /\ c.isCell = true /\ g.M b o = some cv /\ un1 c = c := by
 cases hV with
 | pv _ _ _ vs a hs ho hl hv hf hr hm =>
   obtain ⟨cv, e⟩ : ∃ x, vs = [x] := by
     match vs, hl with
     | [x], _ => exact ⟨x, rfl⟩
   subst e;obtain ⟨b, o, sp⟩ := a;simp only at hs;subst hs;exact ⟨b, o, cv, rfl, hv 0 _ _ rfl rfl, (hf c (by simp)).2, by have := hm 0 cv rfl; simpa using this, (hf c (by simp)).1⟩
theorem ZT {r : Bool} {cs : List IVal} {off : Nat} {u : Value} (hV : V g (.pv r cs off) u) : ∃ a, u = .pointer (some a) := by
 cases hV with
 | pv _ _ _ vs a hs ho hl hv hf hr hm => exact ⟨a, rfl⟩
theorem jo6 (g : Gh) (rt G : Nat) (t : TypeId) : V g (rtI rt G t) (.iface rt (.agg #[.pointer (some ⟨G, t, none⟩)])) /\ jA (rtI rt G t) (.iface rt (.agg #[.pointer (some ⟨G, t, none⟩)])) = [] := by
 refine ⟨.iface _ _ _ (.agg _ _ rfl (fun i x v hx hv => ?_) (by simp [jls, IVal.isCell])) ⟨rfl, rfl⟩, rfl⟩
 cases i with
 | zero => simp at hx hv; subst hx hv; exact .prim _ rfl
 | succ i => simp at hx
theorem ZG (z : Sem Value) (f : TypeId -> Addr -> Nat -> Nat -> Sem Value) (v : Value) :
   ReflectliteValue.methodAny z f #[v] = (do match <- ReflectliteValue.partsAny v with | none => z | some (t, a, fl) => f t a fl (fl % 32)) := rfl
theorem ZH (z : Sem Value) (f : TypeId -> Addr -> Nat -> Nat -> Sem Value) (v : Value) :
   ReflectliteValue.method z f #[v] = (do match <- ReflectliteValue.parts v with | none => z | some (t, a, fl) => f t a fl (fl % 32)) := rfl
def vfl (f : Int) : Prop := f = 150 \/ f = 406
theorem Qu {t : TypeId} {ad : Addr} {f : Int} (hf : vfl f) : (ReflectliteValue.partsAny (.agg #[.pointer (some ⟨P.globals.size, t, none⟩), .pointer (some ad), .int .u64 f])).run P w = .ok (some (t, ad, f.toNat)) w := by
 have e : ReflectliteValue.partsAny (.agg #[.pointer (some ⟨P.globals.size, t, none⟩), .pointer (some ad), .int .u64 f]) = (do pure (some (<- ofHandle (.pointer (some ⟨P.globals.size, t, none⟩)), ad, f.toNat))) := by
   rcases hf with rfl | rfl <;> rfl
 rw [e];simp [Jr, Result.andThen]
theorem KJ {t : TypeId} {ad : Addr} {f : Int} (hf : vfl f) (hp : P.packed t = false) : (ReflectliteValue.parts (.agg #[.pointer (some ⟨P.globals.size, t, none⟩), .pointer (some ad), .int .u64 f])).run P w = .ok (some (t, ad, f.toNat)) w := by
 simp [ReflectliteValue.parts, Qu hf, JS hp, Result.andThen]
theorem VS {T : TypeId} {b o : Nat} {c : IVal} {cv : Value} (hT : tyN P T none = true) (hV : V g c cv) (hc : c.isCell = true) (hm : w.cell? ⟨b, o, none⟩ = some cv) : ∃ u, (loadVar T ⟨b, o, none⟩).run P w = .ok u w /\ V g c u := by
 obtain ⟨u, h1, h2, -⟩ := zf (P := P) (w := w) (n := none) (cs := [c]) (vs := [cv]) (b := b) (e := o) (off := 0) (z := c) hT (Nat.le_refl _) (fun i x v hx hv => by
   cases i with
   | zero => simp at hx hv; subst hx hv; exact hV
   | succ i => simp at hx) (by simpa using hc) (fun j v hj => by
   cases j with
   | zero => simp at hj; subst hj; exact hm
   | succ j => simp at hj) rfl
 exact ⟨u, h1, h2⟩
theorem KS {vs : List IVal} {us : List Value} {x : IVal} (e : vs = [x]) (hl : vs.length = us.length) (hv : ∀ (i : Nat) x u, vs[i]? = some x -> us[i]? = some u -> V g x u) : ∃ u, us = [u] /\ V g x u := by
 subst e
 match us, hl with
 | [u], _ => exact ⟨u, rfl, hv 0 _ _ rfl rfl⟩
theorem jaC {vs : List IVal} {us : List Value} {x y : IVal} (e : vs = [x, y]) (hl : vs.length = us.length) (hv : ∀ (i : Nat) x u, vs[i]? = some x -> us[i]? = some u -> V g x u) : ∃ u v, us = [u, v] /\ V g x u /\ V g y v := by
 subst e
 match us, hl with
 | [u, v], _ => exact ⟨u, v, rfl, hv 0 _ _ rfl rfl, hv 1 _ _ rfl rfl⟩
theorem vC {α : Type} {p : α -> Bool} {l : List α} {x : α} (h : l.find? p = some x) : x ∈ l /\ p x = true := ⟨List.mem_of_find?_eq_some h, List.find?_some h⟩
theorem iface_inv {t : TypeId} {x : IVal} {u : Value} (hV : V g (.iface t x) u) : ∃ v, u = .iface t v /\ V g x v /\ yX x := by
 cases hV with
 | iface _ _ v hv hf => exact ⟨v, rfl, hv, hf⟩
theorem VN (f : TypeId -> Sem Value) (r : Value) : ReflectliteType.method f #[r] = (do f (<- ReflectliteType.ofRtype r)) := rfl
theorem VJ (n : String) (f : TypeId -> TypeId -> Sem Bool) (r v : Value) (u : TypeId) : ReflectliteType.relation n f #[r, .iface u v] = (do pure (.bool (<- f (<- ReflectliteType.ofRtype v) (<- ReflectliteType.ofRtype r)))) := rfl
theorem jlG (f : TypeId -> Sem Value) (h : Value) : ReflectliteType.abiMethod f #[h] = (do let t <- ofHandle h; noPack "a method of abi.Type" t; f t) := rfl
theorem jjW {k : ExtK} (hk : Vk P k = true) {vs : List IVal} {us : List Value} (hl : vs.length = us.length) (hv : ∀ (i : Nat) x u, vs[i]? = some x -> us[i]? = some u -> V g x u)
   (hm : ∀ b o c, g.M b o = some c -> w.cell? ⟨b, o, none⟩ = some c) {v : IVal} (h : jl2 k vs = some v) : ∃ u, (Vj k us.toArray).run P w = .ok u w /\ V g v u /\ jA v u = [] := by
 unfold jl2 at h;split at h
 . -- typeOf
   rename_i rt G t x;simp only [zO] at h;subst h;simp only [Vk, zA, beq_iff_eq] at hk;obtain ⟨rfl, hk⟩ := hk;obtain ⟨u, rfl, hV⟩ := KS rfl hl hv;obtain ⟨v, rfl, -, -⟩ := iface_inv hV;exact ⟨_, Qf hk, jo6 g rt _ t⟩
 . -- vType
   rename_i rt G hd r cs off f;split at h
   . rename_i t ht;split at h
     . rename_i hf;simp only [zO] at h;subst h;simp only [Vk, zA, beq_iff_eq] at hk;obtain ⟨rfl, hk⟩ := hk;obtain ⟨u, rfl, hV⟩ := KS rfl hl hv;obtain ⟨hv', pv, qv, rfl, v1, v2, v3⟩ := Kp hV;have := vt v1 ht; subst this;obtain ⟨ad, rfl⟩ := ZT v2;cases v3;refine ⟨_, ?_, jo6 g rt _ t⟩;simp only [Vj];rw [ZG];simp only [Sem.run_bind, Qu (.inl hf), Result.andThen, Qf hk]
     . cases h
   . cases h
 . -- vIsNil
   rename_i G tab hd r c f;split at h
   . rename_i t ht;split at h
     . rename_i hf;obtain ⟨hf, hc⟩ := hf;simp only [Vk, zA, beq_iff_eq, List.all_eq_true, Bool.not_eq_true'] at hk;obtain ⟨rfl, hk⟩ := hk;obtain ⟨hp, hT⟩ := hk t (List.contains_iff_mem.1 hc);obtain ⟨u, rfl, hV⟩ := KS rfl hl hv;obtain ⟨hv', pv, qv, rfl, v1, v2, v3⟩ := Kp hV;have := vt v1 ht; subst this;obtain ⟨b, o, cv, rfl, vc, hcell, hM, -⟩ := jbe v2;cases v3;obtain ⟨lu, hlu, vlu⟩ := VS (w := w) hT vc hcell (hm _ _ _ hM);have e : ∀ p, lu = .pointer p -> (Vj (.vIsNil P.globals.size tab) [Value.agg #[.pointer (some ⟨P.globals.size, t, none⟩), .pointer (some ⟨b, o, none⟩), .int .u64 f]].toArray).run P w = .ok (.bool p.isNone) w := by
         intro p hp';simp only [Vj];rw [ZH];subst hf hp';simp only [Sem.run_bind, KJ (.inl rfl) hp, Result.andThen, ReflectliteValue.isNil];simp [hlu, Result.andThen];cases p <;> rfl
       split at h
       . simp only [zO] at h; subst h;cases vlu;exact ⟨_, e _ rfl, .bool _, rfl⟩
       . simp only [zO] at h; subst h;cases vlu;exact ⟨_, e _ rfl, .bool _, rfl⟩
       . simp only [zO] at h; subst h;obtain ⟨ad, rfl⟩ := ZT vlu;exact ⟨_, e _ rfl, .bool _, rfl⟩
       . cases h
     . cases h
   . cases h
 . -- vElem
   rename_i G tab hd r c f;split at h
   . rename_i t ht;split at h
     . rename_i hf;split at h
       . rename_i t' e k hfind;split at h
         . rename_i id off;simp only [zO] at h;subst h;simp only [Vk, zA, beq_iff_eq, List.all_eq_true, Bool.not_eq_true'] at hk;obtain ⟨rfl, hk⟩ := hk;obtain ⟨hmem, he⟩ := vC hfind;have := eq_of_beq he; subst this;obtain ⟨hp, hT, hE, hK⟩ := hk _ hmem;obtain ⟨u, rfl, hV⟩ := KS rfl hl hv;obtain ⟨hv', pv, qv, rfl, v1, v2, v3⟩ := Kp hV;have := vt v1 ht; subst this;obtain ⟨b, o, cv, rfl, vc, hcell, hM, -⟩ := jbe v2;cases v3;obtain ⟨lu, hlu, vlu⟩ := VS (w := w) hT vc hcell (hm _ _ _ hM);subst hf
           cases vlu with
           | ptr _ _ b' hb' =>
           refine ⟨.agg #[.pointer (some ⟨P.globals.size, e, none⟩), .pointer (some ⟨b', off, none⟩), .int .u64 (k + 384 : Nat)], ?_, .agg _ _ rfl (fun i x v hx hv' => ?_) (by simp [jls, IVal.isCell]), rfl⟩
           . simp only [Vj];rw [ZH];simp only [Sem.run_bind, KJ (.inl rfl) hp, Result.andThen, ReflectliteValue.elem];have e1 : ((150 : Int).toNat % 32 != 20 && (150 : Int).toNat % 32 != 22) = false := rfl;simp only [e1, Bool.false_eq_true, if_false, Sem.run_bind, hlu, Result.andThen, jcj hE];show (ReflectliteValue.mk e ⟨b', off, none⟩ ReflectliteValue.flagAddr).run P w = _;simp [ReflectliteValue.mk, Qe, Q0 hK, Result.andThen, ReflectliteValue.flagIndir, ReflectliteValue.flagAddr];omega
           . match i with
             | 0 => simp at hx hv'; subst hx hv'; exact .prim _ rfl
             | 1 => simp at hx hv'; subst hx hv'; exact .ptr _ _ _ hb'
             | 2 => simp at hx hv'; subst hx hv'; exact .int _ _
             | i + 3 => simp at hx
         . cases h
       . cases h
     . cases h
   . cases h
 . -- rElem
   rename_i rt G tab hd;split at h
   . rename_i t ht;split at h
     . rename_i u e hf;simp only [zO] at h;subst h;simp only [Vk, zA, beq_iff_eq, List.all_eq_true, Bool.not_eq_true'] at hk;obtain ⟨rfl, hcut, hk⟩ := hk;obtain ⟨hmem, he⟩ := vC hf;have := eq_of_beq he; subst this;obtain ⟨hp, hE⟩ := hk _ hmem;obtain ⟨u', rfl, hV⟩ := KS rfl hl hv;obtain ⟨hv', rfl, v1⟩ := JJ hV;have := vt v1 ht; subst this;refine ⟨_, ?_, jo6 g rt _ e⟩;simp only [Vj];rw [VN];simp only [Sem.run_bind, qW hp, Result.andThen, ReflectliteType.elem, jcj hE, Qf hcut]
     . cases h
   . cases h
 . -- rCmp
   rename_i G tab hd;split at h
   . rename_i t ht;split at h
     . rename_i u b hf;simp only [zO] at h;subst h;simp only [Vk, zA, beq_iff_eq, List.all_eq_true, Bool.not_eq_true'] at hk;obtain ⟨rfl, hk⟩ := hk;obtain ⟨hmem, he⟩ := vC hf;have := eq_of_beq he; subst this;obtain ⟨hp, hH, hE⟩ := hk _ hmem;split at hE
       . rename_i i hi;have hE := eq_of_beq hE;simp only at hE;subst hE;obtain ⟨u', rfl, hV⟩ := KS rfl hl hv;obtain ⟨hv', rfl, v1⟩ := JJ hV;have := vt v1 ht; subst this;refine ⟨.bool i.comparable, ?_, .bool _, rfl⟩;simp only [Vj];rw [VN];simp only [Sem.run_bind, qW hp, Result.andThen, Xw hH, typeInfo, run_program, hi, Sem.run_pure]
       . cases hE
     . cases h
   . cases h
 . -- rImpl
   rename_i G tab hd u0 hd';split at h
   . rename_i t t' ht ht';split at h
     . rename_i p b hf;simp only [zO] at h;subst h;simp only [Vk, zA, beq_iff_eq, List.all_eq_true, Bool.not_eq_true'] at hk;obtain ⟨rfl, hk⟩ := hk;obtain ⟨hmem, he⟩ := vC hf;simp only [zA, beq_iff_eq] at he;obtain ⟨e1, e2⟩ := he;subst e1 e2;obtain ⟨hp, hp', hM, hM', hK, hI⟩ := hk _ hmem;obtain ⟨x, y, rfl, hV, hV'⟩ := jaC rfl hl hv;obtain ⟨hv1, rfl, v1⟩ := JJ hV;obtain ⟨y', rfl, hV', -⟩ := iface_inv hV';obtain ⟨hv2, rfl, v2⟩ := JJ hV';have := vt v1 ht; subst this;have := vt v2 ht'; subst this;refine ⟨.bool b, ?_, .bool _, rfl⟩;simp only [Vj];show (ReflectliteType.relation _ _ #[_, _]).run P w = _;rw [VJ];have e20 : ((20 : Nat) != 20) = false := rfl;have hrun : (ReflectliteType.implements_ p.2 p.1).run P w = .ok b w := by
         simp only [ReflectliteType.implements_, Sem.run_bind, Q0 hK, Result.andThen, e20, Bool.false_eq_true, if_false, qV hM, JS hp', YL hI hM' hM]
       simp only [Sem.run_bind, qW hp, qW hp', Result.andThen, hrun, Sem.run_pure]
     . cases h
   . cases h
 . -- rAsg
   rename_i G tab hd u0 hd';split at h
   . rename_i t t' ht ht';split at h
     . rename_i p b hf;simp only [zO] at h;subst h;simp only [Vk, zA, beq_iff_eq, List.all_eq_true, Bool.not_eq_true'] at hk;obtain ⟨rfl, hk⟩ := hk;obtain ⟨hmem, he⟩ := vC hf;simp only [zA, beq_iff_eq] at he;obtain ⟨e1, e2⟩ := he;subst e1 e2;obtain ⟨hp, hp', hM, hM', hI⟩ := hk _ hmem;split at hI
       . rename_i b1 b2 hd1 hd2;have hI := eq_of_beq hI;simp only at hI;subst hI;obtain ⟨x, y, rfl, hV, hV'⟩ := jaC rfl hl hv;obtain ⟨hv1, rfl, v1⟩ := JJ hV;obtain ⟨y', rfl, hV', -⟩ := iface_inv hV';obtain ⟨hv2, rfl, v2⟩ := JJ hV';have := vt v1 ht; subst this;have := vt v2 ht'; subst this;refine ⟨.bool (b1 || b2), ?_, .bool _, rfl⟩;simp only [Vj];show (ReflectliteType.relation _ _ #[_, _]).run P w = _;rw [VJ];have hrun : (ReflectliteType.assignableTo p.2 p.1).run P w = .ok (b1 || b2) w := by
           simp only [ReflectliteType.assignableTo];split
           . simp only [Sem.run_bind, qV hM, qV hM', Result.andThen, jfQ hd1, YL hd2 hM' hM, Sem.run_pure]
           . simp only [Sem.run_bind, Result.andThen, jfQ hd1, YL hd2 hM' hM, Sem.run_pure]
         simp only [Sem.run_bind, qW hp, qW hp', Result.andThen, hrun, Sem.run_pure]
       . cases hI
     . cases h
   . cases h
 . -- aKind
   rename_i G tab hd;split at h
   . rename_i t ht;split at h
     . rename_i u n hf;simp only [zO] at h;subst h;simp only [Vk, zA, beq_iff_eq, List.all_eq_true, Bool.not_eq_true'] at hk;obtain ⟨rfl, hk⟩ := hk;obtain ⟨hmem, he⟩ := vC hf;have := eq_of_beq he; subst this;obtain ⟨hp, hK⟩ := hk _ hmem;obtain ⟨u', rfl, hV⟩ := KS rfl hl hv;have := vt hV ht; subst this;refine ⟨.int .u8 n, ?_, .int _ _, rfl⟩;simp only [Vj];rw [jlG];simp only [Sem.run_bind, Jr, JS hp, Result.andThen, Q0 hK, Sem.run_pure]
     . cases h
   . cases h
 . -- cntS
   rename_i sb c;simp only [zO] at h;subst h;obtain ⟨u, v, rfl, hV, hW⟩ := jaC rfl hl hv
   cases hV with
   | str bs =>
   cases hW;refine ⟨_, Lib.run_countString bs c w, ?_⟩;have e : c.toNat % 256 = c.toNat.toUInt8.toNat := by simp
   rw [e, jjJ, Nat.zero_add];exact ⟨.int _ _, rfl⟩
 . -- idxBS
   rename_i sb c;simp only [zO] at h;subst h;obtain ⟨u, v, rfl, hV, hW⟩ := jaC rfl hl hv
   cases hV with
   | str bs =>
   cases hW;refine ⟨_, Lib.run_indexByteString bs c w, ?_⟩;have e : c.toNat % 256 = c.toNat.toUInt8.toNat := by simp
   rw [e, jj8];have e2 : (if Lib.indexByte bs.data.toList c.toNat.toUInt8 = -1 then (-1 : Int) else Lib.indexByte bs.data.toList c.toNat.toUInt8 + (0 : Nat)) = Lib.indexByte bs.data.toList c.toNat.toUInt8 := by
     split <;> simp_all
   rw [e2];exact ⟨.int _ _, rfl⟩
 . -- mk0
   rename_i a;simp only [zO] at h;subst h;refine ⟨.tuple #[], ?_, .tup _ _ rfl (by simp) (by simp), rfl⟩;cases a <;> rfl
 . -- mk1
   rename_i a id off;simp only [zO] at h;subst h;obtain ⟨u, rfl, hV⟩ := KS rfl hl hv;obtain ⟨b, rfl, -⟩ := hV.ptr_inv;refine ⟨.tuple #[], ?_, .tup _ _ rfl (by simp) (by simp), rfl⟩;cases a <;> rfl
 . cases h
end Go.Idl
