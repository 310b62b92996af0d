/-
  Maps; aggregates; slices that are built, made, appended to.
-/
import Derived.Test.YtkjcgfadojfeeaaIdlOpsH
set_option linter.unusedSectionVars false
set_option linter.unusedVariables false
set_option linter.unusedSimpArgs false
namespace Go.Idl
variable [Globs]

variable {P : Program} {o : Oper} {a : Act} {g : Gh} {O : List Nat} {w : World} {s : St} {res : Res} {cf : CallF}

/-! ### aggregates -/
theorem fold_set : ∀ (vs : List Value) (k off : Nat) (c : Array Value), off + k + vs.length ≤ c.size →
    ((vs.zipIdx k).foldl (fun cs p => cs.setIfInBounds (off + p.2) p.1) c).toList = c.toList.take (off + k) ++ vs ++ c.toList.drop (off + k + vs.length) := by
  intro vs
  induction vs with
  | nil => intro k off c h; simp
  | cons v vs ih =>
    intro k off c h
    simp at h
    simp only [List.zipIdx_cons, List.foldl_cons]
    rw [ih (k + 1) off _ (by simp; omega)]
    have hk : off + k < c.toList.length := by simp; omega
    rw [Array.toList_setIfInBounds]
    have h1 : (c.toList.set (off + k) v).take (off + (k + 1)) = c.toList.take (off + k) ++ [v] := by
      rw [← Nat.add_assoc, List.take_set, List.take_add_one, List.set_append_right _ _ (by simp; omega)]
      have hm : min (off + k) c.toList.length = off + k := by omega
      simp only [List.length_take, hm, Nat.sub_self, List.getElem?_eq_getElem hk]
      simp
    rw [h1, List.drop_set_of_lt (by omega)]
    simp [Nat.add_assoc, Nat.add_comm 1]

theorem fold_fill {v : Value} {off : Nat} {c : Array Value} (h : off + v.cells.size ≤ c.size) :
    (v.cells.zipIdx.foldl (fun cs (p : Value × Nat) => cs.setIfInBounds (off + p.2) p.1) c).toList = c.toList.take off ++ v.cells.toList ++ c.toList.drop (off + v.cells.toList.length) := by
  have := fold_set v.cells.toList 0 off c (by simpa using h)
  simp only [Nat.add_zero] at this
  rw [← this, ← Array.foldl_toList]
  simp [Array.toList_zipIdx]

/-- What a struct's, or an array's, cells are after the parts. -/
theorem fill_sim {place : Nat → Option (Nat × Nat)} : ∀ {qs : List (Nat × Nat × IVal)} {ps : List (Nat × Value)} {cs cs' : List IVal} {c : Array Value}, qs.length = ps.length →
    (∀ (j : Nat) q p, qs[j]? = some q → ps[j]? = some p → place p.1 = some (q.1, q.2.1) ∧ V g q.2.2 p.2 ∧ Flat q.2.2) → cs.length = c.size → (∀ (i : Nat) x v, cs[i]? = some x → c[i]? = some v → V g x v ∧ x.isCell = true ∧ own1 x v = []) →
    fillI cs qs = some cs' → ∃ c' : Array Value, Instr.fill place c ps = some c' ∧ cs'.length = c'.size ∧ ∀ (i : Nat) x v, cs'[i]? = some x → c'[i]? = some v → V g x v ∧ x.isCell = true ∧ own1 x v = [] := by
  intro qs
  induction qs with
  | nil =>
    intro ps cs cs' c hl _ hc hv hf
    cases ps <;> simp at hl
    simp [fillI] at hf
    subst hf
    exact ⟨c, rfl, hc, hv⟩
  | cons q qs ih =>
    intro ps cs cs' c hl hp hc hv hf
    cases ps with
    | nil => simp at hl
    | cons p ps =>
      obtain ⟨off, size, x⟩ := q
      obtain ⟨i, v⟩ := p
      obtain ⟨h1, h2, h3⟩ := hp 0 _ _ rfl rfl
      simp only at h1 h2 h3
      simp only [fillI] at hf
      split at hf
      · rename_i hcond
        obtain ⟨hsz, hlen, hcell⟩ := hcond
        obtain ⟨q1, q2⟩ := h2.cells
        have hput : off + x.cells.length ≤ cs.length := by omega
        have hfill : Instr.fill place c ((i, v) :: ps) = Instr.fill place (v.cells.zipIdx.foldl (fun cs (c, j) => cs.setIfInBounds (off + j) c) c) ps := by
          simp only [Instr.fill, h1]
          rw [if_neg (by simp; omega)]
        rw [hfill]
        have hto := fold_fill (v := v) (off := off) (c := c) (by omega)
        refine ih (by simpa using hl) (fun j q p hq hp' => hp (j + 1) q p (by simpa using hq) (by simpa using hp')) ?_ (fun j y u hy hu => ?_) hf
        · rw [putCells_len hput, ← Array.length_toList]
          rw [hto]; simp; omega
        · rw [putCells_get hput] at hy
          have hu' : (c.toList.take off ++ v.cells.toList ++ c.toList.drop (off + v.cells.toList.length))[j]? = some u := by rw [← hto]; simpa using hu
          rw [putR_get (by simp; omega)] at hu'
          have e : v.cells.toList.length = x.cells.length := by rw [q1]; simp
          rw [e] at hu'
          split at hy
          · rename_i hj
            rw [if_pos hj] at hu'
            have hVj := q2 _ _ _ hy (by simpa using hu')
            have hm := List.mem_of_getElem? hy
            exact ⟨hVj, List.all_eq_true.1 hcell y hm, own1_flat (flat_cells h2 h3 y hm).1 u⟩
          · rename_i hj
            rw [if_neg hj] at hu'
            exact hv j y u hy (by simpa using hu')
      · cases hf

theorem getAll_V {vs : List IVal} {us : List Value} {l : Roots} {σ : List IObj} (h : R g O (vs.zip us ++ l) σ w) {i : Nat} {x : IVal} {u : Value} (hx : vs[i]? = some x) (hu : us[i]? = some u) : V g x u :=
  nt_of_get (fun p hp => h.vals p (by simp [hp])) hx hu

/-- The parts of a struct, or an array, by places. -/
def partsOK (place : Nat → Option (Nat × Nat)) : List (Nat × Nat × Opd) → List (Nat × Operand) → Bool
  | [], [] => true
  | q :: qs, p :: ps => place p.1 == some (q.1, q.2.1) && opdOK q.2.2 p.2 && partsOK place qs ps
  | _, _ => false

theorem partsOK_spec {place : Nat → Option (Nat × Nat)} : ∀ {qs : List (Nat × Nat × Opd)} {ps : List (Nat × Operand)}, partsOK place qs ps = true → opdsOK (qs.map (·.2.2)) (ps.map (·.2)) = true ∧ qs.length = ps.length ∧
    ∀ (j : Nat) q p, qs[j]? = some q → ps[j]? = some p → place p.1 = some (q.1, q.2.1) := by
  intro qs
  induction qs with
  | nil => intro ps h; cases ps <;> simp [partsOK, opdsOK] at h ⊢
  | cons q qs ih =>
    intro ps h
    cases ps with
    | nil => simp [partsOK] at h
    | cons p ps =>
      simp [partsOK] at h
      obtain ⟨⟨h1, h2⟩, h3⟩ := h
      obtain ⟨i1, i2, i3⟩ := ih h3
      refine ⟨by simp [opdsOK, h2, i1], by simp [i2], fun j q' p' hq hp => ?_⟩
      cases j with
      | zero => simp at hq hp; subst hq hp; exact h1
      | succ j => simp at hq hp; exact i3 j q' p' hq hp

theorem sim_build {zs : List IVal} {parts : List (Nat × Nat × Opd)} {T : TypeId} {rparts : Array (Nat × Operand)} {z : Value} {place : Nat → Option (Nat × Nat)} (hop : o.op = .build T rparts) (hc : cOKs zs z.cells.toList = true)
    (hplace : ∀ (ps : Array (Nat × Value)) cells, Instr.fill place z.cells ps.toList = some cells → (Instr.build T ps).run P w = .ok (.agg cells) w) (hp : partsOK place parts rparts.toList = true)
    (hs : stepOp cf (.build zs parts) s = some res) (hl : WT s.ts a.tmps) (hR : R g O (s.ts.roots a.tmps) s.σ w) : SimV P o a g O w s res := by
  simp only [stepOp] at hs
  split at hs
  · rename_i vs ts h
    split at hs
    case isFalse => cases hs
    rename_i hnt
    split at hs
    · rename_i cs hcs
      simp only [rv, Option.some.injEq] at hs
      subst hs
      obtain ⟨p1, p2, p3⟩ := partsOK_spec hp
      obtain ⟨h1, h2, h3⟩ := getAll_sim (l := []) p1 h hl hR
      obtain ⟨c1, c2⟩ := cOKs_V g hc
      have hlen := getAll_len h
      simp at hlen
      obtain ⟨c', f1, f2, f3⟩ := fill_sim (g := g) (place := place) (ps := (rparts.map fun (i, x) => (i, a.eval x)).toList) (c := z.cells) (by simp; simp at h3 p2; omega) (fun j q p hq hp' => by
        simp only [List.getElem?_map, Option.map_eq_some_iff] at hq
        obtain ⟨⟨q0, y⟩, hq0, rfl⟩ := hq
        simp only [List.getElem?_zip_eq_some] at hq0
        simp only [Array.toList_map, List.getElem?_map, Option.map_eq_some_iff] at hp'
        obtain ⟨⟨k, r⟩, hr, rfl⟩ := hp'
        have hu : ((rparts.toList.map (·.2)).map a.eval)[j]? = some (a.eval r) := by simp [hr]
        have hV := getAll_V h1 hq0.2 hu
        exact ⟨p3 j q0 (k, r) hq0.1 hr, hV.un2, nt_un2_of (List.all_eq_true.1 hnt y (List.mem_of_getElem? hq0.2))⟩) (by simpa using c1) (fun i x v hx hv => by
        obtain ⟨a1, a2, a3⟩ := c2 i x v hx (by simpa using hv)
        exact ⟨a1, a3, a2⟩) hcs
      refine SimV.same (v' := .agg c') ?_ ((R.drops h1).push (.agg cs c' f2 (fun i x v hx hv => (f3 i x v hx hv).1) (fun x hx => by
        obtain ⟨i, hi⟩ := mem_idx hx
        obtain ⟨v, hv⟩ := get_of_size f2 hi
        exact (f3 i x v hi hv).2.1)) ?_) h2
      · simp only [execOp, hop, Sem.run_bind]
        rw [hplace _ _ f1]; simp
      · simp only [own3, own2]
        apply flatten_nil
        intro c hcm
        obtain ⟨i, x, y, e1, e2, rfl⟩ := mem_zipWith hcm
        exact (f3 i x y e1 (by simpa using e2)).2.2
    · cases hs
  · cases hs

/-! ### maps -/
theorem run_makeMap' {T : TypeId} : (Instr.makeMap T none).run P w = .ok (.map (some w.heap.size)) (w.alloc (.map #[] 0)) := by simp [Instr.makeMap]

theorem sim_mkMap {T : TypeId} (hop : o.op = .makeMap T none) (hs : stepOp cf .mkMap s = some res) (hl : WT s.ts a.tmps) (hR : R g O (s.ts.roots a.tmps) s.σ w) : SimV P o a g O w s res := by
  simp only [stepOp, Option.some.injEq] at hs
  subst hs
  have hrun : (execOp a.eval o).run P w = .ok (.value (.map (some w.heap.size))) (w.alloc (.map #[] 0)) := by simp [execOp, hop, run_makeMap']
  have hnew := (hR.push (undef_V g) rfl).new (obr := .map #[] 0) (ob := .map []) (fun _ => ⟨#[], 0, alloc_new w _, rfl, by simp⟩) ⟨[], by simp [ownO], by simp⟩
  refine ⟨rfl, _, _, _, hrun, rfl, g.fresh w.heap.size, w.heap.size :: O, [], growFresh hR _, hnew.push (.map _ _ ?_) rfl, hl, rfl, Keep.snoc _ _⟩
  simp [Gh.fresh, ← hR.len]

def keyD : Nat → TypeDesc → Bool
  | 0, .int _ => true
  | 1, .string => true
  | 2, .bool => true
  | _, _ => false

theorem eqCell_spec {kk : Nat} {x y : IVal} {u v : Value} {b : Bool} {d : TypeDesc} (h : eqCell x y = some b) (hx : V g x u) (hy : V g y v) (hk : keyK kk x = true) (hd : keyD kk d = true) :
    Instr.sameNow d u v = some b := by
  unfold eqCell at h
  split at h
  · rename_i k i k' j
    rw [hx.int_inv, hy.int_inv]
    split at h
    · rename_i hkk
      simp only [Option.some.injEq] at h; subst h hkk
      unfold keyK at hk
      split at hk <;> simp_all
      unfold keyD at hd
      split at hd <;> simp_all [Instr.sameNow]
    · cases h
  · rw [hx.bool_inv, hy.bool_inv]
    simp only [Option.some.injEq] at h; subst h
    unfold keyK at hk
    split at hk <;> simp_all
    unfold keyD at hd
    split at hd <;> simp_all [Instr.sameNow]
  · obtain ⟨t, rfl, rfl⟩ := hx.str_inv
    obtain ⟨t', rfl, rfl⟩ := hy.str_inv
    simp only [Option.some.injEq] at h; subst h
    have hb : (t == t') = (t.data.toList == t'.data.toList) := by rw [beq_toListBytes, toList_str, toList_str]
    have hkk : kk = 1 := by unfold keyK at hk; split at hk <;> simp_all
    subst hkk
    have hdd : d = .string := by unfold keyD at hd; split at hd <;> simp_all
    subst hdd
    simp only [Instr.sameNow, Option.some.injEq]; exact hb
  · cases h

/-- What is found under a key. -/
theorem findE_spec {kk : Nat} {d : TypeDesc} {k : IVal} {u : Value} (hk : V g k u) (hkk : keyK kk k = true) (hd : keyD kk d = true) : ∀ {es : List (IVal × IVal)} {mes : List MapEntry} {r : Option IVal} (n : Nat), es.length = mes.length →
    (∀ (i : Nat) e me, es[i]? = some e → mes[i]? = some me → V g e.1 me.key ∧ V g e.2 me.val) → findE k es = some r →
    ∃ q, Instr.findNow d u mes n = some q ∧ (match r with | none => q = none | some x => ∃ j me, q = some (n + j, me.val) ∧ mes[j]? = some me ∧ V g x me.val ∧ ∃ e, es[j]? = some e ∧ e.2 = x) := by
  intro es
  induction es with
  | nil =>
    intro mes r n hl _ hf
    cases mes <;> simp at hl
    simp [findE] at hf; subst hf
    exact ⟨none, rfl, rfl⟩
  | cons e es ih =>
    intro mes r n hl hv hf
    cases mes with
    | nil => simp at hl
    | cons me mes =>
      obtain ⟨k', v'⟩ := e
      obtain ⟨h1, h2⟩ := hv 0 _ _ rfl rfl
      simp only [findE] at hf
      split at hf
      · rename_i he
        simp at hf; subst hf
        have := eqCell_spec he hk h1 hkk hd
        exact ⟨some (n, me.val), by simp [Instr.findNow, this], 0, me, rfl, rfl, h2, (k', v'), rfl, rfl⟩
      · rename_i he
        have := eqCell_spec he hk h1 hkk hd
        obtain ⟨q, q1, q2⟩ := ih (n + 1) (by simpa using hl) (fun i e me hi hm => hv (i + 1) e me (by simpa using hi) (by simpa using hm)) hf
        refine ⟨q, by simp [Instr.findNow, this, q1], ?_⟩
        cases r with
        | none => exact q2
        | some x =>
          obtain ⟨j, me', a1, a2, a3, e', a4, a5⟩ := q2
          exact ⟨j + 1, me', by rw [a1]; congr 2; omega, by simpa using a2, a3, e', by simpa using a4, a5⟩
      · cases hf

theorem run_checkKey {kk : Nat} {b : Bool} {n : Nat} {T : TypeId} {d : TypeDesc} {u : Value} {k : IVal} (hT : P.underlying T = some d) (hk : V g k u) (hkk : keyK kk k = true) (hd : keyD kk d = true) : (Instr.checkKey b (n + 1) T u).run P w = .ok () w := by
  unfold keyK at hkk
  split at hkk
  · unfold keyD at hd; split at hd <;> simp_all
    rw [hk.int_inv]; simp [Instr.checkKey, run_und hT]
  · unfold keyD at hd; split at hd <;> simp_all
    obtain ⟨t, rfl, _⟩ := hk.str_inv; simp [Instr.checkKey, run_und hT]
  · unfold keyD at hd; split at hd <;> simp_all
    rw [hk.bool_inv]; simp [Instr.checkKey, run_und hT]
  · cases hkk

theorem run_checkKey' {kk : Nat} {b : Bool} {T : TypeId} {d : TypeDesc} {u : Value} {k : IVal} (hT : P.underlying T = some d) (hk : V g k u) (hkk : keyK kk k = true) (hd : keyD kk d = true) : (Instr.checkKey b 10000 T u).run P w = .ok () w := run_checkKey (n := 9999) hT hk hkk hd

theorem run_getMap {b : Nat} {mes : Array MapEntry} {clock : Nat} (h : w.heap[b]? = some (.map mes clock)) : (getObj b).run P w = .ok (.map mes clock) w := by simp [getObj, Sem.run, h]

theorem sim_lookup {kk : Nat} {ok : Bool} {z : IVal} {x y : Opd} {rx ry : Operand} {T K E : TypeId} {d : TypeDesc} {i : TypeInfo} {zv : Value} (hop : o.op = .lookup T rx ry ok) (hx : opdOK x rx = true) (hy : opdOK y ry = true) (hT : P.underlying T = some (.map K E)) (hK : P.underlying K = some d)
    (hd : keyD kk d = true) (hi : P.info? E = some i) (hz : i.zero = some zv) (hzc : cOK z zv = true) (hznt : nt z = true) (hs : stepOp cf (.lookup kk z ok x y) s = some res)
    (hl : WT s.ts a.tmps) (hR : R g O (s.ts.roots a.tmps) s.σ w) : SimV P o a g O w s res := by
  simp only [stepOp] at hs
  split at hs
  · rename_i id ts h
    split at hs
    · rename_i k ts' h'
      split at hs
      · rename_i es hes
        split at hs
        · rename_i hkk
          obtain ⟨h1, h2⟩ := get_sim (l := []) hx h hl hR
          obtain ⟨h3, h4⟩ := get_sim (l := [(.map id, a.eval rx)]) hy h' h2 h1
          obtain ⟨b, hb, hι⟩ := h3.drop.head.map_inv
          obtain ⟨mes, clock, m1, m2, m3⟩ := h3.objs id b _ hι hes
          have hkV := h3.head
          have hpair : ∀ (v : IVal) (u : Value) (fb : Bool), V g v u → own3 v u = [] → nt v = true → (execOp a.eval o).run P w = .ok (.value (if ok then .tuple #[u, .bool fb] else u)) w → SimV P o a g O w s ⟨false, if ok then .tup [v, .bool fb] else v, { s with ts := ts' }⟩ := by
            intro v u fb hv ho hnv hrun
            refine SimV.same hrun (h3.drop.drop.push ?_ ?_) h4
            · split
              · refine .tup _ _ rfl (fun i x w hx hw => ?_) (fun y hy => by
                  simp at hy
                  rcases hy with rfl | rfl
                  · exact hnv
                  · rfl)
                cases i with
                | zero => simp at hx hw; subst hx hw; exact hv
                | succ i =>
                  cases i with
                  | zero => simp at hx hw; subst hx hw; exact .bool _
                  | succ i => simp at hx
              · exact hv
            · split
              · rw [own3_nt hnv] at ho
                show own2 v u ++ (own2 (.bool fb) (.bool fb) ++ []) = []
                rw [ho]; rfl
              · exact ho
          split at hs
          · rename_i v hf
            simp only [rv, Option.some.injEq] at hs
            subst hs
            obtain ⟨q, q1, q2⟩ := findE_spec hkV hkk hd (mes := mes.toList) 0 (by simpa using m2.symm) (fun i e me he hm => (m3 i e me he (by simpa using hm)).1) hf
            obtain ⟨j, me, rfl, q3, q4, e, q5, rfl⟩ := q2
            have hfl := (m3 j e me q5 (by simpa using q3)).2.2
            refine hpair _ _ true q4 (own3_flat hfl _) hfl.2 ?_
            simp [execOp, hop, hb, Instr.lookup, run_und hT, run_getMap m1, run_checkKey' hK hkV hkk hd, Instr.findKey, run_und hK, q1]
          · rename_i hf
            simp only [rv, Option.some.injEq] at hs
            subst hs
            obtain ⟨q, q1, rfl⟩ := findE_spec hkV hkk hd (mes := mes.toList) 0 (by simpa using m2.symm) (fun i e me he hm => (m3 i e me he (by simpa using hm)).1) hf
            obtain ⟨z1, z2⟩ := cOK_V g hzc
            refine hpair z zv false z1 z2 hznt ?_
            simp [execOp, hop, hb, Instr.lookup, run_und hT, run_getMap m1, run_checkKey' hK hkV hkk hd, Instr.findKey, run_und hK, q1, zeroValue, typeInfo, hi, hz]
          · cases hs
        · cases hs
      · cases hs
    · cases hs
  · cases hs

theorem sim_lenM {x : Opd} {r : Operand} {c : Call} {T K E : TypeId} (hop : o.op = .call c) (hc : c.callee = .builtin .len) (ha : c.args = #[r]) (hta : c.argTypes[0]? = some T) (hx : opdOK x r = true) (hT : P.underlying T = some (.map K E))
    (hs : stepOp cf (.lenM x) s = some res) (hl : WT s.ts a.tmps) (hR : R g O (s.ts.roots a.tmps) s.σ w) : SimV P o a g O w s res := by
  simp only [stepOp] at hs
  split at hs
  · rename_i id ts h
    split at hs
    · rename_i es hes
      simp only [rv, Option.some.injEq] at hs
      subst hs
      obtain ⟨h1, h2⟩ := get_sim (l := []) hx h hl hR
      obtain ⟨b, hb, hι⟩ := h1.head.map_inv
      obtain ⟨mes, clock, m1, m2, m3⟩ := h1.objs id b _ hι hes
      refine SimV.same (v' := .int .i64 mes.size) ?_ (h1.drop.push (by rw [m2]; exact .int _ _) rfl) h2
      simp [execOp, hop, resolve, hc, ha, invoke, builtin, hb, Builtin.len_, hta, run_und hT, goInt, run_getMap m1]
    · cases hs
  · cases hs

theorem sameBits_of {k k' : IVal} {u v : Value} (h : eqCell k k' = some true) (hx : V g k u) (hy : V g k' v) : Instr.sameBits 10000 v u = true := by
  unfold eqCell at h
  split at h
  · rw [hx.int_inv, hy.int_inv]
    split at h
    · simp at h; simp_all [Instr.sameBits]
    · cases h
  · rw [hx.bool_inv, hy.bool_inv]; simp at h; simp [Instr.sameBits, h]
  · obtain ⟨t, rfl, rfl⟩ := hx.str_inv
    obtain ⟨t', rfl, rfl⟩ := hy.str_inv
    simp only [Option.some.injEq] at h
    have hb : (t' == t) = true := by rw [beq_toListBytes, toList_str, toList_str]; simp at h; simp [h]
    simp only [Instr.sameBits]; exact hb
  · cases h

/-- What stands under a key is set. -/
theorem setE_spec {kk : Nat} {d : TypeDesc} {k x : IVal} {u v : Value} (hk : V g k u) (hx : V g x v) (hkk : keyK kk k = true) (hd : keyD kk d = true) (hfx : Flat x) : ∀ {es es' : List (IVal × IVal)} {mes : List MapEntry} (n : Nat), es.length = mes.length →
    (∀ (i : Nat) e me, es[i]? = some e → mes[i]? = some me → (V g e.1 me.key ∧ V g e.2 me.val) ∧ Flat e.1 ∧ Flat e.2) → setE k x es = some es' →
    (∃ j me, Instr.findNow d u mes n = some (some (n + j, me.val)) ∧ mes[j]? = some me ∧ Instr.sameBits 10000 me.key u = true ∧ es'.length = es.length ∧
      ∀ (i : Nat) e m, es'[i]? = some e → (mes.modify j fun e => { e with key := u, val := v })[i]? = some m → (V g e.1 m.key ∧ V g e.2 m.val) ∧ Flat e.1 ∧ Flat e.2) ∨
    (Instr.findNow d u mes n = some none ∧ es' = es ++ [(k, x)]) := by
  have hfk : Flat k := by unfold keyK at hkk; split at hkk <;> first | exact ⟨rfl, rfl⟩ | cases hkk
  intro es
  induction es with
  | nil =>
    intro es' mes n hl _ hf
    cases mes <;> simp at hl
    simp [setE] at hf; subst hf
    exact .inr ⟨rfl, rfl⟩
  | cons e es ih =>
    intro es' mes n hl hv hf
    cases mes with
    | nil => simp at hl
    | cons me mes =>
      obtain ⟨k', v'⟩ := e
      obtain ⟨⟨h1, h2⟩, h3, h4⟩ := hv 0 _ _ rfl rfl
      simp only [setE] at hf
      split at hf
      · rename_i he
        simp at hf; subst hf
        have := eqCell_spec he hk h1 hkk hd
        refine .inl ⟨0, me, by simp [Instr.findNow, this], rfl, sameBits_of he hk h1, by simp, fun i e m hi hm => ?_⟩
        cases i with
        | zero => simp at hi hm; subst hi hm; exact ⟨⟨hk, hx⟩, hfk, hfx⟩
        | succ i => simp at hi hm; exact hv (i + 1) e m (by simpa using hi) (by simpa using hm)
      · rename_i he
        have hs := eqCell_spec he hk h1 hkk hd
        split at hf
        · rename_i es'' hse
          simp at hf; subst hf
          rcases ih (n + 1) (by simpa using hl) (fun i e me hi hm => hv (i + 1) e me (by simpa using hi) (by simpa using hm)) hse with ⟨j, me', a1, a2, a3, a4, a5⟩ | ⟨a1, a2⟩
          · refine .inl ⟨j + 1, me', ?_, by simpa using a2, a3, by simp [a4], fun i e m hi hm => ?_⟩
            · simp only [Instr.findNow, hs, a1]; congr 3; omega
            · cases i with
              | zero => simp at hi hm; subst hi hm; exact ⟨⟨h1, h2⟩, h3, h4⟩
              | succ i => simp at hi hm; exact a5 i e m hi hm
          · exact .inr ⟨by simp [Instr.findNow, hs, a1], by rw [a2]; rfl⟩
        · cases hf
      · cases hf

theorem setE_mem {k x : IVal} : ∀ {es es' : List (IVal × IVal)}, setE k x es = some es' → ∀ e ∈ es', (∃ e0 ∈ es, e = e0) ∨ (e.1 = k ∧ e.2 = x) := by
  intro es
  induction es with
  | nil => intro es' h; simp [setE] at h; subst h; intro e he; simp at he; subst he; exact .inr ⟨rfl, rfl⟩
  | cons e es ih =>
    intro es' h
    obtain ⟨k', v'⟩ := e
    simp only [setE] at h
    split at h
    · simp at h; subst h
      intro e he
      rcases List.mem_cons.1 he with rfl | he
      · exact .inr ⟨rfl, rfl⟩
      · exact .inl ⟨e, by simp [he], rfl⟩
    · split at h
      · rename_i es'' hse
        simp at h; subst h
        intro e he
        rcases List.mem_cons.1 he with rfl | he
        · exact .inl ⟨_, by simp, rfl⟩
        · rcases ih hse e he with ⟨e0, h0, rfl⟩ | h0
          · exact .inl ⟨e, by simp [h0], rfl⟩
          · exact .inr h0
      · cases h
    · cases h

theorem run_setMap {b : Nat} {mes mes' : Array MapEntry} {clock clock' : Nat} (h : w.heap[b]? = some (.map mes clock)) : (setObj b (.map mes' clock')).run P w = .ok () { w with heap := w.heap.setIfInBounds b (.map mes' clock') } := by simp [setObj, Sem.run, h]

theorem sim_mapSet {kk : Nat} {x y z : Opd} {rx ry rz : Operand} {T K E : TypeId} {d : TypeDesc} (hop : o.op = .mapUpdate T rx ry rz ∨ o.op = .insert T rx ry rz) (hx : opdOK x rx = true) (hy : opdOK y ry = true) (hz : opdOK z rz = true) (hT : P.underlying T = some (.map K E)) (hK : P.underlying K = some d)
    (hd : keyD kk d = true) (hs : stepOp cf (.mapSet kk x y z) s = some res) (hl : WT s.ts a.tmps) (hR : R g O (s.ts.roots a.tmps) s.σ w) : SimV P o a g O w s res := by
  simp only [stepOp] at hs
  split at hs
  · rename_i id ts h
    split at hs
    · rename_i k ts' h'
      split at hs
      · rename_i v ts'' h''
        split at hs
        · rename_i es hes
          split at hs
          · rename_i hcond
            simp only [Bool.and_eq_true] at hcond
            obtain ⟨hkk, hnt⟩ := hcond
            split at hs
            · rename_i es' hse
              simp only [Option.some.injEq] at hs
              subst hs
              obtain ⟨h1, h2⟩ := get_sim (l := []) hx h hl hR
              obtain ⟨h3, h4⟩ := get_sim (l := [(.map id, a.eval rx)]) hy h' h2 h1
              obtain ⟨h5, h6⟩ := get_sim (l := [(k, a.eval ry), (.map id, a.eval rx)]) hz h'' h4 h3
              have hkV := h5.drop.head
              have hvV := h5.head
              obtain ⟨b, hb, hι⟩ := h5.drop.drop.head.map_inv
              obtain ⟨mes, clock, m1, m2, m3⟩ := h5.objs id b _ hι hes
              have hfv := nt_un2_of hnt
              have hbO : b ∈ O := h5.sub b (List.mem_append_right _ (ownS_mem hι hes (by simp [ownO])))
              have hroot : R g O ((undefI, undef) :: ts''.roots a.tmps) s.σ w := h5.drop.drop.drop.push (undef_V g) rfl
              have hkeep : ∀ es', (∀ e ∈ es', (∃ e0 ∈ es, e = e0) ∨ (e.1 = k ∧ e.2 = un2 v)) → Keep s.σ (s.σ.set id (.map es')) [(id, !(nr2 v))] := by
                intro es' hes'
                refine Keep.set fun m hid hm ho e he => ?_
                rcases hes' e he with ⟨e0, he0, rfl⟩ | ⟨e1, e2⟩
                · exact ho _ hes e he0
                · rw [e1, e2]
                  refine ⟨hkV.norl m (by unfold keyK at hkk; split at hkk <;> first | rfl | cases hkk), ?_⟩
                  by_cases hnr : nr2 v = true
                  · exact (hvV.norl m (nr3_of_nr2 hnr)).un2
                  · exact absurd (hm (by simpa using hnr)) (by omega)
              have hset : ∀ (mes' : Array MapEntry) (clock' : Nat) (es' : List (IVal × IVal)), mes'.size = es'.length → (∀ (i : Nat) e me, es'[i]? = some e → mes'[i]? = some me → (V g e.1 me.key ∧ V g e.2 me.val) ∧ Flat e.1 ∧ Flat e.2) →
                  (execOp a.eval o).run P w = .ok .skip { w with heap := w.heap.setIfInBounds b (.map mes' clock') } → (∀ e ∈ es', (∃ e0 ∈ es, e = e0) ∨ (e.1 = k ∧ e.2 = un2 v)) →
                  SimV P o a g O w s ⟨false, undefI, { ts := ts'', σ := s.σ.set id (.map es'), wr := (id, !(nr2 v)) :: s.wr }⟩ := by
                intro mes' clock' es' hsz hvals hrun hes'
                have hbl : b < w.heap.size := h5.lt b hbO
                have hnew : ({ w with heap := w.heap.setIfInBounds b (.map mes' clock') } : World).heap[b]? = some (.map mes' clock') := by simp [hbl]
                have hother : ∀ k, k ≠ b → ({ w with heap := w.heap.setIfInBounds b (.map mes' clock') } : World).heap[k]? = w.heap[k]? := by
                  intro k hk; simp only; rw [Array.getElem?_setIfInBounds_ne (Ne.symm hk)]
                have hR' := hroot.upd (y := undefI) (u := undef) (id := id) (b := b) (ob := .map es) (ob' := .map es') (w' := { w with heap := w.heap.setIfInBounds b (.map mes' clock') }) (undef_V g) hι hes (by simp) hother (by simp) (fun c el fz hc => by rw [m1] at hc; cases hc)
                  ⟨mes', clock', hnew, hsz, hvals⟩ (by simp only [ownO]; exact SubP.refl _)
                exact ⟨rfl, undef, _, _, hrun, rfl, g, O, [(id, !(nr2 v))], Grow.of_setRow g w hbO _ hother (by simp) rfl rfl rfl, hR', h6, rfl, hkeep es' hes'⟩
              have hop' : ∀ mes' clock', (Instr.mapUpdate T (.map (some b)) (a.eval ry) (a.eval rz)).run P w = .ok () { w with heap := w.heap.setIfInBounds b (.map mes' clock') } → (execOp a.eval o).run P w = .ok .skip { w with heap := w.heap.setIfInBounds b (.map mes' clock') } := by
                intro mes' clock' hrun
                rcases hop with hop | hop <;> simp [execOp, hop, hb, hrun]
              rcases setE_spec (d := d) hkV hvV.un2 hkk hd hfv (mes := mes.toList) 0 (by simpa using m2.symm) (fun i e me he hm => m3 i e me he (by simpa using hm)) hse with ⟨j, me, a1, a2, a3, a4, a5⟩ | ⟨a1, a2⟩
              · refine hset (mes.modify j fun e => { e with key := a.eval ry, val := a.eval rz }) clock es' (by simp [a4, m2]) (fun i e m he hm => a5 i e m he ?_) (hop' _ _ ?_) ?_
                · have h0 : (mes.modify j fun e => { e with key := a.eval ry, val := a.eval rz }).toList[i]? = some m := by rw [Array.getElem?_toList]; exact hm
                  rwa [Array.toList_modify] at h0
                · have hj : mes[j]? = some me := by simpa using a2
                  simp [Instr.mapUpdate, run_und hT, run_getMap m1, run_checkKey' hK hkV hkk hd, Instr.findKey, run_und hK, a1, hj, Instr.keyThatStays, a3, run_setMap m1]
                · exact setE_mem hse
              · subst a2
                refine hset (mes.push { key := a.eval ry, val := a.eval rz, born := clock }) (clock + 1) _ (by simp [m2]) (fun i e m he hm => ?_) (hop' _ _ ?_) (setE_mem hse)
                · rcases get_snoc he with he' | ⟨he', rfl⟩
                  · have hi := lt_of_get he'
                    rw [Array.getElem?_push_lt (by omega)] at hm
                    exact m3 i e m he' (by rw [← hm]; simp)
                  · rw [he', ← m2] at hm
                    simp at hm; subst hm
                    have hfk : Flat k := by unfold keyK at hkk; split at hkk <;> first | exact ⟨rfl, rfl⟩ | cases hkk
                    exact ⟨⟨hkV, hvV.un2⟩, hfk, hfv⟩
                · simp [Instr.mapUpdate, run_und hT, run_getMap m1, run_checkKey' hK hkV hkk hd, Instr.findKey, run_und hK, a1, run_setMap m1]
            · cases hs
          · cases hs
        · cases hs
      · cases hs
    · cases hs
  · cases hs

end Go.Idl
