/-
  Operations that touch no memory, fourth part: strings, slices, lengths, tests against nil, aggregates.
-/
import Derived.Test.YtkjcgfadojfeeaaIdlOpsC
set_option linter.unusedSectionVars false
set_option linter.unusedVariables false
set_option linter.unusedSimpArgs false
namespace Go.Idl
variable [Globs]

variable {P : Program} {o : Oper} {a : Act} {g : Gh} {O : List Nat} {w : World} {s : St} {res : Res} {cf : CallF}

theorem sim_idxAddrA {x y : Opd} {rx ry : Operand} {T E : TypeId} {i : TypeInfo} {len : Nat} (hop : o.op = .indexAddr T rx ry) (hx : opdOK x rx = true) (hy : opdOK y ry = true) (hT : P.underlying T = some (.array len E)) (hE : P.info? E = some i)
    (hs : stepOp cf (.idxAddrA len i.size x y) s = some res) (hl : WT s.ts a.tmps) (hR : R g O (s.ts.roots a.tmps) s.σ w) : SimV P o a g O w s res := by
  simp only [stepOp] at hs
  split at hs
  · rename_i id off ts h
    split at hs
    · rename_i k n ts' h'
      split at hs
      · rename_i hn0
        simp only [rv, Option.some.injEq] at hs
        subst hs
        obtain ⟨h1, h2⟩ := get_sim (l := []) hx h hl hR
        obtain ⟨h3, h4⟩ := get_sim (l := [(.ptr id off, a.eval rx)]) hy h' h2 h1
        have hn := h3.head.int_inv
        obtain ⟨b, hb, hι⟩ := h3.drop.head.ptr_inv
        refine SimV.same (v' := .pointer (some ⟨b, off + n.toNat * i.size, none⟩)) ?_ (h3.drop.drop.push (.ptr id _ b hι) rfl) h4
        simp only [execOp, hop, hb, hn, Instr.indexAt, asIntOf, Sem.run_bind, Sem.run_pure, Result.andThen_ok, run_und hT]
        simp [run_sizeOf hE, Instr.sureAddr, hn0, addr_add]
      · cases hs
    · cases hs
  · rename_i rf cs off ts h
    split at hs
    · rename_i k n ts' h'
      split at hs
      · rename_i hn0
        simp only [rv, Option.some.injEq] at hs
        subst hs
        obtain ⟨h1, h2⟩ := get_sim (l := []) hx h hl hR
        obtain ⟨h3, h4⟩ := get_sim (l := [(.pv rf cs off, a.eval rx)]) hy h' h2 h1
        have hn := h3.head.int_inv
        obtain ⟨vs, b, e, hb, hl', hv, hf', hr, hm⟩ := h3.drop.head.pv_inv
        refine SimV.same (v' := .pointer (some ⟨b, e + (off + n.toNat * i.size), none⟩)) ?_ (h3.drop.drop.push (V.pv_mk _ hl' hv hf' hr hm) rfl) h4
        simp only [execOp, hop, hb, hn, Instr.indexAt, asIntOf, Sem.run_bind, Sem.run_pure, Result.andThen_ok, run_und hT]
        simp [run_sizeOf hE, Instr.sureAddr, hn0, addr_add, Nat.add_assoc]
      · cases hs
    · cases hs
  · cases hs

theorem str_get {t : ByteArray} {n : Nat} {c : UInt8} (h : t.data.toList[n]? = some c) : t[n]? = some c := by
  have hn : n < t.data.size := by simpa using lt_of_get h
  have hn' : n < t.size := hn
  rw [getElem?_pos t n hn']
  simp at h
  have := (Array.getElem?_eq_some_iff.1 h).2
  rw [← this]
  rfl

theorem sim_idxS {x y : Opd} {rx ry : Operand} {T : TypeId} (hop : o.op = .index T rx ry) (hx : opdOK x rx = true) (hy : opdOK y ry = true) (hT : P.underlying T = some .string)
    (hs : stepOp cf (.idxS x y) s = some res) (hl : WT s.ts a.tmps) (hR : R g O (s.ts.roots a.tmps) s.σ w) : SimV P o a g O w s res := by
  simp only [stepOp] at hs
  split at hs
  · rename_i b ts h
    split at hs
    · rename_i k n ts' h'
      split at hs
      · rename_i hn0
        split at hs
        · rename_i c hc
          simp only [rv, Option.some.injEq] at hs
          subst hs
          obtain ⟨h1, h2⟩ := get_sim (l := []) hx h hl hR
          obtain ⟨h3, h4⟩ := get_sim (l := [(.str b, a.eval rx)]) hy h' h2 h1
          have hn := h3.head.int_inv
          obtain ⟨t, ht, rfl⟩ := h3.drop.head.str_inv
          refine SimV.same (v' := .int .u8 c.toNat) ?_ (h3.drop.drop.push (.int _ _) rfl) h4
          simp [execOp, hop, ht, hn, Instr.index, asIntOf, run_und hT, hn0, str_get hc]
        · cases hs
      · cases hs
    · cases hs
  · cases hs

theorem sim_idxA {x y : Opd} {rx ry : Operand} {T E : TypeId} {i : TypeInfo} {len : Nat} {n : Option Nat} (hop : o.op = .index T rx ry) (hx : opdOK x rx = true) (hy : opdOK y ry = true) (hT : P.underlying T = some (.array len E)) (hE : P.info? E = some i) (hn : tyN P E n = true)
    (hs : stepOp cf (.idxA len i.size n x y) s = some res) (hl : WT s.ts a.tmps) (hR : R g O (s.ts.roots a.tmps) s.σ w) : SimV P o a g O w s res := by
  simp only [stepOp] at hs
  split at hs
  · rename_i cs ts h
    split at hs
    · rename_i k j ts' h'
      split at hs
      · rename_i hn0
        split at hs
        · rename_i z hz
          simp only [rv, Option.some.injEq] at hs
          subst hs
          obtain ⟨h1, h2⟩ := get_sim (l := []) hx h hl hR
          obtain ⟨h3, h4⟩ := get_sim (l := [(.agg cs, a.eval rx)]) hy h' h2 h1
          have hj := h3.head.int_inv
          obtain ⟨vs, hb, hl', hv, hc⟩ := h3.drop.head.agg_inv
          obtain ⟨u, hu, hV, ho⟩ := run_part (P := P) (w := w) hn hl' hv hc hz
          refine SimV.same (v' := u) ?_ (h3.drop.swap (fun _ => hV) (by rw [hb]; exact ho)) h4
          simp [execOp, hop, hb, hj, Instr.index, asIntOf, run_und hT, hn0, run_sizeOf hE, hu]
        · cases hs
      · cases hs
    · cases hs
  · cases hs

def optOK : Option Opd → Option Operand → Bool
  | none, none => true
  | some x, some r => opdOK x r
  | _, _ => false

/-- A bound of a slice expression. -/
theorem optInt_sim {x : Option Opd} {r : Option Operand} {ts : Ts} {l : Roots} {σ : List IObj} {d n : Nat} (hx : optOK x r = true) (hg : optInt x ts d = some n) (hl : WT ts a.tmps)
    (hR : R g O (l ++ ts.roots a.tmps) σ w) : (r = none ∧ n = d) ∨ ∃ r', r = some r' ∧ ∃ k, a.eval r' = .int k n := by
  cases x with
  | none => cases r <;> simp [optOK] at hx; simp [optInt] at hg; exact .inl ⟨rfl, hg.symm⟩
  | some x =>
    cases r with
    | none => simp [optOK] at hx
    | some r =>
      refine .inr ⟨r, rfl, ?_⟩
      simp only [optInt] at hg
      split at hg
      · rename_i k m ts' h
        obtain ⟨h1, _⟩ := get_sim (l := l) hx h hl hR
        refine ⟨k, ?_⟩
        rw [h1.head.int_inv]
        unfold nat at hg
        split at hg
        · simp at hg; congr 1; omega
        · cases hg
      · cases hg

theorem run_bound {k : IntKind} {n y : Nat} {c : BoundsCode} (h : n ≤ y) : (Instr.sliceBound (.int k n) y c).run P w = .ok n w := by
  simp [Instr.sliceBound, asIntOf, h]

theorem run_bounds {isS : Bool} {len cap l h m : Nat} {lo hi mx : Option Value} (hlo : lo = none ∧ l = 0 ∨ ∃ k, lo = some (.int k l)) (hhi : hi = none ∧ h = len ∧ mx = none ∨ ∃ k, hi = some (.int k h)) (hmx : mx = none ∧ m = cap ∨ ∃ k, mx = some (.int k m))
    (h1 : l ≤ h) (h2 : h ≤ m) (h3 : m ≤ cap) : (Instr.sliceBounds isS len cap lo hi mx).run P w = .ok (l, h, m) w := by
  rcases hlo with ⟨rfl, rfl⟩ | ⟨k1, rfl⟩ <;> rcases hhi with ⟨rfl, rfl, rfl⟩ | ⟨k2, rfl⟩ <;> rcases hmx with ⟨hm, rfl⟩ | ⟨k3, hm⟩ <;> (try (cases hm; done)) <;> (try subst hm) <;> simp [Instr.sliceBounds, run_bound, h1, h2, h3]

theorem sim_sliceS {x : Opd} {rx : Operand} {lo hi : Option Opd} {rlo rhi : Option Operand} {T : TypeId} (hop : o.op = .slice T rx rlo rhi none) (hx : opdOK x rx = true) (hlo : optOK lo rlo = true) (hhi : optOK hi rhi = true) (hT : P.underlying T = some .string)
    (hs : stepOp cf (.sliceS x lo hi) s = some res) (hl : WT s.ts a.tmps) (hR : R g O (s.ts.roots a.tmps) s.σ w) : SimV P o a g O w s res := by
  simp only [stepOp] at hs
  split at hs
  · rename_i b ts h
    split at hs
    · rename_i l hh e1 e2
      split at hs
      · rename_i hb
        simp only [rv, Option.some.injEq] at hs
        subst hs
        obtain ⟨h1, h2⟩ := get_sim (l := []) hx h hl hR
        obtain ⟨t, ht, rfl⟩ := h1.head.str_inv
        have k1 := optInt_sim (l := [(.str t.data.toList, a.eval rx)]) hlo e1 h2 h1
        have k2 := optInt_sim (l := [(.str t.data.toList, a.eval rx)]) hhi e2 h2 h1
        have hbs : (Instr.sliceBounds false t.size t.size (rlo.map a.eval) (rhi.map a.eval) none).run P w = .ok (l, hh, t.size) w := by
          refine run_bounds ?_ ?_ (.inl ⟨rfl, rfl⟩) hb.1 (by rw [size_str]; exact hb.2) (Nat.le_refl _)
          · rcases k1 with ⟨rfl, rfl⟩ | ⟨r', rfl, k, hk⟩
            · exact .inl ⟨rfl, rfl⟩
            · exact .inr ⟨k, by simp [hk]⟩
          · rcases k2 with ⟨rfl, rfl⟩ | ⟨r', rfl, k, hk⟩
            · exact .inl ⟨rfl, (size_str t).symm, rfl⟩
            · exact .inr ⟨k, by simp [hk]⟩
        refine SimV.same (v' := .string (t.extract l hh)) ?_ (h1.drop.push ?_ rfl) h2
        · simp [execOp, hop, ht, Instr.sliceAt, Instr.slice, run_und hT, hbs]
        · have e : (t.extract l hh).data.toList = (t.data.toList.take hh).drop l := by
            simp [ByteArray.data_extract, List.drop_take]
          rw [← e]; exact .str _
      · cases hs
    · cases hs
  · cases hs

theorem sim_lenS {x : Opd} {r : Operand} {c : Call} {T : TypeId} (hop : o.op = .call c) (hc : c.callee = .builtin .len) (ha : c.args = #[r]) (hta : c.argTypes[0]? = some T) (hx : opdOK x r = true) (hT : P.underlying T = some .string)
    (hs : stepOp cf (.lenS x) s = some res) (hl : WT s.ts a.tmps) (hR : R g O (s.ts.roots a.tmps) s.σ w) : SimV P o a g O w s res := by
  simp only [stepOp] at hs
  split at hs
  · rename_i b ts h
    simp only [rv, Option.some.injEq] at hs
    subst hs
    obtain ⟨h1, h2⟩ := get_sim (l := []) hx h hl hR
    obtain ⟨t, ht, rfl⟩ := h1.head.str_inv
    refine SimV.same (v' := .int .i64 t.size) ?_ (h1.drop.push (by rw [size_str]; exact .int _ _) rfl) h2
    simp [execOp, hop, resolve, hc, ha, invoke, builtin, ht, Builtin.len_, hta, run_und hT, goInt]
  · cases hs

theorem sim_lenL {x : Opd} {r : Operand} {c : Call} {T E : TypeId} (hop : o.op = .call c) (hc : c.callee = .builtin .len) (ha : c.args = #[r]) (hta : c.argTypes[0]? = some T) (hx : opdOK x r = true) (hT : P.underlying T = some (.slice E))
    (hs : stepOp cf (.lenL x) s = some res) (hl : WT s.ts a.tmps) (hR : R g O (s.ts.roots a.tmps) s.σ w) : SimV P o a g O w s res := by
  simp only [stepOp] at hs
  split at hs
  · rename_i own rf xs ts h
    simp only [rv, Option.some.injEq] at hs
    subst hs
    obtain ⟨h1, h2⟩ := get_sim (l := []) hx h hl hR
    have hb : ∃ ad cap, a.eval r = .slice ad xs.length cap := by
      have hV := h1.head
      generalize a.eval r = u at hV
      cases hV with
      | nil => exact ⟨none, 0, rfl⟩
      | sl => exact ⟨_, _, rfl⟩
    obtain ⟨ad, cap, hb⟩ := hb
    refine SimV.same (v' := .int .i64 xs.length) ?_ (h1.drop.push (.int _ _) rfl) h2
    simp [execOp, hop, resolve, hc, ha, invoke, builtin, hb, Builtin.len_, hta, run_und hT, goInt]
  · rename_i e id off n ts h
    simp only [rv, Option.some.injEq] at hs
    subst hs
    obtain ⟨h1, h2⟩ := get_sim (l := []) hx h hl hR
    obtain ⟨b, cap, hb, _, _⟩ := h1.head.rs_inv
    refine SimV.same (v' := .int .i64 n) ?_ (h1.drop.push (.int _ _) rfl) h2
    simp [execOp, hop, resolve, hc, ha, invoke, builtin, hb, Builtin.len_, hta, run_und hT, goInt]
  · cases hs

theorem R.split {x y z : IVal} {v u t : Value} {l : Roots} {σ : List IObj} (h : R g O ((x, v) :: l) σ w) (h1 : V g y u) (h2 : V g z t) (ho : (own3 y u ++ own3 z t).Perm (own3 x v)) : R g O ((y, u) :: (z, t) :: l) σ w := by
  have e : ownL ((x, v) :: l) = own3 x v ++ ownL l := by simp [ownL]
  have e' : ownL ((y, u) :: (z, t) :: l) = (own3 y u ++ own3 z t) ++ ownL l := by simp [ownL]
  have hp : (ownL ((y, u) :: (z, t) :: l) ++ ownS w g.ι σ).Perm (ownL ((x, v) :: l) ++ ownS w g.ι σ) := by
    rw [e, e']; exact (ho.append_right _).append_right _
  refine ⟨h.len, fun q hm => ?_, h.objs, hp.symm.nodup_iff.1 h.nodup, fun b hb => h.sub b (hp.mem_iff.1 hb), h.lt, h.claim, h.apart, h.spare, h.glob⟩
  rcases List.mem_cons.1 hm with rfl | hm
  · exact h1
  · rcases List.mem_cons.1 hm with rfl | hm
    · exact h2
    · exact h.vals q (by simp [hm])

theorem flatten_set_perm {α : Type} {L : List (List α)} {i : Nat} {c : List α} (h : L[i]? = some c) : (c ++ (L.set i []).flatten).Perm L.flatten := by
  induction L generalizing i with
  | nil => simp at h
  | cons d L ih =>
    cases i with
    | zero => simp at h; subst h; simp
    | succ i =>
      simp at h
      simp only [List.set_cons_succ, List.flatten_cons]
      have h1 : (c ++ (d ++ (L.set i []).flatten)).Perm (d ++ (c ++ (L.set i []).flatten)) := by
        rw [← List.append_assoc, ← List.append_assoc]
        exact List.perm_append_comm.append_right _
      exact h1.trans ((ih h).append_left d)

theorem zipWith_set {f : IVal → Value → List Nat} {xs : List IVal} {vs : List Value} {i : Nat} {y : IVal} {v : Value} (hv : vs[i]? = some v) : List.zipWith f (xs.set i y) vs = (List.zipWith f xs vs).set i (f y v) := by
  induction xs generalizing i vs with
  | nil => simp
  | cons x xs ih =>
    cases vs with
    | nil => simp at hv
    | cons u vs =>
      cases i with
      | zero => simp at hv; subst hv; simp
      | succ i => simp at hv; simp [ih hv]

/-- A root among the temporaries in another's place. -/
theorem R.setT {ts : Ts} {tmps : Array Value} {l : Roots} {σ : List IObj} {j : Nat} {y old : IVal} (hold : ts.get? j = some old) (h : R g O ((y, tmps.getD j undef) :: (l ++ ts.roots tmps)) σ w) : R g O (l ++ (ts.set j y).roots tmps) σ w := by
  obtain ⟨rest, h1, h2⟩ := Ts.roots_get tmps hold
  have h3 := (h.perm ((((h1.append_left l).trans List.perm_middle).cons _).trans (.swap _ _ _))).drop
  exact h3.perm (((h2 y).append_left l).trans List.perm_middle).symm

theorem sim_extract {x : Opd} {r : Operand} {i : Nat} (hop : o.op = .extract r i) (hx : opdOK x r = true) (hs : stepOp cf (.extract x i) s = some res)
    (hl : WT s.ts a.tmps) (hR : R g O (s.ts.roots a.tmps) s.σ w) : SimV P o a g O w s res := by
  simp only [stepOp] at hs
  split at hs
  · rename_i vs ts h
    split at hs
    · rename_i v hv
      obtain ⟨h1, h2⟩ := get_sim (l := []) hx h hl hR
      obtain ⟨us, hu, hl', hv', hi⟩ := h1.head.tup_inv
      obtain ⟨u, huu⟩ := get_of_size hl' hv
      have hu' : us.toList[i]? = some u := by simpa using huu
      have hnt := hi v (List.mem_of_getElem? hv)
      have hrun : (execOp a.eval o).run P w = .ok (.value u) w := by simp [execOp, hop, hu, Instr.extract, huu]
      have hsub : (own3 v u).Sublist (own3 (.tup vs) (a.eval r)) := by
        rw [hu, own3_nt hnt]
        simp only [own3]
        refine List.sublist_flatten_of_mem (List.mem_of_getElem? (i := i) ?_)
        simp [List.getElem?_zipWith, hv, hu']
      have hmove : SimV P o a g O w s ⟨false, v, { s with ts := ts }⟩ := SimV.same hrun (h1.swap (fun _ => hv' _ _ _ hv huu) hsub) h2
      split at hs
      · rename_i j
        simp only [rv, Option.some.injEq] at hs
        subst hs
        -- the tuple keeps what is left of it
        have hV : V g (.tup (vs.set i (un2 v))) (.tuple us) := by
          refine .tup _ us (by simpa using hl') (fun k y z hy hz => ?_) (fun y hy => ?_)
          · by_cases hk : i = k
            · subst hk
              have : i < vs.length := lt_of_get hv
              rw [List.getElem?_set_self this] at hy
              simp at hy; subst hy
              exact (hv' _ _ _ hv hz).un2
            · rw [List.getElem?_set_ne hk] at hy
              exact hv' _ _ _ hy hz
          · rcases List.mem_or_eq_of_mem_set hy with hy | rfl
            · exact hi y hy
            · rw [nt_un2]; exact hnt
        have hout : SimV P o a g O w s ⟨false, v, { s with ts := ts.set j (.tup (vs.set i (un2 v))) }⟩ := by
          refine SimV.same hrun ?_ (h2.set (by
            have h' : (Opd.m j).get s.ts = some (.tup vs, ts) := h
            simp only [Opd.get] at h'
            split at h'
            · rename_i h0; exact (hl _ _ (Ts.get?_spec h0)).2
            · cases h') _)
          have hjr : r = .tmp j := by
            have : opdOK (.m j) r = true := hx
            cases r <;> simp [opdOK] at this
            rw [this]
          have hold : ∃ old, ts.get? j = some old := by
            have h' : (Opd.m j).get s.ts = some (.tup vs, ts) := h
            simp only [Opd.get] at h'
            split at h'
            · rename_i h0
              simp at h'
              exact ⟨_, by rw [← h'.2]; exact Ts.get?_set h0 _⟩
            · cases h'
          obtain ⟨old, hold⟩ := hold
          have hs2 : R g O ((v, u) :: (.tup (vs.set i (un2 v)), a.eval r) :: ts.roots a.tmps) s.σ w := by
            refine h1.split (hv' _ _ _ hv huu) (by rw [hu]; exact hV) ?_
            rw [hu, own3_nt hnt]
            simp only [own3]
            rw [zipWith_set hu', own2_un2]
            exact flatten_set_perm (by simp [List.getElem?_zipWith, hv, hu'])
          refine R.setT (l := [(v, u)]) hold ?_
          have he : a.tmps.getD j undef = a.eval r := by rw [hjr]; rfl
          rw [he]; exact hs2.perm (.swap _ _ _)
        exact hout
      · simp only [rv, Option.some.injEq] at hs
        subst hs
        exact hmove
    · cases hs
  · cases hs

end Go.Idl
