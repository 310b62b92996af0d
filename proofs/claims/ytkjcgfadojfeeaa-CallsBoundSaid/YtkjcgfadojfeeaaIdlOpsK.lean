/-
  make of a slice; conversions of strings.
-/
import Derived.Test.YtkjcgfadojfeeaaIdlOpsJ
set_option linter.unusedSectionVars false
set_option linter.unusedVariables false
set_option linter.unusedSimpArgs false
namespace Go.Idl
variable [Globs]

variable {P : Program} {o : Oper} {a : Act} {g : Gh} {O : List Nat} {w : World} {s : St} {res : Res} {cf : CallF}

theorem repl_get {zs : List IVal} (hz : 0 < zs.length) : ∀ (n k : Nat), k < n * zs.length → (repl n zs)[k]? = zs[k % zs.length]? := by
  intro n
  induction n with
  | zero => intro k hk; simp at hk
  | succ n ih =>
    intro k hk
    have e : repl (n + 1) zs = zs ++ repl n zs := by simp [repl, List.replicate_succ]
    rw [e]
    by_cases h : k < zs.length
    · rw [List.getElem?_append_left h, Nat.mod_eq_of_lt h]
    · rw [List.getElem?_append_right (by omega), ih (k - zs.length) (by rw [Nat.add_mul] at hk; omega)]
      congr 1
      exact (Nat.mod_eq_sub_mod (by omega)).symm

theorem repl_len (n : Nat) (zs : List IVal) : (repl n zs).length = n * zs.length := by simp [repl]

theorem wrap_small {n : Int} (h0 : 0 ≤ n) (h : n ≤ 1099511627776) : IntKind.i64.wrap n = n := by
  have e : n % (18446744073709551616 : Int) = n := Int.emod_eq_of_lt h0 (by omega)
  show (if (true && decide (n % (18446744073709551616 : Int) ≥ 9223372036854775808)) = true then n % (18446744073709551616 : Int) - 18446744073709551616 else n % (18446744073709551616 : Int)) = n
  rw [e, if_neg]
  simp; omega

theorem run_makeSlice' {T E : TypeId} {i : TypeInfo} {z : Value} {l c : Nat} {k k' : IntKind} (hT : P.underlying T = some (.slice E)) (hi : P.info? E = some i) (hz : i.zero = some z) (hlc : l ≤ c) (hb : c * i.bytes ≤ 1099511627776) (hc : c ≤ 1099511627776) :
    (Instr.makeSlice T (.int k l) (.int k' c)).run P w = .ok (.slice (some ⟨w.heap.size, 0, none⟩) l c) (w.alloc (.cells ((Array.range (c * i.size)).map (fun j => z.cells[j % z.cells.size]!)) E)) := by
  have h1 : IntKind.i64.wrap (l : Int) = l := wrap_small (by omega) (by omega)
  have h2 : IntKind.i64.wrap (c : Int) = c := wrap_small (by omega) (by omega)
  have h3 : ¬ ((i.bytes : Int) * (c : Int) > 281474976710656) := by
    have : ((c * i.bytes : Nat) : Int) ≤ 1099511627776 := by omega
    rw [Int.natCast_mul, Int.mul_comm] at this
    omega
  have h4 : (decide ((c : Int) < 0) || decide ((i.bytes : Int) * (c : Int) > 281474976710656) || decide ((l : Int) < 0) || decide ((l : Int) > (c : Int))) = false := by
    simp only [Bool.or_eq_false_iff, decide_eq_false_iff_not]
    refine ⟨⟨⟨by omega, h3⟩, by omega⟩, by omega⟩
  simp only [Instr.makeSlice, Sem.run_bind, run_und hT, Result.andThen_ok, asInt, asIntOf, Sem.run_pure, typeInfo, run_program, hi, h1, h2]
  simp only [show (2 : Int) ^ 48 = 281474976710656 from rfl] at *
  rw [if_neg (by simpa using h4)]
  by_cases hn : c * i.size = 0
  · have h00 : Array.map (fun x : Nat => (default : Value)) (Array.range 0) = #[] := Array.eq_empty_of_size_eq_zero (by simp)
    have h01 : Array.map (fun j : Nat => z.cells[j % z.cells.size]!) (Array.range 0) = #[] := Array.eq_empty_of_size_eq_zero (by simp)
    simp [run_sizeOf hi, hn, newRow, h00, h01]
  · simp [run_sizeOf hi, hn, newRow, zeroValue, typeInfo, hi, hz]

theorem sim_mkSl {byref : Bool} {zs : List IVal} {x y : Opd} {rx ry : Operand} {T E : TypeId} {i : TypeInfo} {z : Value} (hop : o.op = .makeSlice T rx ry) (hx : opdOK x rx = true) (hy : opdOK y ry = true) (hT : P.underlying T = some (.slice E)) (hi : P.info? E = some i) (hz : i.zero = some z)
    (hc : cOKs zs z.cells.toList = true) (hzs : z.cells.size = i.size) (hs : stepOp cf (.mkSl byref i.size i.bytes zs x y) s = some res) (hl : WT s.ts a.tmps) (hR : R g O (s.ts.roots a.tmps) s.σ w) : SimV P o a g O w s res := by
  simp only [stepOp] at hs
  split at hs
  · rename_i k l ts h
    split at hs
    · rename_i k' c ts' h'
      split at hs
      · rename_i hcond
        obtain ⟨c1, c2, c3, c4, c5, c6⟩ := hcond
        obtain ⟨h1, h2⟩ := get_sim (l := []) hx h hl hR
        obtain ⟨h3, h4⟩ := get_sim (l := [(.int k l, a.eval rx)]) hy h' h2 h1
        obtain ⟨ln, rfl⟩ := Int.eq_ofNat_of_zero_le c1
        obtain ⟨cn, rfl⟩ := Int.eq_ofNat_of_zero_le (Int.le_trans c1 c2)
        have hb : cn * i.bytes ≤ 1099511627776 := by
          have h9 := c3
          rw [← Int.natCast_mul] at h9
          omega
        have hrun := run_makeSlice' (P := P) (w := w) (l := ln) (c := cn) (k := k) (k' := k') hT hi hz (by omega) hb (by omega)
        have hexec : ∀ r w', (Instr.makeSlice T (.int k ln) (.int k' cn)).run P w = .ok r w' → (execOp a.eval o).run P w = .ok (.value r) w' := by
          intro r w' hr
          have e1 := h3.head.int_inv
          have e2 := h3.drop.head.int_inv
          simp only [execOp, hop, e1, e2]
          simp [hr]
        obtain ⟨z1, z2⟩ := cOKs_V (g.fresh w.heap.size) hc
        have hroot : R g O (ts'.roots a.tmps) s.σ w := h3.drop.drop
        split at hs
        · simp only [Option.some.injEq] at hs
          subst hs
          have hcells : ∀ (j : Nat) x v, (repl cn zs)[j]? = some x → ((Array.range (cn * i.size)).map (fun j => z.cells[j % z.cells.size]!))[j]? = some v → V (g.fresh w.heap.size) x v ∧ own1 x v = [] ∧ x.isCell = true := by
            intro j x v hx hv
            have hj : j < cn * zs.length := by rw [← repl_len]; exact lt_of_get hx
            rw [repl_get (by omega) cn j hj] at hx
            simp only [Array.getElem?_map, Array.getElem?_range] at hv
            rw [c5] at hj
            rw [if_pos hj] at hv
            simp only [Option.map_some, Option.some.injEq] at hv
            have hmod : j % z.cells.size < z.cells.size := Nat.mod_lt _ (by omega)
            refine z2 (j % zs.length) x v hx ?_
            rw [← hv]
            have : zs.length = z.cells.size := by omega
            rw [this]
            simp [getElem!_pos, hmod]
          have hnew := (hroot.push (undef_V g) rfl).new (obr := .cells ((Array.range (cn * i.size)).map (fun j => z.cells[j % z.cells.size]!)) E) (ob := .cells (repl cn zs)) (fun _ =>
            ⟨_, E, alloc_new w _, by simp [repl_len, c5], fun j x v hx hv => ⟨(hcells j x v hx hv).1, (hcells j x v hx hv).2.2⟩⟩) ⟨[], by
            simp only [ownO, blockCells_new]
            rw [flatten_nil]
            intro cc hcm
            obtain ⟨j, x, y, h1, h2, rfl⟩ := mem_zipWith hcm
            exact (hcells j x y h1 (by rw [← Array.getElem?_toList]; exact h2)).2.1, by simp⟩
          refine ⟨rfl, _, _, _, hexec _ _ hrun, rfl, g.fresh w.heap.size, w.heap.size :: O, [], growFresh hR _, hnew.push (.rs _ _ _ _ _ _ ?_ (by exact_mod_cast c2)) rfl, h4, rfl, Keep.snoc _ _⟩
          simp [Gh.fresh, ← hR.len]
        · split at hs
          · rename_i hl0
            simp only [rv, Option.some.injEq] at hs
            subst hs
            have : ln = 0 := by omega
            subst this
            obtain ⟨g', O', hR', hg, hι⟩ := hroot.newSlice (xs := []) (vs := []) (esz := i.size) (cap := cn) (own := i.size) (rf := false) (c := (Array.range (cn * i.size)).map (fun j => z.cells[j % z.cells.size]!)) (el := E) (fz := (0, 0)) rfl (by simp) (by simp) (by simp) (by simp) (by simp [flatV]) (by simp) (by simp) (.inr rfl) (by simp) (by simp [flatV])
            exact ⟨rfl, _, _, _, hexec _ _ hrun, rfl, g', O', [], hg, hR', h4, rfl, Keep.refl _⟩
          · cases hs
      · cases hs
    · cases hs
  · cases hs

end Go.Idl
