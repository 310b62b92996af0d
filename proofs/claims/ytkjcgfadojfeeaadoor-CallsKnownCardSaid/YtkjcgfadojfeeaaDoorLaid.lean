/- What the row's laid variables give: cells. -/
import Derived.Test.YtkjcgfadojfeeaaDoorIdlTop
import Derived.Test.YtkjcgfadojfeeaaDoorRun
import Derived.Test.YtkjcgfadojfeeaaDoorRows
import Derived.ChangeSame
import Derived.OpenShut
import Derived.MakeChecks
import Derived.ChangeVars
import Derived.JoinedOf
import Derived.RowKit
import Derived.RowKitTokens
import Derived.LaidLaws
import Derived.LaidHandle
import Derived.Stop.Joined
set_option linter.unusedSectionVars false
set_option linter.unusedVariables false
set_option linter.unusedSimpArgs false
namespace Go.Proofs.YtkjcgfadojfeeaaDoor
open Go Go.Idl Go.ChangeShapes Go.WideShapes Go.RowKit

theorem laid_ints {H : Type} {enc : TypeId × Value → H} {P : Program} {W : World} {base : Nat} {sp : Nat → Bool} {held : Bool} {fuel n : Nat} {t e : TypeId} {k : IntKind} {zs : List Int} {cs : List Value} {q : List MemPlace}
    (ht : P.underlying t = some (.array n e)) (he : P.underlying e = some (.int k)) (hc : P.cellsOf e = 1) (hct : P.cellsOf t = n) (h : DataW.trod enc P W base sp held fuel t cs = some (.agg (zs.map fun z => .lit (.int k z)), q)) : cs = zs.map (.int k) := by
  obtain ⟨xs, m, -, ex, hlen, hl, hel⟩ := DataW.trod_array ht h
  rw [hct] at hlen
  have e3 := DataW.agg.inj (Prod.mk.inj ex).1
  have hzl : zs.length = n := by
    have := congrArg List.length e3
    simpa [hl] using this
  apply List.ext_getElem?
  intro i
  by_cases hi : i < n
  · have k0 := hel i hi
    rw [hc, Nat.mul_one] at k0
    have hx : xs[i]? = some (xs[i]'(by omega)) := by simp
    rw [hx] at k0
    obtain ⟨z, a0, b0, -⟩ := DataW.trod_int he k0
    have h1 : cs[i]? = some (.int k z) := by
      have : ((cs.drop i).take 1)[0]? = some (.int k z) := by rw [a0]; rfl
      simpa using this
    have h2 : (zs.map fun z => (DataW.lit (.int k z) : DataW H))[i]? = some (.lit (.int k z)) := by
      rw [e3, List.getElem?_map, hx, b0]; rfl
    simp only [List.getElem?_map, Option.map_eq_some_iff] at h2
    obtain ⟨z', h3, h4⟩ := h2
    simp only [DataW.lit.injEq, Lit.int.injEq, true_and] at h4
    subst h4
    rw [h1, List.getElem?_map, h3]; rfl
  · rw [List.getElem?_eq_none (by omega), List.getElem?_eq_none (by simp; omega)]

theorem Tryd.own : ownKnob Tryd.prog.godebug = none := by kernel_rfl
theorem Tryd.et : Tryd.prog.globalNamed "errors.errorType" = some 0 := by kernel_rfl
theorem Tryd.bt : Tryd.prog.globalNamed "math/bits.deBruijn64tab" = some 1 := by kernel_rfl
theorem Tryd.rt : (Tryd.prog.cutTypes.find? (·.1 == "internal/reflectlite.rtype")).map (·.2) = some 107 := by kernel_rfl
theorem Tryd.gsize : Tryd.prog.globals.size = 2 := by kernel_rfl

def lay : List (String × DataW Unit) := [("math/bits.deBruijn64tab", Rows.laid_math_bits_deBruijn64tab), ("errors.errorType", Rows.laid_errors_errorType)]

theorem Tryd.oneRow : ((List.range 159).filter fun t => Tryd.prog.rowNamed t [101, 114, 114, 111, 114]) = [39] := by kernel_rfl
theorem Tryd.size : Tryd.prog.types.size = 159 := by kernel_rfl
theorem Tryd.btType : (Tryd.prog.globals[1]?).map (·.type) = some 104 := by kernel_rfl

theorem split_laid {W : World} (h : laidMetH Tryd.prog lay W) : laidMet Tryd.prog [("math/bits.deBruijn64tab", Rows.laid_math_bits_deBruijn64tab)] W ∧ handlesMet Tryd.prog [("errors.errorType", Rows.laid_errors_errorType)] W := h

theorem handle_of_laid {W : World} (h : laidMetH Tryd.prog lay W) : W.cell? ⟨0, 0, none⟩ = some (.iface 107 (.agg #[.pointer (some ⟨2, 39, none⟩)])) := by
  obtain ⟨name, u, ty, e1, e2, e3, e4, e5⟩ := (split_laid h).2 _ (List.mem_singleton.2 rfl)
  have en : name = [101, 114, 114, 111, 114] := (Option.some.inj e1).symm
  subst en
  obtain rfl := Option.some.inj (Tryd.rt.symm.trans e2)
  have hm : ty ∈ (List.range 159).filter fun t => Tryd.prog.rowNamed t [101, 114, 114, 111, 114] := List.mem_filter.2 ⟨List.mem_range.2 (by rw [← Tryd.size]; exact e3), e4⟩
  rw [Tryd.oneRow] at hm
  obtain rfl := List.mem_singleton.1 hm
  have hh : typeHandle Tryd.prog 39 = .pointer (some ⟨2, 39, none⟩) := by kernel_rfl
  rw [hh] at e5
  simpa using World.var?_cell Tryd.et e5 0

theorem table_of_laid {W : World} (h : laidMetH Tryd.prog lay W) (i : Nat) : W.cell? ⟨1, i, none⟩ = (tab64.map (Value.int .u8))[i]? := by
  obtain ⟨ps, ⟨g, t, cs, fuel, p, q, hg, ht, hv, hd, _, _⟩, _, _⟩ := (split_laid h).1
  obtain rfl := Option.some.inj (Tryd.bt.symm.trans hg)
  obtain rfl := Option.some.inj (Tryd.btType.symm.trans ht)
  have hcs := laid_ints (zs := tab64) Tryd.underlying104 Tryd.underlying5 (by kernel_rfl) (by kernel_rfl) hd
  have := World.var?_cell Tryd.bt hv i
  rw [this]
  have e : cs = (tab64.map (Value.int .u8)).toArray := by cases cs; simp at hcs; simp [hcs]
  rw [e]; simp

theorem globsAt {W : World} (h : laidMetH Tryd.prog lay W) : GlobsAt W := by
  intro k vs hk i c hi
  match k, hk with
  | 0, hk =>
    have e : vs = [.iface 107 (.agg #[.pointer (some ⟨2, 39, none⟩)])] := (Option.some.inj hk).symm
    subst e
    match i, hi with
    | 0, hi => simp at hi; subst hi; exact handle_of_laid h
  | 1, hk =>
    have e : vs = tab64.map (Value.int .u8) := (Option.some.inj hk).symm
    subst e
    rw [table_of_laid h i]; exact hi

/-- A world that meets the condition. -/
noncomputable def laidWorld (os : Os) : World :=
  let w0 := World.holding Tryd.prog os ⟨#[], #[], []⟩
  { w0 with heap := (w0.heap.modify 0 fun
      | .cells _ t frozen => .cells #[.iface 107 (.agg #[.pointer (some ⟨2, 39, none⟩)])] t frozen
      | o => o).modify 1 fun
      | .cells _ t frozen => .cells (tab64.map (Value.int .u8)).toArray t frozen
      | o => o }
theorem laidWorld_met (os : Os) (args : Array Value) : laidMetH Tryd.prog lay ((laidWorld os).forCall (fun _ _ => 0) ⟨#[], args, []⟩).memory :=
  laidMetH_of_parts (laidMet_of_run' 8 (by kernel_rfl) (by kernel_rfl)) (by kernel_rfl)

end Go.Proofs.YtkjcgfadojfeeaaDoor
