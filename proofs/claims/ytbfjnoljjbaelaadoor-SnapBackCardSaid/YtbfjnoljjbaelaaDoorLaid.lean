/- What the row's laid variables give: cells. -/
import Derived.Test.YtbfjnoljjbaelaaDoorEqs
import Derived.Test.YtbfjnoljjbaelaaDoorRows
import Derived.ChangeSame
import Derived.OpenShut
import Derived.MakeChecks
import Derived.ChangeVars
import Derived.JoinedOf
import Derived.RowKit
import Derived.RowKitTokens
import Derived.LaidLaws
import Derived.LaidHandle
import Derived.Stop.Joined
set_option linter.unusedSectionVars false
set_option linter.unusedVariables false
set_option linter.unusedSimpArgs false
namespace Go.Proofs.YtbfjnoljjbaelaaDoor
open Go Go.Idl Go.ChangeShapes Go.WideShapes Go.RowKit
theorem Tryd.own : ownKnob Tryd.prog.godebug = none := by kernel_rfl
theorem Tryd.et : Tryd.prog.globalNamed "errors.errorType" = some 0 := by kernel_rfl
theorem Tryd.rt : (Tryd.prog.cutTypes.find? (·.1 == "internal/reflectlite.rtype")).map (·.2) = some 144 := by kernel_rfl
theorem Tryd.gsize : Tryd.prog.globals.size = 1 := by kernel_rfl
def lay : List (String × DataW Unit) := [("errors.errorType", Rows.laid_errors_errorType)]
theorem Tryd.oneRow : ((List.range 204).filter fun t => Tryd.prog.rowNamed t [101, 114, 114, 111, 114]) = [47] := by kernel_rfl
theorem Tryd.size : Tryd.prog.types.size = 204 := by kernel_rfl
theorem ZA {W : World} (h : laidMetH Tryd.prog lay W) : handlesMet Tryd.prog [("errors.errorType", Rows.laid_errors_errorType)] W := h.2
theorem KQ {W : World} (h : laidMetH Tryd.prog lay W) : W.cell? ⟨0, 0, none⟩ = some (.iface 144 (.agg #[.pointer (some ⟨1, 47, none⟩)])) := by
 obtain ⟨name, u, ty, e1, e2, e3, e4, e5⟩ := (ZA h) _ (List.mem_singleton.2 rfl)
 have en : name = [101, 114, 114, 111, 114] := (Option.some.inj e1).symm
 subst en
 obtain rfl := Option.some.inj (Tryd.rt.symm.trans e2)
 have hm : ty ∈ (List.range 204).filter fun t => Tryd.prog.rowNamed t [101, 114, 114, 111, 114] := List.mem_filter.2 ⟨List.mem_range.2 (by rw [<- Tryd.size]; exact e3), e4⟩
 rw [Tryd.oneRow] at hm
 obtain rfl := List.mem_singleton.1 hm
 have hh : typeHandle Tryd.prog 47 = .pointer (some ⟨1, 47, none⟩) := by kernel_rfl
 rw [hh] at e5
 simpa using World.var?_cell Tryd.et e5 0
theorem jeb {W : World} (h : laidMetH Tryd.prog lay W) : Ji W := by
 intro k vs hk i c hi
 match k, hk with
 | 0, hk =>
   have e : vs = [.iface 144 (.agg #[.pointer (some ⟨1, 47, none⟩)])] := (Option.some.inj hk).symm
   subst e
   match i, hi with
   | 0, hi => simp at hi; subst hi; exact KQ h
/-- A world that meets the condition. -/
noncomputable def Vx (os : Os) : World :=
 let w0 := World.holding Tryd.prog os ⟨#[], #[], []⟩
 { w0 with heap := w0.heap.modify 0 fun
     | .cells _ t frozen => .cells #[.iface 144 (.agg #[.pointer (some ⟨1, 47, none⟩)])] t frozen
     | o => o }
theorem QD (os : Os) (args : Array Value) : laidMetH Tryd.prog lay ((Vx os).forCall (fun _ _ => 0) ⟨#[], args, []⟩).memory :=
 laidMetH_of_parts (laidMet_of_run' 8 (by kernel_rfl) (by kernel_rfl)) (by kernel_rfl)
end Go.Proofs.YtbfjnoljjbaelaaDoor
