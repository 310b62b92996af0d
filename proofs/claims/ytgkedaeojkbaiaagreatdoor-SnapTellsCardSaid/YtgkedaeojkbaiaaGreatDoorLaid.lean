/- What the row's laid variables give: cells. -/
import Derived.Test.YtgkedaeojkbaiaaGreatDoorEqs
import Derived.Test.YtgkedaeojkbaiaaGreatDoorRows
import Derived.ChangeSame
import Derived.OpenShut
import Derived.MakeChecks
import Derived.ChangeVars
import Derived.JoinedOf
import Derived.RowKit
import Derived.RowKitTokens
import Derived.LaidLaws
import Derived.LaidHandle
import Derived.Stop.Joined
namespace Go.Proofs.YtgkedaeojkbaiaaGreatDoor
open Go Go.Idl Go.ChangeShapes Go.WideShapes Go.RowKit
theorem Tryz.own : ownKnob Tryz.prog.godebug = none := by kernel_rfl
theorem Tryz.et : Tryz.prog.globalNamed "errors.errorType" = some 0 := by kernel_rfl
theorem Tryz.rt : (Tryz.prog.cutTypes.find? (·.1 == "internal/reflectlite.rtype")).map (·.2) = some 186 := by kernel_rfl
theorem Tryz.gsize : Tryz.prog.globals.size = 1 := by kernel_rfl
def lay : List (String × DataW Unit) := [("errors.errorType", Rows.laid_errors_errorType)]
theorem Tryz.oneRow : ((List.range 242).filter fun t => Tryz.prog.rowNamed t [101, 114, 114, 111, 114]) = [80] := by kernel_rfl
theorem Tryz.size : Tryz.prog.types.size = 242 := by kernel_rfl
theorem jaz {W : World} (h : laidMetH Tryz.prog lay W) : handlesMet Tryz.prog [("errors.errorType", Rows.laid_errors_errorType)] W := h.2
theorem K7 {W : World} (h : laidMetH Tryz.prog lay W) : W.cell? ⟨0, 0, none⟩ = some (.iface 186 (.agg #[.pointer (some ⟨1, 80, none⟩)])) := by
 obtain ⟨name, u, ty, e1, e2, e3, e4, e5⟩ := (jaz h) _ (List.mem_singleton.2 rfl)
 have en : name = [101, 114, 114, 111, 114] := (tB e1).symm
 subst en
 obtain rfl := tB (Tryz.rt.symm.trans e2)
 have hm : ty ∈ (List.range 242).filter fun t => Tryz.prog.rowNamed t [101, 114, 114, 111, 114] := List.mem_filter.2 ⟨List.mem_range.2 (by rw [<- Tryz.size]; exact e3), e4⟩
 rw [Tryz.oneRow] at hm
 obtain rfl := List.mem_singleton.1 hm
 have hh : typeHandle Tryz.prog 80 = .pointer (some ⟨1, 80, none⟩) := by kernel_rfl
 rw [hh] at e5
 simpa using World.var?_cell Tryz.et e5 0
theorem jf1 {W : World} (h : laidMetH Tryz.prog lay W) : Ji W := by
 intro k vs hk i c hi
 match k, hk with
 | 0, hk =>
   have e : vs = [.iface 186 (.agg #[.pointer (some ⟨1, 80, none⟩)])] := (tB hk).symm
   subst e
   match i, hi with
   | 0, hi => simp at hi; subst hi; exact K7 h
/-- A world that meets the condition. -/
noncomputable def V1 (os : Os) : World :=
 let w0 := World.holding Tryz.prog os ⟨#[], #[], []⟩
 { w0 with heap := w0.heap.modify 0 fun
     | .cells _ t frozen => .cells #[.iface 186 (.agg #[.pointer (some ⟨1, 80, none⟩)])] t frozen
     | o => o }
theorem Q6 (os : Os) (args : Array Value) : laidMetH Tryz.prog lay ((V1 os).forCall (fun _ _ => 0) ⟨#[], args, []⟩).memory :=
 laidMetH_of_parts (laidMet_of_run' 8 (by kernel_rfl) (by kernel_rfl)) (by kernel_rfl)
end Go.Proofs.YtgkedaeojkbaiaaGreatDoor
