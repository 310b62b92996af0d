/- The closed examples' run. -/
import Derived.Test.YtbfjnoljjbaelaaDoorEqs
set_option linter.unusedSectionVars false
set_option linter.unusedVariables false
set_option linter.unusedSimpArgs false
namespace Go.Proofs.YtbfjnoljjbaelaaDoor
open Go Go.Idl Go.Idl.Sb
set_option maxRecDepth 1000000
set_option maxHeartbeats 0
def jgz (r : Option Out) : Bool := match r with
 | some ⟨false, .bool true, _, _⟩ => true
 | _ => false
theorem run : jgz (vQ F1 300 (.f 4) [] []) = true := by kernel_rfl
theorem jcJ : ∃ σ wr, vQ F1 300 (.f 4) [] [] = some ⟨false, .bool true, σ, wr⟩ := by
 have h := run
 generalize vQ F1 300 (.f 4) [] [] = r at h ⊢
 unfold jgz at h
 split at h
 . exact ⟨_, _, rfl⟩
 . cases h
end Go.Proofs.YtbfjnoljjbaelaaDoor
