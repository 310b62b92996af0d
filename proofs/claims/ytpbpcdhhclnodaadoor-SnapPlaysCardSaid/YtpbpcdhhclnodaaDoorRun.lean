/- The closed examples' run. -/
import Derived.Test.YtpbpcdhhclnodaaDoorEqs
set_option linter.unusedSectionVars false
set_option linter.unusedVariables false
set_option linter.unusedSimpArgs false
namespace Go.Proofs.YtpbpcdhhclnodaaDoor
open Go Go.Idl Go.Idl.Sp
set_option maxRecDepth 1000000
set_option maxHeartbeats 0
def jfL (r : Option Out) : Bool := match r with
 | some ⟨false, .bool true, _, _⟩ => true
 | _ => false
theorem run : jfL (zp F1 300 (.f 17) [] []) = true := by kernel_rfl
theorem jcy : ∃ σ wr, zp F1 300 (.f 17) [] [] = some ⟨false, .bool true, σ, wr⟩ := by
 have h := run
 generalize zp F1 300 (.f 17) [] [] = r at h ⊢
 unfold jfL at h
 split at h
 . exact ⟨_, _, rfl⟩
 . cases h
end Go.Proofs.YtpbpcdhhclnodaaDoor
