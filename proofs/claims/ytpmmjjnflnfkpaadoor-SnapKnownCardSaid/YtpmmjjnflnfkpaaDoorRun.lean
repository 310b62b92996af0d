/- The run. -/
import Derived.Test.YtpmmjjnflnfkpaaDoorEqs
namespace Go.Proofs.YtpmmjjnflnfkpaaDoor
open Go Go.Idl Go.Idl.Sc
set_option maxRecDepth 1000000
set_option maxHeartbeats 0
theorem run : sysTrue tab1 300 20 60 3 = true := by kernel_rfl
theorem run_out : ∃ n out, cfOf (trProg Tryd.prog cand refs) n (.f 3) [] [] = some out ∧ out.pan = false ∧ out.v = .bool true := by
  obtain ⟨o, h1, h2, h3⟩ := sysTrue_ok tab_ok run
  obtain ⟨n, h4⟩ := xcfw_iff.1 h1
  obtain ⟨n', σ', h5⟩ := x_call h4
  exact ⟨n', _, h5, h2, h3⟩
end Go.Proofs.YtpmmjjnflnfkpaaDoor
