/- The run. -/
import Derived.Test.YtbhnokhofcgjmaaGreatDoorEqs
namespace Go.Proofs.YtbhnokhofcgjmaaGreatDoor
open Go Go.Idl Go.Idl.YtbhnokhofcgjmaaGreatDoorC
set_option maxRecDepth 1000000
set_option maxHeartbeats 0
theorem run : (tab.run E fun t => sysTrue t 300 20 60 3) = true := by kernel_rfl
theorem run_out (m : Int) : ∃ n out, cfOf (G m) n (.f 3) [] [] = some out ∧ out.pan = false ∧ out.v = .bool true := by
  obtain ⟨b, hb, h⟩ := FT.run_ok tab (tab_ok m) _ (run)
  obtain ⟨o, h1, h2, h3⟩ := sysTrue_ok hb h
  obtain ⟨n, h4⟩ := xcfw_iff.1 h1
  obtain ⟨n', σ', h5⟩ := x_call h4
  exact ⟨n', _, h5, h2, h3⟩
end Go.Proofs.YtbhnokhofcgjmaaGreatDoor
