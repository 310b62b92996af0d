/- The run. -/
import Derived.Test.YtipgledppmelpaaGreatDoorEqs
namespace Go.Proofs.YtipgledppmelpaaGreatDoor
open Go Go.Idl Go.Idl.Lx
set_option maxRecDepth 1000000
set_option maxHeartbeats 0
theorem run : (fun gp5 gq5 => sysTrue (tab1 gp5 gq5) 300 20 60 3) = fun _ _ => true := by kernel_rfl
theorem run_out (m : Int) (gp5 gq5 : Nat) : ∃ n out, cfOf (G m gp5 gq5) n (.f 3) [] [] = some out ∧ out.pan = false ∧ out.v = .bool true := by
  obtain ⟨o, h1, h2, h3⟩ := sysTrue_ok (tab_ok m gp5 gq5) (congrFun (congrFun (run) gp5) gq5)
  obtain ⟨n, h4⟩ := xcfw_iff.1 h1
  obtain ⟨n', σ', h5⟩ := x_call h4
  exact ⟨n', _, h5, h2, h3⟩
end Go.Proofs.YtipgledppmelpaaGreatDoor
