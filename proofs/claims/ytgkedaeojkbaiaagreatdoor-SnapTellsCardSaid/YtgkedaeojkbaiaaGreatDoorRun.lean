/- The closed examples' run. -/
import Derived.Test.YtgkedaeojkbaiaaGreatDoorEqt
namespace Go.Proofs.YtgkedaeojkbaiaaGreatDoor
open Go Go.Idl Go.Idl.Sb
set_option maxRecDepth 1000000
set_option maxHeartbeats 0
def jiR (r : Option Out) : Bool := match r with
 | some ⟨false, .bool true, _, _⟩ => true
 | _ => false
theorem run : jiR (vo F1 300 (.f 10) [] []) = true := by kernel_rfl
theorem jek : ∃ σ wr, vo F1 300 (.f 10) [] [] = some ⟨false, .bool true, σ, wr⟩ := by
 have h := run
 generalize vo F1 300 (.f 10) [] [] = r at h ⊢
 unfold jiR at h
 split at h
 . exact ⟨_, _, rfl⟩
 . cases h
end Go.Proofs.YtgkedaeojkbaiaaGreatDoor
