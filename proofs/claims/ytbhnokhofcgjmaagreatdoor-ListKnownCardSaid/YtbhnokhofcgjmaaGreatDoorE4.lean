/- The functions that the law runs; what they are tied by. -/
import Derived.Test.YtbhnokhofcgjmaaGreatDoorE3
namespace Go.Proofs.YtbhnokhofcgjmaaGreatDoor
open Go Go.Idl Go.Idl.YtbhnokhofcgjmaaGreatDoorC Go.Idl.FT
set_option maxRecDepth 1000000
variable (m : Int)
theorem e81 : F m 81 = E l81 := by kernel_rfl
theorem e84 : F m 84 = E l84 := by kernel_rfl
theorem e85 : F m 85 = E l85 := by kernel_rfl
theorem e86 : F m 86 = E l86 := by kernel_rfl
theorem e87 : F m 87 = E l87 := by kernel_rfl
theorem e88 : F m 88 = E l88 := by kernel_rfl
theorem e93 : F m 93 = E l93 := by kernel_rfl
theorem e96 : F m 96 = E l96 := by kernel_rfl
theorem e97 : F m 97 = E l97 := by kernel_rfl
theorem e98 : F m 98 = E l98 := by kernel_rfl
theorem e99 : F m 99 = E l99 := by kernel_rfl
theorem e100 : F m 100 = E l100 := by kernel_rfl
theorem e101 : F m 101 = E l101 := by kernel_rfl
theorem e102 : F m 102 = E l102 := by kernel_rfl
theorem e103 : F m 103 = E l103 := by kernel_rfl
theorem e104 : F m 104 = E l104 := by kernel_rfl
end Go.Proofs.YtbhnokhofcgjmaaGreatDoor
