/- The functions that the law runs; what they are tied by. -/
import Derived.Test.YtncopkfkknageaaGreatDoorE3
namespace Go.Proofs.YtncopkfkknageaaGreatDoor
open Go Go.Idl Go.Idl.YtncopkfkknageaaGreatDoorC Go.Idl.FT
set_option maxRecDepth 1000000
variable (m : Int)
theorem e69 : F m 69 = E l69 := by kernel_rfl
theorem e70 : F m 70 = E l70 := by kernel_rfl
theorem e71 : F m 71 = E l71 := by kernel_rfl
theorem e72 : F m 72 = E l72 := by kernel_rfl
theorem e73 : F m 73 = E l73 := by kernel_rfl
theorem e79 : F m 79 = E l79 := by kernel_rfl
theorem e80 : F m 80 = E l80 := by kernel_rfl
theorem e81 : F m 81 = E l81 := by kernel_rfl
theorem e82 : F m 82 = E l82 := by kernel_rfl
theorem e83 : F m 83 = E l83 := by kernel_rfl
theorem e84 : F m 84 = E l84 := by kernel_rfl
theorem e85 : F m 85 = E l85 := by kernel_rfl
theorem e86 : F m 86 = E l86 := by kernel_rfl
theorem e88 : F m 88 = E l88 := by kernel_rfl
theorem e89 : F m 89 = E l89 := by kernel_rfl
theorem e90 : F m 90 = E l90 := by kernel_rfl
theorem e91 : F m 91 = E l91 := by kernel_rfl
theorem e92 : F m 92 = E l92 := by kernel_rfl
theorem e93 : F m 93 = E l93 := by kernel_rfl
theorem e94 : F m 94 = E l94 := by kernel_rfl
theorem e95 : F m 95 = E l95 := by kernel_rfl
theorem e97 : F m 97 = E l97 := by kernel_rfl
theorem e98 : F m 98 = E l98 := by kernel_rfl
theorem e102 : F m 102 = E l102 := by kernel_rfl
theorem e103 : F m 103 = E l103 := by kernel_rfl
theorem e104 : F m 104 = E l104 := by kernel_rfl
theorem e105 : F m 105 = E l105 := by kernel_rfl
end Go.Proofs.YtncopkfkknageaaGreatDoor
