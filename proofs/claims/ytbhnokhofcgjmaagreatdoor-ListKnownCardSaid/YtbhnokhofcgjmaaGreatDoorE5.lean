/- The functions that the law runs; what they are tied by. -/
import Derived.Test.YtbhnokhofcgjmaaGreatDoorE4
namespace Go.Proofs.YtbhnokhofcgjmaaGreatDoor
open Go Go.Idl Go.Idl.YtbhnokhofcgjmaaGreatDoorC Go.Idl.FT
set_option maxRecDepth 1000000
variable (m : Int)
theorem e106 : F m 106 = E l106 := by kernel_rfl
theorem e109 : F m 109 = E l109 := by kernel_rfl
theorem e110 : F m 110 = E l110 := by kernel_rfl
theorem e111 : F m 111 = E l111 := by kernel_rfl
theorem e112 : F m 112 = E l112 := by kernel_rfl
theorem e113 : F m 113 = E l113 := by kernel_rfl
theorem e114 : F m 114 = E l114 := by kernel_rfl
theorem e115 : F m 115 = E l115 := by kernel_rfl
theorem e116 : F m 116 = E l116 := by kernel_rfl
theorem e117 : F m 117 = E l117 := by kernel_rfl
theorem e118 : F m 118 = E l118 := by kernel_rfl
theorem e119 : F m 119 = E l119 := by kernel_rfl
theorem e120 : F m 120 = E l120 := by kernel_rfl
theorem e121 : F m 121 = E l121 := by kernel_rfl
theorem e122 : F m 122 = E l122 := by kernel_rfl
theorem e123 : F m 123 = E l123 := by kernel_rfl
theorem e124 : F m 124 = E l124 := by kernel_rfl
theorem e125 : F m 125 = E l125 := by kernel_rfl
theorem e126 : F m 126 = E l126 := by kernel_rfl
end Go.Proofs.YtbhnokhofcgjmaaGreatDoor
