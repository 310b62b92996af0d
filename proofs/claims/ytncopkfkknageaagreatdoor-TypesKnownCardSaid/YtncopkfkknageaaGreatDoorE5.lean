/- The functions that the law runs; what they are tied by. -/
import Derived.Test.YtncopkfkknageaaGreatDoorE4
namespace Go.Proofs.YtncopkfkknageaaGreatDoor
open Go Go.Idl Go.Idl.YtncopkfkknageaaGreatDoorC Go.Idl.FT
set_option maxRecDepth 1000000
variable (m : Int)
theorem e106 : F m 106 = E l106 := by kernel_rfl
theorem e107 : F m 107 = E l107 := by kernel_rfl
theorem e108 : F m 108 = E l108 := by kernel_rfl
theorem e109 : F m 109 = E l109 := by kernel_rfl
theorem e110 : F m 110 = E l110 := by kernel_rfl
theorem e112 : F m 112 = E l112 := by kernel_rfl
theorem e114 : F m 114 = E l114 := by kernel_rfl
theorem e115 : F m 115 = E l115 := by kernel_rfl
theorem e116 : F m 116 = E l116 := by kernel_rfl
theorem e117 : F m 117 = E l117 := by kernel_rfl
theorem e118 : F m 118 = E l118 := by kernel_rfl
theorem e122 : F m 122 = E l122 := by kernel_rfl
theorem e123 : F m 123 = E l123 := by kernel_rfl
theorem e125 : F m 125 = E l125 := by kernel_rfl
theorem e126 : F m 126 = E l126 := by kernel_rfl
theorem e127 : F m 127 = E l127 := by kernel_rfl
theorem e131 : F m 131 = E l131 := by kernel_rfl
theorem e132 : F m 132 = E l132 := by kernel_rfl
end Go.Proofs.YtncopkfkknageaaGreatDoor
