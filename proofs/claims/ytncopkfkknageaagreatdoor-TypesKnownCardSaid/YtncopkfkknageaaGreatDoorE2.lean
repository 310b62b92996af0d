/- The functions that the law runs; what they are tied by. -/
import Derived.Test.YtncopkfkknageaaGreatDoorE1
namespace Go.Proofs.YtncopkfkknageaaGreatDoor
open Go Go.Idl Go.Idl.YtncopkfkknageaaGreatDoorC Go.Idl.FT
set_option maxRecDepth 1000000
variable (m : Int)
theorem e13 : F m 13 = E l13 := by kernel_rfl
theorem e14 : F m 14 = E l14 := by kernel_rfl
theorem e15 : F m 15 = E l15 := by kernel_rfl
theorem e17 : F m 17 = E l17 := by kernel_rfl
theorem e18 : F m 18 = E l18 := by kernel_rfl
theorem e20 : F m 20 = E l20 := by kernel_rfl
theorem e21 : F m 21 = E l21 := by kernel_rfl
theorem e22 : F m 22 = E l22 := by kernel_rfl
theorem e23 : F m 23 = E l23 := by kernel_rfl
theorem e25 : F m 25 = E l25 := by kernel_rfl
theorem e26 : F m 26 = E l26 := by kernel_rfl
theorem e27 : F m 27 = E l27 := by kernel_rfl
theorem e28 : F m 28 = E l28 := by kernel_rfl
theorem e29 : F m 29 = E l29 := by kernel_rfl
theorem e33 : F m 33 = E l33 := by kernel_rfl
theorem e34 : F m 34 = E l34 := by kernel_rfl
theorem e35 : F m 35 = E l35 := by kernel_rfl
theorem e37 : F m 37 = E l37 := by kernel_rfl
theorem e38 : F m 38 = E l38 := by kernel_rfl
end Go.Proofs.YtncopkfkknageaaGreatDoor
