/- The functions that the law runs; what they are tied by. -/
import Derived.Test.YtbhnokhofcgjmaaGreatDoorE1
namespace Go.Proofs.YtbhnokhofcgjmaaGreatDoor
open Go Go.Idl Go.Idl.YtbhnokhofcgjmaaGreatDoorC Go.Idl.FT
set_option maxRecDepth 1000000
variable (m : Int)
theorem e21 : F m 21 = E l21 := by kernel_rfl
theorem e22 : F m 22 = E l22 := by kernel_rfl
theorem e23 : F m 23 = E l23 := by kernel_rfl
theorem e27 : F m 27 = E l27 := by kernel_rfl
theorem e28 : F m 28 = E l28 := by kernel_rfl
theorem e29 : F m 29 = E l29 := by kernel_rfl
theorem e35 : F m 35 = E l35 := by kernel_rfl
theorem e36 : F m 36 = E l36 := by kernel_rfl
theorem e38 : F m 38 = E l38 := by kernel_rfl
theorem e39 : F m 39 = E l39 := by kernel_rfl
theorem e40 : F m 40 = E l40 := by kernel_rfl
theorem e42 : F m 42 = E l42 := by kernel_rfl
theorem e44 : F m 44 = E l44 := by kernel_rfl
theorem e45 : F m 45 = E l45 := by kernel_rfl
theorem e46 : F m 46 = E l46 := by kernel_rfl
end Go.Proofs.YtbhnokhofcgjmaaGreatDoor
