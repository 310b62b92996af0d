/- The functions that the law runs; what they are tied by. -/
import Derived.Test.YtbhnokhofcgjmaaGreatDoorE2
namespace Go.Proofs.YtbhnokhofcgjmaaGreatDoor
open Go Go.Idl Go.Idl.YtbhnokhofcgjmaaGreatDoorC Go.Idl.FT
set_option maxRecDepth 1000000
variable (m : Int)
theorem e47 : F m 47 = E l47 := by kernel_rfl
theorem e48 : F m 48 = E l48 := by kernel_rfl
theorem e49 : F m 49 = E l49 := by kernel_rfl
theorem e50 : F m 50 = E l50 := by kernel_rfl
theorem e55 : F m 55 = E l55 := by kernel_rfl
theorem e56 : F m 56 = E l56 := by kernel_rfl
theorem e57 : F m 57 = E l57 := by kernel_rfl
theorem e58 : F m 58 = E l58 := by kernel_rfl
theorem e59 : F m 59 = E l59 := by kernel_rfl
theorem e60 : F m 60 = E l60 := by kernel_rfl
theorem e64 : F m 64 = E l64 := by kernel_rfl
theorem e66 : F m 66 = E l66 := by kernel_rfl
theorem e71 : F m 71 = E l71 := by kernel_rfl
theorem e72 : F m 72 = E l72 := by kernel_rfl
theorem e73 : F m 73 = E l73 := by kernel_rfl
theorem e74 : F m 74 = E l74 := by kernel_rfl
theorem e75 : F m 75 = E l75 := by kernel_rfl
theorem e76 : F m 76 = E l76 := by kernel_rfl
theorem e77 : F m 77 = E l77 := by kernel_rfl
theorem e78 : F m 78 = E l78 := by kernel_rfl
theorem e79 : F m 79 = E l79 := by kernel_rfl
theorem e80 : F m 80 = E l80 := by kernel_rfl
end Go.Proofs.YtbhnokhofcgjmaaGreatDoor
