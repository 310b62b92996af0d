/- The functions that the law runs; what they are tied by. -/
import Derived.Test.YtncopkfkknageaaGreatDoorE2
namespace Go.Proofs.YtncopkfkknageaaGreatDoor
open Go Go.Idl Go.Idl.YtncopkfkknageaaGreatDoorC Go.Idl.FT
set_option maxRecDepth 1000000
variable (m : Int)
theorem e40 : F m 40 = E l40 := by kernel_rfl
theorem e41 : F m 41 = E l41 := by kernel_rfl
theorem e43 : F m 43 = E l43 := by kernel_rfl
theorem e44 : F m 44 = E l44 := by kernel_rfl
theorem e45 : F m 45 = E l45 := by kernel_rfl
theorem e46 : F m 46 = E l46 := by kernel_rfl
theorem e47 : F m 47 = E l47 := by kernel_rfl
theorem e48 : F m 48 = E l48 := by kernel_rfl
theorem e49 : F m 49 = E l49 := by kernel_rfl
theorem e51 : F m 51 = E l51 := by kernel_rfl
theorem e52 : F m 52 = E l52 := by kernel_rfl
theorem e53 : F m 53 = E l53 := by kernel_rfl
theorem e54 : F m 54 = E l54 := by kernel_rfl
theorem e55 : F m 55 = E l55 := by kernel_rfl
theorem e56 : F m 56 = E l56 := by kernel_rfl
theorem e57 : F m 57 = E l57 := by kernel_rfl
theorem e61 : F m 61 = E l61 := by kernel_rfl
theorem e62 : F m 62 = E l62 := by kernel_rfl
theorem e63 : F m 63 = E l63 := by kernel_rfl
theorem e64 : F m 64 = E l64 := by kernel_rfl
theorem e65 : F m 65 = E l65 := by kernel_rfl
theorem e66 : F m 66 = E l66 := by kernel_rfl
theorem e67 : F m 67 = E l67 := by kernel_rfl
theorem e68 : F m 68 = E l68 := by kernel_rfl
end Go.Proofs.YtncopkfkknageaaGreatDoor
