/- More of the program's functions are as they were printed. -/
import Derived.Test.YtjjmammoapggkaaGreatDoorEqs
set_option linter.defProp false
set_option linter.unusedSectionVars false
set_option linter.unusedVariables false
set_option linter.unusedSimpArgs false
namespace Go.Proofs.YtjjmammoapggkaaGreatDoor
open Go Go.Idl Go.Idl.Lx
set_option maxRecDepth 1000000
set_option maxHeartbeats 0
theorem F49 (b o : Nat) : F0 b o 49 = some jcw := by kernel_rfl
theorem F50 (b o : Nat) : F0 b o 50 = some jbA := by kernel_rfl
theorem F53 (b o : Nat) : F0 b o 53 = some jbB := by kernel_rfl
theorem F55 (b o : Nat) : F0 b o 55 = some jeb := by kernel_rfl
theorem F56 (b o : Nat) : F0 b o 56 = some jec := by kernel_rfl
theorem F57 (b o : Nat) : F0 b o 57 = some jed := by kernel_rfl
theorem F58 (b o : Nat) : F0 b o 58 = some jfd := by kernel_rfl
theorem F59 (b o : Nat) : F0 b o 59 = some jee := by kernel_rfl
theorem F60 (b o : Nat) : F0 b o 60 = some jdD := by kernel_rfl
theorem F61 (b o : Nat) : F0 b o 61 = some jdE := by kernel_rfl
theorem F62 (b o : Nat) : F0 b o 62 = some jfe := by kernel_rfl
theorem F63 (b o : Nat) : F0 b o 63 = some jff := by kernel_rfl
theorem F64 (b o : Nat) : F0 b o 64 = some jef := by kernel_rfl
theorem F73 (b o : Nat) : F0 b o 73 = some jcz := by kernel_rfl
theorem F74 (b o : Nat) : F0 b o 74 = some jeg := by kernel_rfl
theorem F75 (b o : Nat) : F0 b o 75 = some jfg := by kernel_rfl
theorem F76 (b o : Nat) : F0 b o 76 = some jbC := by kernel_rfl
theorem F77 (b o : Nat) : F0 b o 77 = some jfh := by kernel_rfl
theorem F78 (b o : Nat) : F0 b o 78 = some jdF := by kernel_rfl
theorem F79 (b o : Nat) : F0 b o 79 = some jfi := by kernel_rfl
theorem F85 (b o : Nat) : F0 b o 85 = some jeh := by kernel_rfl
theorem F86 (b o : Nat) : F0 b o 86 = some jf8 := by kernel_rfl
theorem F87 (b o : Nat) : F0 b o 87 = some jf9 := by kernel_rfl
theorem F88 (b o : Nat) : F0 b o 88 = some ZZ := by kernel_rfl
theorem F89 (b o : Nat) : F0 b o 89 = some jcD := by kernel_rfl
theorem F96 (b o : Nat) : F0 b o 96 = some jdG := by kernel_rfl
theorem F97 (b o : Nat) : F0 b o 97 = some jei := by kernel_rfl
theorem F99 (b o : Nat) : F0 b o 99 = some jej := by kernel_rfl
theorem jgh (b o : Nat) : F0 b o 153 = some Qr := by kernel_rfl
end Go.Proofs.YtjjmammoapggkaaGreatDoor
