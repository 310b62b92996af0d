/- More of the program's functions are as they were printed. -/
import Derived.Test.YtjjmammoapggkaaGreatDoorEqs
set_option linter.defProp false
set_option linter.unusedSectionVars false
set_option linter.unusedVariables false
set_option linter.unusedSimpArgs false
namespace Go.Proofs.YtjjmammoapggkaaGreatDoor
open Go Go.Idl Go.Idl.Lx
set_option maxRecDepth 1000000
set_option maxHeartbeats 0
theorem F50 (b o : Nat) : F0 b o 50 = some jbj := by kernel_rfl
theorem F53 (b o : Nat) : F0 b o 53 = some jcd := by kernel_rfl
theorem F55 (b o : Nat) : F0 b o 55 = some jdQ := by kernel_rfl
theorem F56 (b o : Nat) : F0 b o 56 = some jdR := by kernel_rfl
theorem F57 (b o : Nat) : F0 b o 57 = some jdS := by kernel_rfl
theorem F58 (b o : Nat) : F0 b o 58 = some jeP := by kernel_rfl
theorem F59 (b o : Nat) : F0 b o 59 = some jdT := by kernel_rfl
theorem F60 (b o : Nat) : F0 b o 60 = some jdg := by kernel_rfl
theorem F61 (b o : Nat) : F0 b o 61 = some jdh := by kernel_rfl
theorem F62 (b o : Nat) : F0 b o 62 = some jeQ := by kernel_rfl
theorem F63 (b o : Nat) : F0 b o 63 = some jeR := by kernel_rfl
theorem F64 (b o : Nat) : F0 b o 64 = some jdU := by kernel_rfl
theorem F73 (b o : Nat) : F0 b o 73 = some jce := by kernel_rfl
theorem F74 (b o : Nat) : F0 b o 74 = some jdV := by kernel_rfl
theorem F75 (b o : Nat) : F0 b o 75 = some jeS := by kernel_rfl
theorem F76 (b o : Nat) : F0 b o 76 = some jbk := by kernel_rfl
theorem F77 (b o : Nat) : F0 b o 77 = some jeT := by kernel_rfl
theorem F78 (b o : Nat) : F0 b o 78 = some jdi := by kernel_rfl
theorem F79 (b o : Nat) : F0 b o 79 = some jeU := by kernel_rfl
theorem F85 (b o : Nat) : F0 b o 85 = some jdW := by kernel_rfl
theorem F86 (b o : Nat) : F0 b o 86 = some jfJ := by kernel_rfl
theorem F87 (b o : Nat) : F0 b o 87 = some jfK := by kernel_rfl
theorem F88 (b o : Nat) : F0 b o 88 = some ZN := by kernel_rfl
theorem F89 (b o : Nat) : F0 b o 89 = some jci := by kernel_rfl
theorem F96 (b o : Nat) : F0 b o 96 = some jdj := by kernel_rfl
theorem F97 (b o : Nat) : F0 b o 97 = some jdX := by kernel_rfl
theorem F99 (b o : Nat) : F0 b o 99 = some jdY := by kernel_rfl
theorem jfQ (b o : Nat) : F0 b o 153 = some Qn := by kernel_rfl
end Go.Proofs.YtjjmammoapggkaaGreatDoor
