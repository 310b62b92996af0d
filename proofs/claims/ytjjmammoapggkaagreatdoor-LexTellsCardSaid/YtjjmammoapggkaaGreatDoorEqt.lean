/- More of the program's functions are as they were printed. -/
import Derived.Test.YtjjmammoapggkaaGreatDoorEqs
set_option linter.defProp false
set_option linter.unusedSectionVars false
set_option linter.unusedVariables false
set_option linter.unusedSimpArgs false
namespace Go.Proofs.YtjjmammoapggkaaGreatDoor
open Go Go.Idl Go.Idl.Lx
set_option maxRecDepth 1000000
set_option maxHeartbeats 0
theorem F49 (b o : Nat) : F0 b o 49 = some jcp := by kernel_rfl
theorem F50 (b o : Nat) : F0 b o 50 = some jbx := by kernel_rfl
theorem F51 (b o : Nat) : F0 b o 51 = some jeg := by kernel_rfl
theorem F52 (b o : Nat) : F0 b o 52 = some Ye := by kernel_rfl
theorem F53 (b o : Nat) : F0 b o 53 = some jcs := by kernel_rfl
theorem F55 (b o : Nat) : F0 b o 55 = some jeh := by kernel_rfl
theorem F56 (b o : Nat) : F0 b o 56 = some jei := by kernel_rfl
theorem F57 (b o : Nat) : F0 b o 57 = some jej := by kernel_rfl
theorem F58 (b o : Nat) : F0 b o 58 = some jfp := by kernel_rfl
theorem F59 (b o : Nat) : F0 b o 59 = some jek := by kernel_rfl
theorem F60 (b o : Nat) : F0 b o 60 = some jdC := by kernel_rfl
theorem F61 (b o : Nat) : F0 b o 61 = some jdD := by kernel_rfl
theorem F62 (b o : Nat) : F0 b o 62 = some jfq := by kernel_rfl
theorem F63 (b o : Nat) : F0 b o 63 = some jfr := by kernel_rfl
theorem F64 (b o : Nat) : F0 b o 64 = some jel := by kernel_rfl
theorem F71 (b o : Nat) : F0 b o 71 = some jem := by kernel_rfl
theorem F72 (b o : Nat) : F0 b o 72 = some jen := by kernel_rfl
theorem F73 (b o : Nat) : F0 b o 73 = some jct := by kernel_rfl
theorem F74 (b o : Nat) : F0 b o 74 = some jeo := by kernel_rfl
theorem F75 (b o : Nat) : F0 b o 75 = some jfs := by kernel_rfl
theorem F76 (b o : Nat) : F0 b o 76 = some jby := by kernel_rfl
theorem F77 (b o : Nat) : F0 b o 77 = some jft := by kernel_rfl
theorem F78 (b o : Nat) : F0 b o 78 = some jdE := by kernel_rfl
theorem F79 (b o : Nat) : F0 b o 79 = some jfu := by kernel_rfl
theorem F83 (b o : Nat) : F0 b o 83 = some Yf := by kernel_rfl
theorem F85 (b o : Nat) : F0 b o 85 = some jep := by kernel_rfl
theorem F86 (b o : Nat) : F0 b o 86 = some jgm := by kernel_rfl
theorem F87 (b o : Nat) : F0 b o 87 = some jgn := by kernel_rfl
theorem F88 (b o : Nat) : F0 b o 88 = some Z2 := by kernel_rfl
theorem F89 (b o : Nat) : F0 b o 89 = some jcx := by kernel_rfl
theorem F96 (b o : Nat) : F0 b o 96 = some jdF := by kernel_rfl
theorem F97 (b o : Nat) : F0 b o 97 = some jeq := by kernel_rfl
theorem F99 (b o : Nat) : F0 b o 99 = some jer := by kernel_rfl
theorem jgu (b o : Nat) : F0 b o 153 = some QA := by kernel_rfl
end Go.Proofs.YtjjmammoapggkaaGreatDoor
