/- More of the program's functions are as they were printed. -/
import Derived.Test.YtpbpcdhhclnodaaDoorEqs
set_option linter.unusedSectionVars false
set_option linter.unusedVariables false
set_option linter.unusedSimpArgs false
namespace Go.Proofs.YtpbpcdhhclnodaaDoor
open Go Go.Idl Go.Idl.Sp
set_option maxRecDepth 1000000
set_option maxHeartbeats 0
theorem F17 : F0 17 = some jg5 := by kernel_rfl
theorem F27 : F0 27 = some jg6 := by kernel_rfl
theorem F28 : F0 28 = some jg7 := by kernel_rfl
theorem F33 : F0 33 = some jg8 := by kernel_rfl
theorem F34 : F0 34 = some jg9 := by kernel_rfl
theorem F35 : F0 35 = some jha := by kernel_rfl
theorem F36 : F0 36 = some jhb := by kernel_rfl
theorem F37 : F0 37 = some jhc := by kernel_rfl
theorem F39 : F0 39 = some jhd := by kernel_rfl
theorem F40 : F0 40 = some jhe := by kernel_rfl
theorem F41 : F0 41 = some jhf := by kernel_rfl
theorem F42 : F0 42 = some jhg := by kernel_rfl
theorem F44 : F0 44 = some jhh := by kernel_rfl
theorem F45 : F0 45 = some jhi := by kernel_rfl
theorem F46 : F0 46 = some jhj := by kernel_rfl
theorem F47 : F0 47 = some jhk := by kernel_rfl
theorem F48 : F0 48 = some jhl := by kernel_rfl
theorem F52 : F0 52 = some jhm := by kernel_rfl
theorem F54 : F0 54 = some jhn := by kernel_rfl
theorem F76 : F0 76 = some jho := by kernel_rfl
theorem F77 : F0 77 = some jhp := by kernel_rfl
theorem F78 : F0 78 = some jhq := by kernel_rfl
theorem F79 : F0 79 = some jhr := by kernel_rfl
theorem F80 : F0 80 = some jhs := by kernel_rfl
theorem F81 : F0 81 = some jht := by kernel_rfl
theorem F82 : F0 82 = some jhu := by kernel_rfl
theorem F83 : F0 83 = some jhv := by kernel_rfl
theorem F84 : F0 84 = some jhw := by kernel_rfl
theorem F85 : F0 85 = some jhx := by kernel_rfl
theorem F86 : F0 86 = some jhy := by kernel_rfl
theorem F87 : F0 87 = some jhz := by kernel_rfl
theorem F91 : F0 91 = some jhA := by kernel_rfl
theorem qO {f k : Nat} {x fn : IFunc} {r : Option IFunc} (hk : F0 k = some x) (h : (bif Nat.beq f k then some x else r) = some fn) (hr : r = some fn -> F0 f = some fn) : F0 f = some fn := by
 cases hb : Nat.beq f k with
 | true =>
   have e := Nat.eq_of_beq_eq_true hb
   rw [hb] at h
   rw [e, hk]; exact h
 | false => rw [hb] at h; exact hr h
theorem jgB {f : FuncId} {fn : IFunc} (h : F1 f = some fn) : F0 f = some fn :=
 qO F4 h fun h => qO F6 h fun h => qO F8 h fun h => qO F11 h fun h => qO F13 h fun h => qO F16 h fun h => qO F17 h fun h => qO F18 h fun h => qO F19 h fun h => qO F20 h fun h => qO F22 h fun h => qO F23 h fun h => qO F24 h fun h => qO F27 h fun h => qO F28 h fun h => qO F29 h fun h => qO F30 h fun h => qO F31 h fun h => qO F32 h fun h => qO F33 h fun h => qO F34 h fun h => qO F35 h fun h => qO F36 h fun h => qO F37 h fun h => qO F38 h fun h => qO F39 h fun h => qO F40 h fun h => qO F41 h fun h => qO F42 h fun h => qO F44 h fun h => qO F45 h fun h => qO F46 h fun h => qO F47 h fun h => qO F48 h fun h => qO F52 h fun h => qO F54 h fun h => qO F76 h fun h => qO F77 h fun h => qO F78 h fun h => qO F79 h fun h => qO F80 h fun h => qO F81 h fun h => qO F82 h fun h => qO F83 h fun h => qO F84 h fun h => qO F85 h fun h => qO F86 h fun h => qO F87 h fun h => qO F91 h fun h => by cases h
end Go.Proofs.YtpbpcdhhclnodaaDoor
