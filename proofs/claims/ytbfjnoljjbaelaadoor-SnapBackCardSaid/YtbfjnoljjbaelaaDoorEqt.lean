/- More of the program's functions are as they were printed. -/
import Derived.Test.YtbfjnoljjbaelaaDoorEqs
set_option linter.unusedSectionVars false
set_option linter.unusedVariables false
set_option linter.unusedSimpArgs false
namespace Go.Proofs.YtbfjnoljjbaelaaDoor
open Go Go.Idl Go.Idl.Sb
set_option maxRecDepth 1000000
set_option maxHeartbeats 0
theorem F4 : F0 4 = some ir4 := by kernel_rfl
theorem F9 : F0 9 = some ir9 := by kernel_rfl
theorem F10 : F0 10 = some jhy := by kernel_rfl
theorem F11 : F0 11 = some jhz := by kernel_rfl
theorem F12 : F0 12 = some jhA := by kernel_rfl
theorem F13 : F0 13 = some jhB := by kernel_rfl
theorem F14 : F0 14 = some jhC := by kernel_rfl
theorem F15 : F0 15 = some jhD := by kernel_rfl
theorem F24 : F0 24 = some jhE := by kernel_rfl
theorem F25 : F0 25 = some jhF := by kernel_rfl
theorem F26 : F0 26 = some jhG := by kernel_rfl
theorem F27 : F0 27 = some jhH := by kernel_rfl
theorem F28 : F0 28 = some jhI := by kernel_rfl
theorem F29 : F0 29 = some jhJ := by kernel_rfl
theorem F30 : F0 30 = some jhK := by kernel_rfl
theorem F43 : F0 43 = some jhL := by kernel_rfl
theorem F44 : F0 44 = some jhM := by kernel_rfl
theorem F48 : F0 48 = some jhN := by kernel_rfl
theorem F50 : F0 50 = some jhO := by kernel_rfl
theorem F51 : F0 51 = some jhP := by kernel_rfl
theorem F95 : F0 95 = some jhQ := by kernel_rfl
theorem jD {f k : Nat} {x fn : IFunc} {r : Option IFunc} (hk : F0 k = some x) (h : (bif Nat.beq f k then some x else r) = some fn) (hr : r = some fn -> F0 f = some fn) : F0 f = some fn := by
 cases hb : Nat.beq f k with
 | true =>
   have e := Nat.eq_of_beq_eq_true hb
   rw [hb] at h
   rw [e, hk]; exact h
 | false => rw [hb] at h; exact hr h
theorem jg6 {f : FuncId} {fn : IFunc} (h : F1 f = some fn) : F0 f = some fn :=
 jD F4 h fun h => jD F7 h fun h => jD F9 h fun h => jD F10 h fun h => jD F11 h fun h => jD F12 h fun h => jD F13 h fun h => jD F14 h fun h => jD F15 h fun h => jD F17 h fun h => jD F18 h fun h => jD F19 h fun h => jD F20 h fun h => jD F24 h fun h => jD F25 h fun h => jD F26 h fun h => jD F27 h fun h => jD F28 h fun h => jD F29 h fun h => jD F30 h fun h => jD F31 h fun h => jD F32 h fun h => jD F33 h fun h => jD F34 h fun h => jD F35 h fun h => jD F36 h fun h => jD F38 h fun h => jD F39 h fun h => jD F40 h fun h => jD F41 h fun h => jD F42 h fun h => jD F43 h fun h => jD F44 h fun h => jD F48 h fun h => jD F50 h fun h => jD F51 h fun h => jD F82 h fun h => jD F83 h fun h => jD F84 h fun h => jD F85 h fun h => jD F86 h fun h => jD F87 h fun h => jD F88 h fun h => jD F89 h fun h => jD F90 h fun h => jD F91 h fun h => jD F92 h fun h => jD F93 h fun h => jD F95 h fun h => by cases h
end Go.Proofs.YtbfjnoljjbaelaaDoor
