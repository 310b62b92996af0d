/- The program's functions are as they were printed. -/
import Derived.Test.YtgkedaeojkbaiaaGreatDoorSbE
import Derived.Test.YtgkedaeojkbaiaaGreatDoorSbW
import Derived.Test.YtgkedaeojkbaiaaGreatDoorChecked
import Derived.KernelRfl
set_option linter.unusedSectionVars false
set_option linter.unusedVariables false
set_option linter.unusedSimpArgs false
namespace Go.Proofs.YtgkedaeojkbaiaaGreatDoor
open Go Go.Idl Go.Idl.Sb
noncomputable def jjD : Nat -> Option (List Value)
 | 0 => some [.iface 186 (.agg #[.pointer (some ⟨1, 80, none⟩)])]
 | _ => none
noncomputable instance globs : Globs := ⟨jjD⟩
def cand : List TypeId := [83, 143, 80, 145, 186, 64, 128]
def refs : FuncId -> Nat -> Bool := fun f t => (Nat.beq f 3 && Nat.beq t 39) || ((Nat.beq f 3 && Nat.beq t 61) || ((Nat.beq f 4 && Nat.beq t 1) || ((Nat.beq f 4 && Nat.beq t 5) || ((Nat.beq f 5 && Nat.beq t 1) || ((Nat.beq f 6 && Nat.beq t 1) || ((Nat.beq f 7 && Nat.beq t 1) || ((Nat.beq f 8 && Nat.beq t 1) || ((Nat.beq f 11 && Nat.beq t 1) || ((Nat.beq f 20 && Nat.beq t 14) || ((Nat.beq f 20 && Nat.beq t 16) || ((Nat.beq f 23 && Nat.beq t 7) || ((Nat.beq f 24 && Nat.beq t 48) || ((Nat.beq f 29 && Nat.beq t 5) || ((Nat.beq f 29 && Nat.beq t 7) || ((Nat.beq f 30 && Nat.beq t 5) || ((Nat.beq f 30 && Nat.beq t 7) || ((Nat.beq f 33 && Nat.beq t 40) || ((Nat.beq f 34 && Nat.beq t 40) || ((Nat.beq f 41 && Nat.beq t 5) || ((Nat.beq f 97 && Nat.beq t 1) || (false)))))))))))))))))))))
noncomputable def F0 : jn := ZI Tryz.prog cand refs
set_option maxRecDepth 1000000
set_option maxHeartbeats 0
theorem F3 : F0 3 = some ir3 := by kernel_rfl
theorem F4 : F0 4 = some ir4 := by kernel_rfl
theorem F5 : F0 5 = some ir5 := by kernel_rfl
theorem F6 : F0 6 = some ir6 := by kernel_rfl
theorem F7 : F0 7 = some ir7 := by kernel_rfl
theorem F8 : F0 8 = some ir8 := by kernel_rfl
theorem F9 : F0 9 = some ir9 := by kernel_rfl
theorem F11 : F0 11 = some jf5 := by kernel_rfl
theorem F12 : F0 12 = some jcZ := by kernel_rfl
theorem F13 : F0 13 = some jjn := by kernel_rfl
theorem F14 : F0 14 = some jdG := by kernel_rfl
theorem F15 : F0 15 = some jhp := by kernel_rfl
theorem F16 : F0 16 = some Zc := by kernel_rfl
theorem F17 : F0 17 = some jf6 := by kernel_rfl
theorem F18 : F0 18 = some jhq := by kernel_rfl
theorem F19 : F0 19 = some jdH := by kernel_rfl
theorem F20 : F0 20 = some jig := by kernel_rfl
theorem F21 : F0 21 = some je2 := by kernel_rfl
theorem F22 : F0 22 = some jhr := by kernel_rfl
theorem F29 : F0 29 = some jbt := by kernel_rfl
theorem F30 : F0 30 = some jbu := by kernel_rfl
theorem F31 : F0 31 = some Qa := by kernel_rfl
theorem F32 : F0 32 = some Q4 := by kernel_rfl
theorem F33 : F0 33 = some X5 := by kernel_rfl
theorem F34 : F0 34 = some XF := by kernel_rfl
theorem F35 : F0 35 = some X6 := by kernel_rfl
theorem F36 : F0 36 = some jaG := by kernel_rfl
theorem F37 : F0 37 = some jaH := by kernel_rfl
theorem F38 : F0 38 = some jc0 := by kernel_rfl
theorem F39 : F0 39 = some jab := by kernel_rfl
theorem F40 : F0 40 = some yX := by kernel_rfl
theorem F41 : F0 41 = some je3 := by kernel_rfl
theorem F42 : F0 42 = some jc1 := by kernel_rfl
theorem F43 : F0 43 = some jf7 := by kernel_rfl
theorem F44 : F0 44 = some je4 := by kernel_rfl
theorem F45 : F0 45 = some jii := by kernel_rfl
theorem F46 : F0 46 = some je5 := by kernel_rfl
theorem F47 : F0 47 = some jdJ := by kernel_rfl
theorem F48 : F0 48 = some jbv := by kernel_rfl
end Go.Proofs.YtgkedaeojkbaiaaGreatDoor
