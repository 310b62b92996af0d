/- The program's functions are as they were printed. -/
import Derived.Test.YtjjmammoapggkaaGreatDoorLxD
import Derived.Test.YtjjmammoapggkaaGreatDoorChecked
import Derived.KernelRfl
set_option linter.defProp false
set_option linter.unusedSectionVars false
set_option linter.unusedVariables false
set_option linter.unusedSimpArgs false
namespace Go.Proofs.YtjjmammoapggkaaGreatDoor
open Go Go.Idl Go.Idl.Lx
noncomputable def jfC (b o : Nat) : Nat -> Option (List Value)
 | 0 => some [.iface 125 (.agg #[.pointer (some ⟨10, 26, none⟩)])]
 | 2 => some (Lib.asciiSpaceTab.map fun n => .int .u8 n)
 | 5 => some [.iface 190 (.pointer (some ⟨b, o, none⟩))]
 | _ => none
noncomputable abbrev KM (b o : Nat) : Globs := ⟨jfC b o⟩
def cand : List TypeId := [35, 56, 26, 80, 125, 156]
def refs : FuncId -> Nat -> Bool := fun f t => (Nat.beq f 8 && Nat.beq t 15) || ((Nat.beq f 80 && Nat.beq t 46) || ((Nat.beq f 65 && Nat.beq t 41) || ((Nat.beq f 20 && Nat.beq t 14) || false)))
noncomputable def F0 (b o : Nat) : kg := @trProg (KM b o) Tryz.prog cand refs
set_option maxRecDepth 1000000
set_option maxHeartbeats 0
theorem F6 (b o : Nat) : F0 b o 6 = some ir6 := by kernel_rfl
theorem F7 (b o : Nat) : F0 b o 7 = some ir7 := by kernel_rfl
theorem F8 (b o : Nat) : F0 b o 8 = some ir8 := by kernel_rfl
theorem F9 (b o : Nat) : F0 b o 9 = some ir9 := by kernel_rfl
theorem F12 (b o : Nat) : F0 b o 12 = some jcr := by kernel_rfl
theorem F13 (b o : Nat) : F0 b o 13 = some jd2 := by kernel_rfl
theorem F15 (b o : Nat) : F0 b o 15 = some jcs := by kernel_rfl
theorem F17 (b o : Nat) : F0 b o 17 = some jd3 := by kernel_rfl
theorem F19 (b o : Nat) : F0 b o 19 = some jd4 := by kernel_rfl
theorem F20 (b o : Nat) : F0 b o 20 = some YP := by kernel_rfl
theorem F21 (b o : Nat) : F0 b o 21 = some jd5 := by kernel_rfl
theorem F22 (b o : Nat) : F0 b o 22 = some jd6 := by kernel_rfl
theorem F23 (b o : Nat) : F0 b o 23 = some je8 := by kernel_rfl
theorem F24 (b o : Nat) : F0 b o 24 = some jd7 := by kernel_rfl
theorem F25 (b o : Nat) : F0 b o 25 = some jd8 := by kernel_rfl
theorem F26 (b o : Nat) : F0 b o 26 = some YQ := by kernel_rfl
theorem F27 (b o : Nat) : F0 b o 27 = some jdy := by kernel_rfl
theorem F28 (b o : Nat) : F0 b o 28 = some jdz := by kernel_rfl
theorem F34 (b o : Nat) : F0 b o 34 = some jdA := by kernel_rfl
theorem F35 (b o : Nat) : F0 b o 35 = some jdB := by kernel_rfl
theorem F36 (b o : Nat) : F0 b o 36 = some je9 := by kernel_rfl
theorem F37 (b o : Nat) : F0 b o 37 = some jfa := by kernel_rfl
theorem F38 (b o : Nat) : F0 b o 38 = some jfb := by kernel_rfl
theorem F39 (b o : Nat) : F0 b o 39 = some jdC := by kernel_rfl
theorem F40 (b o : Nat) : F0 b o 40 = some jd9 := by kernel_rfl
theorem F41 (b o : Nat) : F0 b o 41 = some jfc := by kernel_rfl
theorem F42 (b o : Nat) : F0 b o 42 = some jea := by kernel_rfl
theorem F47 (b o : Nat) : F0 b o 47 = some jcu := by kernel_rfl
end Go.Proofs.YtjjmammoapggkaaGreatDoor
