/- The program's functions are as they were printed; the closed examples' run. -/
import Derived.Test.YtpbpcdhhclnodaaDoorSpD
import Derived.Test.YtpbpcdhhclnodaaDoorSpW
import Derived.Test.YtpbpcdhhclnodaaDoorChecked
import Derived.KernelRfl
set_option linter.unusedSectionVars false
set_option linter.unusedVariables false
set_option linter.unusedSimpArgs false
namespace Go.Proofs.YtpbpcdhhclnodaaDoor
open Go Go.Idl Go.Idl.Sp
noncomputable def jgK : Nat -> Option (List Value)
 | 0 => some [.iface 163 (.agg #[.pointer (some ⟨1, 90, none⟩)])]
 | _ => none
noncomputable instance globs : Globs := ⟨jgK⟩
def cand : List TypeId := [8, 10, 11, 14, 15, 16, 19, 94, 112, 164, 90, 114, 163, 24, 26, 65, 105, 108, 109]
def refs : FuncId -> Nat -> Bool := fun f t => (Nat.beq f 3 && Nat.beq t 39) || ((Nat.beq f 4 && Nat.beq t 7) || ((Nat.beq f 5 && Nat.beq t 7) || ((Nat.beq f 7 && Nat.beq t 34) || ((Nat.beq f 8 && Nat.beq t 48) || ((Nat.beq f 9 && Nat.beq t 60) || ((Nat.beq f 20 && Nat.beq t 1) || ((Nat.beq f 21 && Nat.beq t 1) || ((Nat.beq f 30 && Nat.beq t 5) || ((Nat.beq f 30 && Nat.beq t 7) || ((Nat.beq f 33 && Nat.beq t 5) || ((Nat.beq f 41 && Nat.beq t 40) || ((Nat.beq f 74 && Nat.beq t 1) || (false)))))))))))))
noncomputable def F0 : vM := YO Tryd.prog cand refs
set_option maxRecDepth 1000000
set_option maxHeartbeats 0
theorem F3 : F0 3 = some ir3 := by kernel_rfl
theorem F4 : F0 4 = some ir4 := by kernel_rfl
theorem F5 : F0 5 = some ir5 := by kernel_rfl
theorem F6 : F0 6 = some ir6 := by kernel_rfl
theorem F7 : F0 7 = some ir7 := by kernel_rfl
theorem F8 : F0 8 = some ir8 := by kernel_rfl
theorem F9 : F0 9 = some ir9 := by kernel_rfl
theorem F10 : F0 10 = some Zd := by kernel_rfl
theorem F11 : F0 11 = some jaj := by kernel_rfl
theorem F12 : F0 12 = some jbX := by kernel_rfl
theorem F13 : F0 13 = some jak := by kernel_rfl
theorem F14 : F0 14 = some jbY := by kernel_rfl
theorem F15 : F0 15 = some jbo := by kernel_rfl
theorem F16 : F0 16 = some jal := by kernel_rfl
theorem F18 : F0 18 = some XI := by kernel_rfl
theorem F19 : F0 19 = some jam := by kernel_rfl
theorem F20 : F0 20 = some QE := by kernel_rfl
theorem F21 : F0 21 = some Qy := by kernel_rfl
theorem F22 : F0 22 = some XJ := by kernel_rfl
theorem F23 : F0 23 = some jda := by kernel_rfl
theorem F24 : F0 24 = some jdb := by kernel_rfl
theorem F25 : F0 25 = some ZC := by kernel_rfl
theorem F26 : F0 26 = some jbZ := by kernel_rfl
theorem F29 : F0 29 = some XM := by kernel_rfl
theorem F30 : F0 30 = some KK := by kernel_rfl
theorem F31 : F0 31 = some Qz := by kernel_rfl
theorem F32 : F0 32 = some VT := by kernel_rfl
theorem F38 : F0 38 = some Xv := by kernel_rfl
end Go.Proofs.YtpbpcdhhclnodaaDoor
