/- The ideal code of CallsBound's functions; the run of its closed part. -/
import Derived.Test.YtkjcgfadojfeeaaCbH
import Derived.Test.YtkjcgfadojfeeaaChecked
import Derived.KernelRfl
set_option linter.unusedSectionVars false
set_option linter.unusedVariables false
set_option linter.unusedSimpArgs false
namespace Go.Proofs.Ytkjcgfadojfeeaa
open Go Go.Idl Go.Idl.Cb

instance globs : Globs := ⟨fun _ => none⟩
def cand : List TypeId := []
def refs : FuncId → Nat → Bool := fun f t => (Nat.beq f 3 && Nat.beq t 127) || ((Nat.beq f 6 && Nat.beq t 21) || ((Nat.beq f 11 && Nat.beq t 6) || (Nat.beq f 9 && Nat.beq t 4)))
noncomputable def F : IProg := trProg Try.prog cand refs
theorem F3 : F 3 = some ir3 := by kernel_rfl
theorem F5 : F 5 = some ir5 := by kernel_rfl
theorem F6 : F 6 = some ir6 := by kernel_rfl
theorem F7 : F 7 = some ir7 := by kernel_rfl
theorem F8 : F 8 = some ir8 := by kernel_rfl
theorem F11 : F 11 = some ir11 := by kernel_rfl
theorem F12 : F 12 = some ir12 := by kernel_rfl
theorem F13 : F 13 = some ir13 := by kernel_rfl
theorem F14 : F 14 = some ir14 := by kernel_rfl
def okRun (r : Option Out) : Bool := match r with
  | some ⟨false, .bool true, [], []⟩ => true
  | _ => false
theorem run : okRun (cfOf F 300 (.f 4) [] []) = true := by kernel_rfl
theorem works_true : cfw F (.f 4) [] [] = some ⟨false, .bool true, [], []⟩ := by
  have h := run
  refine cfw_iff.2 ⟨300, ?_⟩
  generalize cfOf F 300 (.f 4) [] [] = r at h
  unfold okRun at h
  split at h
  · rfl
  · cases h
end Go.Proofs.Ytkjcgfadojfeeaa
