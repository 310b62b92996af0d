/- The program's functions are as they were printed. -/
import Derived.Test.YtbfjnoljjbaelaaDoorSbE
import Derived.Test.YtbfjnoljjbaelaaDoorSbW
import Derived.Test.YtbfjnoljjbaelaaDoorChecked
import Derived.KernelRfl
set_option linter.unusedSectionVars false
set_option linter.unusedVariables false
set_option linter.unusedSimpArgs false
namespace Go.Proofs.YtbfjnoljjbaelaaDoor
open Go Go.Idl Go.Idl.Sb
noncomputable def jhh : Nat -> Option (List Value)
 | 0 => some [.iface 144 (.agg #[.pointer (some ⟨1, 47, none⟩)])]
 | _ => none
noncomputable instance globs : Globs := ⟨jhh⟩
def cand : List TypeId := [8, 10, 11, 14, 15, 16, 19, 62, 89, 145, 47, 91, 144, 53, 69, 75, 77, 78]
def refs : FuncId -> Nat -> Bool := fun f t => (Nat.beq f 3 && Nat.beq t 3) || ((Nat.beq f 5 && Nat.beq t 1) || ((Nat.beq f 6 && Nat.beq t 1) || ((Nat.beq f 6 && Nat.beq t 5) || ((Nat.beq f 9 && Nat.beq t 7) || ((Nat.beq f 10 && Nat.beq t 48) || ((Nat.beq f 16 && Nat.beq t 1) || ((Nat.beq f 17 && Nat.beq t 1) || ((Nat.beq f 19 && Nat.beq t 5) || ((Nat.beq f 31 && Nat.beq t 5) || ((Nat.beq f 31 && Nat.beq t 7) || ((Nat.beq f 32 && Nat.beq t 5) || ((Nat.beq f 32 && Nat.beq t 7) || ((Nat.beq f 35 && Nat.beq t 40) || ((Nat.beq f 36 && Nat.beq t 40) || ((Nat.beq f 71 && Nat.beq t 1) || (false))))))))))))))))
noncomputable def F0 : jJ := YL Tryd.prog cand refs
set_option maxRecDepth 1000000
set_option maxHeartbeats 0
theorem F3 : F0 3 = some ir3 := by kernel_rfl
theorem F5 : F0 5 = some ir5 := by kernel_rfl
theorem F6 : F0 6 = some ir6 := by kernel_rfl
theorem F7 : F0 7 = some ir7 := by kernel_rfl
theorem F8 : F0 8 = some ir8 := by kernel_rfl
theorem F16 : F0 16 = some jfo := by kernel_rfl
theorem F17 : F0 17 = some jef := by kernel_rfl
theorem F18 : F0 18 = some jbF := by kernel_rfl
theorem F19 : F0 19 = some jdq := by kernel_rfl
theorem F20 : F0 20 = some jbG := by kernel_rfl
theorem F21 : F0 21 = some jfp := by kernel_rfl
theorem F22 : F0 22 = some jfq := by kernel_rfl
theorem F23 : F0 23 = some jfr := by kernel_rfl
theorem F31 : F0 31 = some jap := by kernel_rfl
theorem F32 : F0 32 = some jaq := by kernel_rfl
theorem F33 : F0 33 = some KS := by kernel_rfl
theorem F34 : F0 34 = some QB := by kernel_rfl
theorem F35 : F0 35 = some Xt := by kernel_rfl
theorem F36 : F0 36 = some Xu := by kernel_rfl
theorem F37 : F0 37 = some Xv := by kernel_rfl
theorem F38 : F0 38 = some ZG := by kernel_rfl
theorem F39 : F0 39 = some ZH := by kernel_rfl
theorem F40 : F0 40 = some KM := by kernel_rfl
theorem F41 : F0 41 = some K9 := by kernel_rfl
theorem F42 : F0 42 = some Yp := by kernel_rfl
theorem F73 : F0 73 = some jfs := by kernel_rfl
theorem F74 : F0 74 = some jft := by kernel_rfl
theorem F75 : F0 75 = some jfu := by kernel_rfl
theorem F76 : F0 76 = some jfv := by kernel_rfl
theorem F77 : F0 77 = some jce := by kernel_rfl
theorem F78 : F0 78 = some jen := by kernel_rfl
theorem F79 : F0 79 = some jeo := by kernel_rfl
theorem F80 : F0 80 = some Xc := by kernel_rfl
theorem F81 : F0 81 = some Va := by kernel_rfl
theorem F82 : F0 82 = some Zc := by kernel_rfl
theorem F83 : F0 83 = some jep := by kernel_rfl
theorem F84 : F0 84 = some jdr := by kernel_rfl
theorem F85 : F0 85 = some jeq := by kernel_rfl
theorem F86 : F0 86 = some jer := by kernel_rfl
theorem F87 : F0 87 = some QC := by kernel_rfl
theorem F88 : F0 88 = some jcf := by kernel_rfl
theorem F89 : F0 89 = some jar := by kernel_rfl
theorem F90 : F0 90 = some jas := by kernel_rfl
theorem F91 : F0 91 = some jat := by kernel_rfl
theorem F92 : F0 92 = some jds := by kernel_rfl
theorem F93 : F0 93 = some Zd := by kernel_rfl
end Go.Proofs.YtbfjnoljjbaelaaDoor
