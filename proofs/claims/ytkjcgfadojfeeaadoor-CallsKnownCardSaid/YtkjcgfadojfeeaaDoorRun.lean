/- The ideal machine's run of CallsKnown. -/
import Derived.Test.YtkjcgfadojfeeaaDoorIdlTop
import Derived.Test.YtkjcgfadojfeeaaDoorChecked
import Derived.KernelRfl
set_option linter.unusedSectionVars false
set_option linter.unusedVariables false
set_option linter.unusedSimpArgs false
namespace Go.Proofs.YtkjcgfadojfeeaaDoor
open Go Go.Idl

def tab64 : List Int := [0, 1, 56, 2, 57, 49, 28, 3, 61, 58, 42, 50, 38, 29, 17, 4, 62, 47, 59, 36, 45, 43, 51, 22, 53, 39, 33, 30, 24, 18, 12, 5, 63, 55, 48, 27, 60, 41, 37, 16, 46, 35, 44, 21, 52, 32, 23, 11, 54, 26, 40, 15, 34, 20, 31, 10, 25, 14, 19, 9, 13, 8, 7, 6]
def gvals : Nat → Option (List Value)
  | 0 => some [.iface 107 (.agg #[.pointer (some ⟨2, 39, none⟩)])]
  | 1 => some (tab64.map (.int .u8))
  | _ => none
instance globs : Globs := ⟨gvals⟩
def cand : List TypeId := [41, 76, 39, 78, 107]
def refs : FuncId → Nat → Bool := fun f t => (Nat.beq f 19 && Nat.beq t 6) || ((Nat.beq f 31 && Nat.beq t 4) || (Nat.beq f 17 && Nat.beq t 21))
def okRun (r : Option Out) : Bool := match r with
  | some ⟨false, .bool true, _, _⟩ => true
  | _ => false
theorem run : okRun (cfOf (trProg Tryd.prog cand refs) 300 (.f 5) [] []) = true := by kernel_rfl
end Go.Proofs.YtkjcgfadojfeeaaDoor
