/- The functions that the law runs; what they are tied by. -/
import Derived.Test.YtncopkfkknageaaGreatDoorChecked
import Derived.Test.YtncopkfkknageaaGreatDoorCode
import Derived.Lib.Space
import Derived.KernelRfl
namespace Go.Proofs.YtncopkfkknageaaGreatDoor
open Go Go.Idl Go.Idl.YtncopkfkknageaaGreatDoorC Go.Idl.FT
noncomputable def gvals (m : Int) : Nat → Option (List Value)
  | 0 => some [.iface 153 (.agg #[.pointer (some ⟨10, 25, none⟩)])]
  | 1 => some (Lib.asciiSpaceTab.map fun n => .int .u8 n)
  | 3 => some [.int .i64 m]
  | _ => none
noncomputable abbrev globs (m : Int) : Globs := ⟨gvals m⟩
noncomputable def cand : List TypeId := [8, 10, 11, 14, 15, 16, 19, 36, 61, 154, 246, 248, 292, 25, 63, 153, 64, 69, 74, 82, 135, 137, 138, 196]
noncomputable def refs : FuncId → Nat → Bool := fun f t => (Nat.beq f 185 && Nat.beq t 9) || ((Nat.beq f 140 && Nat.beq t 1) || ((Nat.beq f 137 && Nat.beq t 3) || ((Nat.beq f 135 && Nat.beq t 3) || ((Nat.beq f 134 && Nat.beq t 3) || ((Nat.beq f 133 && Nat.beq t 3) || ((Nat.beq f 132 && (Nat.beq t 40 || Nat.beq t 102)) || ((Nat.beq f 120 && Nat.beq t 46) || ((Nat.beq f 106 && Nat.beq t 2) || ((Nat.beq f 105 && Nat.beq t 2) || ((Nat.beq f 102 && Nat.beq t 3) || ((Nat.beq f 96 && Nat.beq t 41) || ((Nat.beq f 83 && (Nat.beq t 25 || Nat.beq t 41)) || ((Nat.beq f 80 && Nat.beq t 3) || ((Nat.beq f 72 && Nat.beq t 10) || ((Nat.beq f 49 && Nat.beq t 5) || ((Nat.beq f 43 && Nat.beq t 24) || ((Nat.beq f 36 && Nat.beq t 33) || ((Nat.beq f 26 && Nat.beq t 4) || ((Nat.beq f 23 && (Nat.beq t 3 || Nat.beq t 10)) || ((Nat.beq f 14 && Nat.beq t 15) || ((Nat.beq f 12 && (Nat.beq t 1 || Nat.beq t 10)) || ((Nat.beq f 11 && Nat.beq t 11) || ((Nat.beq f 10 && Nat.beq t 26) || (false))))))))))))))))))))))))
noncomputable def libs : FuncId → Option (List IVal → Option IVal)
  | 96 => some pFields
  | 111 => some pCount
  | _ => none
noncomputable def G (m : Int) : IProg := @trProgL (globs m) Tryz.prog cand refs (libs)
noncomputable def F (m : Int) : XProg := xprog (fun _ _ => []) (G m)
theorem lib_ok {F : XProg} {p : List IVal → Option IVal} {q : Go.Idl.U → (Go.Idl.U → Ans) → Ans} (hq : LibQ p q) {g nv : Nat} {res : List RV} (hF : F g = some ⟨nv, .lib p, res⟩) : ∀ cq yq, CYS (xcfw F) cq yq → CallS (xcfw F) (.f g) (libF q cq yq) := fun _ _ _ => libF_ok hq hF
set_option maxRecDepth 1000000
variable (m : Int)
theorem e3 : F m 3 = E l3 := by kernel_rfl
theorem e4 : F m 4 = E l4 := by kernel_rfl
theorem e5 : F m 5 = E l5 := by kernel_rfl
theorem e6 : F m 6 = E l6 := by kernel_rfl
theorem e7 : F m 7 = E l7 := by kernel_rfl
theorem e8 : F m 8 = E l8 := by kernel_rfl
theorem e9 : F m 9 = E l9 := by kernel_rfl
theorem e10 : F m 10 = E l10 := by kernel_rfl
theorem e11 : F m 11 = E l11 := by kernel_rfl
theorem e12 : F m 12 = E l12 := by kernel_rfl
end Go.Proofs.YtncopkfkknageaaGreatDoor
