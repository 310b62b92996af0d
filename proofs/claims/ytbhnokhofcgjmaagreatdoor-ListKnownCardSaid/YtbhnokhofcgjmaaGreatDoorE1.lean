/- The functions that the law runs; what they are tied by. -/
import Derived.Test.YtbhnokhofcgjmaaGreatDoorChecked
import Derived.Test.YtbhnokhofcgjmaaGreatDoorCode
import Derived.Lib.Space
import Derived.KernelRfl
namespace Go.Proofs.YtbhnokhofcgjmaaGreatDoor
open Go Go.Idl Go.Idl.YtbhnokhofcgjmaaGreatDoorC Go.Idl.FT
noncomputable def gvals (m : Int) : Nat → Option (List Value)
  | 0 => some [.iface 196 (.agg #[.pointer (some ⟨4, 51, none⟩)])]
  | 1 => some [.int .i64 m]
  | _ => none
noncomputable abbrev globs (m : Int) : Globs := ⟨gvals m⟩
noncomputable def cand : List TypeId := [8, 10, 11, 14, 15, 16, 19, 58, 93, 197, 51, 95, 196, 109, 117, 123, 130, 134]
noncomputable def refs : FuncId → Nat → Bool := fun f t => (Nat.beq f 151 && Nat.beq t 3) || ((Nat.beq f 145 && Nat.beq t 6) || ((Nat.beq f 143 && Nat.beq t 33) || ((Nat.beq f 142 && Nat.beq t 6) || ((Nat.beq f 133 && Nat.beq t 4) || ((Nat.beq f 128 && Nat.beq t 3) || ((Nat.beq f 126 && Nat.beq t 3) || ((Nat.beq f 125 && Nat.beq t 3) || ((Nat.beq f 124 && (Nat.beq t 45 || Nat.beq t 127)) || ((Nat.beq f 123 && Nat.beq t 3) || ((Nat.beq f 115 && Nat.beq t 25) || ((Nat.beq f 106 && Nat.beq t 1) || ((Nat.beq f 103 && Nat.beq t 4) || ((Nat.beq f 102 && Nat.beq t 4) || ((Nat.beq f 101 && Nat.beq t 3) || ((Nat.beq f 87 && (Nat.beq t 4 || Nat.beq t 33 || Nat.beq t 81)) || ((Nat.beq f 58 && (Nat.beq t 5 || Nat.beq t 23)) || ((Nat.beq f 49 && Nat.beq t 32) || ((Nat.beq f 48 && Nat.beq t 3) || ((Nat.beq f 46 && (Nat.beq t 35 || Nat.beq t 71 || Nat.beq t 132)) || ((Nat.beq f 27 && (Nat.beq t 21 || Nat.beq t 25)) || ((Nat.beq f 23 && Nat.beq t 1) || ((Nat.beq f 22 && Nat.beq t 1) || ((Nat.beq f 21 && (Nat.beq t 9 || Nat.beq t 56)) || ((Nat.beq f 20 && Nat.beq t 20) || (false)))))))))))))))))))))))))
noncomputable def libs : FuncId → Option LibP
  | 5 => some (lp pRepeat)
  | 7 => some (lp pReplace)
  | 37 => some (lp pLine)
  | 69 => some (lp pLetter)
  | 70 => some (lp pDigit)
  | _ => none
noncomputable def G (m : Int) : IProg := @trProgL (globs m) Tryz.prog cand refs (libs)
noncomputable def F (m : Int) : XProg := xprog (fun _ _ => []) (G m)
theorem lib_ok {F : XProg} {p : LibP} {q : Go.Idl.U → H → (Go.Idl.U → Ans) → Ans} (hq : LibQ p q) {g nv : Nat} {res : List RV} (hF : F g = some ⟨nv, .lib p, res⟩) : ∀ cq yq, CYS (xcfw F) cq yq → CallS (xcfw F) (.f g) (libF q cq yq) := fun _ _ _ => libF_ok hq hF
set_option maxRecDepth 1000000
variable (m : Int)
theorem e3 : F m 3 = E l3 := by kernel_rfl
theorem e4 : F m 4 = E l4 := by kernel_rfl
theorem e6 : F m 6 = E l6 := by kernel_rfl
theorem e8 : F m 8 = E l8 := by kernel_rfl
theorem e9 : F m 9 = E l9 := by kernel_rfl
theorem e10 : F m 10 = E l10 := by kernel_rfl
theorem e11 : F m 11 = E l11 := by kernel_rfl
theorem e12 : F m 12 = E l12 := by kernel_rfl
theorem e19 : F m 19 = E l19 := by kernel_rfl
theorem e20 : F m 20 = E l20 := by kernel_rfl
end Go.Proofs.YtbhnokhofcgjmaaGreatDoor
