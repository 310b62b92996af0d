/- The program's code as it was printed; what it comes to. -/
import Derived.Test.YtipgledppmelpaaGreatDoorCode
import Derived.Test.YtipgledppmelpaaGreatDoorChecked
import Derived.Lib.Space
import Derived.KernelRfl
namespace Go.Proofs.YtipgledppmelpaaGreatDoor
open Go Go.Idl Go.Idl.Lx
noncomputable def gvals (m : Int) (gp5 gq5 : Nat) : Nat → Option (List Value)
  | 0 => some [.iface 126 (.agg #[.pointer (some ⟨10, 26, none⟩)])]
  | 1 => some [.int .i64 m]
  | 2 => some (Lib.asciiSpaceTab.map fun n => .int .u8 n)
  | 5 => some [.iface 182 (.pointer (some ⟨gp5, gq5, none⟩))]
  | _ => none
noncomputable abbrev globs (m : Int) (gp5 gq5 : Nat) : Globs := ⟨gvals m gp5 gq5⟩
noncomputable def cand : List TypeId := [8, 10, 11, 14, 15, 16, 19, 32, 48, 127, 146, 149, 182, 26, 87, 126, 51, 97]
noncomputable def refs : FuncId → Nat → Bool := fun f t => (Nat.beq f 63 && Nat.beq t 46) || ((Nat.beq f 6 && Nat.beq t 15) || ((Nat.beq f 48 && Nat.beq t 41) || (false)))
noncomputable def libs (gp5 gq5 : Nat) : FuncId → Option (List IVal → Option IVal)
  | 5 => some pRepeat
  | 18 => some pCount
  | 39 => some pCut
  | 48 => some pFields
  | 80 => some (pRange 182 gp5 gq5)
  | _ => none
noncomputable def G (m : Int) (gp5 gq5 : Nat) : IProg := @trProgL (globs m gp5 gq5) Tryz.prog cand refs (libs gp5 gq5)
noncomputable def F (m : Int) (gp5 gq5 : Nat) : XProg := xprog (fun _ _ => []) (G m gp5 gq5)
theorem cold_ok {F : XProg} {g nv : Nat} {b : XCode} {r : List RV} (hF : F g = some ⟨nv, b, r⟩) (n : Nat) : ∀ cq yq, CYS (xcfw F) cq yq → CallS (xcfw F) (.f g) (coldF n ⟨nv, b, r⟩ cq yq) := fun _ _ hc => coldF_ok hc n hF
theorem lib_ok {F : XProg} {p : List IVal → Option IVal} {q : U → (U → Ans) → Ans} (hq : LibQ p q) {g nv : Nat} {res : List RV} (hF : F g = some ⟨nv, .lib p, res⟩) : ∀ cq yq, CYS (xcfw F) cq yq → CallS (xcfw F) (.f g) (libF q cq yq) := fun _ _ _ => libF_ok hq hF
set_option maxRecDepth 1000000
theorem F3_eq (m : Int) (gp5 gq5 : Nat) : F m gp5 gq5 3 = some ⟨8, b3, r3⟩ := by kernel_rfl
theorem F4_eq (m : Int) (gp5 gq5 : Nat) : F m gp5 gq5 4 = some ⟨7, b4, r4⟩ := by kernel_rfl
theorem F5_eq (m : Int) (gp5 gq5 : Nat) : F m gp5 gq5 5 = some ⟨0, .lib pRepeat, []⟩ := by kernel_rfl
theorem F6_eq (m : Int) (gp5 gq5 : Nat) : F m gp5 gq5 6 = some ⟨19, b6, r6⟩ := by kernel_rfl
theorem F7_eq (m : Int) (gp5 gq5 : Nat) : F m gp5 gq5 7 = some ⟨9, b7, r7⟩ := by kernel_rfl
theorem F8_eq (m : Int) (gp5 gq5 : Nat) : F m gp5 gq5 8 = some ⟨6, b8, r8⟩ := by kernel_rfl
theorem F9_eq (m : Int) (gp5 gq5 : Nat) : F m gp5 gq5 9 = some ⟨5, b9, r9⟩ := by kernel_rfl
theorem F11_eq (m : Int) (gp5 gq5 : Nat) : F m gp5 gq5 11 = some ⟨5, b11, r11⟩ := by kernel_rfl
theorem F16_eq (m : Int) (gp5 gq5 : Nat) : F m gp5 gq5 16 = some ⟨3, b16, r16⟩ := by kernel_rfl
theorem F17_eq (m : Int) (gp5 gq5 : Nat) : F m gp5 gq5 17 = some ⟨6, b17, r17⟩ := by kernel_rfl
theorem F18_eq (m : Int) (gp5 gq5 : Nat) : F m gp5 gq5 18 = some ⟨0, .lib pCount, []⟩ := by kernel_rfl
theorem F21_eq (m : Int) (gp5 gq5 : Nat) : F m gp5 gq5 21 = some ⟨5, b21, r21⟩ := by kernel_rfl
theorem F24_eq (m : Int) (gp5 gq5 : Nat) : F m gp5 gq5 24 = some ⟨60, b24, r24⟩ := by kernel_rfl
theorem F25_eq (m : Int) (gp5 gq5 : Nat) : F m gp5 gq5 25 = some ⟨35, b25, r25⟩ := by kernel_rfl
theorem F26_eq (m : Int) (gp5 gq5 : Nat) : F m gp5 gq5 26 = some ⟨7, b26, r26⟩ := by kernel_rfl
theorem F27_eq (m : Int) (gp5 gq5 : Nat) : F m gp5 gq5 27 = some ⟨5, b27, r27⟩ := by kernel_rfl
theorem F28_eq (m : Int) (gp5 gq5 : Nat) : F m gp5 gq5 28 = some ⟨80, b28, r28⟩ := by kernel_rfl
theorem F29_eq (m : Int) (gp5 gq5 : Nat) : F m gp5 gq5 29 = some ⟨20, b29, r29⟩ := by kernel_rfl
theorem F30_eq (m : Int) (gp5 gq5 : Nat) : F m gp5 gq5 30 = some ⟨3, b30, r30⟩ := by kernel_rfl
theorem F31_eq (m : Int) (gp5 gq5 : Nat) : F m gp5 gq5 31 = some ⟨8, b31, r31⟩ := by kernel_rfl
theorem F32_eq (m : Int) (gp5 gq5 : Nat) : F m gp5 gq5 32 = some ⟨6, b32, r32⟩ := by kernel_rfl
theorem F38_eq (m : Int) (gp5 gq5 : Nat) : F m gp5 gq5 38 = some ⟨6, b38, r38⟩ := by kernel_rfl
theorem F39_eq (m : Int) (gp5 gq5 : Nat) : F m gp5 gq5 39 = some ⟨0, .lib pCut, []⟩ := by kernel_rfl
theorem F40_eq (m : Int) (gp5 gq5 : Nat) : F m gp5 gq5 40 = some ⟨2, b40, r40⟩ := by kernel_rfl
theorem F41_eq (m : Int) (gp5 gq5 : Nat) : F m gp5 gq5 41 = some ⟨2, b41, r41⟩ := by kernel_rfl
theorem F42_eq (m : Int) (gp5 gq5 : Nat) : F m gp5 gq5 42 = some ⟨11, b42, r42⟩ := by kernel_rfl
theorem F43_eq (m : Int) (gp5 gq5 : Nat) : F m gp5 gq5 43 = some ⟨19, b43, r43⟩ := by kernel_rfl
theorem F44_eq (m : Int) (gp5 gq5 : Nat) : F m gp5 gq5 44 = some ⟨4, b44, r44⟩ := by kernel_rfl
theorem F45_eq (m : Int) (gp5 gq5 : Nat) : F m gp5 gq5 45 = some ⟨5, b45, r45⟩ := by kernel_rfl
theorem F46_eq (m : Int) (gp5 gq5 : Nat) : F m gp5 gq5 46 = some ⟨5, b46, r46⟩ := by kernel_rfl
theorem F47_eq (m : Int) (gp5 gq5 : Nat) : F m gp5 gq5 47 = some ⟨10, b47, r47⟩ := by kernel_rfl
theorem F48_eq (m : Int) (gp5 gq5 : Nat) : F m gp5 gq5 48 = some ⟨0, .lib pFields, []⟩ := by kernel_rfl
theorem F52_eq (m : Int) (gp5 gq5 : Nat) : F m gp5 gq5 52 = some ⟨51, b52, r52⟩ := by kernel_rfl
theorem F54_eq (m : Int) (gp5 gq5 : Nat) : F m gp5 gq5 54 = some ⟨46, b54, r54⟩ := by kernel_rfl
theorem F57_eq (m : Int) (gp5 gq5 : Nat) : F m gp5 gq5 57 = some ⟨3, b57, r57⟩ := by kernel_rfl
theorem F58_eq (m : Int) (gp5 gq5 : Nat) : F m gp5 gq5 58 = some ⟨2, b58, r58⟩ := by kernel_rfl
theorem F59_eq (m : Int) (gp5 gq5 : Nat) : F m gp5 gq5 59 = some ⟨184, b59, r59⟩ := by kernel_rfl
theorem F60_eq (m : Int) (gp5 gq5 : Nat) : F m gp5 gq5 60 = some ⟨12, b60, r60⟩ := by kernel_rfl
theorem F61_eq (m : Int) (gp5 gq5 : Nat) : F m gp5 gq5 61 = some ⟨122, b61, r61⟩ := by kernel_rfl
theorem F62_eq (m : Int) (gp5 gq5 : Nat) : F m gp5 gq5 62 = some ⟨35, b62, r62⟩ := by kernel_rfl
theorem F67_eq (m : Int) (gp5 gq5 : Nat) : F m gp5 gq5 67 = some ⟨5, b67, r67⟩ := by kernel_rfl
theorem F72_eq (m : Int) (gp5 gq5 : Nat) : F m gp5 gq5 72 = some ⟨1, b72, r72⟩ := by kernel_rfl
theorem F75_eq (m : Int) (gp5 gq5 : Nat) : F m gp5 gq5 75 = some ⟨5, b75, r75⟩ := by kernel_rfl
theorem F77_eq (m : Int) (gp5 gq5 : Nat) : F m gp5 gq5 77 = some ⟨3, b77, r77⟩ := by kernel_rfl
theorem F80_eq (m : Int) (gp5 gq5 : Nat) : F m gp5 gq5 80 = some ⟨0, .lib (pRange 182 gp5 gq5), []⟩ := by kernel_rfl
theorem F86_eq (m : Int) (gp5 gq5 : Nat) : F m gp5 gq5 86 = some ⟨1, b86, r86⟩ := by kernel_rfl
theorem F87_eq (m : Int) (gp5 gq5 : Nat) : F m gp5 gq5 87 = some ⟨3, b87, r87⟩ := by kernel_rfl
theorem F89_eq (m : Int) (gp5 gq5 : Nat) : F m gp5 gq5 89 = some ⟨3, b89, r89⟩ := by kernel_rfl
theorem F143_eq (m : Int) (gp5 gq5 : Nat) : F m gp5 gq5 143 = some ⟨3, b143, r143⟩ := by kernel_rfl
theorem tab_ok (m : Int) (gp5 gq5 : Nat) : (tab1 gp5 gq5).OK (F m gp5 gq5) := ⟨cold_ok (F41_eq m gp5 gq5) 1000000, ⟨cold_ok (F24_eq m gp5 gq5) 1000000, ⟨cold_ok (F9_eq m gp5 gq5) 1000000, ⟨cold_ok (F6_eq m gp5 gq5) 1000000, ⟨cold_ok (F4_eq m gp5 gq5) 1000000, ⟨cold_ok (F3_eq m gp5 gq5) 1000000, trivial, trivial⟩, ⟨lib_ok (repQ_ok) (F5_eq m gp5 gq5), trivial, trivial⟩⟩, ⟨cold_ok (F8_eq m gp5 gq5) 1000000, ⟨cold_ok (F7_eq m gp5 gq5) 1000000, trivial, trivial⟩, trivial⟩⟩, ⟨cold_ok (F17_eq m gp5 gq5) 1000000, ⟨cold_ok (F16_eq m gp5 gq5) 1000000, ⟨cold_ok (F11_eq m gp5 gq5) 1000000, trivial, trivial⟩, trivial⟩, ⟨cold_ok (F21_eq m gp5 gq5) 1000000, ⟨lib_ok (cntQ_ok) (F18_eq m gp5 gq5), trivial, trivial⟩, trivial⟩⟩⟩, ⟨cold_ok (F30_eq m gp5 gq5) 1000000, ⟨cold_ok (F27_eq m gp5 gq5) 1000000, ⟨cold_ok (F26_eq m gp5 gq5) 1000000, ⟨cold_ok (F25_eq m gp5 gq5) 1000000, trivial, trivial⟩, trivial⟩, ⟨cold_ok (F29_eq m gp5 gq5) 1000000, ⟨cold_ok (F28_eq m gp5 gq5) 1000000, trivial, trivial⟩, trivial⟩⟩, ⟨cold_ok (F38_eq m gp5 gq5) 1000000, ⟨cold_ok (F32_eq m gp5 gq5) 1000000, ⟨cold_ok (F31_eq m gp5 gq5) 1000000, trivial, trivial⟩, trivial⟩, ⟨cold_ok (F40_eq m gp5 gq5) 1000000, ⟨lib_ok (slowQ_ok pCut) (F39_eq m gp5 gq5), trivial, trivial⟩, trivial⟩⟩⟩⟩, ⟨cold_ok (F60_eq m gp5 gq5) 1000000, ⟨lib_ok (slowQ_ok pFields) (F48_eq m gp5 gq5), ⟨cold_ok (F45_eq m gp5 gq5) 1000000, ⟨cold_ok (F43_eq m gp5 gq5) 1000000, ⟨cold_ok (F42_eq m gp5 gq5) 1000000, trivial, trivial⟩, ⟨cold_ok (F44_eq m gp5 gq5) 1000000, trivial, trivial⟩⟩, ⟨cold_ok (F47_eq m gp5 gq5) 1000000, ⟨cold_ok (F46_eq m gp5 gq5) 1000000, trivial, trivial⟩, trivial⟩⟩, ⟨cold_ok (F57_eq m gp5 gq5) 1000000, ⟨cold_ok (F54_eq m gp5 gq5) 1000000, ⟨cold_ok (F52_eq m gp5 gq5) 1000000, trivial, trivial⟩, trivial⟩, ⟨cold_ok (F59_eq m gp5 gq5) 1000000, ⟨cold_ok (F58_eq m gp5 gq5) 1000000, trivial, trivial⟩, trivial⟩⟩⟩, ⟨cold_ok (F77_eq m gp5 gq5) 1000000, ⟨cold_ok (F67_eq m gp5 gq5) 1000000, ⟨cold_ok (F62_eq m gp5 gq5) 1000000, ⟨cold_ok (F61_eq m gp5 gq5) 1000000, trivial, trivial⟩, trivial⟩, ⟨cold_ok (F75_eq m gp5 gq5) 1000000, ⟨cold_ok (F72_eq m gp5 gq5) 1000000, trivial, trivial⟩, trivial⟩⟩, ⟨cold_ok (F87_eq m gp5 gq5) 1000000, ⟨cold_ok (F86_eq m gp5 gq5) 1000000, ⟨lib_ok (slowQ_ok (pRange 182 gp5 gq5)) (F80_eq m gp5 gq5), trivial, trivial⟩, trivial⟩, ⟨cold_ok (F143_eq m gp5 gq5) 1000000, ⟨cold_ok (F89_eq m gp5 gq5) 1000000, trivial, trivial⟩, trivial⟩⟩⟩⟩⟩
end Go.Proofs.YtipgledppmelpaaGreatDoor
