/- The program's code as it was printed; what it comes to. -/
import Derived.Test.YtpmmjjnflnfkpaaDoorCode
import Derived.Test.YtpmmjjnflnfkpaaDoorChecked
import Derived.KernelRfl
namespace Go.Proofs.YtpmmjjnflnfkpaaDoor
open Go Go.Idl Go.Idl.Sc
noncomputable def gvals : Nat → Option (List Value)
  | 0 => some [.iface 143 (.agg #[.pointer (some ⟨1, 54, none⟩)])]
  | _ => none
noncomputable instance globs : Globs := ⟨gvals⟩
noncomputable def cand : List TypeId := [8, 10, 11, 14, 15, 16, 19, 62, 86, 144, 54, 88, 143, 23, 70, 77, 79, 80]
noncomputable def refs : FuncId → Nat → Bool := fun f t => (Nat.beq f 8 && Nat.beq t 5) || ((Nat.beq f 8 && Nat.beq t 1) || ((Nat.beq f 69 && Nat.beq t 1) || ((Nat.beq f 35 && Nat.beq t 40) || ((Nat.beq f 32 && Nat.beq t 7) || ((Nat.beq f 32 && Nat.beq t 5) || ((Nat.beq f 31 && Nat.beq t 7) || ((Nat.beq f 31 && Nat.beq t 5) || ((Nat.beq f 22 && Nat.beq t 5) || ((Nat.beq f 20 && Nat.beq t 1) || ((Nat.beq f 12 && Nat.beq t 7) || ((Nat.beq f 11 && Nat.beq t 48) || (false))))))))))))
noncomputable def F : XProg := xprog (fun _ _ => []) (trProg Tryd.prog cand refs)
theorem cold_ok {F : XProg} {g nv : Nat} {b : XCode} {r : List RV} (hF : F g = some ⟨nv, b, r⟩) (n : Nat) : ∀ cq yq, CYS (xcfw F) cq yq → CallS (xcfw F) (.f g) (coldF n ⟨nv, b, r⟩ cq yq) := fun _ _ hc => coldF_ok hc n hF
set_option maxRecDepth 1000000
theorem F3_eq : F 3 = some ⟨18, b3, r3⟩ := by kernel_rfl
theorem F4_eq : F 4 = some ⟨13, b4, r4⟩ := by kernel_rfl
theorem F5_eq : F 5 = some ⟨4, b5, r5⟩ := by kernel_rfl
theorem F6_eq : F 6 = some ⟨6, b6, r6⟩ := by kernel_rfl
theorem F7_eq : F 7 = some ⟨6, b7, r7⟩ := by kernel_rfl
theorem F8_eq : F 8 = some ⟨4, b8, r8⟩ := by kernel_rfl
theorem F9_eq : F 9 = some ⟨7, b9, r9⟩ := by kernel_rfl
theorem F10_eq : F 10 = some ⟨3, b10, r10⟩ := by kernel_rfl
theorem F11_eq : F 11 = some ⟨7, b11, r11⟩ := by kernel_rfl
theorem F12_eq : F 12 = some ⟨3, b12, r12⟩ := by kernel_rfl
theorem F13_eq : F 13 = some ⟨7, b13, r13⟩ := by kernel_rfl
theorem F14_eq : F 14 = some ⟨6, b14, r14⟩ := by kernel_rfl
theorem F15_eq : F 15 = some ⟨8, b15, r15⟩ := by kernel_rfl
theorem F16_eq : F 16 = some ⟨4, b16, r16⟩ := by kernel_rfl
theorem F17_eq : F 17 = some ⟨18, b17, r17⟩ := by kernel_rfl
theorem F18_eq : F 18 = some ⟨4, b18, r18⟩ := by kernel_rfl
theorem F19_eq : F 19 = some ⟨4, b19, r19⟩ := by kernel_rfl
theorem F20_eq : F 20 = some ⟨3, b20, r20⟩ := by kernel_rfl
theorem F21_eq : F 21 = some ⟨27, b21, r21⟩ := by kernel_rfl
theorem F22_eq : F 22 = some ⟨3, b22, r22⟩ := by kernel_rfl
theorem F23_eq : F 23 = some ⟨3, b23, r23⟩ := by kernel_rfl
theorem F24_eq : F 24 = some ⟨14, b24, r24⟩ := by kernel_rfl
theorem F25_eq : F 25 = some ⟨14, b25, r25⟩ := by kernel_rfl
theorem F26_eq : F 26 = some ⟨3, b26, r26⟩ := by kernel_rfl
theorem F27_eq : F 27 = some ⟨8, b27, r27⟩ := by kernel_rfl
theorem F28_eq : F 28 = some ⟨6, b28, r28⟩ := by kernel_rfl
theorem F29_eq : F 29 = some ⟨9, b29, r29⟩ := by kernel_rfl
theorem F30_eq : F 30 = some ⟨3, b30, r30⟩ := by kernel_rfl
theorem F31_eq : F 31 = some ⟨3, b31, r31⟩ := by kernel_rfl
theorem F32_eq : F 32 = some ⟨3, b32, r32⟩ := by kernel_rfl
theorem F33_eq : F 33 = some ⟨10, b33, r33⟩ := by kernel_rfl
theorem F34_eq : F 34 = some ⟨5, b34, r34⟩ := by kernel_rfl
theorem F35_eq : F 35 = some ⟨26, b35, r35⟩ := by kernel_rfl
theorem F36_eq : F 36 = some ⟨26, b36, r36⟩ := by kernel_rfl
theorem F37_eq : F 37 = some ⟨2, b37, r37⟩ := by kernel_rfl
theorem F38_eq : F 38 = some ⟨12, b38, r38⟩ := by kernel_rfl
theorem F39_eq : F 39 = some ⟨19, b39, r39⟩ := by kernel_rfl
theorem F40_eq : F 40 = some ⟨5, b40, r40⟩ := by kernel_rfl
theorem F41_eq : F 41 = some ⟨3, b41, r41⟩ := by kernel_rfl
theorem F42_eq : F 42 = some ⟨3, b42, r42⟩ := by kernel_rfl
theorem F46_eq : F 46 = some ⟨51, b46, r46⟩ := by kernel_rfl
theorem F48_eq : F 48 = some ⟨46, b48, r48⟩ := by kernel_rfl
theorem F49_eq : F 49 = some ⟨4, b49, r49⟩ := by kernel_rfl
theorem F71_eq : F 71 = some ⟨9, b71, r71⟩ := by kernel_rfl
theorem F72_eq : F 72 = some ⟨3, b72, r72⟩ := by kernel_rfl
theorem F73_eq : F 73 = some ⟨2, b73, r73⟩ := by kernel_rfl
theorem F74_eq : F 74 = some ⟨4, b74, r74⟩ := by kernel_rfl
theorem F75_eq : F 75 = some ⟨7, b75, r75⟩ := by kernel_rfl
theorem F76_eq : F 76 = some ⟨5, b76, r76⟩ := by kernel_rfl
theorem F77_eq : F 77 = some ⟨5, b77, r77⟩ := by kernel_rfl
theorem F78_eq : F 78 = some ⟨4, b78, r78⟩ := by kernel_rfl
theorem F79_eq : F 79 = some ⟨3, b79, r79⟩ := by kernel_rfl
theorem F80_eq : F 80 = some ⟨3, b80, r80⟩ := by kernel_rfl
theorem F81_eq : F 81 = some ⟨9, b81, r81⟩ := by kernel_rfl
theorem F82_eq : F 82 = some ⟨8, b82, r82⟩ := by kernel_rfl
theorem F83_eq : F 83 = some ⟨3, b83, r83⟩ := by kernel_rfl
theorem F84_eq : F 84 = some ⟨10, b84, r84⟩ := by kernel_rfl
theorem F85_eq : F 85 = some ⟨3, b85, r85⟩ := by kernel_rfl
theorem F86_eq : F 86 = some ⟨3, b86, r86⟩ := by kernel_rfl
theorem F87_eq : F 87 = some ⟨6, b87, r87⟩ := by kernel_rfl
theorem F88_eq : F 88 = some ⟨7, b88, r88⟩ := by kernel_rfl
theorem F89_eq : F 89 = some ⟨3, b89, r89⟩ := by kernel_rfl
theorem F90_eq : F 90 = some ⟨4, b90, r90⟩ := by kernel_rfl
theorem F91_eq : F 91 = some ⟨46, b91, r91⟩ := by kernel_rfl
theorem F93_eq : F 93 = some ⟨3, b93, r93⟩ := by kernel_rfl
theorem tab_ok : tab1.OK F := ⟨cold_ok F35_eq 1000000, ⟨cold_ok F19_eq 1000000, ⟨cold_ok F11_eq 1000000, ⟨cold_ok F7_eq 1000000, ⟨cold_ok F5_eq 1000000, ⟨cold_ok F4_eq 1000000, ⟨cold_ok F3_eq 1000000, trivial, trivial⟩, trivial⟩, ⟨cold_ok F6_eq 1000000, trivial, trivial⟩⟩, ⟨cold_ok F9_eq 1000000, ⟨cold_ok F8_eq 1000000, trivial, trivial⟩, ⟨cold_ok F10_eq 1000000, trivial, trivial⟩⟩⟩, ⟨cold_ok F15_eq 1000000, ⟨cold_ok F13_eq 1000000, ⟨cold_ok F12_eq 1000000, trivial, trivial⟩, ⟨cold_ok F14_eq 1000000, trivial, trivial⟩⟩, ⟨cold_ok F17_eq 1000000, ⟨cold_ok F16_eq 1000000, trivial, trivial⟩, ⟨cold_ok F18_eq 1000000, trivial, trivial⟩⟩⟩⟩, ⟨cold_ok F27_eq 1000000, ⟨cold_ok F23_eq 1000000, ⟨cold_ok F21_eq 1000000, ⟨cold_ok F20_eq 1000000, trivial, trivial⟩, ⟨cold_ok F22_eq 1000000, trivial, trivial⟩⟩, ⟨cold_ok F25_eq 1000000, ⟨cold_ok F24_eq 1000000, trivial, trivial⟩, ⟨cold_ok F26_eq 1000000, trivial, trivial⟩⟩⟩, ⟨cold_ok F31_eq 1000000, ⟨cold_ok F29_eq 1000000, ⟨cold_ok F28_eq 1000000, trivial, trivial⟩, ⟨cold_ok F30_eq 1000000, trivial, trivial⟩⟩, ⟨cold_ok F33_eq 1000000, ⟨cold_ok F32_eq 1000000, trivial, trivial⟩, ⟨cold_ok F34_eq 1000000, trivial, trivial⟩⟩⟩⟩⟩, ⟨cold_ok F77_eq 1000000, ⟨cold_ok F48_eq 1000000, ⟨cold_ok F40_eq 1000000, ⟨cold_ok F38_eq 1000000, ⟨cold_ok F37_eq 1000000, ⟨cold_ok F36_eq 1000000, trivial, trivial⟩, trivial⟩, ⟨cold_ok F39_eq 1000000, trivial, trivial⟩⟩, ⟨cold_ok F42_eq 1000000, ⟨cold_ok F41_eq 1000000, trivial, trivial⟩, ⟨cold_ok F46_eq 1000000, trivial, trivial⟩⟩⟩, ⟨cold_ok F73_eq 1000000, ⟨cold_ok F71_eq 1000000, ⟨cold_ok F49_eq 1000000, trivial, trivial⟩, ⟨cold_ok F72_eq 1000000, trivial, trivial⟩⟩, ⟨cold_ok F75_eq 1000000, ⟨cold_ok F74_eq 1000000, trivial, trivial⟩, ⟨cold_ok F76_eq 1000000, trivial, trivial⟩⟩⟩⟩, ⟨cold_ok F85_eq 1000000, ⟨cold_ok F81_eq 1000000, ⟨cold_ok F79_eq 1000000, ⟨cold_ok F78_eq 1000000, trivial, trivial⟩, ⟨cold_ok F80_eq 1000000, trivial, trivial⟩⟩, ⟨cold_ok F83_eq 1000000, ⟨cold_ok F82_eq 1000000, trivial, trivial⟩, ⟨cold_ok F84_eq 1000000, trivial, trivial⟩⟩⟩, ⟨cold_ok F89_eq 1000000, ⟨cold_ok F87_eq 1000000, ⟨cold_ok F86_eq 1000000, trivial, trivial⟩, ⟨cold_ok F88_eq 1000000, trivial, trivial⟩⟩, ⟨cold_ok F91_eq 1000000, ⟨cold_ok F90_eq 1000000, trivial, trivial⟩, ⟨cold_ok F93_eq 1000000, trivial, trivial⟩⟩⟩⟩⟩⟩
end Go.Proofs.YtpmmjjnflnfkpaaDoor
