/- The functions that the law runs; what they are tied by. -/
import Derived.Test.YtncopkfkknageaaGreatDoorE5
namespace Go.Proofs.YtncopkfkknageaaGreatDoor
open Go Go.Idl Go.Idl.YtncopkfkknageaaGreatDoorC Go.Idl.FT
set_option maxRecDepth 1000000
variable (m : Int)
theorem e133 : F m 133 = E l133 := by kernel_rfl
theorem e135 : F m 135 = E l135 := by kernel_rfl
theorem e136 : F m 136 = E l136 := by kernel_rfl
theorem e137 : F m 137 = E l137 := by kernel_rfl
theorem e138 : F m 138 = E l138 := by kernel_rfl
theorem e139 : F m 139 = E l139 := by kernel_rfl
theorem e140 : F m 140 = E l140 := by kernel_rfl
theorem e141 : F m 141 = E l141 := by kernel_rfl
theorem e142 : F m 142 = E l142 := by kernel_rfl
theorem e143 : F m 143 = E l143 := by kernel_rfl
theorem e149 : F m 149 = E l149 := by kernel_rfl
theorem e152 : F m 152 = E l152 := by kernel_rfl
theorem e163 : F m 163 = E l163 := by kernel_rfl
theorem e164 : F m 164 = E l164 := by kernel_rfl
theorem e165 : F m 165 = E l165 := by kernel_rfl
theorem e166 : F m 166 = E l166 := by kernel_rfl
theorem e167 : F m 167 = E l167 := by kernel_rfl
theorem e168 : F m 168 = E l168 := by kernel_rfl
theorem e171 : F m 171 = E l171 := by kernel_rfl
theorem e173 : F m 173 = E l173 := by kernel_rfl
theorem e174 : F m 174 = E l174 := by kernel_rfl
theorem e176 : F m 176 = E l176 := by kernel_rfl
theorem e182 : F m 182 = E l182 := by kernel_rfl
theorem e183 : F m 183 = E l183 := by kernel_rfl
theorem e184 : F m 184 = E l184 := by kernel_rfl
theorem e185 : F m 185 = E l185 := by kernel_rfl
theorem e186 : F m 186 = E l186 := by kernel_rfl
theorem e198 : F m 198 = E l198 := by kernel_rfl
theorem e237 : F m 237 = E l237 := by kernel_rfl
noncomputable def tab : FT := .n 85 l85 (.n 44 l44 (.n 21 l21 (.n 11 l11 (.n 7 l7 (.n 5 l5 (.n 4 l4 (.n 3 l3 .f .f) .f) (.n 6 l6 .f .f)) (.n 9 l9 (.n 8 l8 .f .f) (.n 10 l10 .f .f))) (.n 15 l15 (.n 13 l13 (.n 12 l12 .f .f) (.n 14 l14 .f .f)) (.n 18 l18 (.n 17 l17 .f .f) (.n 20 l20 .f .f)))) (.n 33 l33 (.n 26 l26 (.n 23 l23 (.n 22 l22 .f .f) (.n 25 l25 .f .f)) (.n 28 l28 (.n 27 l27 .f .f) (.n 29 l29 .f .f))) (.n 38 l38 (.n 35 l35 (.n 34 l34 .f .f) (.n 37 l37 .f .f)) (.n 41 l41 (.n 40 l40 .f .f) (.n 43 l43 .f .f))))) (.n 64 l64 (.n 53 l53 (.n 48 l48 (.n 46 l46 (.n 45 l45 .f .f) (.n 47 l47 .f .f)) (.n 51 l51 (.n 49 l49 .f .f) (.n 52 l52 .f .f))) (.n 57 l57 (.n 55 l55 (.n 54 l54 .f .f) (.n 56 l56 .f .f)) (.n 62 l62 (.n 61 l61 .f .f) (.n 63 l63 .f .f)))) (.n 72 l72 (.n 68 l68 (.n 66 l66 (.n 65 l65 .f .f) (.n 67 l67 .f .f)) (.n 70 l70 (.n 69 l69 .f .f) (.n 71 l71 .f .f))) (.n 81 l81 (.n 79 l79 (.n 73 l73 .f .f) (.n 80 l80 .f .f)) (.n 83 l83 (.n 82 l82 .f .f) (.n 84 l84 .f .f)))))) (.n 127 l127 (.n 106 l106 (.n 95 l95 (.n 91 l91 (.n 89 l89 (.n 88 l88 (.n 86 l86 .f .f) .f) (.n 90 l90 .f .f)) (.n 93 l93 (.n 92 l92 .f .f) (.n 94 l94 .f .f))) (.n 102 l102 (.n 97 l97 (.b 96 (libF (slowQ pFields)) .f .f) (.n 98 l98 .f .f)) (.n 104 l104 (.n 103 l103 .f .f) (.n 105 l105 .f .f)))) (.n 115 l115 (.n 110 l110 (.n 108 l108 (.n 107 l107 .f .f) (.n 109 l109 .f .f)) (.n 112 l112 (.b 111 (libF cntQ) .f .f) (.n 114 l114 .f .f))) (.n 122 l122 (.n 117 l117 (.n 116 l116 .f .f) (.n 118 l118 .f .f)) (.n 125 l125 (.n 123 l123 .f .f) (.n 126 l126 .f .f))))) (.n 164 l164 (.n 139 l139 (.n 135 l135 (.n 132 l132 (.n 131 l131 .f .f) (.n 133 l133 .f .f)) (.n 137 l137 (.n 136 l136 .f .f) (.n 138 l138 .f .f))) (.n 143 l143 (.n 141 l141 (.n 140 l140 .f .f) (.n 142 l142 .f .f)) (.n 152 l152 (.n 149 l149 .f .f) (.n 163 l163 .f .f)))) (.n 176 l176 (.n 168 l168 (.n 166 l166 (.n 165 l165 .f .f) (.n 167 l167 .f .f)) (.n 173 l173 (.n 171 l171 .f .f) (.n 174 l174 .f .f))) (.n 185 l185 (.n 183 l183 (.n 182 l182 .f .f) (.n 184 l184 .f .f)) (.n 198 l198 (.n 186 l186 .f .f) (.n 237 l237 .f .f))))))
theorem lb96 : F m 96 = some ⟨0, .lib pFields, []⟩ := by kernel_rfl
theorem lb111 : F m 111 = some ⟨0, .lib pCount, []⟩ := by kernel_rfl
theorem tab_ok : tab.ok (F m) E := nk (e85 m) (nk (e44 m) (nk (e21 m) (nk (e11 m) (nk (e7 m) (nk (e5 m) (nk (e4 m) (nk (e3 m) fk fk) fk) (nk (e6 m) fk fk)) (nk (e9 m) (nk (e8 m) fk fk) (nk (e10 m) fk fk))) (nk (e15 m) (nk (e13 m) (nk (e12 m) fk fk) (nk (e14 m) fk fk)) (nk (e18 m) (nk (e17 m) fk fk) (nk (e20 m) fk fk)))) (nk (e33 m) (nk (e26 m) (nk (e23 m) (nk (e22 m) fk fk) (nk (e25 m) fk fk)) (nk (e28 m) (nk (e27 m) fk fk) (nk (e29 m) fk fk))) (nk (e38 m) (nk (e35 m) (nk (e34 m) fk fk) (nk (e37 m) fk fk)) (nk (e41 m) (nk (e40 m) fk fk) (nk (e43 m) fk fk))))) (nk (e64 m) (nk (e53 m) (nk (e48 m) (nk (e46 m) (nk (e45 m) fk fk) (nk (e47 m) fk fk)) (nk (e51 m) (nk (e49 m) fk fk) (nk (e52 m) fk fk))) (nk (e57 m) (nk (e55 m) (nk (e54 m) fk fk) (nk (e56 m) fk fk)) (nk (e62 m) (nk (e61 m) fk fk) (nk (e63 m) fk fk)))) (nk (e72 m) (nk (e68 m) (nk (e66 m) (nk (e65 m) fk fk) (nk (e67 m) fk fk)) (nk (e70 m) (nk (e69 m) fk fk) (nk (e71 m) fk fk))) (nk (e81 m) (nk (e79 m) (nk (e73 m) fk fk) (nk (e80 m) fk fk)) (nk (e83 m) (nk (e82 m) fk fk) (nk (e84 m) fk fk)))))) (nk (e127 m) (nk (e106 m) (nk (e95 m) (nk (e91 m) (nk (e89 m) (nk (e88 m) (nk (e86 m) fk fk) fk) (nk (e90 m) fk fk)) (nk (e93 m) (nk (e92 m) fk fk) (nk (e94 m) fk fk))) (nk (e102 m) (nk (e97 m) (bk (lib_ok (slowQ_ok pFields) (lb96 m)) fk fk) (nk (e98 m) fk fk)) (nk (e104 m) (nk (e103 m) fk fk) (nk (e105 m) fk fk)))) (nk (e115 m) (nk (e110 m) (nk (e108 m) (nk (e107 m) fk fk) (nk (e109 m) fk fk)) (nk (e112 m) (bk (lib_ok (cntQ_ok) (lb111 m)) fk fk) (nk (e114 m) fk fk))) (nk (e122 m) (nk (e117 m) (nk (e116 m) fk fk) (nk (e118 m) fk fk)) (nk (e125 m) (nk (e123 m) fk fk) (nk (e126 m) fk fk))))) (nk (e164 m) (nk (e139 m) (nk (e135 m) (nk (e132 m) (nk (e131 m) fk fk) (nk (e133 m) fk fk)) (nk (e137 m) (nk (e136 m) fk fk) (nk (e138 m) fk fk))) (nk (e143 m) (nk (e141 m) (nk (e140 m) fk fk) (nk (e142 m) fk fk)) (nk (e152 m) (nk (e149 m) fk fk) (nk (e163 m) fk fk)))) (nk (e176 m) (nk (e168 m) (nk (e166 m) (nk (e165 m) fk fk) (nk (e167 m) fk fk)) (nk (e173 m) (nk (e171 m) fk fk) (nk (e174 m) fk fk))) (nk (e185 m) (nk (e183 m) (nk (e182 m) fk fk) (nk (e184 m) fk fk)) (nk (e198 m) (nk (e186 m) fk fk) (nk (e237 m) fk fk))))))
end Go.Proofs.YtncopkfkknageaaGreatDoor
