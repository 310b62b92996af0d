/- The functions that the law runs; what they are tied by. -/
import Derived.Test.YtbhnokhofcgjmaaGreatDoorE5
namespace Go.Proofs.YtbhnokhofcgjmaaGreatDoor
open Go Go.Idl Go.Idl.YtbhnokhofcgjmaaGreatDoorC Go.Idl.FT
set_option maxRecDepth 1000000
variable (m : Int)
theorem e128 : F m 128 = E l128 := by kernel_rfl
theorem e129 : F m 129 = E l129 := by kernel_rfl
theorem e131 : F m 131 = E l131 := by kernel_rfl
theorem e132 : F m 132 = E l132 := by kernel_rfl
theorem e133 : F m 133 = E l133 := by kernel_rfl
theorem e134 : F m 134 = E l134 := by kernel_rfl
theorem e135 : F m 135 = E l135 := by kernel_rfl
theorem e136 : F m 136 = E l136 := by kernel_rfl
theorem e140 : F m 140 = E l140 := by kernel_rfl
theorem e141 : F m 141 = E l141 := by kernel_rfl
theorem e142 : F m 142 = E l142 := by kernel_rfl
theorem e143 : F m 143 = E l143 := by kernel_rfl
theorem e144 : F m 144 = E l144 := by kernel_rfl
theorem e145 : F m 145 = E l145 := by kernel_rfl
theorem e146 : F m 146 = E l146 := by kernel_rfl
theorem e147 : F m 147 = E l147 := by kernel_rfl
theorem e148 : F m 148 = E l148 := by kernel_rfl
theorem e149 : F m 149 = E l149 := by kernel_rfl
theorem e150 : F m 150 = E l150 := by kernel_rfl
theorem e151 : F m 151 = E l151 := by kernel_rfl
theorem e152 : F m 152 = E l152 := by kernel_rfl
theorem e156 : F m 156 = E l156 := by kernel_rfl
theorem e157 : F m 157 = E l157 := by kernel_rfl
theorem e158 : F m 158 = E l158 := by kernel_rfl
theorem e179 : F m 179 = E l179 := by kernel_rfl
noncomputable def tab : FT := .n 87 l87 (.n 47 l47 (.n 23 l23 (.n 10 l10 (.n 6 l6 (.n 4 l4 (.n 3 l3 .f .f) (.b 5 (libF (lq repQ)) .f .f)) (.n 8 l8 (.b 7 (libF (lq (slowQ pReplace))) .f .f) (.n 9 l9 .f .f))) (.n 20 l20 (.n 12 l12 (.n 11 l11 .f .f) (.n 19 l19 .f .f)) (.n 22 l22 (.n 21 l21 .f .f) .f))) (.n 38 l38 (.n 35 l35 (.n 28 l28 (.n 27 l27 .f .f) (.n 29 l29 .f .f)) (.b 37 (libF (lq lineQ)) (.n 36 l36 .f .f) .f)) (.n 44 l44 (.n 40 l40 (.n 39 l39 .f .f) (.n 42 l42 .f .f)) (.n 46 l46 (.n 45 l45 .f .f) .f)))) (.n 71 l71 (.n 58 l58 (.n 55 l55 (.n 49 l49 (.n 48 l48 .f .f) (.n 50 l50 .f .f)) (.n 57 l57 (.n 56 l56 .f .f) .f)) (.n 66 l66 (.n 60 l60 (.n 59 l59 .f .f) (.n 64 l64 .f .f)) (.b 70 (libF (lq digitQ)) (.b 69 (libF (lq letterQ)) .f .f) .f))) (.n 78 l78 (.n 75 l75 (.n 73 l73 (.n 72 l72 .f .f) (.n 74 l74 .f .f)) (.n 77 l77 (.n 76 l76 .f .f) .f)) (.n 84 l84 (.n 80 l80 (.n 79 l79 .f .f) (.n 81 l81 .f .f)) (.n 86 l86 (.n 85 l85 .f .f) .f))))) (.n 124 l124 (.n 110 l110 (.n 100 l100 (.n 97 l97 (.n 93 l93 (.n 88 l88 .f .f) (.n 96 l96 .f .f)) (.n 99 l99 (.n 98 l98 .f .f) .f)) (.n 104 l104 (.n 102 l102 (.n 101 l101 .f .f) (.n 103 l103 .f .f)) (.n 109 l109 (.n 106 l106 .f .f) .f))) (.n 117 l117 (.n 114 l114 (.n 112 l112 (.n 111 l111 .f .f) (.n 113 l113 .f .f)) (.n 116 l116 (.n 115 l115 .f .f) .f)) (.n 121 l121 (.n 119 l119 (.n 118 l118 .f .f) (.n 120 l120 .f .f)) (.n 123 l123 (.n 122 l122 .f .f) .f)))) (.n 143 l143 (.n 133 l133 (.n 129 l129 (.n 126 l126 (.n 125 l125 .f .f) (.n 128 l128 .f .f)) (.n 132 l132 (.n 131 l131 .f .f) .f)) (.n 140 l140 (.n 135 l135 (.n 134 l134 .f .f) (.n 136 l136 .f .f)) (.n 142 l142 (.n 141 l141 .f .f) .f))) (.n 150 l150 (.n 147 l147 (.n 145 l145 (.n 144 l144 .f .f) (.n 146 l146 .f .f)) (.n 149 l149 (.n 148 l148 .f .f) .f)) (.n 157 l157 (.n 152 l152 (.n 151 l151 .f .f) (.n 156 l156 .f .f)) (.n 179 l179 (.n 158 l158 .f .f) .f)))))
theorem lb5 : F m 5 = some ⟨0, .lib (lp pRepeat), []⟩ := by kernel_rfl
theorem lb7 : F m 7 = some ⟨0, .lib (lp pReplace), []⟩ := by kernel_rfl
theorem lb37 : F m 37 = some ⟨0, .lib (lp pLine), []⟩ := by kernel_rfl
theorem lb69 : F m 69 = some ⟨0, .lib (lp pLetter), []⟩ := by kernel_rfl
theorem lb70 : F m 70 = some ⟨0, .lib (lp pDigit), []⟩ := by kernel_rfl
theorem tab_ok : tab.ok (F m) E := nk (e87 m) (nk (e47 m) (nk (e23 m) (nk (e10 m) (nk (e6 m) (nk (e4 m) (nk (e3 m) fk fk) (bk (lib_ok (lq_ok repQ_ok) (lb5 m)) fk fk)) (nk (e8 m) (bk (lib_ok (lq_ok (slowQ_ok pReplace)) (lb7 m)) fk fk) (nk (e9 m) fk fk))) (nk (e20 m) (nk (e12 m) (nk (e11 m) fk fk) (nk (e19 m) fk fk)) (nk (e22 m) (nk (e21 m) fk fk) fk))) (nk (e38 m) (nk (e35 m) (nk (e28 m) (nk (e27 m) fk fk) (nk (e29 m) fk fk)) (bk (lib_ok (lq_ok (@lineQ_ok (globs m))) (lb37 m)) (nk (e36 m) fk fk) fk)) (nk (e44 m) (nk (e40 m) (nk (e39 m) fk fk) (nk (e42 m) fk fk)) (nk (e46 m) (nk (e45 m) fk fk) fk)))) (nk (e71 m) (nk (e58 m) (nk (e55 m) (nk (e49 m) (nk (e48 m) fk fk) (nk (e50 m) fk fk)) (nk (e57 m) (nk (e56 m) fk fk) fk)) (nk (e66 m) (nk (e60 m) (nk (e59 m) fk fk) (nk (e64 m) fk fk)) (bk (lib_ok (lq_ok (@digitQ_ok (globs m))) (lb70 m)) (bk (lib_ok (lq_ok (@letterQ_ok (globs m))) (lb69 m)) fk fk) fk))) (nk (e78 m) (nk (e75 m) (nk (e73 m) (nk (e72 m) fk fk) (nk (e74 m) fk fk)) (nk (e77 m) (nk (e76 m) fk fk) fk)) (nk (e84 m) (nk (e80 m) (nk (e79 m) fk fk) (nk (e81 m) fk fk)) (nk (e86 m) (nk (e85 m) fk fk) fk))))) (nk (e124 m) (nk (e110 m) (nk (e100 m) (nk (e97 m) (nk (e93 m) (nk (e88 m) fk fk) (nk (e96 m) fk fk)) (nk (e99 m) (nk (e98 m) fk fk) fk)) (nk (e104 m) (nk (e102 m) (nk (e101 m) fk fk) (nk (e103 m) fk fk)) (nk (e109 m) (nk (e106 m) fk fk) fk))) (nk (e117 m) (nk (e114 m) (nk (e112 m) (nk (e111 m) fk fk) (nk (e113 m) fk fk)) (nk (e116 m) (nk (e115 m) fk fk) fk)) (nk (e121 m) (nk (e119 m) (nk (e118 m) fk fk) (nk (e120 m) fk fk)) (nk (e123 m) (nk (e122 m) fk fk) fk)))) (nk (e143 m) (nk (e133 m) (nk (e129 m) (nk (e126 m) (nk (e125 m) fk fk) (nk (e128 m) fk fk)) (nk (e132 m) (nk (e131 m) fk fk) fk)) (nk (e140 m) (nk (e135 m) (nk (e134 m) fk fk) (nk (e136 m) fk fk)) (nk (e142 m) (nk (e141 m) fk fk) fk))) (nk (e150 m) (nk (e147 m) (nk (e145 m) (nk (e144 m) fk fk) (nk (e146 m) fk fk)) (nk (e149 m) (nk (e148 m) fk fk) fk)) (nk (e157 m) (nk (e152 m) (nk (e151 m) fk fk) (nk (e156 m) fk fk)) (nk (e179 m) (nk (e158 m) fk fk) fk)))))
end Go.Proofs.YtbhnokhofcgjmaaGreatDoor
