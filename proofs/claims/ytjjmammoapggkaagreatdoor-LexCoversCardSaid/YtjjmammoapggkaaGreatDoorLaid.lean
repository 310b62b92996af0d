/- What the row's laid variables give. -/
import Derived.Test.YtjjmammoapggkaaGreatDoorEqs
import Derived.Test.YtjjmammoapggkaaGreatDoorRows
import Derived.ChangeSame
import Derived.OpenShut
import Derived.MakeChecks
import Derived.ChangeVars
import Derived.JoinedOf
import Derived.RowKit
import Derived.RowKitTokens
import Derived.LaidLaws
import Derived.LaidHandle
import Derived.Lay
import Derived.Lib.LaidTab
import Derived.Stop.Joined
import Derived.Stop.LaidErr
import Derived.Shelf.LaysM
import Derived.Deep.DeepHandedRow
import Derived.Deep.DeepWitnessRowRef
set_option linter.defProp false
set_option linter.unusedSectionVars false
set_option linter.unusedVariables false
set_option linter.unusedSimpArgs false
namespace Go.Proofs.YtjjmammoapggkaaGreatDoor
open Go Go.Idl Go.ChangeShapes Go.WideShapes Go.RowKit
theorem Tryz.own : ownKnob Tryz.prog.godebug = none := by kernel_rfl
theorem Tryz.et : Tryz.prog.globalNamed "errors.errorType" = some 0 := by kernel_rfl
theorem Tryz.gR : Tryz.prog.globalNamed "strconv.ErrRange" = some 5 := by kernel_rfl
theorem Tryz.gRType : (Tryz.prog.globals[5]?).map (·.type) = some 26 := by kernel_rfl
theorem Tryz.gA : Tryz.prog.globalNamed "strings.asciiSpace" = some 2 := by kernel_rfl
theorem Tryz.gAType : (Tryz.prog.globals[2]?).map (·.type) = some 70 := by kernel_rfl
theorem Tryz.cells192 : Tryz.prog.cellsOf 192 = 1 := by kernel_rfl
theorem Tryz.cells9 : Tryz.prog.cellsOf 9 = 1 := by kernel_rfl
theorem Tryz.cells5 : Tryz.prog.cellsOf 5 = 1 := by kernel_rfl
theorem Tryz.cells70 : Tryz.prog.cellsOf 70 = 256 := by kernel_rfl
theorem Tryz.star : "*" ++ "errors.errorString" = "*errors.errorString" := by decide
theorem Tryz.row190 (u : TypeId) (h : Tryz.prog.typeName? 3 u = some "*errors.errorString") : u = 190 :=
 typeName_ptr_named (nm := "errors.errorString") (by rw [Tryz.star]; kernel_rfl) (by kernel_rfl) (by decide) u (by rw [Tryz.star]; exact h)
theorem Tryz.rt : (Tryz.prog.cutTypes.find? (·.1 == "internal/reflectlite.rtype")).map (·.2) = some 125 := by kernel_rfl
theorem Tryz.oneRow : ((List.range 238).filter fun t => Tryz.prog.rowNamed t [101, 114, 114, 111, 114]) = [26] := by kernel_rfl
theorem Tryz.size : Tryz.prog.types.size = 238 := by kernel_rfl
def lay : List (String × DataW Unit) := [("math/bits.deBruijn32tab", Rows.laid_math_bits_deBruijn32tab), ("math/bits.deBruijn64tab", Rows.laid_math_bits_deBruijn64tab), ("internal/strconv.uint64pow10", Rows.laid_internal_strconv_uint64pow10), ("errors.errorType", Rows.laid_errors_errorType), ("strconv.ErrRange", Rows.laid_strconv_ErrRange), ("strconv.ErrSyntax", Rows.laid_strconv_ErrSyntax), ("unicode.White_Space", Rows.laid_unicode_White_Space), ("strings.asciiSpace", Rows.laid_strings_asciiSpace)]
def lay7 : List (String × DataW Unit) := [("math/bits.deBruijn32tab", Rows.laid_math_bits_deBruijn32tab), ("math/bits.deBruijn64tab", Rows.laid_math_bits_deBruijn64tab), ("internal/strconv.uint64pow10", Rows.laid_internal_strconv_uint64pow10), ("strconv.ErrRange", Rows.laid_strconv_ErrRange), ("strconv.ErrSyntax", Rows.laid_strconv_ErrSyntax), ("unicode.White_Space", Rows.laid_unicode_White_Space), ("strings.asciiSpace", Rows.laid_strings_asciiSpace)]
theorem z4 {W : World} (h : laidMetH Tryz.prog lay W) : laidMet Tryz.prog lay7 W /\ handlesMet Tryz.prog [("errors.errorType", Rows.laid_errors_errorType)] W := h
theorem J4 {W : World} (h : laidMetH Tryz.prog lay W) : W.cell? ⟨0, 0, none⟩ = some (.iface 125 (.agg #[.pointer (some ⟨10, 26, none⟩)])) := by
 obtain ⟨name, u, ty, e1, e2, e3, e4, e5⟩ := (z4 h).2 _ (List.mem_singleton.2 rfl)
 have en : name = [101, 114, 114, 111, 114] := (rY e1).symm
 subst en
 obtain rfl := rY (Tryz.rt.symm.trans e2)
 have hm : ty ∈ (List.range 238).filter fun t => Tryz.prog.rowNamed t [101, 114, 114, 111, 114] := List.mem_filter.2 ⟨List.mem_range.2 (by rw [<- Tryz.size]; exact e3), e4⟩
 rw [Tryz.oneRow] at hm
 obtain rfl := List.mem_singleton.1 hm
 have hh : typeHandle Tryz.prog 26 = .pointer (some ⟨10, 26, none⟩) := by kernel_rfl
 rw [hh] at e5
 simpa using World.var?_cell Tryz.et e5 0
theorem KX {W : World} (h : laidMetH Tryz.prog lay W) : ∃ b o, W.cell? ⟨5, 0, none⟩ = some (.iface 190 (.pointer (some ⟨b, o, none⟩))) := by
 obtain ⟨⟨b, o, sp⟩, s, hv, hc, -, -⟩ := laid_sentinel (z4 h).1.tail.tail.tail Tryz.gR Tryz.gRType Tryz.underlying26 Tryz.row190 Tryz.underlying190 Tryz.underlying192 rfl rfl Tryz.underlying9 Tryz.cells192 Tryz.cells9
 have hs : sp = none := by
   cases sp with
   | none => rfl
   | some z =>
     unfold World.cell? at hc
     split at hc
     . cases hc
     . cases hc
 subst hs
 exact ⟨b, o, by simpa using World.var?_cell Tryz.gR hv 0⟩
theorem X2 : (Rows.laid_strings_asciiSpace : DataW Unit) = Lib.tabData .u8 Lib.asciiSpaceTab := by kernel_rfl
theorem K5 {W : World} (h : laidMetH Tryz.prog lay W) : ∀ i, i < 256 -> W.cell? ⟨2, i, none⟩ = some (.int .u8 (Lib.asciiSpaceTab.getD i 0)) := by
 have h1 := (z4 h).1.tail.tail.tail.tail.tail.tail
 rw [X2] at h1
 have ht := Lib.tabIs_of_head Tryz.gA Tryz.gAType Tryz.underlying70 Tryz.underlying5 Tryz.cells5 Tryz.cells70 h1
 exact fun i hi => ht.cell Tryz.gA i (by rw [Lib.asciiSpaceTab_length]; exact hi)
theorem jco {W : World} {b o : Nat} (h : laidMetH Tryz.prog lay W) (hr : W.cell? ⟨5, 0, none⟩ = some (.iface 190 (.pointer (some ⟨b, o, none⟩)))) : @GlobsAt (KM b o) W := by
 intro k vs hk i c hi
 match k, hk with
 | 0, hk =>
   obtain rfl : vs = _ := (rY hk).symm
   match i, hi with
   | 0, hi => simp at hi; subst hi; exact J4 h
 | 2, hk =>
   obtain rfl : vs = _ := (rY hk).symm
   rw [rJ] at hi
   rcases Nat.lt_or_ge i 256 with hlt | hge
   . rw [K5 h i hlt]
     rw [rG (by rw [Lib.asciiSpaceTab_length]; exact hlt)] at hi
     simp only [tU, Option.some.injEq] at hi
     rw [List.getD_eq_getElem?_getD, rG (by rw [Lib.asciiSpaceTab_length]; exact hlt), <- hi]
     rfl
   . rw [rV (by rw [Lib.asciiSpaceTab_length]; exact hge)] at hi
     cases hi
 | 5, hk =>
   obtain rfl : vs = _ := (rY hk).symm
   match i, hi with
   | 0, hi => simp at hi; subst hi; exact hr
/-- A world that meets the condition. -/
noncomputable def Kq (os : Os) : World :=
 let w0 := World.holding Tryz.prog os ⟨#[], #[], []⟩
 { w0 with heap := w0.heap.modify 0 fun
     | .cells _ t frozen => .cells #[.iface 125 (.agg #[.pointer (some ⟨10, 26, none⟩)])] t frozen
     | o => o }
noncomputable def zn (os : Os) : World := (Kq os).layVars Tryz.prog lay7
theorem Qs (os : Os) : (zn os).os = os := World.layVars_os _ _ _
theorem Vk : (lay7.filter fun x => (lay7.map (·.1)).contains x.1) = lay7 := List.filter_eq_self.2 fun x hx => List.contains_iff_mem.2 (List.mem_map.2 ⟨x, hx, rfl⟩)
theorem jav : (lay7.filter fun x => !(lay7.map (·.1)).contains x.1) = [] := List.filter_eq_nil_iff.2 fun x hx => by rw [List.contains_iff_mem.2 (List.mem_map.2 ⟨x, hx, rfl⟩)]; simp
set_option maxRecDepth 1000000
theorem YX (os : Os) : laidMet Tryz.prog lay7 (zn os) :=
 laidMet_layVars (w0 := Kq os) (lay7.map (·.1)) [] (by rw [Vk]; rfl) (by rw [Vk]; kernel_rfl) (by rw [Vk]; kernel_rfl) (by rw [jav]; exact LaidIn.none)
theorem KO (os : Os) (args : Array Value) : laidMetH Tryz.prog lay ((zn os).forCall (fun _ _ => 0) ⟨#[], args, []⟩).memory :=
 laidMetH_of_parts ((YX os).of_heap (by simp [World.memory, World.forCall, Input.heap])) (by kernel_rfl)
end Go.Proofs.YtjjmammoapggkaaGreatDoor
