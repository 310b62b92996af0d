/- What the row's laid variables give. -/
import Derived.Test.YtncopkfkknageaaGreatDoorEqs
import Derived.Test.YtncopkfkknageaaGreatDoorRows
import Derived.ChangeSame
import Derived.OpenShut
import Derived.MakeChecks
import Derived.ChangeVars
import Derived.JoinedOf
import Derived.RowKit
import Derived.RowKitTokens
import Derived.LaidLaws
import Derived.LaidHandle
import Derived.Lay
import Derived.Lib.LaidTab
import Derived.Stop.Joined
import Derived.Stop.LaidErr
import Derived.Shelf.LaysM
import Derived.Deep.DeepHandedRow
import Derived.Deep.DeepWitnessRowRef
namespace Go.Proofs.YtncopkfkknageaaGreatDoor
open Go Go.Idl Go.ChangeShapes Go.WideShapes Go.RowKit

theorem Tryz.own : ownKnob Tryz.prog.godebug = none := by kernel_rfl
theorem Tryz.et : Tryz.prog.globalNamed "errors.errorType" = some 0 := by kernel_rfl
theorem Tryz.gR : Tryz.prog.globalNamed "strconv.ErrRange" = some 5 := by kernel_rfl
theorem Tryz.gRType : (Tryz.prog.globals[5]?).map (·.type) = some 25 := by kernel_rfl
theorem Tryz.gA : Tryz.prog.globalNamed "strings.asciiSpace" = some 1 := by kernel_rfl
theorem Tryz.gAType : (Tryz.prog.globals[1]?).map (·.type) = some 95 := by kernel_rfl
theorem Tryz.cES : Tryz.prog.cellsOf 294 = 1 := by kernel_rfl
theorem Tryz.cStr : Tryz.prog.cellsOf 9 = 1 := by kernel_rfl
theorem Tryz.cU8 : Tryz.prog.cellsOf 5 = 1 := by kernel_rfl
theorem Tryz.cArr : Tryz.prog.cellsOf 95 = 256 := by kernel_rfl
theorem Tryz.star : "*" ++ "errors.errorString" = "*errors.errorString" := by decide
theorem Tryz.rowPES (u : TypeId) (h : Tryz.prog.typeName? 3 u = some "*errors.errorString") : u = 292 :=
  typeName_ptr_named (nm := "errors.errorString") (by rw [Tryz.star]; kernel_rfl) (by kernel_rfl) (by decide) u (by rw [Tryz.star]; exact h)
theorem Tryz.rt : (Tryz.prog.cutTypes.find? (·.1 == "internal/reflectlite.rtype")).map (·.2) = some 153 := by kernel_rfl
theorem Tryz.oneRow : ((List.range 337).filter fun t => Tryz.prog.rowNamed t [101, 114, 114, 111, 114]) = [25] := by kernel_rfl
theorem Tryz.size : Tryz.prog.types.size = 337 := by kernel_rfl

def lay : List (String × DataW Unit) := [("math/bits.deBruijn32tab", Rows.laid_math_bits_deBruijn32tab), ("math/bits.deBruijn64tab", Rows.laid_math_bits_deBruijn64tab), ("internal/strconv.uint64pow10", Rows.laid_internal_strconv_uint64pow10), ("errors.errorType", Rows.laid_errors_errorType), ("strconv.ErrRange", Rows.laid_strconv_ErrRange), ("strconv.ErrSyntax", Rows.laid_strconv_ErrSyntax), ("unicode.White_Space", Rows.laid_unicode_White_Space), ("strings.asciiSpace", Rows.laid_strings_asciiSpace)]
def lay7 : List (String × DataW Unit) := [("math/bits.deBruijn32tab", Rows.laid_math_bits_deBruijn32tab), ("math/bits.deBruijn64tab", Rows.laid_math_bits_deBruijn64tab), ("internal/strconv.uint64pow10", Rows.laid_internal_strconv_uint64pow10), ("strconv.ErrRange", Rows.laid_strconv_ErrRange), ("strconv.ErrSyntax", Rows.laid_strconv_ErrSyntax), ("unicode.White_Space", Rows.laid_unicode_White_Space), ("strings.asciiSpace", Rows.laid_strings_asciiSpace)]
theorem split_laid {W : World} (h : laidMetH Tryz.prog lay W) : laidMet Tryz.prog lay7 W ∧ handlesMet Tryz.prog [("errors.errorType", Rows.laid_errors_errorType)] W := h

theorem handle_of_laid {W : World} (h : laidMetH Tryz.prog lay W) : W.cell? ⟨0, 0, none⟩ = some (.iface 153 (.agg #[.pointer (some ⟨10, 25, none⟩)])) := by
  obtain ⟨name, u, ty, e1, e2, e3, e4, e5⟩ := (split_laid h).2 _ (List.mem_singleton.2 rfl)
  have en : name = [101, 114, 114, 111, 114] := (Option.some.inj e1).symm
  subst en
  obtain rfl := Option.some.inj (Tryz.rt.symm.trans e2)
  have hm : ty ∈ (List.range 337).filter fun t => Tryz.prog.rowNamed t [101, 114, 114, 111, 114] := List.mem_filter.2 ⟨List.mem_range.2 (by rw [← Tryz.size]; exact e3), e4⟩
  rw [Tryz.oneRow] at hm
  obtain rfl := List.mem_singleton.1 hm
  have hh : typeHandle Tryz.prog 25 = .pointer (some ⟨10, 25, none⟩) := by kernel_rfl
  rw [hh] at e5
  simpa using World.var?_cell Tryz.et e5 0

theorem space_data : (Rows.laid_strings_asciiSpace : DataW Unit) = Lib.tabData .u8 Lib.asciiSpaceTab := by kernel_rfl
theorem space_of_laid {W : World} (h : laidMetH Tryz.prog lay W) : ∀ i, i < 256 → W.cell? ⟨1, i, none⟩ = some (.int .u8 (Lib.asciiSpaceTab.getD i 0)) := by
  have h1 := (split_laid h).1.tail.tail.tail.tail.tail.tail
  rw [space_data] at h1
  have ht := Lib.tabIs_of_head Tryz.gA Tryz.gAType Tryz.underlying95 Tryz.underlying5 Tryz.cU8 Tryz.cArr h1
  exact fun i hi => ht.cell Tryz.gA i (by rw [Lib.asciiSpaceTab_length]; exact hi)

theorem max_of_shape {W : World} (h : W.ShapedOpen Tryz.prog) : ∃ m, W.cell? ⟨3, 0, none⟩ = some (.int .i64 m) :=
  Go.Proofs.cell_of_shapedOpen_int (zero := #[.int .i64 0]) (t := 3) h (of_decide_eq_true (by kernel_rfl)) (by kernel_rfl) rfl (by kernel_rfl) (by kernel_rfl) Tryz.underlying3

theorem globsAt {W : World} {m : Int} (h : laidMetH Tryz.prog lay W) (hm : W.cell? ⟨3, 0, none⟩ = some (.int .i64 m)) : @GlobsAt (globs m) W := by
  intro k vs hk i c hi
  match k, hk with
  | 0, hk =>
    obtain rfl : vs = _ := (Option.some.inj hk).symm
    match i, hi with
    | 0, hi => simp at hi; subst hi; exact handle_of_laid h
  | 1, hk =>
    obtain rfl : vs = _ := (Option.some.inj hk).symm
    rw [List.getElem?_map] at hi
    rcases Nat.lt_or_ge i 256 with hlt | hge
    · rw [space_of_laid h i hlt]
      rw [List.getElem?_eq_getElem (by rw [Lib.asciiSpaceTab_length]; exact hlt)] at hi
      simp only [Option.map_some, Option.some.injEq] at hi
      rw [List.getD_eq_getElem?_getD, List.getElem?_eq_getElem (by rw [Lib.asciiSpaceTab_length]; exact hlt), ← hi]
      rfl
    · rw [List.getElem?_eq_none (by rw [Lib.asciiSpaceTab_length]; exact hge)] at hi
      cases hi
  | 3, hk =>
    obtain rfl : vs = _ := (Option.some.inj hk).symm
    match i, hi with
    | 0, hi => simp at hi; subst hi; exact hm

/-- A world that meets the condition. -/
noncomputable def laidWorld0 (os : Os) : World :=
  let w0 := World.holding Tryz.prog os ⟨#[], #[], []⟩
  { w0 with heap := w0.heap.modify 0 fun
      | .cells _ t frozen => .cells #[.iface 153 (.agg #[.pointer (some ⟨10, 25, none⟩)])] t frozen
      | o => o }
noncomputable def laidWorld (os : Os) : World := (laidWorld0 os).layVars Tryz.prog lay7
theorem laidWorld_os (os : Os) : (laidWorld os).os = os := World.layVars_os _ _ _
theorem lay7_in : (lay7.filter fun x => (lay7.map (·.1)).contains x.1) = lay7 := List.filter_eq_self.2 fun x hx => List.contains_iff_mem.2 (List.mem_map.2 ⟨x, hx, rfl⟩)
theorem lay7_out : (lay7.filter fun x => !(lay7.map (·.1)).contains x.1) = [] := List.filter_eq_nil_iff.2 fun x hx => by rw [List.contains_iff_mem.2 (List.mem_map.2 ⟨x, hx, rfl⟩)]; simp
set_option maxRecDepth 1000000
theorem laid7_met (os : Os) : laidMet Tryz.prog lay7 (laidWorld os) :=
  laidMet_layVars (w0 := laidWorld0 os) (lay7.map (·.1)) [] (by rw [lay7_in]; rfl) (by rw [lay7_in]; kernel_rfl) (by rw [lay7_in]; kernel_rfl) (by rw [lay7_out]; exact LaidIn.none)
theorem laidWorld_met (os : Os) (args : Array Value) : laidMetH Tryz.prog lay ((laidWorld os).forCall (fun _ _ => 0) ⟨#[], args, []⟩).memory :=
  laidMetH_of_parts ((laid7_met os).of_heap (by simp [World.memory, World.forCall, Input.heap])) (by kernel_rfl)
end Go.Proofs.YtncopkfkknageaaGreatDoor
