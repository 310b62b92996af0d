/- What the row's laid variables give. -/
import Derived.Test.YtipgledppmelpaaGreatDoorEqs
import Derived.Test.YtipgledppmelpaaGreatDoorRows
import Derived.ChangeSame
import Derived.OpenShut
import Derived.MakeChecks
import Derived.ChangeVars
import Derived.JoinedOf
import Derived.RowKit
import Derived.RowKitTokens
import Derived.LaidLaws
import Derived.LaidHandle
import Derived.Lay
import Derived.Lib.LaidTab
import Derived.Stop.Joined
import Derived.Stop.LaidErr
import Derived.Shelf.LaysM
import Derived.Deep.DeepHandedRow
import Derived.Deep.DeepWitnessRowRef
namespace Go.Proofs.YtipgledppmelpaaGreatDoor
open Go Go.Idl Go.ChangeShapes Go.WideShapes Go.RowKit

theorem Tryz.own : ownKnob Tryz.prog.godebug = none := by kernel_rfl
theorem Tryz.et : Tryz.prog.globalNamed "errors.errorType" = some 0 := by kernel_rfl
theorem Tryz.gR : Tryz.prog.globalNamed "strconv.ErrRange" = some 5 := by kernel_rfl
theorem Tryz.gRType : (Tryz.prog.globals[5]?).map (·.type) = some 26 := by kernel_rfl
theorem Tryz.gA : Tryz.prog.globalNamed "strings.asciiSpace" = some 2 := by kernel_rfl
theorem Tryz.gAType : (Tryz.prog.globals[2]?).map (·.type) = some 64 := by kernel_rfl
theorem Tryz.cells184 : Tryz.prog.cellsOf 184 = 1 := by kernel_rfl
theorem Tryz.cells9 : Tryz.prog.cellsOf 9 = 1 := by kernel_rfl
theorem Tryz.cells5 : Tryz.prog.cellsOf 5 = 1 := by kernel_rfl
theorem Tryz.cells64 : Tryz.prog.cellsOf 64 = 256 := by kernel_rfl
theorem Tryz.star : "*" ++ "errors.errorString" = "*errors.errorString" := by decide
theorem Tryz.row182 (u : TypeId) (h : Tryz.prog.typeName? 3 u = some "*errors.errorString") : u = 182 :=
  typeName_ptr_named (nm := "errors.errorString") (by rw [Tryz.star]; kernel_rfl) (by kernel_rfl) (by decide) u (by rw [Tryz.star]; exact h)
theorem Tryz.rt : (Tryz.prog.cutTypes.find? (·.1 == "internal/reflectlite.rtype")).map (·.2) = some 126 := by kernel_rfl
theorem Tryz.oneRow : ((List.range 229).filter fun t => Tryz.prog.rowNamed t [101, 114, 114, 111, 114]) = [26] := by kernel_rfl
theorem Tryz.size : Tryz.prog.types.size = 229 := by kernel_rfl

def lay : List (String × DataW Unit) := Rows.lexKnownRow.laid
def lay7 : List (String × DataW Unit) := lay.filter fun x => x.2.handleName?.isNone
theorem laid_drop {P : Program} {W : World} : ∀ (n : Nat) {l : List (String × DataW Unit)}, laidMet P l W → laidMet P (l.drop n) W
  | 0, _, h => h
  | _ + 1, [], h => h
  | n + 1, _ :: _, h => laid_drop n h.tail
theorem at3 : lay7.drop 3 = ("strconv.ErrRange", Rows.laid_strconv_ErrRange) :: lay7.drop 4 := by kernel_rfl
theorem at6 : lay7.drop 6 = [("strings.asciiSpace", Rows.laid_strings_asciiSpace)] := by kernel_rfl
theorem split_laid {W : World} (h : laidMetH Tryz.prog lay W) : laidMet Tryz.prog lay7 W ∧ handlesMet Tryz.prog [("errors.errorType", Rows.laid_errors_errorType)] W := h

theorem handle_of_laid {W : World} (h : laidMetH Tryz.prog lay W) : W.cell? ⟨0, 0, none⟩ = some (.iface 126 (.agg #[.pointer (some ⟨10, 26, none⟩)])) := by
  obtain ⟨name, u, ty, e1, e2, e3, e4, e5⟩ := (split_laid h).2 _ (List.mem_singleton.2 rfl)
  have en : name = [101, 114, 114, 111, 114] := (Option.some.inj e1).symm
  subst en
  obtain rfl := Option.some.inj (Tryz.rt.symm.trans e2)
  have hm : ty ∈ (List.range 229).filter fun t => Tryz.prog.rowNamed t [101, 114, 114, 111, 114] := List.mem_filter.2 ⟨List.mem_range.2 (by rw [← Tryz.size]; exact e3), e4⟩
  rw [Tryz.oneRow] at hm
  obtain rfl := List.mem_singleton.1 hm
  have hh : typeHandle Tryz.prog 26 = .pointer (some ⟨10, 26, none⟩) := by kernel_rfl
  rw [hh] at e5
  simpa using World.var?_cell Tryz.et e5 0

theorem range_of_laid {W : World} (h : laidMetH Tryz.prog lay W) : ∃ b o, W.cell? ⟨5, 0, none⟩ = some (.iface 182 (.pointer (some ⟨b, o, none⟩))) := by
  obtain ⟨⟨b, o, sp⟩, s, hv, hc, -, -⟩ := laid_sentinel (by have h1 := laid_drop 3 (split_laid h).1; rw [at3] at h1; exact h1) Tryz.gR Tryz.gRType Tryz.underlying26 Tryz.row182 Tryz.underlying182 Tryz.underlying184 rfl rfl Tryz.underlying9 Tryz.cells184 Tryz.cells9
  have hs : sp = none := by
    cases sp with
    | none => rfl
    | some z =>
      unfold World.cell? at hc
      split at hc
      · cases hc
      · cases hc
  subst hs
  exact ⟨b, o, by simpa using World.var?_cell Tryz.gR hv 0⟩

theorem space_data : (Rows.laid_strings_asciiSpace : DataW Unit) = Lib.tabData .u8 Lib.asciiSpaceTab := by kernel_rfl
theorem space_of_laid {W : World} (h : laidMetH Tryz.prog lay W) : ∀ i, i < 256 → W.cell? ⟨2, i, none⟩ = some (.int .u8 (Lib.asciiSpaceTab.getD i 0)) := by
  have h1 := laid_drop 6 (split_laid h).1
  rw [at6, space_data] at h1
  have ht := Lib.tabIs_of_head Tryz.gA Tryz.gAType Tryz.underlying64 Tryz.underlying5 Tryz.cells5 Tryz.cells64 h1
  exact fun i hi => ht.cell Tryz.gA i (by rw [Lib.asciiSpaceTab_length]; exact hi)

theorem max_of_shape {W : World} (h : W.ShapedOpen Tryz.prog) : ∃ m, W.cell? ⟨1, 0, none⟩ = some (.int .i64 m) :=
  Go.Proofs.cell_of_shapedOpen_int (zero := #[.int .i64 0]) (t := 3) h (of_decide_eq_true (by kernel_rfl)) (by kernel_rfl) rfl (by kernel_rfl) (by kernel_rfl) Tryz.underlying3

theorem globsAt {W : World} {m : Int} {b o : Nat} (h : laidMetH Tryz.prog lay W) (hm : W.cell? ⟨1, 0, none⟩ = some (.int .i64 m)) (hr : W.cell? ⟨5, 0, none⟩ = some (.iface 182 (.pointer (some ⟨b, o, none⟩)))) : @GlobsAt (globs m b o) W := by
  intro k vs hk i c hi
  match k, hk with
  | 0, hk =>
    obtain rfl : vs = _ := (Option.some.inj hk).symm
    match i, hi with
    | 0, hi => simp at hi; subst hi; exact handle_of_laid h
  | 1, hk =>
    obtain rfl : vs = _ := (Option.some.inj hk).symm
    match i, hi with
    | 0, hi => simp at hi; subst hi; exact hm
  | 2, hk =>
    obtain rfl : vs = _ := (Option.some.inj hk).symm
    rw [List.getElem?_map] at hi
    rcases Nat.lt_or_ge i 256 with hlt | hge
    · rw [space_of_laid h i hlt]
      rw [List.getElem?_eq_getElem (by rw [Lib.asciiSpaceTab_length]; exact hlt)] at hi
      simp only [Option.map_some, Option.some.injEq] at hi
      rw [List.getD_eq_getElem?_getD, List.getElem?_eq_getElem (by rw [Lib.asciiSpaceTab_length]; exact hlt), ← hi]
      rfl
    · rw [List.getElem?_eq_none (by rw [Lib.asciiSpaceTab_length]; exact hge)] at hi
      cases hi
  | 5, hk =>
    obtain rfl : vs = _ := (Option.some.inj hk).symm
    match i, hi with
    | 0, hi => simp at hi; subst hi; exact hr

/-- A world that meets the condition. -/
noncomputable def laidWorld0 (os : Os) : World :=
  let w0 := World.holding Tryz.prog os ⟨#[], #[], []⟩
  { w0 with heap := w0.heap.modify 0 fun
      | .cells _ t frozen => .cells #[.iface 126 (.agg #[.pointer (some ⟨10, 26, none⟩)])] t frozen
      | o => o }
noncomputable def laidWorld (os : Os) : World := (laidWorld0 os).layVars Tryz.prog lay7
theorem laidWorld_os (os : Os) : (laidWorld os).os = os := World.layVars_os _ _ _
theorem lay7_in : (lay7.filter fun x => (lay7.map (·.1)).contains x.1) = lay7 := List.filter_eq_self.2 fun x hx => List.contains_iff_mem.2 (List.mem_map.2 ⟨x, hx, rfl⟩)
theorem lay7_out : (lay7.filter fun x => !(lay7.map (·.1)).contains x.1) = [] := List.filter_eq_nil_iff.2 fun x hx => by rw [List.contains_iff_mem.2 (List.mem_map.2 ⟨x, hx, rfl⟩)]; simp
set_option maxRecDepth 1000000
theorem laid7_met (os : Os) : laidMet Tryz.prog lay7 (laidWorld os) :=
  laidMet_layVars (w0 := laidWorld0 os) (lay7.map (·.1)) [] (by rw [lay7_in]; rfl) (by rw [lay7_in]; kernel_rfl) (by rw [lay7_in]; kernel_rfl) (by rw [lay7_out]; exact LaidIn.none)
theorem laidWorld_met (os : Os) (args : Array Value) : laidMetH Tryz.prog lay ((laidWorld os).forCall (fun _ _ => 0) ⟨#[], args, []⟩).memory :=
  laidMetH_of_parts ((laid7_met os).of_heap (by simp [World.memory, World.forCall, Input.heap])) (by kernel_rfl)
end Go.Proofs.YtipgledppmelpaaGreatDoor
