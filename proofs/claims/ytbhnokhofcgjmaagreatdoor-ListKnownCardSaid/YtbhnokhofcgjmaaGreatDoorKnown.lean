/- 'ploverlaw09.ListKnown' returns true; conditions: the row's own (the package variables are laid as the program's text lays them). -/
import Derived.Test.YtbhnokhofcgjmaaGreatDoorLaid
import Derived.Test.YtbhnokhofcgjmaaGreatDoorRun
import Derived.Test.YtbhnokhofcgjmaaGreatDoorShelf
import Derived.Test.YtbhnokhofcgjmaaGreatDoorTie
import Derived.Test.YtbhnokhofcgjmaaGreatDoorCards
namespace Go.Proofs.YtbhnokhofcgjmaaGreatDoor
open Go Go.Idl Go.ChangeShapes Go.WideShapes Go.RowKit

theorem Tryz.mixed : Tryz.prog.follows .mixedOrders = true := by kernel_rfl
theorem callable_of {P : Program} {f : FuncId} {fn : Func} (h : P.funcs[f]? = some fn) (hn : decide (fn.name = "runtime.NumGoroutine") = false) (hb : fn.body.isSome = true) : Callable P f :=
  ⟨fn, h, of_decide_eq_false hn, fun e => by rw [e] at hb; cases hb⟩

theorem libs_ok {m : Int} : ∀ f p, libs f = some p → @LibOK (globs m) Tryz.prog f p := by
  letI : Globs := globs m
  intro f p h
  unfold libs at h
  split at h
  · obtain rfl := (Option.some.inj h).symm
    exact repeat_ok (callable_of Tryz.func5 (by kernel_rfl) (by kernel_rfl)) Tryz.strings_Repeat
  · obtain rfl := (Option.some.inj h).symm
    exact replace_ok (k := 1) (m := m) rfl (callable_of Tryz.func7 (by kernel_rfl) (by kernel_rfl)) Tryz.strings_Replace
  · obtain rfl := (Option.some.inj h).symm
    exact line_ok (F := trProg Tryz.prog cand refs) Tryz.mixed (trProg_ok Tryz.prog cand refs) (by kernel_rfl)
  · obtain rfl := (Option.some.inj h).symm
    exact letter_ok (F := trProg Tryz.prog cand refs) Tryz.mixed (trProg_ok Tryz.prog cand refs) (by kernel_rfl)
  · obtain rfl := (Option.some.inj h).symm
    exact digit_ok (F := trProg Tryz.prog cand refs) Tryz.mixed (trProg_ok Tryz.prog cand refs) (by kernel_rfl)
  · cases h

theorem calls_true {W : World} (hL : laidMetH Tryz.prog lay W) (hsh : W.ShapedOpen Tryz.prog) : Calls Tryz.prog 3 #[] W fun e W' => e = .returned (.bool true) ∧ Below W.heap.size W W' := by
  obtain ⟨m, hm⟩ := max_of_shape hsh
  letI : Globs := globs m
  obtain ⟨n, out, h1, h2, h3⟩ := run_out m
  refine (top_calls (run_okL cand refs libs_ok Tryz.mixed n) (globsAt hL hm) h1 rfl (by simp)).mono ?_
  rintro e w' ⟨v', g', rfl, hv, hb⟩
  rw [h3] at hv
  have : v' = .bool true := by cases hv; rfl
  subst this
  rw [h2]
  exact ⟨rfl, hb⟩

set_option maxRecDepth 100000 in
theorem law_lifted (os : Os) (started : os.Started) (H : Type) (enc : TypeId × Value → H) (F0 : Stop.Interp) :
    ReturnsInHanded {} Tryz.checked os 3 .any ((OpenSpec.ofChange Rows.listKnownSpec).preRow enc Tryz.prog Tryz.f3 Rows.listKnownRow.domain false lay) (((OpenSpec.ofChange Rows.listKnownSpec).at F0).post enc Tryz.prog Tryz.f3 false true false false) := by
  refine returnsInHanded_of_row (C := Tryz.checked) (s := OpenSpec.ofChange Rows.listKnownSpec) Tryz.own started (by kernel_rfl) Tryz.func3
    (witness_row_atRef (enc := enc) (C := Tryz.checked) false (laidWorld os) #[] (laidWorld_os os) (by kernel_rfl) (by kernel_rfl) (by kernel_rfl) (OpenSpec.preRow_of_B rfl 8 (by kernel_rfl) (by kernel_rfl) (laidWorld_met os _))) ?_
  intro W base args ds gs before hval0 hW _ _ _ hL hsh _
  have hW' := hW
  obtain ⟨p, q, hA0, hV0, rfl, hfz, hnd⟩ := hW
  have hA : DataW.TrodAll enc Tryz.prog W 0 (fun _ => true) true Tryz.f3.params.toList args.toList ds p := hA0
  have hV : DataW.TrodVars enc Tryz.prog W (fun _ => true) [] gs q := hV0
  rw [Tryz.params3] at hA
  obtain ⟨rfl, rfl, rfl⟩ := trodAll_none hA
  obtain ⟨rfl, rfl⟩ : gs = [] ∧ q = [] := by
    cases gs with
    | nil => exact ⟨rfl, hV⟩
    | cons g r => exact absurd hV (by intro h; cases h)
  have e1 : ((OpenSpec.ofChange Rows.listKnownSpec).at F0).fn H ([] ++ []) = { results := [.lit (.bool true)], args := [] } := rfl
  refine (calls_true hL hsh).mono fun e W' ⟨he, hb⟩ => ?_
  subst he
  refine ⟨_, rfl, _, _, _, [], [], [], hW', ?_, ?_, ?_, hb.frame _, fun h => by cases h⟩
  · rw [e1]; exact trodAll_mk1 (shut_bool Tryz.underlying4 true)
  · rw [e1]; rfl
  · rw [e1]; rfl

theorem known_holds : Rows.ListKnownSaid :=
  OpenClaim.holds_of_cond 3 Tryz.f3 rfl rfl rfl rfl rfl rfl rfl ⟨rfl, rfl, rfl, rfl, rfl⟩ rfl rfl rfl rfl rfl (by kernel_rfl) Tryz.func3 (by kernel_rfl)
    (of_decide_eq_true (by kernel_rfl)) (by unfold Func.isWrapper; rw [if_neg (of_decide_eq_false (by kernel_rfl))]; exact ⟨rfl, rfl⟩)
    (fun os started H enc _ F0 => by rw [OpenClaim.pre_eq_preRow]; exact law_lifted os started H enc F0)

theorem listKnown_card : Rows.ListKnownCardSaid :=
  Claim7.holds_tied_plain_at .later [] [.data, .handle, .pinned] true (true, "42e93a0e54c6378ef477a9451c299f635f00959b77f53aaddc73b43dfdf5fd1d") true
    known_holds (fun _ h => by cases h) (by kernel_rfl) (fun _ h => by cases h) listKnown_row_tie rfl ⟨rfl, rfl⟩ (by kernel_rfl) rfl
    (fun f fn hf hfn => by
      obtain rfl : f = 3 := Option.some.inj ((show Tryz.prog.funcNamed "plover/ploverlaw09.ListKnown" = some 3 by kernel_rfl).symm.trans hf) |>.symm
      obtain rfl : fn = Tryz.f3 := (Option.some.inj (Tryz.func3.symm.trans hfn)).symm
      exact ⟨by kernel_rfl, fun j t ht => by rw [Tryz.params3] at ht; simp at ht⟩)
    (by kernel_rfl)
#print axioms listKnown_card
end Go.Proofs.YtbhnokhofcgjmaaGreatDoor
