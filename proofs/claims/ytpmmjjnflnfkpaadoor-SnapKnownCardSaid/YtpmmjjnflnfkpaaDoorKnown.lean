/- 'ploverlaw28.SnapKnown' returns true; conditions: the row's own (errors.errorType is laid as the program's text lays it). -/
import Derived.Test.YtpmmjjnflnfkpaaDoorLaid
import Derived.Test.YtpmmjjnflnfkpaaDoorRun
import Derived.Test.YtpmmjjnflnfkpaaDoorTie
import Derived.Test.YtpmmjjnflnfkpaaDoorCards
namespace Go.Proofs.YtpmmjjnflnfkpaaDoor
open Go Go.Idl Go.ChangeShapes Go.WideShapes Go.RowKit

theorem Tryd.mixed : Tryd.prog.follows .mixedOrders = true := by kernel_rfl

theorem calls_true {W : World} (hG : GlobsAt W) : Calls Tryd.prog 3 #[] W fun e W' => e = .returned (.bool true) ∧ Below W.heap.size W W' := by
  obtain ⟨n, out, h1, h2, h3⟩ := run_out
  refine (top_calls (run_ok cand refs Tryd.mixed n) hG h1 rfl (by simp)).mono ?_
  rintro e w' ⟨v', g', rfl, hv, hb⟩
  rw [h3] at hv
  have : v' = .bool true := (hv.bool_iff true).2 rfl
  subst this
  rw [h2]
  exact ⟨rfl, hb⟩

set_option maxRecDepth 100000 in
theorem law_lifted (os : Os) (started : os.Started) (H : Type) (enc : TypeId × Value → H) :
    ReturnsInHanded {} Tryd.checked os 3 .any (fun w args => (Rows.snapKnownSpec.pre enc Tryd.prog Tryd.f3 [] false w args ∧ laidMetH Tryd.prog lay w) ∧ sizedMet enc Tryd.prog Tryd.f3 (OpenSpec.ofChange Rows.snapKnownSpec) false w args)
      (Rows.snapKnownSpec.post enc Tryd.prog Tryd.f3 false true false false) := by
  refine returnsInHanded_of_change_and (C := Tryd.checked) (X := fun w _ => laidMetH Tryd.prog lay w) (fun _ _ _ hh h => h.of_heap hh) Tryd.own started (by kernel_rfl) Tryd.func3
    (ChangeSpec.witness_at (enc := enc) (C := Tryd.checked) (os := os) (X := fun w _ => laidMetH Tryd.prog lay w) false (laidWorld os) #[] 8 rfl (by kernel_rfl) (by kernel_rfl) (by kernel_rfl) (by kernel_rfl) (by kernel_rfl) (laidWorld_met os _)) ?_
  intro W base args ds gs before hval0 hW _ _ hL _
  have hW' := hW
  obtain ⟨p, q, hA0, hV0, rfl, hfz, hnd⟩ := hW
  have hA : DataW.TrodAll enc Tryd.prog W 0 (fun _ => true) true Tryd.f3.params.toList args.toList ds p := hA0
  have hV : DataW.TrodVars enc Tryd.prog W (fun _ => true) [] gs q := hV0
  rw [Tryd.params3] at hA
  obtain ⟨rfl, rfl, rfl⟩ := trodAll_none hA
  obtain ⟨rfl, rfl⟩ : gs = [] ∧ q = [] := by
    cases gs with
    | nil => exact ⟨rfl, hV⟩
    | cons g r => exact absurd hV (by intro h; cases h)
  have e1 : Rows.snapKnownSpec.fn H ([] ++ []) = { results := [.lit (.bool true)], args := [] } := by simp [Rows.snapKnownSpec]
  refine (calls_true (globsAt hL)).mono fun e W' ⟨he, hb⟩ => ?_
  subst he
  refine ⟨_, rfl, _, _, _, [], [], [], hW', ?_, ?_, ?_, hb.frame _, fun h => by cases h⟩
  · rw [e1]; exact trodAll_mk1 (shut_bool Tryd.underlying4 true)
  · rw [e1]; rfl
  · rw [e1]; rfl

theorem known_holds : Rows.SnapKnownSaid :=
  OpenClaim.holds_of_wide 3 Tryd.f3 rfl rfl rfl rfl rfl rfl rfl ⟨rfl, rfl, rfl, rfl, rfl⟩ rfl rfl rfl rfl rfl (by kernel_rfl) Tryd.func3 (by kernel_rfl)
    (of_decide_eq_true (by kernel_rfl)) (by unfold Func.isWrapper; rw [if_neg (of_decide_eq_false (by kernel_rfl))]; exact ⟨rfl, rfl⟩)
    (fun os started H enc _ => law_lifted os started H enc)

theorem snapKnown_card : Rows.SnapKnownCardSaid :=
  Claim7.holds_tied_plain_at .later [] [.handle] true (true, "8bf7570abe46bbae0054613a5c4d1dd95b816f0652078aac92c47a82dc37bf56") true
    known_holds (fun _ h => by cases h) (by kernel_rfl) (fun _ h => by cases h) snapKnown_row_tie rfl ⟨rfl, rfl⟩ (by kernel_rfl) rfl
    (fun f fn hf hfn => by
      obtain rfl : f = 3 := Option.some.inj ((show Tryd.prog.funcNamed "plover/ploverlaw28.SnapKnown" = some 3 by kernel_rfl).symm.trans hf) |>.symm
      obtain rfl : fn = Tryd.f3 := (Option.some.inj (Tryd.func3.symm.trans hfn)).symm
      exact ⟨by kernel_rfl, fun j t ht => by rw [Tryd.params3] at ht; simp at ht⟩)
    (by kernel_rfl)
#print axioms snapKnown_card
end Go.Proofs.YtpmmjjnflnfkpaaDoor
