/- 'ploverlaw08.CallsBound' returns true for every input, and its arguments read as they did; conditions: the row's own. -/
import Derived.Test.YtkjcgfadojfeeaaIdlLaw
import Derived.Test.YtkjcgfadojfeeaaRun
import Derived.Test.YtkjcgfadojfeeaaRows
import Derived.ProofKit
set_option linter.unusedSectionVars false
set_option linter.unusedVariables false
set_option linter.unusedSimpArgs false
namespace Go.Proofs.Ytkjcgfadojfeeaa
open Go Go.Idl Go.Idl.Cb Go.ChangeShapes Go.WideShapes Go.RowKit Go.ChangeAt

theorem Try.own : ownKnob Try.prog.godebug = none := by kernel_rfl
theorem Try.laidOut : laidOutB Try.prog = true := by kernel_rfl
theorem Try.mixed : Try.prog.follows .mixedOrders = true := by kernel_rfl

theorem wf_u8 {z : Int} (h : (Lit.int .u8 z).wf = true) : 0 ≤ z ∧ z ≤ 255 := by
  simp only [Lit.wf, Bool.and_eq_true, decide_eq_true_eq, IntKind.has, IntKind.min, IntKind.max] at h
  simp [IntKind.signed, IntKind.bits] at h
  omega

theorem calls_true {W : World} {zss : List (List Int)} {size prio : List Int} {args : Array Value} (hz : ∀ row ∈ zss, ∀ z ∈ row, 0 ≤ z ∧ z ≤ 255) (hs : ∀ z ∈ size, 0 ≤ z ∧ z ≤ 255) (hp : ∀ z ∈ prio, 0 ≤ z ∧ z ≤ 255) (hlen : 3 = args.toList.length)
    (hV : ∀ p ∈ [IVal.sl 0 false (zss.map (intsI .u8)), .sl 0 false (size.map (.int .u8)), .sl 0 false (prio.map (.int .u8))].zip args.toList, V (topG Try.prog W) p.1 p.2 ∧ own3 p.1 p.2 = []) :
    Calls Try.prog 3 args W fun e W' => e = .returned (.bool true) ∧ Below W.heap.size W W' := by
  obtain ⟨σ, wr, h⟩ := law_spec F3 works_true F5 F6 F7 F8 F11 F12 F13 F14 hz hs hp
  obtain ⟨n, hn⟩ := cfw_iff.1 h
  exact top_true (run_ok cand refs Try.mixed n) (fun k vs h => by cases h) hn hlen hV

set_option maxRecDepth 100000 in
theorem law_lifted (os : Os) (started : os.Started) (H : Type) (enc : TypeId × Value → H) :
    ReturnsInHanded {} Try.checked os 3 .any (Rows.callsBoundSpec.pre6 enc Try.prog Try.f3 Rows.callsBoundRow.domain false) (Rows.callsBoundSpec.post enc Try.prog Try.f3 false true false false) := by
  refine returnsInHanded_of_change (C := Try.checked) Try.own started (by kernel_rfl) Try.func3
    (ChangeSpec.witness6 (enc := enc) (C := Try.checked) false ⟨#[], #[.slice none 0 0, .slice none 0 0, .slice none 0 0], []⟩ 8 (by kernel_rfl) (by kernel_rfl) (by kernel_rfl) (by kernel_rfl)) ?_
  intro W base args ds gs before hval0 hW hcnd _
  have hW' := hW
  obtain ⟨p, q, hA0, hV, rfl, hfz, hnd⟩ := hW
  have hA : DataW.TrodAll enc Try.prog W 0 (fun _ => true) true Try.f3.params.toList args.toList ds p := hA0
  rw [Try.params3] at hA
  obtain ⟨v0, v1, v2, d0, d1, d2, p0, p1, p2, rfl, rfl, rfl, k0, k1, k2⟩ := trodAll_three hA
  have hval : ∀ (j : Nat) t v, Try.f3.params[j]? = some t → #[v0, v1, v2][j]? = some v → Value.okWide Try.prog W .any base t v := hval0
  rw [Try.params3] at hval
  obtain ⟨zss, hz, e0, o0⟩ := arg_intss Try.underlying22 Try.underlying23 Try.underlying5 (by kernel_rfl) (by kernel_rfl) (hval 0 22 v0 rfl rfl) k0
  obtain ⟨size, hs, e1, o1⟩ := arg_ints Try.underlying23 Try.underlying5 (by kernel_rfl) (hval 1 23 v1 rfl rfl) k1
  obtain ⟨prio, hp, e2, o2⟩ := arg_ints Try.underlying23 Try.underlying5 (by kernel_rfl) (hval 2 23 v2 rfl rfl) k2
  have hgs : gs = [] := by
    cases gs with
    | nil => rfl
    | cons g r => exact absurd hV (by intro h; cases h)
  subst hgs
  refine (calls_true (zss := zss) (size := size) (prio := prio) (fun row hr z hzr => wf_u8 (hz row hr z hzr)) (fun z h => wf_u8 (hs z h)) (fun z h => wf_u8 (hp z h)) rfl ?_).mono fun e W' ⟨he, hb⟩ => ?_
  · intro p hp
    simp at hp
    rcases hp with rfl | rfl | rfl
    · exact ⟨e0, o0⟩
    · exact ⟨e1, o1⟩
    · exact ⟨e2, o2⟩
  · subst he
    exact ⟨_, rfl, law_post Try.laidOut (by kernel_rfl) rfl hW' rfl (tb := 4) (by kernel_rfl) Try.underlying4 hb⟩

theorem callsBound_holds : Rows.CallsBoundSaid :=
  OpenClaim.holds_of_wide 3 Try.f3 rfl rfl rfl rfl rfl rfl rfl ⟨rfl, rfl, rfl, rfl, rfl⟩ rfl rfl rfl rfl rfl (by kernel_rfl) Try.func3 (by kernel_rfl)
    (of_decide_eq_true (by kernel_rfl)) (by unfold Func.isWrapper; rw [if_neg (of_decide_eq_false (by kernel_rfl))]; exact ⟨rfl, rfl⟩)
    (fun os started H enc _ => law_lifted os started H enc)
#print axioms callsBound_holds
end Go.Proofs.Ytkjcgfadojfeeaa
