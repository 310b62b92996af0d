/- 'ploverlaw28.SnapBack' returns true for every input, and its arguments read as they did; conditions: the row's own (errors.errorType is laid as the program's text lays it). -/
import Derived.Test.YtbfjnoljjbaelaaDoorLaid
import Derived.Test.YtbfjnoljjbaelaaDoorRun
import Derived.Test.YtbfjnoljjbaelaaDoorEqt
import Derived.Test.YtbfjnoljjbaelaaDoorTie
import Derived.Test.YtbfjnoljjbaelaaDoorCards
import Derived.ProofKit
set_option linter.unusedSectionVars false
set_option linter.unusedVariables false
set_option linter.unusedSimpArgs false
namespace Go.Proofs.YtbfjnoljjbaelaaDoor
open Go Go.Idl Go.Idl.Sb Go.ChangeShapes Go.WideShapes Go.RowKit Go.ChangeAt
theorem Tryd.mixed : Tryd.prog.follows .mixedOrders = true := by kernel_rfl
theorem Tryd.laidOut : laidOutB Tryd.prog = true := by kernel_rfl
theorem Xj {P : Program} {f : FuncId} {fn : Func} (h : P.funcs[f]? = some fn) (hn : decide (fn.name = "runtime.NumGoroutine") = false) (hb : fn.body.isSome = true) : yd P f :=
 ⟨fn, h, of_decide_eq_false hn, fun e => by rw [e] at hb; cases hb⟩
def jbC : Value := .agg #[.int .i64 0, .int .i64 0, .int .i64 0, .int .i64 0, .int .i32 0, .int .i32 0, .int .i32 0, .int .i32 0, .int .i32 0, .int .i32 0, .int .i32 0, .int .i32 0, .int .i32 0, .slice none 0 0, .slice none 0 0, .int .i64 0, .slice none 0 0, .int .u8 0, .int .u8 0, .int .u8 0, .int .i64 0, .int .u8 0, .int .u8 0, .int .u8 0, .int .u8 0, .int .u8 0, .int .u8 0, .int .u8 0, .int .u8 0, .int .i64 0, .int .u8 0, .int .u8 0, .int .u8 0, .int .u8 0, .int .u8 0, .int .u8 0, .int .u8 0, .int .u8 0, .bool false, .int .u8 0, .int .u8 0, .int .u16 0, .int .u16 0, .int .u16 0, .int .u16 0, .int .u16 0, .int .u16 0, .int .u8 0, .int .u8 0, .int .u8 0, .int .u64 0, .int .u64 0, .int .i64 0, .int .i64 0, .int .i64 0]
theorem jg7 : FOK Tryd.prog F1 := fun f fn h => V7 Tryd.prog cand refs f fn (jg6 h)
theorem jc6 : YT Tryd.prog 4 (fun _ _ args => Zl args) := by
 obtain ⟨σ, wr, h⟩ := jcJ
 exact Vz (Xj Tryd.func4 (by kernel_rfl) (by kernel_rfl)) (Yd Tryd.mixed jg7 300) h
def ZI : FuncId -> Option jdb := fun f => bif Nat.beq f 4 then some (fun _ _ args => Zl args) else none
theorem jew : ∀ f p, ZI f = some p -> YT Tryd.prog f p := by
 intro f p h
 unfold ZI at h
 cases hb : Nat.beq f 4 with
 | true =>
   rw [hb] at h
   obtain rfl := (Option.some.inj h).symm
   rw [Nat.eq_of_beq_eq_true hb]
   exact jc6
 | false => rw [hb] at h; cases h
noncomputable def F2 : jJ := KH Tryd.prog cand refs ZI
theorem kG {f : FuncId} {x : IFunc} (hf : Nat.beq f 4 = false) (h : F0 f = some x) : F2 f = some x := by
 unfold F2 KH ZI
 rw [hf]; exact h
theorem jh0 : F2 4 = some { nt := 0, nv := 0, m := 1, dep := 1, body := .lib fun _ _ args => Zl args, res := [] } := rfl
theorem fs : Fs F2 := ⟨kG rfl F5, kG rfl F6, kG rfl F7, kG rfl F8, kG rfl F16, kG rfl F17, kG rfl F18, kG rfl F19, kG rfl F20, kG rfl F21, kG rfl F22, kG rfl F23, kG rfl F31, kG rfl F32, kG rfl F33, kG rfl F34, kG rfl F35, kG rfl F36, kG rfl F37, kG rfl F38, kG rfl F39, kG rfl F40, kG rfl F41, kG rfl F42, kG rfl F73, kG rfl F74, kG rfl F75, kG rfl F76, kG rfl F77, kG rfl F78, kG rfl F79, kG rfl F80, kG rfl F81, kG rfl F82, kG rfl F83, kG rfl F84, kG rfl F85, kG rfl F86, kG rfl F87, kG rfl F88, kG rfl F89, kG rfl F90, kG rfl F91, kG rfl F92, kG rfl F93⟩
theorem jbP {H : Type} {enc : TypeId × Value -> H} {W : World} {base n : Nat} {held : Bool} {cs : List Value} {y : DataW H × List MemPlace} (h : DataW.trod enc Tryd.prog W base (fun _ => true) held n 68 cs = some y) : cs.length = 3 :=
 (ZC Tryd.underlying68 h).trans (by kernel_rfl)
set_option maxRecDepth 100000 in
theorem jcW {H : Type} {enc : TypeId × Value -> H} {W : World} {base n : Nat} {held : Bool} {cs : List Value} {x : DataW H × List MemPlace} (hcs : cs.length = 55) (h : DataW.trod enc Tryd.prog W base (fun _ => true) held n 42 cs = some x) :
   ∃ xs : List IVal, xs.length = 55 /\ V (Qn Tryd.prog W) (.agg xs) (.agg cs.toArray) /\ vA (.agg xs) /\ xs.all IVal.isCell = true /\ xs.all nr1 = true /\ Ty lAll xs /\
     (∃ v, xs[13]? = some v /\ YS J w3i v) /\ (∃ v, xs[14]? = some v /\ YS J w3i v) /\ (∃ v, xs[16]? = some v /\ YS Ra r64 v) :=
 X8 (P := Tryd.prog) (ts := 42) (tw := 23) (te := 21) (tr := 24) (ti := 68) (by kernel_rfl) Tryd.underlying23 Tryd.underlying21 (by kernel_rfl) Tryd.underlying24 (by kernel_rfl) (by kernel_rfl) (fun n cs y h => jbP h) (by decide) hcs h
theorem Y1 {W : World} (hG : Ji W) {cs : List IVal} {c : Nat} {raw : List UInt8} {args : Array Value} (hn : cs.length = 55) (hc : cs.all IVal.isCell = true) (hnr : cs.all nr1 = true) (hT : Ty lAll cs)
   (h1 : ∃ v, cs[13]? = some v /\ YS J w3i v) (h2 : ∃ v, cs[14]? = some v /\ YS J w3i v) (h3 : ∃ v, cs[16]? = some v /\ YS Ra r64 v) (hcut : c < 65536) (hlen : 3 = args.toList.length)
   (hV : ∀ p ∈ [IVal.agg cs, .int .u16 c, .str raw].zip args.toList, V (Qn Tryd.prog W) p.1 p.2 /\ jX p.1 p.2 = []) :
   Calls Tryd.prog 3 args W fun e W' => e = .returned (.bool true) /\ Below W.heap.size W W' := by
 obtain ⟨_, g1, r1, z1, rfl, q1, w1⟩ := h1
 obtain ⟨_, g2, r2, z2, rfl, q2, w2⟩ := h2
 obtain ⟨_, g3, r3, z3, rfl, q3, _⟩ := h3
 obtain ⟨σ, wr, h⟩ := jci (F := F2) fs (kG rfl F3) (jbQ jh0) hn hc hnr hT g1 g2 g3 q1 q2 q3 w1 w2 hcut (raw := raw) []
 obtain ⟨n, hn⟩ := cfw_iff.1 h
 exact YK (je4 cand refs jew Tryd.mixed n) hG hn hlen hV
set_option maxRecDepth 100000 in
theorem Zg (os : Os) (started : os.Started) (H : Type) (enc : TypeId × Value -> H) :
   ReturnsInHanded {} Tryd.checked os 3 .any (fun w args => (Rows.snapBackSpec.pre enc Tryd.prog Tryd.f3 [] false w args /\ laidMetH Tryd.prog lay w) /\ sizedMet enc Tryd.prog Tryd.f3 (OpenSpec.ofChange Rows.snapBackSpec) false w args)
     (Rows.snapBackSpec.post enc Tryd.prog Tryd.f3 false true false false) := by
 refine returnsInHanded_of_change_and (C := Tryd.checked) (X := fun w _ => laidMetH Tryd.prog lay w) (fun _ _ _ hh h => h.of_heap hh) Tryd.own started (by kernel_rfl) Tryd.func3
   (ChangeSpec.witness_at (enc := enc) (C := Tryd.checked) (os := os) (X := fun w _ => laidMetH Tryd.prog lay w) false (Vx os) #[jbC, .int .u16 0, .string ⟨#[]⟩] 8 rfl (by kernel_rfl) (by kernel_rfl) (by kernel_rfl) (by kernel_rfl) (by kernel_rfl) (QD os _)) ?_
 intro W base args ds gs before hval0 hW _ _ hL _
 have hW' := hW
 obtain ⟨p, q, hA0, hV, rfl, hfz, hnd⟩ := hW
 have hA : DataW.TrodAll enc Tryd.prog W 0 (fun _ => true) true Tryd.f3.params.toList args.toList ds p := hA0
 rw [Tryd.params3] at hA
 obtain ⟨v0, v1, v2, d0, d1, d2, p0, p1, p2, rfl, rfl, rfl, k0, k1, k2⟩ := trodAll_three hA
 have hval : ∀ (j : Nat) t v, Tryd.f3.params[j]? = some t -> #[v0, v1, v2][j]? = some v -> Value.okWide Tryd.prog W .any base t v := hval0
 rw [Tryd.params3] at hval
 obtain ⟨fuel0, k0⟩ := k0
 obtain ⟨fuel1, k1⟩ := k1
 obtain ⟨fuel2, k2⟩ := k2
 have c42 : Tryd.prog.cellsOf 42 = 55 := by kernel_rfl
 obtain ⟨cv, hv0, hcv⟩ := Go.WideShapes.okWide_struct Tryd.underlying42 (hval 0 42 v0 rfl rfl)
 subst hv0
 rw [c42] at hcv
 have e0 : (Value.agg cv).cells.toList = cv.toList := rfl
 rw [e0] at k0
 obtain ⟨xs, x1, x2, x3, x4, x5, x6, x7, x8, x9⟩ := jcW (by simpa using hcv) k0
 have ea : cv.toList.toArray = cv := by simp
 rw [ea] at x2
 have hc1 : v1.cells.toList = [v1] := by
   obtain ⟨n, rfl⟩ := okWide_int Tryd.underlying32 (hval 1 32 v1 rfl rfl)
   rfl
 rw [hc1] at k1
 obtain ⟨z, hz, hzw⟩ := V9 Tryd.underlying32 k1
 obtain rfl : v1 = .int .u16 z := by simpa using hz
 have hz2 := Q7 hzw
 simp [IntKind.min, IntKind.max, IntKind.signed, IntKind.bits] at hz2
 obtain ⟨c, rfl⟩ : ∃ c : Nat, z = (c : Int) := ⟨z.toNat, by omega⟩
 have hc2 : v2.cells.toList = [v2] := by
   obtain ⟨s, rfl⟩ := okWide_string Tryd.underlying9 (hval 2 9 v2 rfl rfl)
   rfl
 rw [hc2] at k2
 obtain ⟨s, hs, _⟩ := DataW.trod_string Tryd.underlying9 k2
 obtain rfl : v2 = .string s := by simpa using hs
 have hgs : gs = [] := by
   cases gs with
   | nil => rfl
   | cons g r => exact absurd hV (by intro h; cases h)
 subst hgs
 refine (Y1 (jeb hL) (cs := xs) (c := c) (raw := s.data.toList) x1 x4 x5 x6 x7 x8 x9 (by omega) rfl ?_).mono fun e W' ⟨he, hb⟩ => ?_
 . intro p hp
   simp at hp
   rcases hp with rfl | rfl | rfl
   . exact ⟨x2, j7 x3 _⟩
   . exact ⟨.int _ _, rfl⟩
   . exact ⟨.str _, rfl⟩
 . subst he
   exact ⟨_, rfl, jch Tryd.laidOut (by kernel_rfl) rfl hW' rfl (tb := 4) (by kernel_rfl) Tryd.underlying4 hb⟩
theorem YW : Rows.SnapBackSaid :=
 OpenClaim.holds_of_wide 3 Tryd.f3 rfl rfl rfl rfl rfl rfl rfl ⟨rfl, rfl, rfl, rfl, rfl⟩ rfl rfl rfl rfl rfl (by kernel_rfl) Tryd.func3 (by kernel_rfl)
   (of_decide_eq_true (by kernel_rfl)) (by unfold Func.isWrapper; rw [if_neg (of_decide_eq_false (by kernel_rfl))]; exact ⟨rfl, rfl⟩)
   (fun os started H enc _ => Zg os started H enc)
set_option maxRecDepth 100000 in
theorem snapBack_card : Rows.SnapBackCardSaid :=
 Claim7.holds_tied_plain_at .later [] [.handle] true (true, "9687d1db9553b047660d30faf416e5f94ffd34773b8faae1c3638d14cc89f4ac") true
   YW (fun _ h => by cases h) (by kernel_rfl) (fun _ h => by cases h) snapBack_row_tie rfl ⟨rfl, rfl⟩ (by kernel_rfl) rfl
   (fun f fn hf hfn => by
     obtain rfl : f = 3 := Option.some.inj ((show Tryd.prog.funcNamed "plover/ploverlaw28.SnapBack" = some 3 by kernel_rfl).symm.trans hf) |>.symm
     obtain rfl : fn = Tryd.f3 := (Option.some.inj (Tryd.func3.symm.trans hfn)).symm
     exact ⟨by kernel_rfl, fun j t ht => by
       rw [Tryd.params3] at ht
       match j with
       | 0 => simp at ht; subst ht; exact (by kernel_rfl : Tryd.prog.wantsStandIn 42 = false)
       | 1 => simp at ht; subst ht; exact (by kernel_rfl : Tryd.prog.wantsStandIn 32 = false)
       | 2 => simp at ht; subst ht; exact (by kernel_rfl : Tryd.prog.wantsStandIn 9 = false)
       | j + 3 => simp at ht⟩)
   (by kernel_rfl)
#print axioms snapBack_card
end Go.Proofs.YtbfjnoljjbaelaaDoor
