/- 'ploverlaw28.SnapTells' returns true for every input, and its arguments read as they did; conditions: the row's own (errors.errorType is laid as the program's text lays it). -/
import Derived.Test.YtgkedaeojkbaiaaGreatDoorLaid
import Derived.Test.YtgkedaeojkbaiaaGreatDoorRun
import Derived.Test.YtgkedaeojkbaiaaGreatDoorEqt
import Derived.Test.YtgkedaeojkbaiaaGreatDoorTie
import Derived.Test.YtgkedaeojkbaiaaGreatDoorCards
import Derived.ProofKit
namespace Go.Proofs.YtgkedaeojkbaiaaGreatDoor
open Go Go.Idl Go.Idl.Sb Go.ChangeShapes Go.WideShapes Go.RowKit Go.ChangeAt
theorem Tryz.mixed : Tryz.prog.follows .mixedOrders = true := by kernel_rfl
theorem Tryz.laidOut : laidOutB Tryz.prog = true := by kernel_rfl
theorem XN {P : Program} {f : FuncId} {fn : Func} (h : P.funcs[f]? = some fn) (hn : decide (fn.name = "runtime.NumGoroutine") = false) (hb : fn.body.isSome = true) : vF P f :=
 ⟨fn, h, of_decide_eq_false hn, fun e => by rw [e] at hb; cases hb⟩
def jcV : Value := .agg #[.int .i64 0, .int .i64 0, .int .i64 0, .int .i64 0, .int .i32 0, .int .i32 0, .int .i32 0, .int .i32 0, .int .i32 0, .int .i32 0, .int .i32 0, .int .i32 0, .int .i32 0, .slice none 0 0, .slice none 0 0, .int .i64 0, .slice none 0 0, .int .u8 0, .int .u8 0, .int .u8 0, .int .i64 0, .int .u8 0, .int .u8 0, .int .u8 0, .int .u8 0, .int .u8 0, .int .u8 0, .int .u8 0, .int .u8 0, .int .i64 0, .int .u8 0, .int .u8 0, .int .u8 0, .int .u8 0, .int .u8 0, .int .u8 0, .int .u8 0, .int .u8 0, .bool false, .int .u8 0, .int .u8 0, .int .u16 0, .int .u16 0, .int .u16 0, .int .u16 0, .int .u16 0, .int .u16 0, .int .u8 0, .int .u8 0, .int .u8 0, .int .u64 0, .int .u64 0, .int .i64 0, .int .i64 0, .int .i64 0]
theorem jjt : FOK Tryz.prog F1 := fun f fn h => Xz Tryz.prog cand refs f fn (jjs h)
theorem jeH : ZQ Tryz.prog 10 (fun _ _ args => jak args) := by
 obtain ⟨σ, wr, h⟩ := jek
 exact V4 (XN Tryz.func10 (by kernel_rfl) (by kernel_rfl)) (Y0 Tryz.mixed jjt 300) h
def jaI : FuncId -> Option jeN := fun f => bif Nat.beq f 10 then some (fun _ _ args => jak args) else none
theorem jgk : ∀ f p, jaI f = some p -> ZQ Tryz.prog f p := by
 intro f p h
 unfold jaI at h
 cases hb : Nat.beq f 10 with
 | true =>
   rw [hb] at h
   obtain rfl := (tB h).symm
   rw [Nat.eq_of_beq_eq_true hb]
   exact jeH
 | false => rw [hb] at h; cases h
noncomputable def F2 : jn := KZ Tryz.prog cand refs jaI
theorem jq {f : FuncId} {x : IFunc} (hf : Nat.beq f 10 = false) (h : F0 f = some x) : F2 f = some x := by
 unfold F2 KZ jaI
 rw [hf]; exact h
theorem jju : F2 10 = some { nt := 0, nv := 0, m := 1, dep := 1, body := .lib fun _ _ args => jak args, res := [] } := rfl
theorem fs : Fs F2 := ⟨jq rfl F40, jq rfl F43, jq rfl F44, jq rfl F45, jq rfl F46, jq rfl F47, jq rfl F48, jq rfl F49, jq rfl F50, jq rfl F51, jq rfl F64, jq rfl F65, jq rfl F66, jq rfl F67, jq rfl F76⟩
theorem fp : Fp F2 := ⟨jq rfl F4, jq rfl F6, jq rfl F11, jq rfl F12, jq rfl F19, jq rfl F29, jq rfl F30, jq rfl F31, jq rfl F32, jq rfl F33, jq rfl F34, jq rfl F35, jq rfl F36, jq rfl F37, jq rfl F41, jq rfl F42, jq rfl F61, jq rfl F62, jq rfl F63, jq rfl F99, jq rfl jkw, jq rfl jkx, jq rfl jky, jq rfl jkz, jq rfl jkA, jq rfl jkB, jq rfl jkC, jq rfl jkD, jq rfl jjR, jq rfl jjS, jq rfl jjT, jq rfl jjU, jq rfl jjV, jq rfl jjW, jq rfl jjX, jq rfl jjY, jq rfl jjZ, jq rfl jj0, jq rfl jj1, jq rfl jj2⟩
theorem fl9 : Fl9 F2 := ⟨jq rfl F8, jq rfl F9, jq rfl F20, jq rfl F21, jq rfl F22, jq rfl F52, jq rfl F53, jq rfl F54, jq rfl F55, jq rfl F71, jq rfl F73, jq rfl jj3⟩
theorem ft : Ft F2 := ⟨jq rfl F5, jq rfl F7, jq rfl F13, jq rfl F14, jq rfl F15, jq rfl F16, jq rfl F17, jq rfl F18, jq rfl F38, jq rfl F39, jq rfl F40⟩
theorem jdb {H : Type} {enc : TypeId × Value -> H} {W : World} {base n : Nat} {held : Bool} {cs : List Value} {y : DataW H × List MemPlace} (h : DataW.trod enc Tryz.prog W base (fun _ => true) held n 72 cs = some y) : cs.length = 3 :=
 (QI Tryz.underlying72 h).trans (by kernel_rfl)
set_option maxRecDepth 100000 in
theorem jey {H : Type} {enc : TypeId × Value -> H} {W : World} {base n : Nat} {held : Bool} {cs : List Value} {x : DataW H × List MemPlace} (hcs : cs.length = 55) (h : DataW.trod enc Tryz.prog W base (fun _ => true) held n 42 cs = some x) :
   ∃ xs : List IVal, xs.length = 55 /\ V (Qj Tryz.prog W) (.agg xs) (.agg cs.toArray) /\ qY (.agg xs) /\ xs.all IVal.isCell = true /\ xs.all nr1 = true /\ Ty lAll xs /\
     (∃ v, xs[13]? = some v /\ ZP J w3i v) /\ (∃ v, xs[14]? = some v /\ ZP J w3i v) /\ (∃ v, xs[16]? = some v /\ ZP Ra r64 v) :=
 YO (P := Tryz.prog) (ts := 42) (tw := 23) (te := 21) (tr := 24) (ti := 72) (by kernel_rfl) Tryz.underlying23 Tryz.underlying21 (by kernel_rfl) Tryz.underlying24 (by kernel_rfl) (by kernel_rfl) (fun n cs y h => jdb h) (by decide) hcs h
theorem jfJ {H : Type} {enc : TypeId × Value -> H} {W : World} {base n : Nat} {held : Bool} {cs : List Value} {y : DataW H × List MemPlace} (h : DataW.trod enc Tryz.prog W base (fun _ => true) held n 44 cs = some y) : cs.length = 3 :=
 (QI Tryz.underlying44 h).trans (by kernel_rfl)
theorem ZX {W : World} (hG : Ji W) {cs : List IVal} {a b c : Nat} {raw : List UInt8} {args : Array Value} (hn : cs.length = 55) (hc : cs.all IVal.isCell = true) (hnr : cs.all nr1 = true) (hT : Ty lAll cs)
   (h1 : ∃ v, cs[13]? = some v /\ ZP J w3i v) (h2 : ∃ v, cs[14]? = some v /\ ZP J w3i v) (h3 : ∃ v, cs[16]? = some v /\ ZP Ra r64 v) (ha : a < 65536) (hb : b < 65536) (hlen : 3 = args.toList.length)
   (hV : ∀ p ∈ [IVal.agg cs, .str raw, .agg [.int .u16 a, .int .u16 b, .int .u8 c]].zip args.toList, V (Qj Tryz.prog W) p.1 p.2 /\ jC p.1 p.2 = []) :
   Calls Tryz.prog 3 args W fun e W' => e = .returned (.bool true) /\ Below W.heap.size W W' := by
 obtain ⟨_, g1, r1, z1, rfl, q1, w1⟩ := h1
 obtain ⟨_, g2, r2, z2, rfl, q2, w2⟩ := h2
 obtain ⟨_, g3, r3, z3, rfl, q3, w3⟩ := h3
 obtain ⟨σ, wr, h⟩ := jdO (F := F2) fp fs fl9 ft (jq rfl F3) (jdc jju) hn hc hnr hT g1 g2 g3 q1 q2 q3 w1 w2 w3 ha hb (yb := c) (raw := raw) []
 obtain ⟨n, hn⟩ := cfw_iff.1 h
 exact ZH (jg6 cand refs jgk Tryz.mixed n) hG hn hlen hV
set_option maxRecDepth 100000 in
theorem jae (os : Os) (started : os.Started) (H : Type) (enc : TypeId × Value -> H) :
   ReturnsInHanded {} Tryz.checked os 3 .any (fun w args => (Rows.snapTellsSpec.pre enc Tryz.prog Tryz.f3 [] false w args /\ laidMetH Tryz.prog lay w) /\ sizedMet enc Tryz.prog Tryz.f3 (OpenSpec.ofChange Rows.snapTellsSpec) false w args)
     (Rows.snapTellsSpec.post enc Tryz.prog Tryz.f3 false true false false) := by
 refine returnsInHanded_of_change_and (C := Tryz.checked) (X := fun w _ => laidMetH Tryz.prog lay w) (fun _ _ _ hh h => h.of_heap hh) Tryz.own started (by kernel_rfl) Tryz.func3
   (ChangeSpec.witness_at (enc := enc) (C := Tryz.checked) (os := os) (X := fun w _ => laidMetH Tryz.prog lay w) false (V1 os) #[jcV, .string ⟨#[]⟩, .agg #[.int .u16 0, .int .u16 0, .int .u8 0]] 8 rfl (by kernel_rfl) (by kernel_rfl) (by kernel_rfl) (by kernel_rfl) (by kernel_rfl) (Q6 os _)) ?_
 intro W base args ds gs before hval0 hW _ _ hL _
 have hW' := hW
 obtain ⟨p, q, hA0, hV, rfl, hfz, hnd⟩ := hW
 have hA : DataW.TrodAll enc Tryz.prog W 0 (fun _ => true) true Tryz.f3.params.toList args.toList ds p := hA0
 rw [Tryz.params3] at hA
 obtain ⟨v0, v1, v2, d0, d1, d2, p0, p1, p2, rfl, rfl, rfl, k0, k1, k2⟩ := trodAll_three hA
 have hval : ∀ (j : Nat) t v, Tryz.f3.params[j]? = some t -> #[v0, v1, v2][j]? = some v -> Value.okWide Tryz.prog W .any base t v := hval0
 rw [Tryz.params3] at hval
 obtain ⟨fuel0, k0⟩ := k0
 obtain ⟨fuel1, k1⟩ := k1
 obtain ⟨fuel2, k2⟩ := k2
 have c42 : Tryz.prog.cellsOf 42 = 55 := by kernel_rfl
 obtain ⟨cv, hv0, hcv⟩ := Go.WideShapes.okWide_struct Tryz.underlying42 (hval 0 42 v0 rfl rfl)
 subst hv0
 rw [c42] at hcv
 have e0 : (Value.agg cv).cells.toList = cv.toList := rfl
 rw [e0] at k0
 obtain ⟨xs, x1, x2, x3, x4, x5, x6, x7, x8, x9⟩ := jey (by simpa using hcv) k0
 have ea : cv.toList.toArray = cv := by simp
 rw [ea] at x2
 have hc1 : v1.cells.toList = [v1] := by
   obtain ⟨s, rfl⟩ := okWide_string Tryz.underlying9 (hval 1 9 v1 rfl rfl)
   rfl
 rw [hc1] at k1
 obtain ⟨s, hs, _⟩ := DataW.trod_string Tryz.underlying9 k1
 obtain rfl : v1 = .string s := by simpa using hs
 obtain ⟨tv, ht0, htv⟩ := Go.WideShapes.okWide_struct Tryz.underlying44 (hval 2 44 v2 rfl rfl)
 subst ht0
 have e1 : (Value.agg tv).cells.toList = tv.toList := rfl
 rw [e1] at k2
 obtain ⟨a, b, c, ha, hb, xt⟩ := jaD (P := Tryz.prog) (by kernel_rfl) (jfJ k2) k2
 have et : tv.toList.toArray = tv := by simp
 rw [et] at xt
 have hgs : gs = [] := by
   cases gs with
   | nil => rfl
   | cons g r => exact absurd hV (by intro h; cases h)
 subst hgs
 refine (ZX (jf1 hL) (cs := xs) (a := a) (b := b) (c := c) (raw := s.data.toList) x1 x4 x5 x6 x7 x8 x9 ha hb rfl ?_).mono fun e W' ⟨he, hb⟩ => ?_
 . intro p hp
   simp at hp
   rcases hp with rfl | rfl | rfl
   . exact ⟨x2, jE x3 _⟩
   . exact ⟨.str _, rfl⟩
   . exact ⟨xt, jE ⟨rfl, rfl⟩ _⟩
 . subst he
   exact ⟨_, rfl, jdN Tryz.laidOut (by kernel_rfl) rfl hW' rfl (tb := 4) (by kernel_rfl) Tryz.underlying4 hb⟩
theorem YS : Rows.SnapTellsSaid :=
 OpenClaim.holds_of_wide 3 Tryz.f3 rfl rfl rfl rfl rfl rfl rfl ⟨rfl, rfl, rfl, rfl, rfl⟩ rfl rfl rfl rfl rfl (by kernel_rfl) Tryz.func3 (by kernel_rfl)
   (of_decide_eq_true (by kernel_rfl)) (by unfold Func.isWrapper; rw [if_neg (of_decide_eq_false (by kernel_rfl))]; exact ⟨rfl, rfl⟩)
   (fun os started H enc _ => jae os started H enc)
set_option maxRecDepth 100000 in
theorem snapTells_card : Rows.SnapTellsCardSaid :=
 Claim7.holds_tied_plain_at .later [] [.handle] true (true, "9d3d096a4b25d21b58adb588fa92e20f87de90c33137178acbe1e84266109f41") true
   YS (fun _ h => by cases h) (by kernel_rfl) (fun _ h => by cases h) snapTells_row_tie rfl ⟨rfl, rfl⟩ (by kernel_rfl) rfl
   (fun f fn hf hfn => by
     obtain rfl : f = 3 := tB ((show Tryz.prog.funcNamed "plover/ploverlaw28.SnapTells" = some 3 by kernel_rfl).symm.trans hf) |>.symm
     obtain rfl : fn = Tryz.f3 := (tB (Tryz.func3.symm.trans hfn)).symm
     exact ⟨by kernel_rfl, fun j t ht => by
       rw [Tryz.params3] at ht
       match j with
       | 0 => simp at ht; subst ht; exact (by kernel_rfl : Tryz.prog.wantsStandIn 42 = false)
       | 1 => simp at ht; subst ht; exact (by kernel_rfl : Tryz.prog.wantsStandIn 9 = false)
       | 2 => simp at ht; subst ht; exact (by kernel_rfl : Tryz.prog.wantsStandIn 44 = false)
       | j + 3 => simp at ht⟩)
   (by kernel_rfl)
#print axioms snapTells_card
end Go.Proofs.YtgkedaeojkbaiaaGreatDoor
