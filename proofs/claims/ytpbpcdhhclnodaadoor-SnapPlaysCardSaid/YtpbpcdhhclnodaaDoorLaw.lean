/- 'ploverlaw28.SnapPlays' returns true for every input, and its arguments read as they did; conditions: the row's own (errors.errorType is laid as the program's text lays it). -/
import Derived.Test.YtpbpcdhhclnodaaDoorLaid
import Derived.Test.YtpbpcdhhclnodaaDoorRun
import Derived.Test.YtpbpcdhhclnodaaDoorEqt
import Derived.Test.YtpbpcdhhclnodaaDoorTie
import Derived.Test.YtpbpcdhhclnodaaDoorCards
import Derived.ProofKit
set_option linter.unusedSectionVars false
set_option linter.unusedVariables false
set_option linter.unusedSimpArgs false
namespace Go.Proofs.YtpbpcdhhclnodaaDoor
open Go Go.Idl Go.Idl.Sp Go.ChangeShapes Go.WideShapes Go.RowKit Go.ChangeAt
theorem Tryd.mixed : Tryd.prog.follows .mixedOrders = true := by kernel_rfl
theorem Tryd.laidOut : laidOutB Tryd.prog = true := by kernel_rfl
theorem XA {P : Program} {f : FuncId} {fn : Func} (h : P.funcs[f]? = some fn) (hn : decide (fn.name = "runtime.NumGoroutine") = false) (hb : fn.body.isSome = true) : zF P f :=
 ⟨fn, h, of_decide_eq_false hn, fun e => by rw [e] at hb; cases hb⟩
theorem jgC : FOK Tryd.prog F1 := fun f fn h => Xr Tryd.prog cand refs f fn (jgB h)
theorem jcY : YV Tryd.prog 17 (fun _ _ args => Zj args) := by
 obtain ⟨σ, wr, h⟩ := jcy
 exact VW (XA Tryd.func17 (by kernel_rfl) (by kernel_rfl)) (Yr Tryd.mixed jgC 300) h
def ZD : FuncId -> Option jc1 := fun f => bif Nat.beq f 17 then some (fun _ _ args => Zj args) else none
theorem jec : ∀ f p, ZD f = some p -> YV Tryd.prog f p := by
 intro f p h
 unfold ZD at h
 cases hb : Nat.beq f 17 with
 | true =>
   rw [hb] at h
   obtain rfl := (Option.some.inj h).symm
   rw [Nat.eq_of_beq_eq_true hb]
   exact jcY
 | false => rw [hb] at h; cases h
noncomputable def F2 : vM := Qv Tryd.prog cand refs ZD
theorem yC {f : FuncId} {x : IFunc} (hf : Nat.beq f 17 = false) (h : F0 f = some x) : F2 f = some x := by
 unfold F2 Qv ZD
 rw [hf]; exact h
theorem jgD : F2 17 = some { nt := 0, nv := 0, m := 1, dep := 1, body := .lib fun _ _ args => Zj args, res := [] } := rfl
theorem fs : Fs F2 := ⟨yC rfl F4, yC rfl F5, yC rfl F6, yC rfl F7, yC rfl F8, yC rfl F9, yC rfl F10, yC rfl F11, yC rfl F12, yC rfl F13, yC rfl F14, yC rfl F15, yC rfl F16, yC rfl F18, yC rfl F19, yC rfl F20, yC rfl F21, yC rfl F22, yC rfl F23, yC rfl F24, yC rfl F25, yC rfl F26, yC rfl F29, yC rfl F30, yC rfl F31, yC rfl F32, yC rfl F38⟩
theorem jge {z : Int} (h : (Lit.int .u8 z).wf = true) : 0 <= z /\ z < 256 := by
 simp only [Lit.wf, Bool.and_eq_true, IntKind.min, IntKind.max] at h
 simp [IntKind.signed, IntKind.bits] at h
 omega
theorem jgd {z : Int} (h : (Lit.int .i16 z).wf = true) : -32768 <= z /\ z < 32768 := by
 simp only [Lit.wf, Bool.and_eq_true, IntKind.min, IntKind.max] at h
 simp [IntKind.signed, IntKind.bits] at h
 omega
set_option maxRecDepth 100000 in
theorem ZL {H : Type} {enc : TypeId × Value -> H} {W : World} {base n : Nat} {held : Bool} {cs : List Value} {y : DataW H × List MemPlace} (h : DataW.trod enc Tryd.prog W base (fun _ => true) held n 51 cs = some y) :
   ∃ x : Sp.Act, x.ok /\ V (Xx Tryd.prog W) (av x) (.agg cs.toArray) /\ zd (av x) /\ nr2 (av x) = true /\ (Value.agg cs.toArray).cells = cs.toArray /\ cs.length = 4 := by
 obtain ⟨xs, m, _, _, hl, hx, hf⟩ := DataW.trod_struct Tryd.underlying51 h
 have hl : cs.length = 4 := hl.trans (by kernel_rfl)
 have hx : xs.length = 4 := hx
 have c5 : Tryd.prog.cellsOf 5 = 1 := by kernel_rfl
 have c49 : Tryd.prog.cellsOf 49 = 1 := by kernel_rfl
 have c21 : Tryd.prog.cellsOf 21 = 1 := by kernel_rfl
 match cs, hl, xs, hx with
 | [a, b, c, d], _, [x0, x1, x2, x3], _ =>
   have f0 : DataW.trod enc Tryd.prog W base (fun _ => true) held m 5 (([a, b, c, d].drop 0).take (Tryd.prog.cellsOf 5)) = some x0 := hf 0 _ rfl
   have f1 : DataW.trod enc Tryd.prog W base (fun _ => true) held m 5 (([a, b, c, d].drop 1).take (Tryd.prog.cellsOf 5)) = some x1 := hf 1 _ rfl
   have f2 : DataW.trod enc Tryd.prog W base (fun _ => true) held m 49 (([a, b, c, d].drop 2).take (Tryd.prog.cellsOf 49)) = some x2 := hf 2 _ rfl
   have f3 : DataW.trod enc Tryd.prog W base (fun _ => true) held m 21 (([a, b, c, d].drop 3).take (Tryd.prog.cellsOf 21)) = some x3 := hf 3 _ rfl
   rw [c5] at f0 f1
   rw [c49] at f2
   rw [c21] at f3
   obtain ⟨z0, h0, g0⟩ := Jr Tryd.underlying5 f0
   obtain ⟨z1, h1, g1⟩ := Jr Tryd.underlying5 f1
   obtain ⟨z2, h2, g2⟩ := Jr Tryd.underlying49 f2
   obtain ⟨z3, h3, g3⟩ := Jr Tryd.underlying21 f3
   obtain rfl : a = .int .u8 z0 := by simpa using h0
   obtain rfl : b = .int .u8 z1 := by simpa using h1
   obtain rfl : c = .int .i16 z2 := by simpa using h2
   obtain rfl : d = .int .i32 z3 := by simpa using h3
   refine ⟨⟨z0, z1, z2, z3⟩, ⟨jge g0, jge g1, jgd g2⟩, ?_, ⟨rfl, rfl⟩, rfl, rfl, rfl⟩
   refine .agg _ _ rfl (fun i x v hx hv => ?_) (fun x hx => ?_)
   . match i with
     | 0 => simp at hx hv; subst hx hv; exact .int _ _
     | 1 => simp at hx hv; subst hx hv; exact .int _ _
     | 2 => simp at hx hv; subst hx hv; exact .int _ _
     | 3 => simp at hx hv; subst hx hv; exact .int _ _
     | i + 4 => simp at hx
   . simp only [List.mem_cons, List.not_mem_nil, or_false] at hx
     rcases hx with rfl | rfl | rfl | rfl <;> rfl
instance : Inhabited Sp.Act := ⟨⟨0, 0, 0, 0⟩⟩
theorem Y1 {W : World} (hG : Ki W) {every : Int} {r : Bool} {acts : List Sp.Act} {args : Array Value} (hok : ∀ x ∈ acts, x.ok) (hlen : 2 = args.toList.length)
   (hV : ∀ p ∈ [IVal.int .i64 every, .sl 0 r (acts.map av)].zip args.toList, V (Xx Tryd.prog W) p.1 p.2 /\ vu p.1 p.2 = []) :
   Calls Tryd.prog 3 args W fun e W' => e = .returned (.bool true) /\ Below W.heap.size W W' := by
 obtain ⟨σ, wr, h⟩ := jb3 (F := F2) fs (yC rfl F3) (jbz jgD) (r := r) (o := 0) (every := every) hok
 obtain ⟨n, hn⟩ := cfw_iff.1 h
 exact YN (jeG cand refs jec Tryd.mixed n) hG hn hlen hV
set_option maxRecDepth 100000 in
theorem Zg (os : Os) (started : os.Started) (H : Type) (enc : TypeId × Value -> H) :
   ReturnsInHanded {} Tryd.checked os 3 .any (fun w args => (Rows.snapPlaysSpec.pre enc Tryd.prog Tryd.f3 [] false w args /\ laidMetH Tryd.prog lay w) /\ sizedMet enc Tryd.prog Tryd.f3 (OpenSpec.ofChange Rows.snapPlaysSpec) false w args)
     (Rows.snapPlaysSpec.post enc Tryd.prog Tryd.f3 false true false false) := by
 refine returnsInHanded_of_change_and (C := Tryd.checked) (X := fun w _ => laidMetH Tryd.prog lay w) (fun _ _ _ hh h => h.of_heap hh) Tryd.own started (by kernel_rfl) Tryd.func3
   (ChangeSpec.witness_at (enc := enc) (C := Tryd.checked) (os := os) (X := fun w _ => laidMetH Tryd.prog lay w) false (VU os) #[.int .i64 0, .slice none 0 0] 8 rfl (by kernel_rfl) (by kernel_rfl) (by kernel_rfl) (by kernel_rfl) (by kernel_rfl) (Vf os _)) ?_
 intro W base args ds gs before hval0 hW _ _ hL _
 have hW' := hW
 obtain ⟨p, q, hA0, hV, rfl, hfz, hnd⟩ := hW
 have hA : DataW.TrodAll enc Tryd.prog W 0 (fun _ => true) true Tryd.f3.params.toList args.toList ds p := hA0
 rw [Tryd.params3] at hA
 obtain ⟨v0, v1, d0, d1, p0, p1, rfl, rfl, rfl, k0, k1⟩ := trodAll_two hA
 have hval : ∀ (j : Nat) t v, Tryd.f3.params[j]? = some t -> #[v0, v1][j]? = some v -> Value.okWide Tryd.prog W .any base t v := hval0
 rw [Tryd.params3] at hval
 obtain ⟨fuel0, k0⟩ := k0
 obtain ⟨fuel1, k1⟩ := k1
 obtain ⟨z, hz, _⟩ := Jr Tryd.underlying3 k0
 obtain ⟨v, r, acts, hv, hQ, hlen, hVV, hown, _, _⟩ := Ym (α := Sp.Act) (Q := Sp.Act.ok) (toI := av) (mk := fun cs => .agg cs.toArray) (esz := 4) Tryd.underlying22 (by kernel_rfl) (by omega) (fun n cs y h => ZL h) k1
 have hc0 : v0.cells.toList = [v0] := by
   obtain ⟨n, rfl⟩ := okWide_int Tryd.underlying3 (hval 0 3 v0 rfl rfl)
   rfl
 have hc1 : v1.cells.toList = [v1] := by
   obtain ⟨a, len, cap, rfl⟩ := Go.WideShapes.okWide_slice Tryd.underlying22 (hval 1 22 v1 rfl rfl)
   rfl
 rw [hc0] at hz
 rw [hc1] at hv
 obtain rfl : v0 = .int .i64 z := by simpa using hz
 obtain rfl : v1 = v := by simpa using hv
 have hgs : gs = [] := by
   cases gs with
   | nil => rfl
   | cons g r => exact absurd hV (by intro h; cases h)
 subst hgs
 refine (Y1 (jdR hL) (every := z) (r := r) (acts := acts) hQ rfl ?_).mono fun e W' ⟨he, hb⟩ => ?_
 . intro p hp
   simp at hp
   rcases hp with rfl | rfl
   . exact ⟨.int _ _, rfl⟩
   . exact ⟨hVV, hown⟩
 . subst he
   exact ⟨_, rfl, jb2 Tryd.laidOut (by kernel_rfl) rfl hW' rfl (tb := 4) (by kernel_rfl) Tryd.underlying4 hb⟩
theorem XW : Rows.SnapPlaysSaid :=
 OpenClaim.holds_of_wide 3 Tryd.f3 rfl rfl rfl rfl rfl rfl rfl ⟨rfl, rfl, rfl, rfl, rfl⟩ rfl rfl rfl rfl rfl (by kernel_rfl) Tryd.func3 (by kernel_rfl)
   (of_decide_eq_true (by kernel_rfl)) (by unfold Func.isWrapper; rw [if_neg (of_decide_eq_false (by kernel_rfl))]; exact ⟨rfl, rfl⟩)
   (fun os started H enc _ => Zg os started H enc)
set_option maxRecDepth 1000000 in
theorem snapPlays_card : Rows.SnapPlaysCardSaid :=
 Claim7.holds_tied_plain_at .later [] [.handle] true (true, "460cba566ea35eeaac40413014bb2d14f0bcf0bacf0e6246126bb24f60ddc553") true
   XW (fun _ h => by cases h) (by kernel_rfl) (fun _ h => by cases h) snapPlays_row_tie rfl ⟨rfl, rfl⟩ (by kernel_rfl) rfl
   (fun f fn hf hfn => by
     obtain rfl : f = 3 := Option.some.inj ((show Tryd.prog.funcNamed "plover/ploverlaw28.SnapPlays" = some 3 by kernel_rfl).symm.trans hf) |>.symm
     obtain rfl : fn = Tryd.f3 := (Option.some.inj (Tryd.func3.symm.trans hfn)).symm
     exact ⟨by kernel_rfl, fun j t ht => by
       rw [Tryd.params3] at ht
       match j with
       | 0 => simp at ht; subst ht; exact (by kernel_rfl : Tryd.prog.wantsStandIn 3 = false)
       | 1 => simp at ht; subst ht; exact (by kernel_rfl : Tryd.prog.wantsStandIn 22 = false)
       | j + 2 => simp at ht⟩)
   (by kernel_rfl)
#print axioms snapPlays_card
end Go.Proofs.YtpbpcdhhclnodaaDoor
