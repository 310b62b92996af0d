/- 'ploverlaw02.LexTells' returns true for every input, and its arguments read as they did; conditions: the row's own (the package variables are laid as the program's text lays them). -/
import Derived.Test.YtjjmammoapggkaaGreatDoorLaid
import Derived.Test.YtjjmammoapggkaaGreatDoorEqt
import Derived.Test.YtjjmammoapggkaaGreatDoorShelf
import Derived.Test.YtjjmammoapggkaaGreatDoorTie
import Derived.Test.YtjjmammoapggkaaGreatDoorCards
import Derived.ProofKit
set_option linter.defProp false
set_option linter.unusedSectionVars false
set_option linter.unusedVariables false
set_option linter.unusedSimpArgs false
namespace Go.Proofs.YtjjmammoapggkaaGreatDoor
open Go Go.Idl Go.Idl.Lx Go.ChangeShapes Go.WideShapes Go.RowKit Go.ChangeAt
theorem Tryz.mixed : Tryz.prog.follows .mixedOrders = true := by kernel_rfl
theorem Tryz.laidOut : laidOutB Tryz.prog = true := by kernel_rfl
theorem JE {P : Program} {f : FuncId} {fn : Func} (h : P.funcs[f]? = some fn) (hn : decide (fn.name = "runtime.NumGoroutine") = false) (hb : fn.body.isSome = true) : vk P f :=
 ⟨fn, h, of_decide_eq_false hn, fun e => by rw [e] at hb; cases hb⟩
def Yg (b o : Nat) : FuncId -> Option ZY := fun f => bif Nat.beq f 65 then some (lp JT) else bif Nat.beq f 92 then some (lp (KF 190 b o)) else none
theorem jcH {b o : Nat} : ∀ f p, Yg b o f = some p -> @LibOK (KX b o) Tryz.prog f p := by
 letI : Globs := KX b o
 intro f p h
 unfold Yg at h
 cases hb : Nat.beq f 65 with
 | true =>
   rw [hb] at h
   obtain rfl := (rY h).symm
   rw [Nat.eq_of_beq_eq_true hb]
   exact YK (k := 2) (el := 9) rfl (JE Tryz.func65 (by kernel_rfl) (by kernel_rfl)) fun s w hs ha ht =>
     Any.strings_Fields_core Tryz.lays157 (by kernel_rfl) s w hs ha fun c hc => by rw [<- Lib.asciiSpaceTab_at c hc]; exact ht c hc
 | false =>
   rw [hb] at h
   cases hb2 : Nat.beq f 92 with
   | true =>
     rw [hb2] at h
     obtain rfl := (rY h).symm
     rw [Nat.eq_of_beq_eq_true hb2]
     exact jaZ (k := 5) (el := 171) rfl (JE Tryz.func92 (by kernel_rfl) (by kernel_rfl)) Tryz.strconv_rangeError
   | false => rw [hb2] at h; cases h
noncomputable def F2 (b o : Nat) : kb := @trProgL (KX b o) Tryz.prog cand refs (Yg b o)
theorem kw {b o : Nat} {f : FuncId} {x : IFunc} (h65 : Nat.beq f 65 = false) (h92 : Nat.beq f 92 = false) (h : F0 b o f = some x) : F2 b o f = some x := by
 unfold F2 trProgL Yg
 rw [h65, h92]; exact h
theorem Ys {F : kb} {f : FuncId} {p : ZY} {args : List IVal} {v : IVal} {σ : List IObj} (h : F f = some { nt := 0, nv := 0, m := 1, dep := 1, body := .lib p, res := [] }) (hp : p (jfv σ) (jfw σ) args = some v) : cfw F (.f f) args σ = some ⟨false, v, σ, []⟩ := by
 rw [En.cfw_of _ h]
 show (match p (jfv σ) (jfw σ) args with | some v => some (Out.mk false v σ []) | none => none) = _
 rw [hp]
theorem jfz (b o : Nat) : F2 b o 65 = some { nt := 0, nv := 0, m := 1, dep := 1, body := .lib (lp JT), res := [] } := rfl
theorem jfA (b o : Nat) : F2 b o 92 = some { nt := 0, nv := 0, m := 1, dep := 1, body := .lib (lp (KF 190 b o)), res := [] } := rfl
theorem YJ : JT [.str [60, 60, 32, 62, 62, 32, 60, 61, 32, 62, 61, 32, 61, 61, 32, 33, 61]] = some (.sl 0 false (dbls.map .str)) := by kernel_rfl
theorem jaY (b o : Nat) (f s : List UInt8) (h : s.length <= 20000) : KF 190 b o [.str f, .str s] = some (.pv false [.str f, .str s, .iface 190 (.prim (.pointer (some ⟨b, o, none⟩)))] 0) := by
 unfold KF
 simp only
 rw [if_pos (by omega)]
theorem jgH (b o : Nat) : FTab (F2 b o) := { h38 := kw rfl rfl (F38 b o), h57 := kw rfl rfl (F57 b o), h58 := kw rfl rfl (F58 b o), h59 := kw rfl rfl (F59 b o), h74 := kw rfl rfl (F74 b o), h75 := kw rfl rfl (F75 b o), h85 := kw rfl rfl (F85 b o), h86 := kw rfl rfl (F86 b o), h87 := kw rfl rfl (F87 b o), h96 := kw rfl rfl (F96 b o), h97 := kw rfl rfl (F97 b o), h99 := kw rfl rfl (F99 b o) }
theorem jgG (b o : Nat) : FSkp (F2 b o) := { toFTab := jgH b o, h15 := kw rfl rfl (F15 b o), h26 := kw rfl rfl (F26 b o), h34 := kw rfl rfl (F34 b o), h37 := kw rfl rfl (F37 b o), h42 := kw rfl rfl (F42 b o), h50 := kw rfl rfl (F50 b o), h53 := kw rfl rfl (F53 b o), h55 := kw rfl rfl (F55 b o), h56 := kw rfl rfl (F56 b o), h73 := kw rfl rfl (F73 b o) }
theorem jgC (b o : Nat) : FNum (F2 b o) := { toFSkp := jgG b o, h12 := kw rfl rfl (F12 b o), h61 := kw rfl rfl (F61 b o), h62 := kw rfl rfl (F62 b o), h63 := kw rfl rfl (F63 b o), h76 := kw rfl rfl (F76 b o), h77 := kw rfl rfl (F77 b o), h88 := kw rfl rfl (F88 b o) }
theorem jgE (b o : Nat) : FPar (F2 b o) := { toFNum := jgC b o, h92 := fun s σ h => ⟨_, Ys (jfA b o) (jaY b o _ s h)⟩, h40 := kw rfl rfl (F40 b o), h64 := kw rfl rfl (F64 b o), h78 := kw rfl rfl (F78 b o), h79 := kw rfl rfl (F79 b o), h89 := kw rfl rfl (F89 b o) }
theorem jgB (b o : Nat) : FMrk (F2 b o) := { toFPar := jgE b o, h65 := fun σ => Ys (jfz b o) YJ, h39 := kw rfl rfl (F39 b o), h41 := kw rfl rfl (F41 b o), h60 := kw rfl rfl (F60 b o) }
theorem jgA (b o : Nat) : FLex (F2 b o) := { toFMrk := jgB b o, h8 := kw rfl rfl (F8 b o), h24 := kw rfl rfl (F24 b o), h36 := kw rfl rfl (F36 b o) }
theorem fwk (b o : Nat) : FWk (F2 b o) := { toFLex := jgA b o, h7 := kw rfl rfl (F7 b o), h13 := kw rfl rfl (F13 b o), h22 := kw rfl rfl (F22 b o), h23 := kw rfl rfl (F23 b o), h27 := kw rfl rfl (F27 b o), h28 := kw rfl rfl (F28 b o), h47 := kw rfl rfl (F47 b o), h49 := kw rfl rfl (F49 b o), h153 := kw rfl rfl (jgu b o) }
theorem jgz (b o : Nat) : FBld (F2 b o) := { h20 := kw rfl rfl (F20 b o), h21 := kw rfl rfl (F21 b o), h35 := kw rfl rfl (F35 b o) }
theorem jfM (b o : Nat) : FMade (F2 b o) := { toFBld := jgz b o, h9 := kw rfl rfl (F9 b o), h25 := kw rfl rfl (F25 b o) }
theorem jgD (b o : Nat) : FOne (F2 b o) := { h10 := kw rfl rfl (F10 b o), h11 := kw rfl rfl (F11 b o), h18 := kw rfl rfl (F18 b o), h52 := kw rfl rfl (F52 b o), h71 := kw rfl rfl (F71 b o), h72 := kw rfl rfl (F72 b o), h83 := kw rfl rfl (F83 b o) }
theorem jgF (b o : Nat) : FRef (F2 b o) := { toFOne := jgD b o, h32 := kw rfl rfl (F32 b o), h33 := kw rfl rfl (F33 b o), h51 := kw rfl rfl (F51 b o) }
theorem jgI (b o : Nat) : FTel (F2 b o) := { toFWk := fwk b o, toFMade := jfM b o, toFRef := jgF b o, h5 := kw rfl rfl (F5 b o), h16 := kw rfl rfl (F16 b o), h17 := kw rfl rfl (F17 b o) }
theorem jgh {z : Int} (h : (Lit.int .u8 z).wf = true) : 0 <= z /\ z < 256 := by
 simp only [Lit.wf, Bool.and_eq_true, IntKind.min, IntKind.max] at h
 simp [IntKind.signed, IntKind.bits] at h
 omega
theorem Xy [Globs] {H : Type} {enc : TypeId × Value -> H} {W : World} {base n : Nat} {held : Bool} {cs : List Value} {y : DataW H × List MemPlace} (h : DataW.trod enc Tryz.prog W base (fun _ => true) held n 5 cs = some y) :
   ∃ x : Nat, x < 256 /\ V (topG Tryz.prog W) (B x) (.int .u8 x) /\ cs = [.int .u8 x] := by
 obtain ⟨z, h1, h2⟩ := Q9 Tryz.underlying5 h
 have := jgh h2
 obtain ⟨x, rfl⟩ := Int.eq_ofNat_of_zero_le this.1
 exact ⟨x, by omega, .int _ _, h1⟩
theorem Ve [Globs] {H : Type} {enc : TypeId × Value -> H} {W : World} {base n : Nat} {held : Bool} {cs : List Value} {y : DataW H × List MemPlace} (h : DataW.trod enc Tryz.prog W base (fun _ => true) held n 22 cs = some y) :
   ∃ (v : Value) (r : Bool) (xs : List Nat), cs = [v] /\ (∀ x ∈ xs, x < 256) /\ V (topG Tryz.prog W) (.sl 0 r (xs.map B)) v /\ kl (.sl 0 r (xs.map B)) v = [] := by
 obtain ⟨v, r, xs, h1, h2, _, h4, h5, _, _⟩ := V0 (α := Nat) (Q := fun x => x < 256) (toI := fun x => B x) (mk := fun cs => cs.headD default) (esz := 1) Tryz.underlying22 (by kernel_rfl) (by omega) (fun n cs y h => by
   obtain ⟨x, hx, hV, rfl⟩ := Xy h
   exact ⟨x, hx, hV, ⟨rfl, rfl⟩, rfl, rfl, rfl⟩) h
 exact ⟨v, r, xs, h1, h2, h4, h5⟩
theorem XB {W : World} {b o : Nat} (hG : @GlobsAt (KX b o) W) {s : List UInt8} {r : Bool} {xs : List Nat} {z : Int} (hx : ∀ x ∈ xs, x < 256) {args : Array Value} (hlen : 3 = args.toList.length)
   (hV : ∀ p ∈ [IVal.str s, IVal.sl 0 r (xs.map B), I z].zip args.toList, @V (@topG (KX b o) Tryz.prog W) p.1 p.2 /\ kl p.1 p.2 = []) :
   Calls Tryz.prog 5 args W fun e W' => e = .returned (.bool true) /\ Below W.heap.size W W' := by
 letI : Globs := KX b o
 obtain ⟨wr, S, h⟩ := jgR (σ := []) (jgI b o) (s := s) (o := 0) (r := r) (z := z) hx
 obtain ⟨n, hn⟩ := cfw_iff.1 h
 exact jbl (jdf cand refs jcH Tryz.mixed n) hG hn hlen hV
set_option maxRecDepth 100000 in
theorem XQ (os : Os) (started : os.Started) (H : Type) (enc : TypeId × Value -> H) (F0 : Stop.Interp) :
   ReturnsInHanded {} Tryz.checked os 5 .any ((OpenSpec.ofChange Rows.lexTellsSpec).preRow enc Tryz.prog Tryz.f5 Rows.lexTellsRow.domain false lay) (((OpenSpec.ofChange Rows.lexTellsSpec).at F0).post enc Tryz.prog Tryz.f5 false true false false) := by
 refine returnsInHanded_of_row (C := Tryz.checked) (s := OpenSpec.ofChange Rows.lexTellsSpec) Tryz.own started (by kernel_rfl) Tryz.func5
   (witness_row_atRef (enc := enc) (C := Tryz.checked) false (zw os) #[.string ⟨#[]⟩, .slice none 0 0, .int .i64 0] (QB os) (by kernel_rfl) (by kernel_rfl) (by kernel_rfl) (OpenSpec.preRow_of_B rfl 8 (by kernel_rfl) (by kernel_rfl) (KZ os _))) ?_
 intro W base args ds gs before hval0 hW _ _ _ hL hsh _
 have hW' := hW
 obtain ⟨p, q, hA0, hV, rfl, hfz, hnd⟩ := hW
 have hA : DataW.TrodAll enc Tryz.prog W 0 (fun _ => true) true Tryz.f5.params.toList args.toList ds p := hA0
 rw [Tryz.params5] at hA
 obtain ⟨v0, v1, v2, d0, d1, d2, p0, p1, p2, rfl, rfl, rfl, k0, k1, k2⟩ := trodAll_three hA
 have hval : ∀ (j : Nat) t v, Tryz.f5.params[j]? = some t -> #[v0, v1, v2][j]? = some v -> Value.okWide Tryz.prog W .any base t v := hval0
 rw [Tryz.params5] at hval
 obtain ⟨fuel0, k0⟩ := k0
 obtain ⟨fuel1, k1⟩ := k1
 obtain ⟨fuel2, k2⟩ := k2
 have hc0 : v0.cells.toList = [v0] := by
   obtain ⟨s, rfl⟩ := okWide_string Tryz.underlying9 (hval 0 9 v0 rfl rfl)
   rfl
 have hc1 : v1.cells.toList = [v1] := by
   obtain ⟨a, len, cap, rfl⟩ := Go.WideShapes.okWide_slice Tryz.underlying22 (hval 1 22 v1 rfl rfl)
   rfl
 have hc2 : v2.cells.toList = [v2] := by
   obtain ⟨n, rfl⟩ := okWide_int Tryz.underlying3 (hval 2 3 v2 rfl rfl)
   rfl
 rw [hc0] at k0
 rw [hc1] at k1
 rw [hc2] at k2
 have hgs : gs = [] := by
   cases gs with
   | nil => rfl
   | cons g r => exact absurd hV (by intro h; cases h)
 subst hgs
 obtain ⟨b, o, hr⟩ := K6 hL
 letI : Globs := KX b o
 obtain ⟨s, hs, _⟩ := DataW.trod_string Tryz.underlying9 k0
 obtain rfl : v0 = .string s := by simpa using hs
 obtain ⟨v, r, xs, hv, hx, hV1, hown⟩ := Ve k1
 obtain rfl : v1 = v := by simpa using hv
 obtain ⟨z, hz, _⟩ := Q9 Tryz.underlying3 k2
 obtain rfl : v2 = .int .i64 z := by simpa using hz
 refine (XB (jci hL hr) (s := s.data.toList) (r := r) (xs := xs) (z := z) hx rfl ?_).mono fun e W' ⟨he, hb⟩ => ?_
 . intro p hp
   simp at hp
   rcases hp with rfl | rfl | rfl
   . exact ⟨.str _, rfl⟩
   . exact ⟨hV1, hown⟩
   . exact ⟨.int _ _, rfl⟩
 . subst he
   exact ⟨_, rfl, jax Tryz.laidOut (by kernel_rfl) rfl hW' rfl (tb := 4) (by kernel_rfl) Tryz.underlying4 hb⟩
theorem Kf : Rows.LexTellsSaid :=
 OpenClaim.holds_of_cond 5 Tryz.f5 rfl rfl rfl rfl rfl rfl rfl ⟨rfl, rfl, rfl, rfl, rfl⟩ rfl rfl rfl rfl rfl (by kernel_rfl) Tryz.func5 (by kernel_rfl)
   (of_decide_eq_true (by kernel_rfl)) (by unfold Func.isWrapper; rw [if_neg (of_decide_eq_false (by kernel_rfl))]; exact ⟨rfl, rfl⟩)
   (fun os started H enc _ F0 => by rw [OpenClaim.pre_eq_preRow]; exact XQ os started H enc F0)
set_option maxRecDepth 100000 in
theorem lexTells_card : Rows.LexTellsCardSaid :=
 Claim7.holds_tied_plain_at .later [] [.data, .data, .data, .handle, .sentinel, .sentinel, .listed, .data] true (true, "3b4cfa9306d462c025fba5d41a804f351944b70e20f8addceb55d8d862b913d8") true
   Kf (fun _ h => by cases h) (by kernel_rfl) (fun _ h => by cases h) lexTells_row_tie rfl ⟨rfl, rfl⟩ (by kernel_rfl) rfl
   (fun f fn hf hfn => by
     obtain rfl : f = 5 := rY ((show Tryz.prog.funcNamed "plover/ploverlaw02.LexTells" = some 5 by kernel_rfl).symm.trans hf) |>.symm
     obtain rfl : fn = Tryz.f5 := (rY (Tryz.func5.symm.trans hfn)).symm
     exact ⟨by kernel_rfl, fun j t ht => by
       rw [Tryz.params5] at ht
       match j with
       | 0 => simp at ht; subst ht; exact (by kernel_rfl : Tryz.prog.wantsStandIn 9 = false)
       | 1 => simp at ht; subst ht; exact (by kernel_rfl : Tryz.prog.wantsStandIn 22 = false)
       | 2 => simp at ht; subst ht; exact (by kernel_rfl : Tryz.prog.wantsStandIn 3 = false)
       | j + 3 => simp at ht⟩)
   (by kernel_rfl)
#print axioms lexTells_card
end Go.Proofs.YtjjmammoapggkaaGreatDoor
