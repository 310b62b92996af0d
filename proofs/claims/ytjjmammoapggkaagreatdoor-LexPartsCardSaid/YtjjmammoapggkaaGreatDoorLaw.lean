/- 'ploverlaw02.LexParts' returns true for every input, and its arguments read as they did; conditions: the row's own (the package variables are laid as the program's text lays them). -/
import Derived.Test.YtjjmammoapggkaaGreatDoorLaid
import Derived.Test.YtjjmammoapggkaaGreatDoorEqt
import Derived.Test.YtjjmammoapggkaaGreatDoorShelf
import Derived.Test.YtjjmammoapggkaaGreatDoorTie
import Derived.Test.YtjjmammoapggkaaGreatDoorCards
import Derived.ProofKit
set_option linter.defProp false
set_option linter.unusedSectionVars false
set_option linter.unusedVariables false
set_option linter.unusedSimpArgs false
namespace Go.Proofs.YtjjmammoapggkaaGreatDoor
open Go Go.Idl Go.Idl.Lx Go.ChangeShapes Go.WideShapes Go.RowKit Go.ChangeAt
theorem Tryz.mixed : Tryz.prog.follows .mixedOrders = true := by kernel_rfl
theorem Tryz.laidOut : laidOutB Tryz.prog = true := by kernel_rfl
theorem Jr {P : Program} {f : FuncId} {fn : Func} (h : P.funcs[f]? = some fn) (hn : decide (fn.name = "runtime.NumGoroutine") = false) (hb : fn.body.isSome = true) : vf P f :=
 ⟨fn, h, of_decide_eq_false hn, fun e => by rw [e] at hb; cases hb⟩
def X2 (b o : Nat) : FuncId -> Option ZK := fun f => bif Nat.beq f 65 then some (lp JG) else bif Nat.beq f 92 then some (lp (Ko 190 b o)) else none
theorem jcq {b o : Nat} : ∀ f p, X2 b o f = some p -> @LibOK (KK b o) Tryz.prog f p := by
 letI : Globs := KK b o
 intro f p h
 unfold X2 at h
 cases hb : Nat.beq f 65 with
 | true =>
   rw [hb] at h
   obtain rfl := (rY h).symm
   rw [Nat.eq_of_beq_eq_true hb]
   exact Yw (k := 2) (el := 9) rfl (Jr Tryz.func65 (by kernel_rfl) (by kernel_rfl)) fun s w hs ha ht =>
     Any.strings_Fields_core Tryz.lays157 (by kernel_rfl) s w hs ha fun c hc => by rw [<- Lib.asciiSpaceTab_at c hc]; exact ht c hc
 | false =>
   rw [hb] at h
   cases hb2 : Nat.beq f 92 with
   | true =>
     rw [hb2] at h
     obtain rfl := (rY h).symm
     rw [Nat.eq_of_beq_eq_true hb2]
     exact jaK (k := 5) (el := 171) rfl (Jr Tryz.func92 (by kernel_rfl) (by kernel_rfl)) Tryz.strconv_rangeError
   | false => rw [hb2] at h; cases h
noncomputable def F2 (b o : Nat) : kt := @trProgL (KK b o) Tryz.prog cand refs (X2 b o)
theorem kB {b o : Nat} {f : FuncId} {x : IFunc} (h65 : Nat.beq f 65 = false) (h92 : Nat.beq f 92 = false) (h : F0 b o f = some x) : F2 b o f = some x := by
 unfold F2 trProgL X2
 rw [h65, h92]; exact h
theorem Yd {F : kt} {f : FuncId} {p : ZK} {args : List IVal} {v : IVal} {σ : List IObj} (h : F f = some { nt := 0, nv := 0, m := 1, dep := 1, body := .lib p, res := [] }) (hp : p (jeV σ) (jeW σ) args = some v) : cfw F (.f f) args σ = some ⟨false, v, σ, []⟩ := by
 rw [En.cfw_of _ h]
 show (match p (jeV σ) (jeW σ) args with | some v => some (Out.mk false v σ []) | none => none) = _
 rw [hp]
theorem je0 (b o : Nat) : F2 b o 65 = some { nt := 0, nv := 0, m := 1, dep := 1, body := .lib (lp JG), res := [] } := rfl
theorem je1 (b o : Nat) : F2 b o 92 = some { nt := 0, nv := 0, m := 1, dep := 1, body := .lib (lp (Ko 190 b o)), res := [] } := rfl
theorem Yv : JG [.str [60, 60, 32, 62, 62, 32, 60, 61, 32, 62, 61, 32, 61, 61, 32, 33, 61]] = some (.sl 0 false (dbls.map .str)) := by kernel_rfl
theorem jaJ (b o : Nat) (f s : List UInt8) (h : s.length <= 20000) : Ko 190 b o [.str f, .str s] = some (.pv false [.str f, .str s, .iface 190 (.prim (.pointer (some ⟨b, o, none⟩)))] 0) := by
 unfold Ko
 simp only
 rw [if_pos (by omega)]
theorem jf2 (b o : Nat) : FTab (F2 b o) := { h38 := kB rfl rfl (F38 b o), h57 := kB rfl rfl (F57 b o), h58 := kB rfl rfl (F58 b o), h59 := kB rfl rfl (F59 b o), h74 := kB rfl rfl (F74 b o), h75 := kB rfl rfl (F75 b o), h85 := kB rfl rfl (F85 b o), h86 := kB rfl rfl (F86 b o), h87 := kB rfl rfl (F87 b o), h96 := kB rfl rfl (F96 b o), h97 := kB rfl rfl (F97 b o), h99 := kB rfl rfl (F99 b o) }
theorem jf1 (b o : Nat) : FSkp (F2 b o) := { toFTab := jf2 b o, h15 := kB rfl rfl (F15 b o), h26 := kB rfl rfl (F26 b o), h34 := kB rfl rfl (F34 b o), h37 := kB rfl rfl (F37 b o), h42 := kB rfl rfl (F42 b o), h50 := kB rfl rfl (F50 b o), h53 := kB rfl rfl (F53 b o), h55 := kB rfl rfl (F55 b o), h56 := kB rfl rfl (F56 b o), h73 := kB rfl rfl (F73 b o) }
theorem jfY (b o : Nat) : FNum (F2 b o) := { toFSkp := jf1 b o, h12 := kB rfl rfl (F12 b o), h61 := kB rfl rfl (F61 b o), h62 := kB rfl rfl (F62 b o), h63 := kB rfl rfl (F63 b o), h76 := kB rfl rfl (F76 b o), h77 := kB rfl rfl (F77 b o), h88 := kB rfl rfl (F88 b o) }
theorem jfZ (b o : Nat) : FPar (F2 b o) := { toFNum := jfY b o, h92 := fun s σ h => ⟨_, Yd (je1 b o) (jaJ b o _ s h)⟩, h40 := kB rfl rfl (F40 b o), h64 := kB rfl rfl (F64 b o), h78 := kB rfl rfl (F78 b o), h79 := kB rfl rfl (F79 b o), h89 := kB rfl rfl (F89 b o) }
theorem jfX (b o : Nat) : FMrk (F2 b o) := { toFPar := jfZ b o, h65 := fun σ => Yd (je0 b o) Yv, h39 := kB rfl rfl (F39 b o), h41 := kB rfl rfl (F41 b o), h60 := kB rfl rfl (F60 b o) }
theorem jfW (b o : Nat) : FLex (F2 b o) := { toFMrk := jfX b o, h8 := kB rfl rfl (F8 b o), h24 := kB rfl rfl (F24 b o), h36 := kB rfl rfl (F36 b o) }
theorem fwk (b o : Nat) : FWk (F2 b o) := { toFLex := jfW b o, h7 := kB rfl rfl (F7 b o), h13 := kB rfl rfl (F13 b o), h22 := kB rfl rfl (F22 b o), h23 := kB rfl rfl (F23 b o), h27 := kB rfl rfl (F27 b o), h28 := kB rfl rfl (F28 b o), h47 := kB rfl rfl (F47 b o), h49 := kB rfl rfl (F49 b o), h153 := kB rfl rfl (jfQ b o) }
theorem jfV (b o : Nat) : FBld (F2 b o) := { h20 := kB rfl rfl (F20 b o), h21 := kB rfl rfl (F21 b o), h35 := kB rfl rfl (F35 b o) }
theorem jfa (b o : Nat) : FMade (F2 b o) := { toFBld := jfV b o, h9 := kB rfl rfl (F9 b o), h25 := kB rfl rfl (F25 b o) }
theorem jf0 (b o : Nat) : FPrt (F2 b o) := { toFWk := fwk b o, toFMade := jfa b o, h4 := kB rfl rfl (F4 b o), h14 := kB rfl rfl (F14 b o) }
theorem jfE {z : Int} (h : (Lit.int .u8 z).wf = true) : 0 <= z /\ z < 256 := by
 simp only [Lit.wf, Bool.and_eq_true, IntKind.min, IntKind.max] at h
 simp [IntKind.signed, IntKind.bits] at h
 omega
theorem Xo [Globs] {H : Type} {enc : TypeId × Value -> H} {W : World} {base n : Nat} {held : Bool} {cs : List Value} {y : DataW H × List MemPlace} (h : DataW.trod enc Tryz.prog W base (fun _ => true) held n 5 cs = some y) :
   ∃ x : Nat, x < 256 /\ V (topG Tryz.prog W) (B x) (.int .u8 x) /\ cs = [.int .u8 x] := by
 obtain ⟨z, h1, h2⟩ := ZG Tryz.underlying5 h
 have := jfE h2
 obtain ⟨x, rfl⟩ := Int.eq_ofNat_of_zero_le this.1
 exact ⟨x, by omega, .int _ _, h1⟩
theorem Jq [Globs] {H : Type} {enc : TypeId × Value -> H} {W : World} {base n : Nat} {held : Bool} {cs : List Value} {y : DataW H × List MemPlace} (h : DataW.trod enc Tryz.prog W base (fun _ => true) held n 22 cs = some y) :
   ∃ (v : Value) (r : Bool) (xs : List Nat), cs = [v] /\ (∀ x ∈ xs, x < 256) /\ V (topG Tryz.prog W) (.sl 0 r (xs.map B)) v /\ kh (.sl 0 r (xs.map B)) v = [] := by
 obtain ⟨v, r, xs, h1, h2, _, h4, h5, _, _⟩ := VR (α := Nat) (Q := fun x => x < 256) (toI := fun x => B x) (mk := fun cs => cs.headD default) (esz := 1) Tryz.underlying22 (by kernel_rfl) (by omega) (fun n cs y h => by
   obtain ⟨x, hx, hV, rfl⟩ := Xo h
   exact ⟨x, hx, hV, ⟨rfl, rfl⟩, rfl, rfl, rfl⟩) h
 exact ⟨v, r, xs, h1, h2, h4, h5⟩
theorem Xr {W : World} {b o : Nat} (hG : @GlobsAt (KK b o) W) {r r2 : Bool} {xs ys : List Nat} (hx : ∀ x ∈ xs, x < 256) (hy : ∀ x ∈ ys, x < 256) {args : Array Value} (hlen : 2 = args.toList.length)
   (hV : ∀ p ∈ [IVal.sl 0 r (xs.map B), IVal.sl 0 r2 (ys.map B)].zip args.toList, @V (@topG (KK b o) Tryz.prog W) p.1 p.2 /\ kh p.1 p.2 = []) :
   Calls Tryz.prog 4 args W fun e W' => e = .returned (.bool true) /\ Below W.heap.size W W' := by
 letI : Globs := KK b o
 obtain ⟨wr, S, h⟩ := jf7 (σ := []) (jf0 b o) (o1 := 0) (o2 := 0) (r1 := r) (r2 := r2) hx hy
 obtain ⟨n, hn⟩ := cfw_iff.1 h
 exact ja6 (jcW cand refs jcq Tryz.mixed n) hG hn hlen hV
set_option maxRecDepth 100000 in
theorem XE (os : Os) (started : os.Started) (H : Type) (enc : TypeId × Value -> H) (F0 : Stop.Interp) :
   ReturnsInHanded {} Tryz.checked os 4 .any ((OpenSpec.ofChange Rows.lexPartsSpec).preRow enc Tryz.prog Tryz.f4 Rows.lexPartsRow.domain false lay) (((OpenSpec.ofChange Rows.lexPartsSpec).at F0).post enc Tryz.prog Tryz.f4 false true false false) := by
 refine returnsInHanded_of_row (C := Tryz.checked) (s := OpenSpec.ofChange Rows.lexPartsSpec) Tryz.own started (by kernel_rfl) Tryz.func4
   (witness_row_atRef (enc := enc) (C := Tryz.checked) false (zj os) #[.slice none 0 0, .slice none 0 0] (Qo os) (by kernel_rfl) (by kernel_rfl) (by kernel_rfl) (OpenSpec.preRow_of_B rfl 8 (by kernel_rfl) (by kernel_rfl) (KN os _))) ?_
 intro W base args ds gs before hval0 hW _ _ _ hL hsh _
 have hW' := hW
 obtain ⟨p, q, hA0, hV, rfl, hfz, hnd⟩ := hW
 have hA : DataW.TrodAll enc Tryz.prog W 0 (fun _ => true) true Tryz.f4.params.toList args.toList ds p := hA0
 rw [Tryz.params4] at hA
 obtain ⟨v0, v1, d0, d1, p0, p1, rfl, rfl, rfl, k0, k1⟩ := trodAll_two hA
 have hval : ∀ (j : Nat) t v, Tryz.f4.params[j]? = some t -> #[v0, v1][j]? = some v -> Value.okWide Tryz.prog W .any base t v := hval0
 rw [Tryz.params4] at hval
 obtain ⟨fuel0, k0⟩ := k0
 obtain ⟨fuel1, k1⟩ := k1
 have hc0 : v0.cells.toList = [v0] := by
   obtain ⟨a, len, cap, rfl⟩ := Go.WideShapes.okWide_slice Tryz.underlying22 (hval 0 22 v0 rfl rfl)
   rfl
 have hc1 : v1.cells.toList = [v1] := by
   obtain ⟨a, len, cap, rfl⟩ := Go.WideShapes.okWide_slice Tryz.underlying22 (hval 1 22 v1 rfl rfl)
   rfl
 rw [hc0] at k0
 rw [hc1] at k1
 have hgs : gs = [] := by
   cases gs with
   | nil => rfl
   | cons g r => exact absurd hV (by intro h; cases h)
 subst hgs
 obtain ⟨b, o, hr⟩ := KT hL
 letI : Globs := KK b o
 obtain ⟨v, r, xs, hv, hx, hV0, hown⟩ := Jq k0
 obtain rfl : v0 = v := by simpa using hv
 obtain ⟨u, r2, ys, hu, hy, hV1, hown1⟩ := Jq k1
 obtain rfl : v1 = u := by simpa using hu
 refine (Xr (jb4 hL hr) (r := r) (r2 := r2) (xs := xs) (ys := ys) hx hy rfl ?_).mono fun e W' ⟨he, hb⟩ => ?_
 . intro p hp
   simp at hp
   rcases hp with rfl | rfl
   . exact ⟨hV0, hown⟩
   . exact ⟨hV1, hown1⟩
 . subst he
   exact ⟨_, rfl, jai Tryz.laidOut (by kernel_rfl) rfl hW' rfl (tb := 4) (by kernel_rfl) Tryz.underlying4 hb⟩
theorem J3 : Rows.LexPartsSaid :=
 OpenClaim.holds_of_cond 4 Tryz.f4 rfl rfl rfl rfl rfl rfl rfl ⟨rfl, rfl, rfl, rfl, rfl⟩ rfl rfl rfl rfl rfl (by kernel_rfl) Tryz.func4 (by kernel_rfl)
   (of_decide_eq_true (by kernel_rfl)) (by unfold Func.isWrapper; rw [if_neg (of_decide_eq_false (by kernel_rfl))]; exact ⟨rfl, rfl⟩)
   (fun os started H enc _ F0 => by rw [OpenClaim.pre_eq_preRow]; exact XE os started H enc F0)
set_option maxRecDepth 100000 in
theorem lexParts_card : Rows.LexPartsCardSaid :=
 Claim7.holds_tied_plain_at .later [] [.data, .data, .data, .handle, .sentinel, .sentinel, .listed, .data] true (true, "3b4cfa9306d462c025fba5d41a804f351944b70e20f8addceb55d8d862b913d8") true
   J3 (fun _ h => by cases h) (by kernel_rfl) (fun _ h => by cases h) lexParts_row_tie rfl ⟨rfl, rfl⟩ (by kernel_rfl) rfl
   (fun f fn hf hfn => by
     obtain rfl : f = 4 := rY ((show Tryz.prog.funcNamed "plover/ploverlaw02.LexParts" = some 4 by kernel_rfl).symm.trans hf) |>.symm
     obtain rfl : fn = Tryz.f4 := (rY (Tryz.func4.symm.trans hfn)).symm
     exact ⟨by kernel_rfl, fun j t ht => by
       rw [Tryz.params4] at ht
       match j with
       | 0 => simp at ht; subst ht; exact (by kernel_rfl : Tryz.prog.wantsStandIn 22 = false)
       | 1 => simp at ht; subst ht; exact (by kernel_rfl : Tryz.prog.wantsStandIn 22 = false)
       | j + 2 => simp at ht⟩)
   (by kernel_rfl)
#print axioms lexParts_card
end Go.Proofs.YtjjmammoapggkaaGreatDoor
