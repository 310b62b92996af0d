/- 'ploverlaw02.LexCovers' returns true for every input, and its arguments read as they did; conditions: the row's own (the package variables are laid as the program's text lays them). -/
import Derived.Test.YtjjmammoapggkaaGreatDoorLaid
import Derived.Test.YtjjmammoapggkaaGreatDoorEqt
import Derived.Test.YtjjmammoapggkaaGreatDoorShelf
import Derived.Test.YtjjmammoapggkaaGreatDoorTie
import Derived.Test.YtjjmammoapggkaaGreatDoorCards
import Derived.ProofKit
set_option linter.defProp false
set_option linter.unusedSectionVars false
set_option linter.unusedVariables false
set_option linter.unusedSimpArgs false
namespace Go.Proofs.YtjjmammoapggkaaGreatDoor
open Go Go.Idl Go.Idl.Lx Go.ChangeShapes Go.WideShapes Go.RowKit Go.ChangeAt
theorem Tryz.mixed : Tryz.prog.follows .mixedOrders = true := by kernel_rfl
theorem Tryz.laidOut : laidOutB Tryz.prog = true := by kernel_rfl
theorem Jt {P : Program} {f : FuncId} {fn : Func} (h : P.funcs[f]? = some fn) (hn : decide (fn.name = "runtime.NumGoroutine") = false) (hb : fn.body.isSome = true) : vk P f :=
 ⟨fn, h, of_decide_eq_false hn, fun e => by rw [e] at hb; cases hb⟩
def X9 (b o : Nat) : FuncId -> Option ZY := fun f => bif Nat.beq f 65 then some (lp JK) else bif Nat.beq f 92 then some (lp (Ks 190 b o)) else none
theorem jcN {b o : Nat} : ∀ f p, X9 b o f = some p -> @LibOK (KM b o) Tryz.prog f p := by
 letI : Globs := KM b o
 intro f p h
 unfold X9 at h
 cases hb : Nat.beq f 65 with
 | true =>
   rw [hb] at h
   obtain rfl := (rY h).symm
   rw [Nat.eq_of_beq_eq_true hb]
   exact YG (k := 2) (el := 9) rfl (Jt Tryz.func65 (by kernel_rfl) (by kernel_rfl)) fun s w hs ha ht =>
     Any.strings_Fields_core Tryz.lays157 (by kernel_rfl) s w hs ha fun c hc => by rw [<- Lib.asciiSpaceTab_at c hc]; exact ht c hc
 | false =>
   rw [hb] at h
   cases hb2 : Nat.beq f 92 with
   | true =>
     rw [hb2] at h
     obtain rfl := (rY h).symm
     rw [Nat.eq_of_beq_eq_true hb2]
     exact jaY (k := 5) (el := 171) rfl (Jt Tryz.func92 (by kernel_rfl) (by kernel_rfl)) Tryz.strconv_rangeError
   | false => rw [hb2] at h; cases h
noncomputable def F2 (b o : Nat) : kg := @trProgL (KM b o) Tryz.prog cand refs (X9 b o)
theorem kz {b o : Nat} {f : FuncId} {x : IFunc} (h65 : Nat.beq f 65 = false) (h92 : Nat.beq f 92 = false) (h : F0 b o f = some x) : F2 b o f = some x := by
 unfold F2 trProgL X9
 rw [h65, h92]; exact h
theorem Yl {F : kg} {f : FuncId} {p : ZY} {args : List IVal} {v : IVal} {σ : List IObj} (h : F f = some { nt := 0, nv := 0, m := 1, dep := 1, body := .lib p, res := [] }) (hp : p (jfj σ) (jfk σ) args = some v) : cfw F (.f f) args σ = some ⟨false, v, σ, []⟩ := by
 rw [En.cfw_of _ h]
 show (match p (jfj σ) (jfk σ) args with | some v => some (Out.mk false v σ []) | none => none) = _
 rw [hp]
theorem jfn (b o : Nat) : F2 b o 65 = some { nt := 0, nv := 0, m := 1, dep := 1, body := .lib (lp JK), res := [] } := rfl
theorem jfo (b o : Nat) : F2 b o 92 = some { nt := 0, nv := 0, m := 1, dep := 1, body := .lib (lp (Ks 190 b o)), res := [] } := rfl
theorem YF : JK [.str [60, 60, 32, 62, 62, 32, 60, 61, 32, 62, 61, 32, 61, 61, 32, 33, 61]] = some (.sl 0 false (dbls.map .str)) := by kernel_rfl
theorem jaX (b o : Nat) (f s : List UInt8) (h : s.length <= 20000) : Ks 190 b o [.str f, .str s] = some (.pv false [.str f, .str s, .iface 190 (.prim (.pointer (some ⟨b, o, none⟩)))] 0) := by
 unfold Ks
 simp only
 rw [if_pos (by omega)]
theorem jgt (b o : Nat) : FTab (F2 b o) := { h38 := kz rfl rfl (F38 b o), h57 := kz rfl rfl (F57 b o), h58 := kz rfl rfl (F58 b o), h59 := kz rfl rfl (F59 b o), h74 := kz rfl rfl (F74 b o), h75 := kz rfl rfl (F75 b o), h85 := kz rfl rfl (F85 b o), h86 := kz rfl rfl (F86 b o), h87 := kz rfl rfl (F87 b o), h96 := kz rfl rfl (F96 b o), h97 := kz rfl rfl (F97 b o), h99 := kz rfl rfl (F99 b o) }
theorem jgs (b o : Nat) : FSkp (F2 b o) := { toFTab := jgt b o, h15 := kz rfl rfl (F15 b o), h26 := kz rfl rfl (F26 b o), h34 := kz rfl rfl (F34 b o), h37 := kz rfl rfl (F37 b o), h42 := kz rfl rfl (F42 b o), h50 := kz rfl rfl (F50 b o), h53 := kz rfl rfl (F53 b o), h55 := kz rfl rfl (F55 b o), h56 := kz rfl rfl (F56 b o), h73 := kz rfl rfl (F73 b o) }
theorem jgq (b o : Nat) : FNum (F2 b o) := { toFSkp := jgs b o, h12 := kz rfl rfl (F12 b o), h61 := kz rfl rfl (F61 b o), h62 := kz rfl rfl (F62 b o), h63 := kz rfl rfl (F63 b o), h76 := kz rfl rfl (F76 b o), h77 := kz rfl rfl (F77 b o), h88 := kz rfl rfl (F88 b o) }
theorem jgr (b o : Nat) : FPar (F2 b o) := { toFNum := jgq b o, h92 := fun s σ h => ⟨_, Yl (jfo b o) (jaX b o _ s h)⟩, h40 := kz rfl rfl (F40 b o), h64 := kz rfl rfl (F64 b o), h78 := kz rfl rfl (F78 b o), h79 := kz rfl rfl (F79 b o), h89 := kz rfl rfl (F89 b o) }
theorem jgp (b o : Nat) : FMrk (F2 b o) := { toFPar := jgr b o, h65 := fun σ => Yl (jfn b o) YF, h39 := kz rfl rfl (F39 b o), h41 := kz rfl rfl (F41 b o), h60 := kz rfl rfl (F60 b o) }
theorem jgo (b o : Nat) : FLex (F2 b o) := { toFMrk := jgp b o, h8 := kz rfl rfl (F8 b o), h24 := kz rfl rfl (F24 b o), h36 := kz rfl rfl (F36 b o) }
theorem fwk (b o : Nat) : FWk (F2 b o) := { toFLex := jgo b o, h7 := kz rfl rfl (F7 b o), h13 := kz rfl rfl (F13 b o), h22 := kz rfl rfl (F22 b o), h23 := kz rfl rfl (F23 b o), h27 := kz rfl rfl (F27 b o), h28 := kz rfl rfl (F28 b o), h47 := kz rfl rfl (F47 b o), h49 := kz rfl rfl (F49 b o), h153 := kz rfl rfl (jgh b o) }
theorem jgm (b o : Nat) : FBld (F2 b o) := { h20 := kz rfl rfl (F20 b o), h21 := kz rfl rfl (F21 b o), h35 := kz rfl rfl (F35 b o) }
theorem jfw (b o : Nat) : FMade (F2 b o) := { toFBld := jgm b o, h9 := kz rfl rfl (F9 b o), h25 := kz rfl rfl (F25 b o) }
theorem jgn (b o : Nat) : FCov (F2 b o) := { toFWk := fwk b o, toFMade := jfw b o, h6 := kz rfl rfl (F6 b o), h17 := kz rfl rfl (F17 b o), h19 := kz rfl rfl (F19 b o) }
theorem jf3 {z : Int} (h : (Lit.int .u8 z).wf = true) : 0 <= z /\ z < 256 := by
 simp only [Lit.wf, Bool.and_eq_true, IntKind.min, IntKind.max] at h
 simp [IntKind.signed, IntKind.bits] at h
 omega
theorem Xv [Globs] {H : Type} {enc : TypeId × Value -> H} {W : World} {base n : Nat} {held : Bool} {cs : List Value} {y : DataW H × List MemPlace} (h : DataW.trod enc Tryz.prog W base (fun _ => true) held n 5 cs = some y) :
   ∃ x : Nat, x < 256 /\ V (topG Tryz.prog W) (B x) (.int .u8 x) /\ cs = [.int .u8 x] := by
 obtain ⟨z, h1, h2⟩ := ZU Tryz.underlying5 h
 have := jf3 h2
 obtain ⟨x, rfl⟩ := Int.eq_ofNat_of_zero_le this.1
 exact ⟨x, by omega, .int _ _, h1⟩
theorem Q7 [Globs] {H : Type} {enc : TypeId × Value -> H} {W : World} {base n : Nat} {held : Bool} {cs : List Value} {y : DataW H × List MemPlace} (h : DataW.trod enc Tryz.prog W base (fun _ => true) held n 22 cs = some y) :
   ∃ (v : Value) (r : Bool) (xs : List Nat), cs = [v] /\ (∀ x ∈ xs, x < 256) /\ V (topG Tryz.prog W) (.sl 0 r (xs.map B)) v /\ kl (.sl 0 r (xs.map B)) v = [] := by
 obtain ⟨v, r, xs, h1, h2, _, h4, h5, _, _⟩ := VV (α := Nat) (Q := fun x => x < 256) (toI := fun x => B x) (mk := fun cs => cs.headD default) (esz := 1) Tryz.underlying22 (by kernel_rfl) (by omega) (fun n cs y h => by
   obtain ⟨x, hx, hV, rfl⟩ := Xv h
   exact ⟨x, hx, hV, ⟨rfl, rfl⟩, rfl, rfl, rfl⟩) h
 exact ⟨v, r, xs, h1, h2, h4, h5⟩
theorem Xy {W : World} {b o : Nat} (hG : @GlobsAt (KM b o) W) {s : List UInt8} {r : Bool} {xs : List Nat} (hx : ∀ x ∈ xs, x < 256) {args : Array Value} (hlen : 2 = args.toList.length)
   (hV : ∀ p ∈ [IVal.sl 0 r (xs.map B), IVal.str s].zip args.toList, @V (@topG (KM b o) Tryz.prog W) p.1 p.2 /\ kl p.1 p.2 = []) :
   Calls Tryz.prog 6 args W fun e W' => e = .returned (.bool true) /\ Below W.heap.size W W' := by
 letI : Globs := KM b o
 obtain ⟨wr, S, h⟩ := jgy (σ := []) (jgn b o) (o := 0) (r := r) (raw := s) hx
 obtain ⟨n, hn⟩ := cfw_iff.1 h
 exact jbj (jdj cand refs jcN Tryz.mixed n) hG hn hlen hV
set_option maxRecDepth 100000 in
theorem XN (os : Os) (started : os.Started) (H : Type) (enc : TypeId × Value -> H) (F0 : Stop.Interp) :
   ReturnsInHanded {} Tryz.checked os 6 .any ((OpenSpec.ofChange Rows.lexCoversSpec).preRow enc Tryz.prog Tryz.f6 Rows.lexCoversRow.domain false lay) (((OpenSpec.ofChange Rows.lexCoversSpec).at F0).post enc Tryz.prog Tryz.f6 false true false false) := by
 refine returnsInHanded_of_row (C := Tryz.checked) (s := OpenSpec.ofChange Rows.lexCoversSpec) Tryz.own started (by kernel_rfl) Tryz.func6
   (witness_row_atRef (enc := enc) (C := Tryz.checked) false (zn os) #[.slice none 0 0, .string ⟨#[]⟩] (Qs os) (by kernel_rfl) (by kernel_rfl) (by kernel_rfl) (OpenSpec.preRow_of_B rfl 8 (by kernel_rfl) (by kernel_rfl) (KO os _))) ?_
 intro W base args ds gs before hval0 hW _ _ _ hL hsh _
 have hW' := hW
 obtain ⟨p, q, hA0, hV, rfl, hfz, hnd⟩ := hW
 have hA : DataW.TrodAll enc Tryz.prog W 0 (fun _ => true) true Tryz.f6.params.toList args.toList ds p := hA0
 rw [Tryz.params6] at hA
 obtain ⟨v0, v1, d0, d1, p0, p1, rfl, rfl, rfl, k0, k1⟩ := trodAll_two hA
 have hval : ∀ (j : Nat) t v, Tryz.f6.params[j]? = some t -> #[v0, v1][j]? = some v -> Value.okWide Tryz.prog W .any base t v := hval0
 rw [Tryz.params6] at hval
 obtain ⟨fuel0, k0⟩ := k0
 obtain ⟨fuel1, k1⟩ := k1
 have hc0 : v0.cells.toList = [v0] := by
   obtain ⟨a, len, cap, rfl⟩ := Go.WideShapes.okWide_slice Tryz.underlying22 (hval 0 22 v0 rfl rfl)
   rfl
 have hc1 : v1.cells.toList = [v1] := by
   obtain ⟨s, rfl⟩ := okWide_string Tryz.underlying9 (hval 1 9 v1 rfl rfl)
   rfl
 rw [hc0] at k0
 rw [hc1] at k1
 have hgs : gs = [] := by
   cases gs with
   | nil => rfl
   | cons g r => exact absurd hV (by intro h; cases h)
 subst hgs
 obtain ⟨b, o, hr⟩ := KX hL
 letI : Globs := KM b o
 obtain ⟨v, r, xs, hv, hx, hV0, hown⟩ := Q7 k0
 obtain rfl : v0 = v := by simpa using hv
 obtain ⟨s, hs, _⟩ := DataW.trod_string Tryz.underlying9 k1
 obtain rfl : v1 = .string s := by simpa using hs
 refine (Xy (jco hL hr) (s := s.data.toList) (r := r) (xs := xs) hx rfl ?_).mono fun e W' ⟨he, hb⟩ => ?_
 . intro p hp
   simp at hp
   rcases hp with rfl | rfl
   . exact ⟨hV0, hown⟩
   . exact ⟨.str _, rfl⟩
 . subst he
   exact ⟨_, rfl, jau Tryz.laidOut (by kernel_rfl) rfl hW' rfl (tb := 4) (by kernel_rfl) Tryz.underlying4 hb⟩
theorem JG : Rows.LexCoversSaid :=
 OpenClaim.holds_of_cond 6 Tryz.f6 rfl rfl rfl rfl rfl rfl rfl ⟨rfl, rfl, rfl, rfl, rfl⟩ rfl rfl rfl rfl rfl (by kernel_rfl) Tryz.func6 (by kernel_rfl)
   (of_decide_eq_true (by kernel_rfl)) (by unfold Func.isWrapper; rw [if_neg (of_decide_eq_false (by kernel_rfl))]; exact ⟨rfl, rfl⟩)
   (fun os started H enc _ F0 => by rw [OpenClaim.pre_eq_preRow]; exact XN os started H enc F0)
set_option maxRecDepth 100000 in
theorem lexCovers_card : Rows.LexCoversCardSaid :=
 Claim7.holds_tied_plain_at .later [] [.data, .data, .data, .handle, .sentinel, .sentinel, .listed, .data] true (true, "3b4cfa9306d462c025fba5d41a804f351944b70e20f8addceb55d8d862b913d8") true
   JG (fun _ h => by cases h) (by kernel_rfl) (fun _ h => by cases h) lexCovers_row_tie rfl ⟨rfl, rfl⟩ (by kernel_rfl) rfl
   (fun f fn hf hfn => by
     obtain rfl : f = 6 := rY ((show Tryz.prog.funcNamed "plover/ploverlaw02.LexCovers" = some 6 by kernel_rfl).symm.trans hf) |>.symm
     obtain rfl : fn = Tryz.f6 := (rY (Tryz.func6.symm.trans hfn)).symm
     exact ⟨by kernel_rfl, fun j t ht => by
       rw [Tryz.params6] at ht
       match j with
       | 0 => simp at ht; subst ht; exact (by kernel_rfl : Tryz.prog.wantsStandIn 22 = false)
       | 1 => simp at ht; subst ht; exact (by kernel_rfl : Tryz.prog.wantsStandIn 9 = false)
       | j + 2 => simp at ht⟩)
   (by kernel_rfl)
#print axioms lexCovers_card
end Go.Proofs.YtjjmammoapggkaaGreatDoor
