/- The ideal machine and its evaluators, part 3; no conditions. -/
import Derived.RangeFuncRecord
import Derived.ChangeKeysEq
import Derived.Laws.BytesString
import Derived.Laws.Runes
import Derived.Stop.Asserts
import Derived.Laws.Externs
import Derived.KernelRfl
import Derived.Test.YtpmmjjnflnfkpaaDoorIdlB
set_option linter.unusedSectionVars false
set_option linter.unusedVariables false
set_option linter.unusedSimpArgs false
namespace Go.Idl
variable [Globs]
variable {P : Program} {o : Oper} {a : Act} {g : Gh} {O : List Nat} {w : World} {s : St} {res : Res} {cf : CallF}
theorem repl_get {zs : List IVal} (hz : 0 < zs.length) : ∀ (n k : Nat), k < n * zs.length -> (repl n zs)[k]? = zs[k % zs.length]? := by
 intro n
 induction n with
 | zero => intro k hk; simp at hk
 | succ n ih =>
   intro k hk
   have e : repl (n + 1) zs = zs ++ repl n zs := by simp [repl, List.replicate_succ]
   rw [e]
   by_cases h : k < zs.length
   . rw [List.getElem?_append_left h, Nat.mod_eq_of_lt h]
   . rw [List.getElem?_append_right (by omega), ih (k - zs.length) (by rw [Nat.add_mul] at hk; omega)]
     congr 1
     exact (Nat.mod_eq_sub_mod (by omega)).symm
theorem repl_len (n : Nat) (zs : List IVal) : (repl n zs).length = n * zs.length := by simp [repl]
theorem wrap_small {n : Int} (h0 : 0 <= n) (h : n <= 1099511627776) : IntKind.i64.wrap n = n := by
 have e : n % (18446744073709551616 : Int) = n := Int.emod_eq_of_lt h0 (by omega)
 show (if (true && decide (n % (18446744073709551616 : Int) ≥ 9223372036854775808)) = true then n % (18446744073709551616 : Int) - 18446744073709551616 else n % (18446744073709551616 : Int)) = n
 rw [e, if_neg]
 simp; omega
theorem run_makeSlice' {T E : TypeId} {i : TypeInfo} {z : Value} {l c : Nat} {k k' : IntKind} (hT : P.underlying T = some (.slice E)) (hi : P.info? E = some i) (hz : i.zero = some z) (hlc : l <= c) (hb : c * i.bytes <= 1099511627776) (hc : c <= 1099511627776) :
   (Instr.makeSlice T (.int k l) (.int k' c)).run P w = .ok (.slice (some ⟨w.heap.size, 0, none⟩) l c) (w.alloc (.cells ((Array.range (c * i.size)).map (fun j => z.cells[j % z.cells.size]!)) E)) := by
 have h1 : IntKind.i64.wrap (l : Int) = l := wrap_small (by omega) (by omega)
 have h2 : IntKind.i64.wrap (c : Int) = c := wrap_small (by omega) (by omega)
 have h3 : ¬ ((i.bytes : Int) * (c : Int) > 281474976710656) := by
   have : ((c * i.bytes : Nat) : Int) <= 1099511627776 := by omega
   rw [Int.natCast_mul, Int.mul_comm] at this
   omega
 have h4 : (decide ((c : Int) < 0) || decide ((i.bytes : Int) * (c : Int) > 281474976710656) || decide ((l : Int) < 0) || decide ((l : Int) > (c : Int))) = false := by
   simp only [Bool.or_eq_false_iff, decide_eq_false_iff_not]
   refine ⟨⟨⟨by omega, h3⟩, by omega⟩, by omega⟩
 simp only [Instr.makeSlice, Sem.run_bind, run_und hT, Result.andThen_ok, asInt, asIntOf, Sem.run_pure, typeInfo, run_program, hi, h1, h2]
 simp only [show (2 : Int) ^ 48 = 281474976710656 from rfl] at *
 rw [if_neg (by simpa using h4)]
 by_cases hn : c * i.size = 0
 . have h00 : Array.map (fun x : Nat => (default : Value)) (Array.range 0) = #[] := Array.eq_empty_of_size_eq_zero (by simp)
   have h01 : Array.map (fun j : Nat => z.cells[j % z.cells.size]!) (Array.range 0) = #[] := Array.eq_empty_of_size_eq_zero (by simp)
   simp [run_sizeOf hi, hn, newRow, h00, h01]
 . simp [run_sizeOf hi, hn, newRow, zeroValue, typeInfo, hi, hz]
def elemL (l : List Value) : Value := match l with
 | [c] => c
 | l => .agg l.toArray
def elemV (z : Value) : Value := elemL z.cells.toList
theorem elemL_cells : ∀ {l : List Value}, (∀ c, l = [c] -> c.cells = #[c]) -> (elemL l).cells = l.toArray
 | [], _ => rfl
 | [c], h => h c rfl
 | _ :: _ :: _, _ => rfl
theorem elem_V {g : Gh} {zs : List IVal} {z : Value} (hc : cOKs zs z.cells.toList = true) : V g (elemZ zs) (elemV z) := by
 obtain ⟨z1, z2⟩ := cOKs_V g hc
 have hagg : V g (.agg (zs.map un1)) (.agg z.cells.toList.toArray) := by
   refine .agg _ _ (by simpa using z1) (fun i x v hx hv => ?_) (fun x hx => ?_)
   . simp only [List.getElem?_map, Option.map_eq_some_iff] at hx
     obtain ⟨x', hx', rfl⟩ := hx
     exact (z2 i x' v hx' (by simpa using hv)).1.un1
   . simp only [List.mem_map] at hx
     obtain ⟨x', hx', rfl⟩ := hx
     obtain ⟨j, hj⟩ := mem_idx hx'
     obtain ⟨v, hv⟩ := get_of_len z1 hj
     rw [isCell_un1]; exact (z2 j x' v hj hv).2.2
 cases hzs : zs with
 | nil =>
   rw [hzs] at z1 hagg
   have e : z.cells.toList = [] := List.length_eq_zero_iff.1 z1.symm
   simp only [elemZ, elemV, elemL, e]
   simpa [e] using hagg
 | cons x xs =>
   cases hxs : xs with
   | nil =>
     rw [hzs, hxs] at z1 z2
     obtain ⟨c, e⟩ := List.length_eq_one_iff.1 z1.symm
     simp only [elemZ, elemV, elemL, e]
     exact (z2 0 x c rfl (by simp [e])).1.un1
   | cons y ys =>
     rw [hzs, hxs] at z1 hagg
     cases e : z.cells.toList with
     | nil => simp [e] at z1
     | cons c cs =>
       cases e2 : cs with
       | nil => simp [e, e2] at z1
       | cons d ds =>
         simp only [elemZ, elemV, elemL, e, e2]
         simpa [e, e2] using hagg
theorem elemV_cells {g : Gh} {zs : List IVal} {z : Value} (hc : cOKs zs z.cells.toList = true) : (elemV z).cells = z.cells := by
 obtain ⟨z1, z2⟩ := cOKs_V g hc
 have := elemL_cells (l := z.cells.toList) (fun c e => by
   rw [e] at z1 z2
   obtain ⟨x, hx⟩ : ∃ x, zs[0]? = some x := ⟨zs[0]'(by rw [z1]; simp), by simp⟩
   have hV := z2 0 x c hx rfl
   have h9 := hV.1.isCell
   rw [hV.2.2] at h9
   cases c <;> first | rfl | (simp [isCellV] at h9))
 simpa [elemV] using this
theorem elem_flat {g : Gh} {zs : List IVal} {z : Value} (hc : cOKs zs z.cells.toList = true) : Flat (elemZ zs) := by
 obtain ⟨z1, z2⟩ := cOKs_V g hc
 have hagg : Flat (.agg (zs.map Idl.un1)) := by
   refine ⟨?_, rfl⟩
   simp only [un2, List.map_map]
   congr 1
   apply List.map_congr_left
   intro x _
   exact un1_un1 x
 cases zs with
 | nil => exact hagg
 | cons x xs =>
   cases xs with
   | cons y ys => exact hagg
   | nil =>
     obtain ⟨c, e⟩ := List.length_eq_one_iff.1 z1.symm
     have := (z2 0 x c rfl (by simp [e])).2.2
     have h1 : (Idl.un1 x).isCell = true := by rw [isCell_un1]; exact this
     have h2 := un1_un1 x
     show Flat (Idl.un1 x)
     revert h1 h2
     cases Idl.un1 x <;> simp [Flat, un2, nt, IVal.isCell]
theorem flatV_rep (n : Nat) (v : Value) : flatV (List.replicate n v) = (List.replicate n v.cells.toList).flatten := by
 simp [flatV, List.flatMap]
theorem flat_rep_get {α : Type} {l : List α} (hl : 0 < l.length) : ∀ (n k : Nat), k < n * l.length -> (List.replicate n l).flatten[k]? = l[k % l.length]? := by
 intro n
 induction n with
 | zero => intro k hk; simp at hk
 | succ n ih =>
   intro k hk
   have e : (List.replicate (n + 1) l).flatten = l ++ (List.replicate n l).flatten := by simp [List.replicate_succ]
   rw [e]
   by_cases h : k < l.length
   . rw [List.getElem?_append_left h, Nat.mod_eq_of_lt h]
   . rw [List.getElem?_append_right (by omega), ih (k - l.length) (by rw [Nat.add_mul] at hk; omega)]
     congr 1
     exact (Nat.mod_eq_sub_mod (by omega)).symm
theorem sim_mkSl {byref : Bool} {zs : List IVal} {x y : Opd} {rx ry : Operand} {T E : TypeId} {i : TypeInfo} {z : Value} (hop : o.op = .makeSlice T rx ry) (hx : opdOK x rx = true) (hy : opdOK y ry = true) (hT : P.underlying T = some (.slice E)) (hi : P.info? E = some i) (hz : i.zero = some z)
   (hc : cOKs zs z.cells.toList = true) (hzs : z.cells.size = i.size) (hs : stepOp cf (.mkSl byref i.size i.bytes zs x y) s = some res) (hl : WT s.ts a.tmps) (hR : R g O (s.ts.roots a.tmps) s.σ w) : SimV P o a g O w s res := by
 simp only [stepOp] at hs
 split at hs
 . rename_i k l ts h
   split at hs
   . rename_i k' c ts' h'
     split at hs
     . rename_i hcond
       obtain ⟨c1, c2, c3, c4, c5, c6⟩ := hcond
       obtain ⟨h1, h2⟩ := get_sim (l := []) hx h hl hR
       obtain ⟨h3, h4⟩ := get_sim (l := [(.int k l, a.eval rx)]) hy h' h2 h1
       obtain ⟨ln, rfl⟩ := Int.eq_ofNat_of_zero_le c1
       obtain ⟨cn, rfl⟩ := Int.eq_ofNat_of_zero_le (Int.le_trans c1 c2)
       have hb : cn * i.bytes <= 1099511627776 := by
         have h9 := c3
         rw [<- Int.natCast_mul] at h9
         omega
       have hrun := run_makeSlice' (P := P) (w := w) (l := ln) (c := cn) (k := k) (k' := k') hT hi hz (by omega) hb (by omega)
       have hexec : ∀ r w', (Instr.makeSlice T (.int k ln) (.int k' cn)).run P w = .ok r w' -> (execOp a.eval o).run P w = .ok (.value r) w' := by
         intro r w' hr
         have e1 := h3.head.int_inv
         have e2 := h3.drop.head.int_inv
         simp only [execOp, hop, e1, e2]
         simp [hr]
       obtain ⟨z1, z2⟩ := cOKs_V (g.fresh w.heap.size) hc
       have hroot : R g O (ts'.roots a.tmps) s.σ w := h3.drop.drop
       split at hs
       . simp only [Option.some.injEq] at hs
         subst hs
         have hcells : ∀ (j : Nat) x v, (repl cn zs)[j]? = some x -> ((Array.range (cn * i.size)).map (fun j => z.cells[j % z.cells.size]!))[j]? = some v -> V (g.fresh w.heap.size) x v /\ own1 x v = [] /\ x.isCell = true := by
           intro j x v hx hv
           have hj : j < cn * zs.length := by rw [<- repl_len]; exact lt_of_get hx
           rw [repl_get (by omega) cn j hj] at hx
           simp only [Array.getElem?_map, Array.getElem?_range] at hv
           rw [c5] at hj
           rw [if_pos hj] at hv
           simp only [Option.map_some, Option.some.injEq] at hv
           have hmod : j % z.cells.size < z.cells.size := Nat.mod_lt _ (by omega)
           refine z2 (j % zs.length) x v hx ?_
           rw [<- hv]
           have : zs.length = z.cells.size := by omega
           rw [this]
           simp [getElem!_pos, hmod]
         have hnew := (hroot.push (undef_V g) rfl).new (obr := .cells ((Array.range (cn * i.size)).map (fun j => z.cells[j % z.cells.size]!)) E) (ob := .cells (repl cn zs)) (fun _ =>
           ⟨_, E, alloc_new w _, by simp [repl_len, c5], fun j x v hx hv => ⟨(hcells j x v hx hv).1, (hcells j x v hx hv).2.2⟩⟩) ⟨[], by
           simp only [ownO, blockCells_new]
           rw [flatten_nil]
           intro cc hcm
           obtain ⟨j, x, y, h1, h2, rfl⟩ := mem_zipWith hcm
           exact (hcells j x y h1 (by rw [<- Array.getElem?_toList]; exact h2)).2.1, by simp⟩
         refine ⟨rfl, _, _, _, hexec _ _ hrun, rfl, _, w.heap.size :: O, [], (growFresh hR _).trans (Grow.setZ _ _ _ _ _), (hnew.setZ (z := cn * i.size) (alloc_new w _) (by simp)).push (.rs _ _ _ _ _ _ ?_ (by exact_mod_cast c2) (by rw [Nat.zero_add]; exact setZ_ge _ _ _)) rfl, h4, rfl, Keep.snoc _ _⟩
         simp [Gh.fresh, Gh.setZ, <- hR.len]
       . split at hs
         . rename_i hq
           simp only [rv, Option.some.injEq] at hs
           subst hs
           have hfz : (flatV (List.replicate ln (elemV z))).length = ln * i.size := by
             rw [flatV_len (esz := i.size)]
             . simp
             . intro v hv; rw [List.eq_of_mem_replicate hv, elemV_cells (g := g) hc]; exact hzs
           obtain ⟨g', O', hR', hg, hι⟩ := hroot.newSlice (xs := List.replicate ln (elemZ zs)) (vs := List.replicate ln (elemV z)) (esz := i.size) (cap := cn) (own := mkOwn i.size ln cn) (rf := false)
             (c := (Array.range (cn * i.size)).map (fun j => z.cells[j % z.cells.size]!)) (el := E) (fz := (0, 0)) (by simp) (fun j x v hx hv => by
               rw [List.eq_of_mem_replicate (List.mem_of_getElem? hx), List.eq_of_mem_replicate (List.mem_of_getElem? hv)]
               exact elem_V hc) (fun x hx => by rw [List.eq_of_mem_replicate hx]; exact elem_flat (g := g) hc) (fun _ x hx => by rw [List.eq_of_mem_replicate hx]; exact hq.1)
             (fun v hv => by rw [List.eq_of_mem_replicate hv, elemV_cells (g := g) hc]; exact hzs) (fun k v hk => by
               have hk' := lt_of_get hk
               rw [hfz] at hk'
               rw [flatV_rep, elemV_cells (g := g) hc, flat_rep_get (by simp [hzs]; omega) ln k (by simpa [hzs] using hk')] at hk
               have hk2 : k < cn * i.size := Nat.lt_of_lt_of_le hk' (Nat.mul_le_mul_right _ (by omega))
               simp only [Array.getElem?_map, Array.getElem?_range, if_pos hk2, Option.map_some]
               have hmod : k % z.cells.size < z.cells.size := Nat.mod_lt _ (by omega)
               rw [<- hk]
               simp [getElem!_pos, hmod]) (by simp; omega) (by simp) (by unfold mkOwn; split; exact .inl rfl; exact .inr rfl) (by simp) (by simpa using hfz) (fun h0 he => by
               have e0 : ln = 0 := by simpa using he
               by_cases hcn : cn = 0
               . exact hcn
               . exfalso; apply h0; unfold mkOwn; rw [if_pos]; exact ⟨by omega, by omega⟩)
           simp only [List.length_replicate] at hR'
           exact ⟨rfl, _, _, _, hexec _ _ hrun, rfl, g', O', [], hg, hR', h4, rfl, Keep.refl _⟩
         . cases hs
     . cases hs
   . cases hs
 . cases hs
end Go.Idl
namespace Go.Idl
variable [Globs]
variable {P : Program} {o : Oper} {a : Act} {g : Gh} {O : List Nat} {w : World} {s : St} {res : Res} {cf : CallF}
theorem ownL_append (l l' : Roots) : ownL (l ++ l') = ownL l ++ ownL l' := by simp [ownL]
theorem R.sub_own {A l : Roots} {σ : List IObj} (h : R g O (A ++ l) σ w) : R g (ownL A ++ ownS w g.ι σ) A σ w := by
 have hn := h.nodup
 have hs := h.sub
 rw [ownL_append] at hn hs
 have hsub : (ownL A ++ ownS w g.ι σ).Sublist (ownL A ++ ownL l ++ ownS w g.ι σ) := by
   rw [List.append_assoc]; exact List.Sublist.append (.refl _) (List.sublist_append_right _ _)
 have hO : ∀ b ∈ ownL A ++ ownS w g.ι σ, b ∈ O := fun b hb => hs b (hsub.mem hb)
 exact ⟨h.len, fun p hp => h.vals p (by simp [hp]), h.objs, hn.sublist hsub, fun b hb => hb, fun b hb => h.lt b (hO b hb), h.claim, h.apart, fun b hb => h.spare b (hO b hb), h.glob, h.zs⟩
theorem R.frame {A A' l : Roots} {σ σ' : List IObj} {g' : Gh} {Oa' : List Nat} {w' : World} (h : R g O (A ++ l) σ w) (hg : Grow (ownL A ++ ownS w g.ι σ) g w Oa' g' w') (h' : R g' Oa' A' σ' w') :
   ∃ O', R g' O' (A' ++ l) σ' w' /\ Grow O g w O' g' w' := by
 have hn := h.nodup
 have hs := h.sub
 rw [ownL_append] at hn hs
 have hOa : ∀ b ∈ ownL A ++ ownS w g.ι σ, b ∈ O := fun b hb => hs b (by
   rcases List.mem_append.1 hb with hb | hb
   . simp [hb]
   . simp [hb])
 have hlO : ∀ b ∈ ownL l, b ∈ O := fun b hb => hs b (by simp [hb])
 have hdis : ∀ b ∈ ownL l, b ∉ ownL A ++ ownS w g.ι σ := by
   intro b hb hm
   rw [List.nodup_append] at hn
   obtain ⟨h1, h2, h3⟩ := hn
   rw [List.nodup_append] at h1
   rcases List.mem_append.1 hm with hm | hm
   . exact h1.2.2 b hm b hb rfl
   . exact h3 b (by simp [hb]) b hm rfl
 have hdis' : ∀ b ∈ ownL l, b ∉ Oa' := by
   intro b hb hm
   rcases hg.fresh b hm with h1 | h1
   . exact hdis b hb h1
   . have := h.lt b (hlO b hb); omega
 refine ⟨Oa' ++ O.filter (fun b => decide (b ∉ ownL A ++ ownS w g.ι σ)), ⟨h'.len, fun p hp => ?_, h'.objs, ?_, fun b hb => ?_, fun b hb => ?_, h'.claim, h'.apart, fun b hb => ?_, h'.glob, h'.zs⟩, ⟨hg.size, fun b hb hO => hg.same b hb (fun hm => hO (hOa b hm)), hg.mono, hg.pre, fun b hb => ?_, hg.code, hg.os, hg.tape, hg.output, hg.zm⟩⟩
 . rcases List.mem_append.1 hp with hp | hp
   . exact h'.vals p hp
   . have hpl : ∀ b ∈ own3 p.1 p.2, b ∈ ownL l := fun b hb => by
       simp only [ownL, List.mem_flatten, List.mem_map]; exact ⟨_, ⟨p, hp, rfl⟩, hb⟩
     exact (h.vals p (by simp [hp])).mono hg.pre hg.mono (fun b hb => (hg.same b (h.lt b (hlO b (hpl b hb))) (hdis b (hpl b hb))).2.1) hg.zm
 . rw [ownL_append, List.append_assoc]
   have h1 := h'.nodup
   have h2 : (ownL l).Nodup := (List.nodup_append.1 (List.nodup_append.1 hn).1).2.1
   have hp : (ownL A' ++ (ownL l ++ ownS w' g'.ι σ')).Perm (ownL l ++ (ownL A' ++ ownS w' g'.ι σ')) := by
     rw [<- List.append_assoc, <- List.append_assoc]
     exact List.perm_append_comm.append_right _
   rw [hp.nodup_iff, List.nodup_append]
   exact ⟨h2, h1, fun b hb c hc e => hdis' b hb (e ▸ h'.sub c hc)⟩
 . rw [ownL_append] at hb
   simp only [List.mem_append] at hb
   rcases hb with (hb | hb) | hb
   . exact List.mem_append_left _ (h'.sub b (by simp [hb]))
   . refine List.mem_append_right _ (List.mem_filter.2 ⟨hlO b hb, ?_⟩)
     simpa using hdis b hb
   . exact List.mem_append_left _ (h'.sub b (by simp [hb]))
 . rcases List.mem_append.1 hb with hb | hb
   . exact h'.lt b hb
   . exact Nat.lt_of_lt_of_le (h.lt b (List.mem_filter.1 hb).1) hg.size
 . rcases List.mem_append.1 hb with hb | hb
   . exact h'.spare b hb
   . obtain ⟨hbO, hbn⟩ := List.mem_filter.1 hb
     have hbn' : b ∉ ownL A ++ ownS w g.ι σ := by simpa using hbn
     obtain ⟨e1, e2, e3⟩ := hg.same b (h.lt b hbO) hbn'
     intro ext top ht
     rw [e2] at ht
     obtain ⟨⟨c, el, fz, q1, q2, q3⟩, q4⟩ := h.spare b hbO ext top ht
     exact ⟨⟨c, el, fz, by rw [e1]; exact q1, q2, q3⟩, fun o ho => by rw [e3]; exact q4 o ho⟩
 . rcases List.mem_append.1 hb with hb | hb
   . rcases hg.fresh b hb with h1 | h1
     . exact .inl (hOa b h1)
     . exact .inr h1
   . exact .inl (List.mem_filter.1 hb).1
def WF (ρ : Option Nat) : Fence := { Fence.wide with round := ρ }
def endOf (pan : Bool) (v : Value) : Ending := if pan then .panicked [{ v, recovered := false }] else .returned v
def Callable (P : Program) (f : FuncId) : Prop := ∃ fn, P.funcs[f]? = some fn /\ fn.name ≠ "runtime.NumGoroutine" /\ fn.body ≠ none
def CallPost (g : Gh) (O : List Nat) (w : World) (σ : List IObj) (out : Out) (e : Ending) (w' : World) : Prop :=
 ∃ g' O' v', e = endOf out.pan v' /\ Grow O g w O' g' w' /\ R g' O' [(out.v, v')] out.σ w' /\ Keep σ out.σ out.wr
abbrev CRel := Nat -> Nat -> Nat -> Code -> ICode -> Prop
def setParams (r : Loop) (rargs : Array Value) : Array Value := (r.params.zip rargs).foldl (fun tmps (t, a) => tmps.setIfInBounds t a) r.tmps
structure CallOK (P : Program) (C0 : CRel) (cf : CallF) : Prop where
 fn : ∀ f args σ out, cf (.f f) args σ = some out -> Callable P f /\
   ∀ g O (rargs : Array Value) w, g.C = C0 -> args.length = rargs.toList.length -> R g O (args.zip rargs.toList) σ w -> CallsIn Fence.wide 0 P f rargs w (CallPost g O w σ out)
 yl : ∀ id args σ out, cf (.y id) args σ = some out -> ∀ g O (rargs : Array Value) w b, g.C = C0 -> g.ι[id]? = some b -> args.length = rargs.toList.length -> R g O (args.zip rargs.toList) σ w ->
   ∃ r : Loop, w.heap[b]? = some (.loop r) /\ rargs.size = r.params.size /\ RoundIn Fence.wide 0 P b r.fn (setParams r rargs) r.assign r.body w (CallPost g O w σ out)
theorem roundIn_WF {ρ : Option Nat} {n l : Nat} {f : FuncId} {tmps : Array Value} {x y : Code} {R : Ending -> World -> Prop} (h : RoundIn Fence.wide 0 P l f tmps x y w R) : RoundIn (WF ρ) n P l f tmps x y w R :=
 ⟨trivial, fun c cs _ => h.2 c cs (room_wide _)⟩
theorem callsIn_WF {ρ : Option Nat} {n : Nat} {f : FuncId} {args : Array Value} {R : Ending -> World -> Prop} (h : CallsIn Fence.wide 0 P f args w R) : CallsIn (WF ρ) n P f args w R := by
 cases ρ with
 | none => exact h.more (Nat.zero_le _)
 | some l => exact (h.more (Nat.zero_le _)).inRound l
def OpRes (P : Program) (o : Oper) (a : Act) (g : Gh) (O : List Nat) (w : World) (s : St) (res : Res) : Prop :=
 ∀ (ρ : Option Nat) (n : Nat) (next : Act -> World -> Prop) (Q : Exit -> Act -> World -> Prop),
   (res.pan = false -> ∀ v' w', Post g O w s res.v v' res.s a w' -> next (a.put o.dst v') w') ->
   (res.pan = true -> ∀ v' w', Post g O w s res.v v' res.s a w' -> Q (.panic [{ v := v', recovered := false }]) a w') ->
   o.wpIn (WF ρ) n P a w next Q
theorem OpRes.of_val (h : SimV P o a g O w s res) (hd : ∀ c, o.op ≠ .defer c) : OpRes P o a g O w s res := by
 intro ρ n next Q h1 _
 obtain ⟨hp, v', w', nx, hrun, hnx, hpost⟩ := h
 refine ⟨fun _ _ => trivial, ?_⟩
 rw [Oper.semAt_eq _ _ _ hd, hrun]
 cases nx with
 | value u => simp only [nxVal] at hnx; subst hnx; exact h1 hp _ _ hpost
 | skip => simp only [nxVal] at hnx; subst hnx; exact h1 hp _ _ hpost
 | _ => exact absurd hnx (by simp [nxVal])
theorem opRes_call {f : FuncId} {vs : List IVal} {ts : Ts} {rargs : Array Value} {C0 : CRel} (hcf : CallOK P C0 cf) (hC : g.C = C0) (hd : ∀ c, o.op ≠ .defer c) (hrun : Callable P f -> (execOp a.eval o).run P w = .ok (.enter f rargs) w) (hlen : vs.length = rargs.toList.length)
   (hR : R g O (vs.zip rargs.toList ++ ts.roots a.tmps) s.σ w) (hl : WT ts a.tmps) (hs : stepCall cf (.f f) vs ts s = some res) : OpRes P o a g O w s res := by
 intro ρ n next Q h1 h2
 unfold stepCall at hs
 split at hs
 . rename_i out hout
   simp only [Option.some.injEq] at hs
   subst hs
   obtain ⟨hcall, hc⟩ := hcf.fn f vs s.σ out hout
   refine ⟨fun _ _ => trivial, ?_⟩
   rw [Oper.semAt_eq _ _ _ hd, hrun hcall, Oper.uponIn_enter]
   refine ⟨fun h => by simp [WF, Fence.wide] at h, ?_⟩
   refine callsIn_WF ((hc g _ rargs w hC hlen hR.sub_own).mono ?_)
   rintro e w' ⟨g', O', v', rfl, hg, hR', hk⟩
   obtain ⟨O'', hR'', hg''⟩ := hR.frame hg hR'
   have hpost : Post g O w s out.v v' (addOut out s ts).s a w' := ⟨g', O'', out.wr, hg'', by simpa [addOut] using hR'', hl, rfl, hk⟩
   cases hpan : out.pan with
   | false =>
     have : endOf false v' = .returned v' := rfl
     rw [this]
     exact h1 (by simp [addOut, hpan]) _ _ hpost
   | true =>
     have : endOf true v' = .panicked [{ v := v', recovered := false }] := rfl
     rw [this]
     exact h2 (by simp [addOut, hpan]) _ _ hpost
 . cases hs
theorem opRes_yield {id b : Nat} {vs : List IVal} {ts : Ts} {rargs : Array Value} {C0 : CRel} (hcf : CallOK P C0 cf) (hC : g.C = C0) (hd : ∀ c, o.op ≠ .defer c)
   (hrun : ∀ r : Loop, w.heap[b]? = some (.loop r) -> rargs.size = r.params.size -> (execOp a.eval o).run P w = .ok (.round b r.fn (setParams r rargs) r.assign r.body) w) (hι : g.ι[id]? = some b) (hlen : vs.length = rargs.toList.length)
   (hR : R g O (vs.zip rargs.toList ++ ts.roots a.tmps) s.σ w) (hl : WT ts a.tmps) (hs : stepCall cf (.y id) vs ts s = some res) : OpRes P o a g O w s res := by
 intro ρ n next Q h1 h2
 unfold stepCall at hs
 split at hs
 . rename_i out hout
   simp only [Option.some.injEq] at hs
   subst hs
   obtain ⟨r, q1, q2, q3⟩ := hcf.yl id vs s.σ out hout g _ rargs w b hC hι hlen hR.sub_own
   refine ⟨fun _ _ => trivial, ?_⟩
   rw [Oper.semAt_eq _ _ _ hd, hrun r q1 q2, Oper.uponIn_round]
   refine ⟨fun h => by simp [WF, Fence.wide] at h, ?_⟩
   refine roundIn_WF (q3.mono ?_)
   rintro e w' ⟨g', O', v', rfl, hg, hR', hk⟩
   obtain ⟨O'', hR'', hg''⟩ := hR.frame hg hR'
   have hpost : Post g O w s out.v v' (addOut out s ts).s a w' := ⟨g', O'', out.wr, hg'', by simpa [addOut] using hR'', hl, rfl, hk⟩
   cases hpan : out.pan with
   | false =>
     have : endOf false v' = .returned v' := rfl
     rw [this]
     exact h1 (by simp [addOut, hpan]) _ _ hpost
   | true =>
     have : endOf true v' = .panicked [{ v := v', recovered := false }] := rfl
     rw [this]
     exact h2 (by simp [addOut, hpan]) _ _ hpost
 . cases hs
theorem run_yieldOp {c : Call} {r : Operand} {b : Nat} {L : Loop} (hop : o.op = .call c) (hc : c.callee = .value r) (hr : a.eval r = .func (.yield b) #[] #[]) (h : w.heap[b]? = some (.loop L)) (hs : (c.args.map a.eval).size = L.params.size) :
   (execOp a.eval o).run P w = .ok (.round b L.fn (setParams L (c.args.map a.eval)) L.assign L.body) w := by
 have := run_yield (P := P) (w := w) (args := c.args.map a.eval) h hs
 simp [execOp, hop, resolve, hc, hr, Deferred.ofValue, invoke, setParams, this]
theorem run_call {f : FuncId} {c : Call} {args : Array Value} {caps firsts : Array Value} (hop : o.op = .call c) {r : Operand} (hc : c.callee = .value r) (hr : a.eval r = .func (.func f) firsts caps) (hf : Callable P f) :
   (execOp a.eval o).run P w = .ok (.enter f (firsts ++ c.args.map a.eval ++ caps)) w := by
 obtain ⟨fn, h1, h2, h3⟩ := hf
 simp [execOp, hop, resolve, hc, hr, Deferred.ofValue, invoke, callFunc, h1, h2, h3]
theorem opRes_callStatic {f : FuncId} {c : Call} {xs : List Opd} {C0 : CRel} (hcf : CallOK P C0 cf) (hC : g.C = C0) (hop : o.op = .call c) (hc : c.callee = .value (.func f)) (hx : opdsOK xs c.args.toList = true) (hs : stepOp cf (.call f xs) s = some res)
   (hl : WT s.ts a.tmps) (hR : R g O (s.ts.roots a.tmps) s.σ w) : OpRes P o a g O w s res := by
 simp only [stepOp] at hs
 split at hs
 . rename_i vs ts h
   obtain ⟨h1, h2, h3⟩ := getAll_sim (l := []) hx h hl hR
   refine opRes_call (rargs := c.args.map a.eval) hcf hC (fun c' h => by rw [hop] at h; cases h) (fun hf => ?_) (by simpa using h3) (by simpa using h1) h2 hs
   rw [run_call (args := #[]) hop hc (f := f) (firsts := #[]) (caps := #[]) rfl hf]
   simp
 . cases hs
theorem opRes_callv {c : Call} {r : Operand} {x : Opd} {xs : List Opd} {C0 : CRel} (hcf : CallOK P C0 cf) (hC : g.C = C0) (hop : o.op = .call c) (hc : c.callee = .value r) (hr : opdOK x r = true) (hx : opdsOK xs c.args.toList = true) (hs : stepOp cf (.callv x xs) s = some res)
   (hl : WT s.ts a.tmps) (hR : R g O (s.ts.roots a.tmps) s.σ w) : OpRes P o a g O w s res := by
 simp only [stepOp] at hs
 split at hs
 . rename_i gf us ws ts h
   split at hs
   . rename_i vs ts' h'
     obtain ⟨h1, h2⟩ := get_sim (l := []) hr h hl hR
     obtain ⟨h3, h4, h5⟩ := getAll_sim (l := [(.fn (.func gf) us ws, a.eval r)]) hx h' h2 h1
     have hV : V g (.fn (.func gf) us ws) (a.eval r) := h3.vals (.fn (.func gf) us ws, a.eval r) (by simp)
     generalize hrv : a.eval r = rv at hV h3
     cases hV with
     | fn _ _ _ firsts caps hl1 hv1 hf1 hl2 hv2 hf2 =>
     refine opRes_call (rargs := firsts ++ c.args.map a.eval ++ caps) hcf hC (fun c' h => by rw [hop] at h; cases h) (fun hf => run_call (args := #[]) hop hc hrv hf) (by simp at h5 ⊢; omega) ?_ h4 hs
     have hz : (us ++ vs ++ ws).zip (firsts ++ c.args.map a.eval ++ caps).toList = us.zip firsts.toList ++ vs.zip (c.args.toList.map a.eval) ++ ws.zip caps.toList := by
       simp only [Array.toList_append, Array.toList_map]
       rw [List.zip_append (by simp at h5 ⊢; omega), List.zip_append (by simpa using hl1)]
     rw [hz]
     have hbase : R g O (vs.zip (c.args.toList.map a.eval) ++ ts'.roots a.tmps) s.σ w := by
       have hp : (vs.zip (c.args.toList.map a.eval) ++ ([(IVal.fn (.func gf) us ws, Value.func (.func gf) firsts caps)] ++ ts'.roots a.tmps)).Perm ((IVal.fn (.func gf) us ws, Value.func (.func gf) firsts caps) :: (vs.zip (c.args.toList.map a.eval) ++ ts'.roots a.tmps)) := List.perm_middle
       exact (h3.perm hp).drop
     have hpush : ∀ (l0 : Roots) (xs : List IVal) (vs : List Value), xs.length = vs.length -> (∀ (i : Nat) x v, xs[i]? = some x -> vs[i]? = some v -> V g x v) -> (∀ x ∈ xs, Flat x) -> R g O l0 s.σ w -> R g O (xs.zip vs ++ l0) s.σ w := by
       intro l0 xs
       induction xs with
       | nil => intro vs _ _ _ h; simpa using h
       | cons x xs ih =>
         intro vs hl hv hf h
         cases vs with
         | nil => simp at hl
         | cons v vs =>
           simp only [List.zip_cons_cons, List.cons_append]
           exact (ih vs (by simpa using hl) (fun i x v hx hw => hv (i + 1) x v (by simpa using hx) (by simpa using hw)) (fun x hx => hf x (by simp [hx])) h).push (hv 0 x v rfl rfl) (own3_flat (hf x (by simp)) v)
     have h6 := hpush _ ws caps.toList (by simpa using hl2) (fun i x v hx hw => hv2 i x v hx (by simpa using hw)) hf2 hbase
     have h7 := hpush _ us firsts.toList (by simpa using hl1) (fun i x v hx hw => hv1 i x v hx (by simpa using hw)) hf1 h6
     refine h7.perm ?_
     rw [List.append_assoc, List.append_assoc]
     refine List.Perm.append_left _ ?_
     rw [<- List.append_assoc, <- List.append_assoc]
     exact List.perm_append_comm.append_right _
   . cases hs
 . rename_i id ts h
   split at hs
   . rename_i vs ts' h'
     obtain ⟨h1, h2⟩ := get_sim (l := []) hr h hl hR
     obtain ⟨h3, h4, h5⟩ := getAll_sim (l := [(.yl id, a.eval r)]) hx h' h2 h1
     have hV : V g (.yl id) (a.eval r) := h3.vals (.yl id, a.eval r) (by simp)
     generalize hrv : a.eval r = rv at hV h3
     cases hV with
     | yl _ b hb =>
     have hbase : R g O (vs.zip (c.args.map a.eval).toList ++ ts'.roots a.tmps) s.σ w := by
       have hp : (vs.zip (c.args.toList.map a.eval) ++ ([(IVal.yl id, Value.func (.yield b) #[] #[])] ++ ts'.roots a.tmps)).Perm ((IVal.yl id, Value.func (.yield b) #[] #[]) :: (vs.zip (c.args.toList.map a.eval) ++ ts'.roots a.tmps)) := List.perm_middle
       simpa using (h3.perm hp).drop
     exact opRes_yield (rargs := c.args.map a.eval) hcf hC (fun c' h => by rw [hop] at h; cases h) (fun L q1 q2 => run_yieldOp hop hc hrv q1 q2) hb (by simpa using h5) hbase h4 hs
   . cases hs
 . cases hs
theorem opRes_callp {f : FuncId} {c : Call} {xs : List Opd} {C0 : CRel} (hcf : CallOK P C0 cf) (hC : g.C = C0) (hop : o.op = .call c) (hc : c.callee = .value (.func f)) (hx : opdsOK xs c.args.toList = true) (hs : stepOp cf (.callp f xs) s = some res)
   (hl : WT s.ts a.tmps) (hR : R g O (s.ts.roots a.tmps) s.σ w) : OpRes P o a g O w s res := by
 simp only [stepOp] at hs
 split at hs
 . rename_i vs ts h
   split at hs
   . rename_i hnr
     split at hs
     . rename_i v σ1 wr1 hout
       split at hs
       . rename_i hnv
         simp only [rv, Option.some.injEq] at hs
         subst hs
         obtain ⟨h1, h2, h3⟩ := getAll_sim (l := []) hx h hl hR
         simp only [List.nil_append] at h1
         obtain ⟨hcall, hcc⟩ := hcf.fn f vs [] _ hout
         intro ρ n next Q n1 _
         refine ⟨fun _ _ => trivial, ?_⟩
         rw [Oper.semAt_eq _ _ _ (fun c' h => by rw [hop] at h; cases h), run_call (args := #[]) hop hc (f := f) (firsts := #[]) (caps := #[]) rfl hcall, Oper.uponIn_enter]
         refine ⟨fun h => by simp [WF, Fence.wide] at h, ?_⟩
         have hsub := h1.sub_own
         have hnl : ∀ p ∈ vs.zip (c.args.toList.map a.eval), V (g.cut 0) p.1 p.2 := by
           intro p hp
           have hm : p.1 ∈ vs := (List.of_mem_zip hp).1
           exact (h1.vals p (by simp [hp])).cut 0 ((h1.vals p (by simp [hp])).norl 0 (nr3_of_nr2 (List.all_eq_true.1 hnr p.1 hm)))
         have hcut : (g.cut 0).ι = [] := by simp [Gh.cut]
         have hOs : ownS w (g.cut 0).ι [] = [] := by simp [ownS]
         have hRa : R (g.cut 0) (ownL (vs.zip (c.args.toList.map a.eval))) (vs.zip (c.args.toList.map a.eval)) [] w := by
           refine ⟨by simp [Gh.cut], hnl, fun id b o h => by rw [hcut] at h; simp at h, ?_, ?_, fun b hb => hsub.lt b (by simp [hb]), h1.claim, fun id b o h => by rw [hcut] at h; simp at h, fun b hb => hsub.spare b (by simp [hb]), h1.glob, h1.zs⟩
           . rw [hOs, List.append_nil]; exact (List.nodup_append.1 hsub.nodup).1
           . rw [hOs, List.append_nil]; exact fun b hb => hb
         have hlen : vs.length = (c.args.map a.eval).toList.length := by simpa using h3
         have hcall' := hcc (g.cut 0) _ (c.args.map a.eval) w hC hlen (by simpa using hRa)
         have e : (#[] : Array Value) ++ c.args.map a.eval ++ #[] = c.args.map a.eval := by simp
         rw [e]
         refine callsIn_WF (hcall'.mono ?_)
         rintro e w' ⟨g', O', v', rfl, hg, hR', hk⟩
         -- the caller's own ghost, with what has come to be known
         let g'' : Gh := { ι := g.ι, M := g'.M, T := g'.T, C := g.C, Z := g'.Z }
         have hV0 : V (g'.cut 0) v v' := (hR'.vals (v, v') (by simp)).cut 0 ((hR'.vals (v, v') (by simp)).norl 0 hnv)
         have hV : V g'' v v' := by
           refine hV0.mono (fun id b hb => by simp [Gh.cut] at hb) (fun _ _ _ h => h) (fun _ _ => rfl) (fun _ => Nat.le_refl _)
         have hgrow : Grow (ownL (vs.zip (c.args.toList.map a.eval)) ++ ownS w g.ι s.σ) g w (ownL [(v, v')] ++ ownS w g.ι s.σ) g'' w' := by
           refine ⟨hg.size, fun b hb hO => hg.same b hb (fun hm => hO (by simp [show b ∈ ownL (vs.zip (c.args.toList.map a.eval)) by simpa using hm])), hg.mono, fun _ _ h => h, fun b hb => ?_, rfl, hg.os, hg.tape, hg.output, hg.zm⟩
           rcases List.mem_append.1 hb with hb | hb
           . rcases hg.fresh b (hR'.sub b (by simp [hb])) with h1 | h1
             . exact .inl (by simp at h1 ⊢; exact .inl h1)
             . exact .inr h1
           . exact .inl (by simp [hb])
         have hSlt : ∀ b ∈ ownS w g.ι s.σ, b < w.heap.size /\ b ∉ ownL (vs.zip (c.args.toList.map a.eval)) := by
           intro b hb
           refine ⟨hsub.lt b (by simp [hb]), fun hm => (List.nodup_append.1 hsub.nodup).2.2 b hm b hb rfl⟩
         have hSsame : ∀ b ∈ ownS w g.ι s.σ, w'.heap[b]? = w.heap[b]? /\ g'.T b = g.T b /\ ∀ o, g'.M b o = g.M b o := by
           intro b hb
           obtain ⟨q1, q2⟩ := hSlt b hb
           exact hg.same b q1 (by simpa using q2)
         have hOO : ∀ (id b : Nat) x, g.ι[id]? = some b -> s.σ[id]? = some x -> ownO w' b x = ownO w b x := by
           intro id b x q1 q2
           by_cases hd : x = .dead
           . subst hd; rfl
           . exact ownO_same (hSsame b (ownS_mem q1 q2 (ownO_head hd))).1 x
         have hS' : ownS w' g.ι s.σ = ownS w g.ι s.σ := by simp only [ownS]; rw [zipWith_congr hOO]
         have hRes : R g'' (ownL [(v, v')] ++ ownS w g.ι s.σ) [(v, v')] s.σ w' := by
           refine ⟨hsub.len, fun p hp => by simp at hp; subst hp; exact hV, fun id b x q1 q2 => ?_, ?_, fun b hb => by rw [hS'] at hb; exact hb, fun b hb => ?_, hR'.claim, fun id b x q1 q2 hm k => ?_, fun b hb => ?_, hR'.glob, hR'.zs⟩
           . by_cases hd : x = .dead
             . subst hd; trivial
             . exact (hsub.objs id b x q1 q2).mono (hSsame b (ownS_mem q1 q2 (ownO_head hd))).1 (fun _ _ h => h) hg.mono rfl (fun b' hb' => (hSsame b' (ownS_mem q1 q2 hb')).2.1) hg.zm
           . rw [hS', List.nodup_append]
             refine ⟨(List.nodup_append.1 hR'.nodup).1, (List.nodup_append.1 hsub.nodup).2.1, fun b hb c hc e => ?_⟩
             subst e
             obtain ⟨q1, q2⟩ := hSlt b hc
             rcases hg.fresh b (hR'.sub b (by simp [hb])) with h1 | h1
             . exact q2 (by simpa using h1)
             . omega
           . rcases List.mem_append.1 hb with hb | hb
             . exact hR'.lt b (hR'.sub b (by simp [hb]))
             . exact Nat.lt_of_lt_of_le (hSlt b hb).1 hg.size
           . rw [hOO id b x q1 q2] at hm
             rw [(hSsame b (ownS_mem q1 q2 hm)).2.2 k]
             exact hsub.apart id b x q1 q2 hm k
           . rcases List.mem_append.1 hb with hb | hb
             . exact hR'.spare b (hR'.sub b (by simp [hb]))
             . obtain ⟨e1, e2, e3⟩ := hSsame b hb
               intro ext top ht
               have ht' : g.T b = some (ext, top) := by rw [<- e2]; exact ht
               obtain ⟨⟨c, el, fz, q1, q2, q3⟩, q4⟩ := hsub.spare b (by simp [hb]) ext top ht'
               exact ⟨⟨c, el, fz, by rw [e1]; exact q1, q2, q3⟩, fun o ho => by show g'.M b o = none; rw [e3]; exact q4 o ho⟩
         obtain ⟨O'', hR'', hg''⟩ := h1.frame hgrow hRes
         exact n1 rfl _ _ ⟨g'', O'', [], hg'', by simpa using hR'', h2, rfl, Keep.refl _⟩
       . cases hs
     . cases hs
   . cases hs
 . cases hs
end Go.Idl
namespace Go.Idl
variable [Globs]
variable {P : Program} {g : Gh} {w : World}
def layF (P : Program) (fl : TypeId -> Option (List Nat)) : Nat -> List Field -> Option (List Nat)
 | _, [] => some []
 | off, f :: fs => if f.name != "_" && f.offset == off then match fl f.type, P.info? f.type with
   | some ks, some i => if ks.length == i.size then match layF P fl (off + i.size) fs with
     | some r => some (ks ++ r)
     | none => none
     else none
   | _, _ => none
   else none
def flatT (P : Program) : Nat -> TypeId -> Option (List Nat)
 | 0, _ => none
 | d + 1, T => match P.underlying T, P.info? T with
   | some .bool, some i => if i.size == 1 then some [2] else none
   | some (.int _), some i => if i.size == 1 then some [0] else none
   | some .string, some i => if i.size == 1 then some [1] else none
   | some (.array n E), some i => match flatT P d E, P.info? E with
     | some ks, some e => if ks.length == e.size && i.size == n * e.size then some (List.replicate n ks).flatten else none
     | _, _ => none
   | some (.struct fs), some i => match layF P (flatT P d) 0 fs.toList with
     | some ks => if ks.length == i.size && !P.stoodInHeld T then some ks else none
     | none => none
   | _, _ => none
def pnT (P : Program) (T : TypeId) : Option Nat :=
 match P.underlying T with
 | some (.struct _) => (P.info? T).map (·.size)
 | some (.array _ _) => (P.info? T).map (·.size)
 | _ => none
def shapeV : Option Nat -> IVal -> Prop
 | some n, z => ∃ cs, z = .agg cs /\ cs.length = n
 | none, z => z.isCell = true
theorem shape_takeV {n : Option Nat} {cs : List IVal} {off : Nat} {z : IVal} (hi : ∀ x ∈ cs, x.isCell = true) (h : takeV n cs off = some z) : shapeV n z := by
 cases n with
 | some n =>
   simp only [takeV] at h
   split at h
   . simp only [Option.some.injEq] at h; subst h; exact ⟨_, rfl, by simp; omega⟩
   . cases h
 | none => exact hi z (List.mem_of_getElem? h)
theorem flatT_tyN {d : Nat} {T : TypeId} {ks : List Nat} (h : flatT P d T = some ks) : tyN P T (pnT P T) = true /\ ∃ i, P.info? T = some i /\ i.size = (pnT P T).getD 1 /\ ks.length = i.size := by
 cases d with
 | zero => simp [flatT] at h
 | succ d =>
   simp only [flatT] at h
   split at h
   . rename_i h1 h2; split at h <;> simp at h; subst h; rename_i h3; simp only [beq_iff_eq] at h3; simp [tyN, pnT, h1, h2, h3]
   . rename_i h1 h2; split at h <;> simp at h; subst h; rename_i h3; simp only [beq_iff_eq] at h3; simp [tyN, pnT, h1, h2, h3]
   . rename_i h1 h2; split at h <;> simp at h; subst h; rename_i h3; simp only [beq_iff_eq] at h3; simp [tyN, pnT, h1, h2, h3]
   . rename_i n E i h1 h2
     split at h
     . split at h <;> simp at h; subst h; rename_i h3
       simp only [Bool.and_eq_true, beq_iff_eq] at h3
       simp [tyN, pnT, h1, h2, h3]
     . cases h
   . rename_i h1 h2
     split at h
     . split at h <;> simp at h; subst h; rename_i h3
       simp only [Bool.and_eq_true, beq_iff_eq] at h3
       simp [tyN, pnT, h1, h2, h3.1]
     . cases h
   . cases h
theorem takeV_part {n : Option Nat} {cs : List IVal} {off : Nat} (h : off + n.getD 1 <= cs.length) : ∃ z, takeV n cs off = some z := by
 cases n with
 | some n => simp only [takeV]; rw [if_pos (by simpa using h)]; exact ⟨_, rfl⟩
 | none => simp only [takeV]; simp at h; exact ⟨cs[off], by rw [List.getElem?_eq_getElem]⟩
theorem eqK_app : ∀ {ks ls : List Nat} {a b c d : List IVal}, a.length = ks.length -> c.length = ks.length -> eqK (ks ++ ls) (a ++ b) (c ++ d) = match eqK ks a c with
   | some true => eqK ls b d
   | some false => some false
   | none => none := by
 intro ks
 induction ks with
 | nil => intro ls a b c d h h'; cases a <;> simp at h; cases c <;> simp at h'; simp [eqK]
 | cons k ks ih =>
   intro ls a b c d h h'
   cases a with
   | nil => simp at h
   | cons x a =>
   cases c with
   | nil => simp at h'
   | cons y c =>
     simp only [List.cons_append, eqK]
     split
     . cases eqCell x y with
       | none => rfl
       | some r => cases r with
         | false => rfl
         | true => exact ih (by simpa using h) (by simpa using h')
     . rfl
theorem eqK_step {ks ls : List Nat} {xs ys : List IVal} {off : Nat} {r : Bool} (h1 : off + ks.length <= xs.length) (h2 : off + ks.length <= ys.length) (h : eqK (ks ++ ls) (xs.drop off) (ys.drop off) = some r) :
   ∃ r1, eqK ks ((xs.drop off).take ks.length) ((ys.drop off).take ks.length) = some r1 /\ ((r1 = false /\ r = false) \/ (r1 = true /\ eqK ls (xs.drop (off + ks.length)) (ys.drop (off + ks.length)) = some r)) := by
 have e1 : xs.drop off = (xs.drop off).take ks.length ++ xs.drop (off + ks.length) := by rw [<- List.drop_drop]; exact (List.take_append_drop _ _).symm
 have e2 : ys.drop off = (ys.drop off).take ks.length ++ ys.drop (off + ks.length) := by rw [<- List.drop_drop]; exact (List.take_append_drop _ _).symm
 rw [e1, e2, eqK_app (by simp; omega) (by simp; omega)] at h
 split at h
 . rename_i q; exact ⟨true, q, .inr ⟨rfl, h⟩⟩
 . rename_i q; simp at h; exact ⟨false, q, .inl ⟨rfl, h⟩⟩
 . cases h
def EqP (P : Program) (g : Gh) (d : Nat) (T : TypeId) (ks : List Nat) : Prop := ∀ (w : World) (z1 z2 : IVal) (u1 u2 : Value) (r : Bool), V g z1 u1 -> V g z2 u2 -> shapeV (pnT P T) z1 -> shapeV (pnT P T) z2 -> eqK ks z1.cells z2.cells = some r ->
 (Op.equalIn d T u1 u2).run P w = .ok r w
theorem cells_of_shape {n : Option Nat} {cs : List IVal} {off : Nat} {z : IVal} (hi : ∀ x ∈ cs, x.isCell = true) (h : takeV n cs off = some z) : z.cells = (cs.drop off).take (n.getD 1) := by
 cases n with
 | some n =>
   simp only [takeV] at h
   split at h
   . simp only [Option.some.injEq] at h; subst h; rfl
   . cases h
 | none =>
   simp only [takeV] at h
   have hc := hi z (List.mem_of_getElem? h)
   have e1 : z.cells = [z] := by cases z <;> simp_all [IVal.cells, IVal.isCell]
   have hlt := lt_of_get h
   rw [e1, List.drop_eq_getElem_cons hlt]
   have := (List.getElem?_eq_some_iff.1 h).2
   simp [this]
structure AggV (g : Gh) (xs : List IVal) (us : Array Value) : Prop where
 len : xs.length = us.size
 vals : ∀ (i : Nat) x u, xs[i]? = some x -> us[i]? = some u -> V g x u
 cell : ∀ x ∈ xs, x.isCell = true
theorem eqPart {d D : Nat} {T : TypeId} {ks ls : List Nat} {xs ys : List IVal} {us vs : Array Value} {off : Nat} {r : Bool} (w : World) (hu : AggV g xs us) (hv : AggV g ys vs) (hT : flatT P d T = some ks) (IH : EqP P g D T ks) (h1 : off + ks.length <= xs.length) (h2 : off + ks.length <= ys.length)
   (he : eqK (ks ++ ls) (xs.drop off) (ys.drop off) = some r) : ∃ a b r1, (part T us off).run P w = .ok a w /\ (part T vs off).run P w = .ok b w /\ (Op.equalIn D T a b).run P w = .ok r1 w /\
     ((r1 = false /\ r = false) \/ (r1 = true /\ eqK ls (xs.drop (off + ks.length)) (ys.drop (off + ks.length)) = some r)) := by
 obtain ⟨ht, j, hj, hsz, hkl⟩ := flatT_tyN hT
 obtain ⟨z1, hz1⟩ := takeV_part (n := pnT P T) (cs := xs) (off := off) (by rw [<- hsz, <- hkl]; exact h1)
 obtain ⟨z2, hz2⟩ := takeV_part (n := pnT P T) (cs := ys) (off := off) (by rw [<- hsz, <- hkl]; exact h2)
 obtain ⟨a, ha, hVa, -⟩ := run_part (P := P) (w := w) ht hu.len hu.vals hu.cell hz1
 obtain ⟨b, hb, hVb, -⟩ := run_part (P := P) (w := w) ht hv.len hv.vals hv.cell hz2
 obtain ⟨r1, hr1, hr2⟩ := eqK_step h1 h2 he
 exact ⟨a, b, r1, ha, hb, IH w z1 z2 a b r1 hVa hVb (shape_takeV hu.cell hz1) (shape_takeV hv.cell hz2) (by rw [cells_of_shape hu.cell hz1, cells_of_shape hv.cell hz2, <- hsz, <- hkl]; exact hr1), hr2⟩
theorem eqK_nil {xs ys : List IVal} {r : Bool} (h : eqK [] xs ys = some r) : r = true := by
 cases xs <;> cases ys <;> simp [eqK] at h; exact h
theorem eq_fields {d D : Nat} {xs ys : List IVal} {us vs : Array Value} (hu : AggV g xs us) (hv : AggV g ys vs) (IH : ∀ T ks, flatT P d T = some ks -> EqP P g D T ks) : ∀ (fs : List Field) (off : Nat) (ks : List Nat) (r : Bool) (w : World), layF P (flatT P d) off fs = some ks -> off + ks.length <= xs.length -> off + ks.length <= ys.length ->
   eqK ks (xs.drop off) (ys.drop off) = some r -> (Op.eqFields D us vs fs).run P w = .ok r w := by
 intro fs
 induction fs with
 | nil =>
   intro off ks r w hl h1 h2 he
   simp [layF] at hl
   subst hl
   rw [eqK_nil he]
   simp [Op.eqFields]
 | cons f fs ih =>
   intro off ks r w hl h1 h2 he
   simp only [layF] at hl
   split at hl
   . rename_i hc
     simp only [Bool.and_eq_true, bne_iff_ne, beq_iff_eq] at hc
     obtain ⟨c1, c2⟩ := hc
     split at hl
     . rename_i kf i hk hi
       split at hl
       . rename_i hsz
         simp only [beq_iff_eq] at hsz
         split at hl
         . rename_i kr hr
           simp only [Option.some.injEq] at hl
           subst hl
           simp only [List.length_append] at h1 h2
           obtain ⟨a, b, r1, ha, hb, hq, hr2⟩ := eqPart w hu hv hk (IH _ _ hk) (by omega) (by omega) he
           simp only [Op.eqFields]
           rw [if_pos c1, c2]
           simp only [Sem.run_bind, ha, hb, hq, Result.andThen_ok]
           rcases hr2 with ⟨rfl, rfl⟩ | ⟨rfl, hr2⟩
           . simp
           . simp only [Bool.not_true, Bool.false_eq_true, if_false]
             exact ih (off + i.size) kr r w hr (by omega) (by omega) (by rw [<- hsz]; exact hr2)
         . cases hl
       . cases hl
     . cases hl
   . cases hl
theorem eq_items {d D : Nat} {E : TypeId} {ks : List Nat} {xs ys : List IVal} {us vs : Array Value} (hu : AggV g xs us) (hv : AggV g ys vs) (hE : flatT P d E = some ks) (IH : EqP P g D E ks) : ∀ (m k : Nat) (r : Bool) (w : World), (k + m) * ks.length <= xs.length -> (k + m) * ks.length <= ys.length ->
   eqK (List.replicate m ks).flatten (xs.drop (k * ks.length)) (ys.drop (k * ks.length)) = some r -> (Op.eqItems D E ks.length us vs (List.range' k m)).run P w = .ok r w := by
 intro m
 induction m with
 | zero =>
   intro k r w h1 h2 he
   simp only [List.replicate_zero, List.flatten_nil] at he
   rw [eqK_nil he]
   simp [Op.eqItems]
 | succ m ih =>
   intro k r w h1 h2 he
   have hx : k * ks.length + ks.length <= xs.length := by
     refine Nat.le_trans ?_ h1
     rw [show k + (m + 1) = (k + 1) + m by omega, Nat.add_mul, Nat.add_mul]; omega
   have hy : k * ks.length + ks.length <= ys.length := by
     refine Nat.le_trans ?_ h2
     rw [show k + (m + 1) = (k + 1) + m by omega, Nat.add_mul, Nat.add_mul]; omega
   simp only [List.replicate_succ, List.flatten_cons] at he
   obtain ⟨a, b, r1, ha, hb, hq, hr2⟩ := eqPart w hu hv hE IH hx hy he
   simp only [List.range'_succ, Op.eqItems]
   simp only [Sem.run_bind, ha, hb, hq, Result.andThen_ok]
   rcases hr2 with ⟨rfl, rfl⟩ | ⟨rfl, hr2⟩
   . simp
   . simp only [Bool.not_true, Bool.false_eq_true, if_false]
     refine ih (k + 1) r w (by rw [show k + 1 + m = k + (m + 1) by omega]; exact h1) (by rw [show k + 1 + m = k + (m + 1) by omega]; exact h2) ?_
     rw [Nat.add_mul, Nat.one_mul]; exact hr2
def kindT : TypeDesc -> Nat -> Bool
 | .int _, 0 => true
 | .string, 1 => true
 | .bool, 2 => true
 | _, _ => false
theorem eq_cell {d : Nat} {T : TypeId} {kd : TypeDesc} {k : Nat} {z1 z2 : IVal} {u1 u2 : Value} {r : Bool} (hT : P.underlying T = some kd) (hk : kindT kd k = true) (hV1 : V g z1 u1) (hV2 : V g z2 u2) (hkk : keyK k z1 = true) (he : eqCell z1 z2 = some r) : (Op.equalIn (d + 1) T u1 u2).run P w = .ok r w := by
 unfold eqCell at he
 split at he
 . rename_i k1 a k2 b
   split at he
   . rename_i hkk2
     subst hkk2
     simp at he; subst he
     rw [hV1.int_inv, hV2.int_inv]
     have : k = 0 := by unfold keyK at hkk; split at hkk <;> simp_all
     subst this
     cases kd <;> simp [kindT] at hk
     exact run_equalIn_int w d T _ _ _ _ hT
   . cases he
 . simp at he; subst he
   rw [hV1.bool_inv, hV2.bool_inv]
   have : k = 2 := by unfold keyK at hkk; split at hkk <;> simp_all
   subst this
   cases kd <;> simp [kindT] at hk
   exact run_equalIn_bool w d T _ _ hT
 . simp at he; subst he
   obtain ⟨t1, rfl, e1⟩ := hV1.str_inv
   obtain ⟨t2, rfl, e2⟩ := hV2.str_inv
   have : k = 1 := by unfold keyK at hkk; split at hkk <;> simp_all
   subst this
   cases kd <;> simp [kindT] at hk
   rw [run_equalIn_string w d T _ _ hT, ByteArray.toList_eq, ByteArray.toList_eq, e1, e2]
 . cases he
theorem eq_flat : ∀ (d : Nat) (T : TypeId) (ks : List Nat), flatT P d T = some ks -> ∀ D, d <= D -> EqP P g D T ks := by
 intro d
 induction d with
 | zero => intro T ks h; simp [flatT] at h
 | succ d ih =>
   intro T ks h D0 hD w z1 z2 u1 u2 r hV1 hV2 s1 s2 he
   obtain ⟨D, rfl⟩ : ∃ D, D0 = D + 1 := ⟨D0 - 1, by omega⟩
   simp only [flatT] at h
   have cell : ∀ kd k, P.underlying T = some kd -> kindT kd k = true -> pnT P T = none -> eqK [k] z1.cells z2.cells = some r -> (Op.equalIn (D + 1) T u1 u2).run P w = .ok r w := by
     intro kd k hT hk hp he
     rw [hp] at s1 s2
     have e1 : z1.cells = [z1] := by cases z1 <;> simp_all [IVal.cells, IVal.isCell, shapeV]
     have e2 : z2.cells = [z2] := by cases z2 <;> simp_all [IVal.cells, IVal.isCell, shapeV]
     rw [e1, e2] at he
     simp only [eqK] at he
     split at he
     . rename_i hkk
       split at he
       . rename_i q; simp at he; subst he; exact eq_cell hT hk hV1 hV2 hkk q
       . rename_i q; simp at he; subst he; exact eq_cell hT hk hV1 hV2 hkk q
       . cases he
     . cases he
   split at h
   . rename_i h1 h2; split at h <;> simp at h; subst h; exact cell _ 2 h1 rfl (by simp [pnT, h1]) he
   . rename_i h1 h2; split at h <;> simp at h; subst h; exact cell _ 0 h1 rfl (by simp [pnT, h1]) he
   . rename_i h1 h2; split at h <;> simp at h; subst h; exact cell _ 1 h1 rfl (by simp [pnT, h1]) he
   . rename_i n E i h1 h2
     split at h
     . rename_i kE e hk hi
       split at h <;> simp at h
       rename_i h3
       subst h
       simp only [Bool.and_eq_true, beq_iff_eq] at h3
       obtain ⟨h3, h4⟩ := h3
       have hp : pnT P T = some i.size := by simp [pnT, h1, h2]
       rw [hp] at s1 s2
       obtain ⟨xs, rfl, l1⟩ := s1
       obtain ⟨ys, rfl, l2⟩ := s2
       obtain ⟨us, rfl, a1, a2, a3⟩ := hV1.agg_inv
       obtain ⟨vs, rfl, b1, b2, b3⟩ := hV2.agg_inv
       rw [run_equalIn_array w D us vs h1 hi]
       have hc : P.cellsOf E = kE.length := by rw [h3]; simp [Program.cellsOf, hi]
       rw [hc, List.range_eq_range']
       refine eq_items ⟨a1, a2, a3⟩ ⟨b1, b2, b3⟩ hk (ih E kE hk D (by omega)) n 0 r w ?_ ?_ (by simpa [IVal.cells] using he)
       . rw [l1, h4, h3]; simp
       . rw [l2, h4, h3]; simp
     . cases h
   . rename_i fs i h1 h2
     split at h
     . rename_i kF hk
       split at h <;> simp at h
       rename_i h3
       subst h
       simp only [Bool.and_eq_true, beq_iff_eq, Bool.not_eq_true'] at h3
       obtain ⟨h3, h4⟩ := h3
       have hp : pnT P T = some i.size := by simp [pnT, h1, h2]
       rw [hp] at s1 s2
       obtain ⟨xs, rfl, l1⟩ := s1
       obtain ⟨ys, rfl, l2⟩ := s2
       obtain ⟨us, rfl, a1, a2, a3⟩ := hV1.agg_inv
       obtain ⟨vs, rfl, b1, b2, b3⟩ := hV2.agg_inv
       have hF : P.fieldsOf T = fs := by simp [Program.fieldsOf, h1]
       rw [run_equalIn_struct w D T us vs (by rw [hF]; exact h1) h4, hF]
       exact eq_fields ⟨a1, a2, a3⟩ ⟨b1, b2, b3⟩ (fun T ks h => ih T ks h D (by omega)) fs.toList 0 kF r w hk (by omega) (by omega) (by simpa [IVal.cells] using he)
     . cases h
   . cases h
end Go.Idl
namespace Go.Idl
variable [Globs]
variable {P : Program} {o : Oper} {a : Act} {g : Gh} {O : List Nat} {w : World} {s : St} {res : Res} {cf : CallF}
def PurSim (P : Program) (o : Oper) (a : Act) (k : PurK) (rs : List Operand) : Prop :=
 ∀ (g : Gh) (w : World) (vs : List IVal) (v : IVal), vs.length = rs.length -> (∀ (i : Nat) x r, vs[i]? = some x -> rs[i]? = some r -> V g x (a.eval r)) -> (∀ b o c, g.M b o = some c -> w.cell? ⟨b, o, none⟩ = some c) -> purI k vs = some v ->
   ∃ u, (execOp a.eval o).run P w = .ok (.value u) w /\ V g v u /\ own3 v u = []
theorem sim_pur {k : PurK} {xs : List Opd} {rs : List Operand} (hx : opdsOK xs rs = true) (hp : PurSim P o a k rs) (hs : stepOp cf (.pur k xs) s = some res)
   (hl : WT s.ts a.tmps) (hR : R g O (s.ts.roots a.tmps) s.σ w) : SimV P o a g O w s res := by
 simp only [stepOp] at hs
 split at hs
 . rename_i vs ts h
   split at hs
   . rename_i v hv
     simp only [rv, Option.some.injEq] at hs
     subst hs
     obtain ⟨h1, h2, h3⟩ := getAll_sim (l := []) hx h hl hR
     simp only [List.length_map] at h3
     obtain ⟨u, hu, hV, ho⟩ := hp g w vs v h3 (fun i x r hx hr => h1.vals (x, a.eval r) (List.mem_append_left _ (List.mem_of_getElem? (i := i) (by simp [List.getElem?_zip_eq_some, hx, hr])))) h1.claim hv
     exact SimV.same hu ((R.drops h1).push hV ho) h2
   . cases hs
 . cases hs
def eqOp (neg : Bool) : BinOp := if neg then .neq else .eql
theorem run_eqa {neg : Bool} {T : TypeId} {us vs : Array Value} {r : Bool} (h : (Op.equalIn 10000 T (.agg us) (.agg vs)).run P w = .ok r w) : (binOp (eqOp neg) T (.agg us) (.agg vs)).run P w = .ok (.bool (r != neg)) w := by
 cases neg
 . simp only [eqOp, Bool.false_eq_true, if_false]; rw [run_eql_struct, h]; cases r <;> rfl
 . simp only [eqOp, if_true]; rw [run_neq_struct, h]; cases r <;> rfl
theorem len1 {α : Type} {vs : List α} (h : vs.length = 1) : ∃ x, vs = [x] := by
 rcases vs with _ | ⟨x, _ | ⟨y, vs⟩⟩ <;> simp at h
 exact ⟨x, rfl⟩
theorem len2 {α : Type} {vs : List α} (h : vs.length = 2) : ∃ x y, vs = [x, y] := by
 rcases vs with _ | ⟨x, _ | ⟨y, _ | ⟨z, vs⟩⟩⟩ <;> simp at h
 exact ⟨x, y, rfl⟩
theorem pur_eqa {neg : Bool} {ks : List Nat} {T T' : TypeId} {rx ry : Operand} (hop : o.op = .binOp (eqOp neg) T rx ry T') (hT : flatT P 1000 T = some ks) (hag : (pnT P T).isSome = true) (hg : P.eqGuardType P.depth T = false) :
   PurSim P o a (.eqa neg ks) [rx, ry] := by
 intro g w vs v hl hV hm hv
 obtain ⟨x, y, rfl⟩ := len2 hl
 cases x <;> cases y <;> simp only [purI] at hv <;> try (cases hv; done)
 rename_i xs ys
 split at hv
 . rename_i hlen
   split at hv
   . rename_i r hr
     simp only [Option.some.injEq] at hv
     subst hv
     have hx := hV 0 _ rx rfl rfl
     have hy := hV 1 _ ry rfl rfl
     obtain ⟨us, e1, a1, a2, a3⟩ := hx.agg_inv
     obtain ⟨vs, e2, b1, b2, b3⟩ := hy.agg_inv
     obtain ⟨n, hn⟩ := Option.isSome_iff_exists.1 hag
     obtain ⟨-, i, -, hi2, hi3⟩ := flatT_tyN hT
     rw [hn] at hi2
     simp only [Option.getD_some] at hi2
     have hq := eq_flat 1000 T ks hT 10000 (by omega) w (.agg xs) (.agg ys) (a.eval rx) (a.eval ry) r hx hy (by rw [hn]; exact ⟨xs, rfl, by omega⟩) (by rw [hn]; exact ⟨ys, rfl, by omega⟩) (by simpa [IVal.cells] using hr)
     rw [e1, e2] at hq
     refine ⟨.bool (r != neg), ?_, .bool _, rfl⟩
     have hb := run_eqa (neg := neg) hq
     have hgd := run_eqGuard_agg (P := P) w (eqOp neg) T rx ry us vs hg
     simp [execOp, hop, e1, e2, hgd, hb]
   . cases hv
 . cases hv
theorem toBytes_ints : ∀ {xs : List IVal} {l : List UInt8}, toBytes xs = some l -> ∃ ns : List Int, xs = ns.map (.int .u8) /\ l = ns.map fun n => UInt8.ofNat n.toNat := by
 intro xs
 induction xs with
 | nil => intro l h; simp [toBytes] at h; exact ⟨[], rfl, h⟩
 | cons x xs ih =>
   intro l h
   unfold toBytes at h
   split at h
   . cases ‹_ = []›
   . rename_i n ys e
     cases e
     split at h
     . rename_i l' h'
       simp only [Option.some.injEq] at h
       obtain ⟨ns, rfl, rfl⟩ := ih h'
       exact ⟨n :: ns, rfl, h.symm⟩
     . cases h
   . cases h
theorem foldl_push (ns : List Int) : ∀ (b : ByteArray), (ns.foldl (fun r n => r.push (UInt8.ofNat n.toNat)) b).data.toList = b.data.toList ++ ns.map fun n => UInt8.ofNat n.toNat := by
 induction ns with
 | nil => intro b; simp
 | cons n ns ih => intro b; simp only [List.foldl_cons, List.map_cons]; rw [ih]; simp [ByteArray.push]
theorem vals_ints {xs : List IVal} {vs : List Value} {ns : List Int} (hx : xs = ns.map (.int .u8)) (hl : xs.length = vs.length) (hv : ∀ (i : Nat) x v, xs[i]? = some x -> vs[i]? = some v -> V g x v) : vs = ns.map (.int .u8) := by
 apply List.ext_getElem?
 intro i
 subst hx
 simp only [List.length_map] at hl
 by_cases hi : i < ns.length
 . have h1 : (ns.map (IVal.int .u8))[i]? = some (.int .u8 ns[i]) := by simp [hi]
   have h2 : vs[i]? = some (vs[i]'(by omega)) := by simp
   have := (hv i _ _ h1 h2).int_inv
   rw [h2, this]
   simp [hi]
 . rw [List.getElem?_eq_none (by omega), List.getElem?_eq_none (by simp; omega)]
theorem pur_text {S T e : TypeId} {r : Operand} (hop : o.op = .convert S T r) (hS : P.underlying S = some (.slice e)) (he : P.underlying e = some (.int .u8)) (hT : P.underlying T = some .string) : PurSim P o a .text [r] := by
 intro g w vs v hl hV hm hv
 obtain ⟨x, rfl⟩ := len1 hl
 cases x <;> simp only [purI] at hv <;> try (cases hv; done)
 rename_i own rf xs
 split at hv
 . rename_i l hb
   simp only [Option.some.injEq] at hv
   subst hv
   obtain ⟨ns, hns, rfl⟩ := toBytes_ints hb
   have hx := hV 0 _ r rfl rfl
   have key : ∀ t : ByteArray, (execOp a.eval o).run P w = .ok (.value (.string t)) w -> t.data.toList = ns.map (fun n => UInt8.ofNat n.toNat) -> ∃ u, (execOp a.eval o).run P w = .ok (.value u) w /\ V g (.str (ns.map fun n => UInt8.ofNat n.toNat)) u /\ own3 (.str (ns.map fun n => UInt8.ofNat n.toNat)) u = [] := by
     intro t h1 h2
     refine ⟨_, h1, ?_, rfl⟩
     rw [<- h2]; exact .str t
   generalize hu : a.eval r = u at hx
   cases hx with
   | nil =>
     have : ns = [] := by cases ns <;> simp at hns ⊢
     subst this
     refine key .empty ?_ rfl
     have := run_convert_bytes_string (P := P) w S T e none 0 0 hS he hT
     simp [execOp, hop, hu, this, Conv.bytesToString]
   | sl _ _ _ vs ad cap esz hs' hc hl' hv' hf hr hz hcl ho =>
     have hvs := vals_ints hns hl' hv'
     have hfl : flatV vs = vs := by rw [hvs]; clear hvs hns hb hv' hl' key hl; induction ns with
       | nil => rfl
       | cons n ns ih => simp only [flatV, List.map_cons, List.flatMap_cons] at ih ⊢; rw [ih]; rfl
     refine key (ns.foldl (fun r n => r.push (UInt8.ofNat n.toNat)) ByteArray.empty) ?_ (by rw [foldl_push]; rfl)
     have hload : (loadCells ad xs.length).run P w = .ok (ns.map (Value.int .u8)).toArray w := by
       have hlen : xs.length = (ns.map (Value.int .u8)).length := by rw [hns]; simp
       rw [hlen]
       refine run_loadCells_list (P := P) (w := w) ad (ns.map (Value.int .u8)) (fun j c hj => ?_)
       have had : 0 < cap := by have := lt_of_get hj; simp at this; rw [hns] at hc; simp at hc; omega
       have hsp := hs' had
       have hadd : ad.add j = ⟨ad.block, ad.off + j, none⟩ := by
         cases ad; simp at hsp; subst hsp; exact addr_add _ _ _
       rw [hadd]
       refine hm _ _ _ (hcl j c ?_)
       rw [hfl, hvs]; exact hj
     have h1 := run_convert_bytes_string (P := P) w S T e (some ad) xs.length cap hS he hT
     have h2 := run_bytesToString (P := P) w ad xs.length cap ns hload
     simp [execOp, hop, hu, h1, h2]
 . cases hv
theorem pur_rune {S T : TypeId} {r : Operand} (hop : o.op = .convert S T r) (hS : (P.underlying S).isSome = true) (hT : P.underlying T = some .string) : PurSim P o a .rune [r] := by
 intro g w vs v hl hV hm hv
 obtain ⟨x, rfl⟩ := len1 hl
 cases x <;> simp only [purI] at hv <;> try (cases hv; done)
 rename_i k n
 split at hv
 . rename_i hn
   simp only [Option.some.injEq] at hv
   subst hv
   have hx := (hV 0 _ r rfl rfl).int_inv
   have he : Utf8.encode n = ⟨#[UInt8.ofNat n.toNat]⟩ := by
     have hv : Utf8.valid n = true := by simp [Utf8.valid]; omega
     have hc : n.toNat < 0x80 := by omega
     simp [Utf8.encode, hv, hc]
   refine ⟨.string (Utf8.encode n), ?_, ?_, rfl⟩
   . simp [execOp, hop, hx, run_convert_int_string (P := P) w S T k n hS hT]
   . rw [he]; exact .str (g := g) ⟨#[UInt8.ofNat n.toNat]⟩
 . cases hv
theorem ok_V {ok : Bool} {x : IVal} {v : Value} (hV : V g x v) (hf : Flat x) : V g (withOk ok x) (if ok then .tuple #[v, .bool true] else v) /\ own3 (withOk ok x) (if ok then .tuple #[v, .bool true] else v) = [] := by
 cases ok
 . exact ⟨hV, own3_flat hf v⟩
 . simp only [withOk, if_true]
   refine ⟨.tup _ _ rfl (fun i y u hy hu => ?_) (fun y hy => ?_), ?_⟩
   . rcases i with _ | _ | i <;> simp at hy hu
     . subst hy hu; exact hV
     . subst hy hu; exact .bool true
   . simp at hy; rcases hy with rfl | rfl
     . exact hf.2
     . rfl
   . have : own2 x v = [] := by rw [<- own3_nt hf.2]; exact own3_flat hf v
     show (own2 x v ++ []) = []
     rw [this]; rfl
theorem tup_V {x : IVal} {v : Value} (hV : V g x v) (hn : nt x = true) (ho : own3 x v = []) : V g (.tup [x, .bool false]) (.tuple #[v, .bool false]) /\ own3 (.tup [x, .bool false]) (.tuple #[v, .bool false]) = [] := by
 refine ⟨.tup _ _ rfl (fun i y u hy hu => ?_) (fun y hy => ?_), ?_⟩
 . rcases i with _ | _ | i <;> simp at hy hu
   . subst hy hu; exact hV
   . subst hy hu; exact .bool false
 . simp at hy; rcases hy with rfl | rfl
   . exact hn
   . rfl
 . rw [own3_nt hn] at ho
   show (own2 x v ++ []) = []
   rw [ho]; rfl
theorem V.nilI_inv {v : Value} (h : V g (.prim .nilIface) v) : v = .nilIface := by cases h; rfl
theorem pur_tyC {r : Operand} {xT A : TypeId} {ok : Bool} {z : IVal} {d : TypeDesc} {i : TypeInfo} {zv : Value} (hop : o.op = .typeAssert r xT A ok) (hA : P.underlying A = some d) (hd : ∀ ms, d ≠ .interface ms) (hi : P.info? A = some i) (hz : i.zero = some zv) (hc : cOK z zv = true) : PurSim P o a (.tyC A ok z) [r] := by
 intro g w vs v hl hV hm hv
 obtain ⟨x, rfl⟩ := len1 hl
 have hzero : (zeroValue A).run P w = .ok zv w := by simp [zeroValue, typeInfo, hi, hz]
 have hno : ∀ (x : Value), (∀ t u, x = .iface t u -> t ≠ A) -> (x = .nilIface \/ ∃ t u, x = .iface t u) -> (Instr.typeAssert x xT A true).run P w = .ok (.tuple #[zv, .bool false]) w := by
   intro x h1 h2
   rcases h2 with rfl | ⟨t, u, rfl⟩
   . cases d <;> simp [Instr.typeAssert, run_und hA, hzero]
   . have := h1 t u rfl
     cases d <;> simp [Instr.typeAssert, run_und hA, hzero, this] <;> exact absurd rfl (hd _)
 cases x <;> simp only [purI] at hv <;> try (cases hv; done)
 . rename_i pv
   cases pv <;> simp only at hv <;> try (cases hv; done)
   split at hv
   . rename_i hc2
     simp only [Bool.and_eq_true] at hc2
     obtain ⟨rfl, hn⟩ := hc2
     simp only [Option.some.injEq] at hv
     subst hv
     have hx := (hV 0 _ r rfl rfl).nilI_inv
     obtain ⟨z1, z2⟩ := cOK_V g hc
     obtain ⟨k1, k2⟩ := tup_V z1 hn z2
     refine ⟨_, ?_, k1, k2⟩
     simp [execOp, hop, hx, hno .nilIface (fun _ _ h => by cases h) (.inl rfl)]
   . cases hv
 . rename_i t x
   obtain ⟨u, hu, hVu, hf⟩ := (hV 0 _ r rfl rfl).iface_inv
   split at hv
   . rename_i ht
     subst ht
     simp only [Option.some.injEq] at hv
     subst hv
     obtain ⟨k1, k2⟩ := ok_V (ok := ok) hVu hf
     refine ⟨_, ?_, k1, k2⟩
     have : (Instr.typeAssert (.iface t u) xT t ok).run P w = .ok (if ok then .tuple #[u, .bool true] else u) w := by
       cases d <;> cases ok <;> simp [Instr.typeAssert, run_und hA] <;> exact absurd rfl (hd _)
     simp [execOp, hop, hu, this]
   . rename_i ht
     split at hv
     . rename_i hc2
       simp only [Bool.and_eq_true] at hc2
       obtain ⟨rfl, hn⟩ := hc2
       simp only [Option.some.injEq] at hv
       subst hv
       obtain ⟨z1, z2⟩ := cOK_V g hc
       obtain ⟨k1, k2⟩ := tup_V z1 hn z2
       refine ⟨_, ?_, k1, k2⟩
       simp [execOp, hop, hu, hno (.iface t u) (fun t' u' h => by cases h; exact ht) (.inr ⟨_, _, rfl⟩)]
     . cases hv
theorem pur_tyI {r : Operand} {xT A : TypeId} {ok : Bool} {yes no : List TypeId} {want : Array (String × TypeId)} {j : TypeInfo} (hop : o.op = .typeAssert r xT A ok) (hA : P.underlying A = some (.interface want)) (hj : P.info? A = some j) (hz : j.zero = some .nilIface)
   (hy : ∀ t ∈ yes, ∃ i, P.info? t = some i /\ lacking want i.methods = []) (hn : ∀ t ∈ no, ∃ i, P.info? t = some i /\ lacking want i.methods ≠ []) : PurSim P o a (.tyI yes no ok) [r] := by
 intro g w vs v hl hV hm hv
 obtain ⟨x, rfl⟩ := len1 hl
 have hzero : (zeroValue A).run P w = .ok .nilIface w := by simp [zeroValue, typeInfo, hj, hz]
 obtain ⟨k1, k2⟩ := tup_V (g := g) (x := nilI) (v := .nilIface) (.prim _ rfl) rfl rfl
 cases x <;> simp only [purI] at hv <;> try (cases hv; done)
 . rename_i pv
   cases pv <;> simp only at hv <;> try (cases hv; done)
   split at hv
   . rename_i hok
     subst hok
     simp only [Option.some.injEq] at hv
     subst hv
     have hx := (hV 0 _ r rfl rfl).nilI_inv
     refine ⟨_, ?_, k1, k2⟩
     simp [execOp, hop, hx, Instr.typeAssert, run_und hA, hzero]
   . cases hv
 . rename_i t x
   have hxx := hV 0 _ r rfl rfl
   obtain ⟨u, hu, hVu, hf⟩ := hxx.iface_inv
   split at hv
   . rename_i ht
     simp only [List.contains_iff_mem] at ht
     simp only [Option.some.injEq] at hv
     subst hv
     obtain ⟨i, hi, hla⟩ := hy t ht
     have hfl : Flat (.iface t x) := ⟨rfl, rfl⟩
     rw [hu] at hxx
     obtain ⟨k1, k2⟩ := ok_V (ok := ok) hxx hfl
     refine ⟨_, ?_, k1, k2⟩
     have : (Instr.typeAssert (.iface t u) xT A ok).run P w = .ok (if ok then .tuple #[.iface t u, .bool true] else .iface t u) w := by
       cases ok <;> simp [Instr.typeAssert, run_und hA, typeInfo, hi, missingMethod_none hla]
     simp [execOp, hop, hu, this]
   . split at hv
     . rename_i hc2
       simp only [Bool.and_eq_true, List.contains_iff_mem] at hc2
       obtain ⟨rfl, ht⟩ := hc2
       simp only [Option.some.injEq] at hv
       subst hv
       obtain ⟨i, hi, hla⟩ := hn t ht
       refine ⟨_, ?_, k1, k2⟩
       simp [execOp, hop, hu, run_typeAssert_lacks (P := P) (w := w) (v := u) (xT := xT) hA hi hj hz hla]
     . cases hv
theorem pur_isnilS {neg : Bool} {T E : TypeId} {ra rb r : Operand} {T' : TypeId} (hop : o.op = .binOp (eqOp neg) T ra rb T') (hT : P.underlying T = some (.slice E)) (hn : (ra = r /\ rb = .const (.slice none 0 0)) \/ (rb = r /\ ra = .const (.slice none 0 0))) : PurSim P o a (.isnilS neg) [r] := by
 intro g w vs v hl hV hm hv
 obtain ⟨x, rfl⟩ := len1 hl
 have key : (∃ ad n c, a.eval r = .slice (some ad) n c) -> v = .bool neg -> ∃ u, (execOp a.eval o).run P w = .ok (.value u) w /\ V g v u /\ own3 v u = [] := by
   rintro ⟨ad, n, c, hr⟩ rfl
   refine ⟨.bool neg, ?_, .bool _, rfl⟩
   have hg : ∀ (x y : Value) op, (x = .slice (some ad) n c \/ x = .slice none 0 0) -> (y = .slice (some ad) n c \/ y = .slice none 0 0) -> (eqGuard op T ra rb x y).run P w = .ok () w := by
     intro x y op h1 h2
     unfold eqGuard
     rcases h1 with rfl | rfl <;> rcases h2 with rfl | rfl <;> split <;> simp
   have he : ∀ d : Nat, (Op.equalIn (d + 1) T (.slice (some ad) n c) (.slice none 0 0)).run P w = .ok false w /\ (Op.equalIn (d + 1) T (.slice none 0 0) (.slice (some ad) n c)).run P w = .ok false w := fun d => by
     constructor <;> simp [Op.equalIn, run_und hT]
   obtain ⟨e1, e2⟩ := he 9999
   have hc : a.eval (.const (.slice none 0 0)) = .slice none 0 0 := rfl
   rcases hn with ⟨rfl, rfl⟩ | ⟨rfl, rfl⟩
   . have hb : (binOp (eqOp neg) T (.slice (some ad) n c) (.slice none 0 0)).run P w = .ok (.bool neg) w := by
       cases neg <;> simp [eqOp, binOp, Op.equal, Op.maxDepth, e1]
     simp [execOp, hop, hr, hc, hg _ _ _ (.inl rfl) (.inr rfl), hb]
   . have hb : (binOp (eqOp neg) T (.slice none 0 0) (.slice (some ad) n c)).run P w = .ok (.bool neg) w := by
       cases neg <;> simp [eqOp, binOp, Op.equal, Op.maxDepth, e2]
     simp [execOp, hop, hr, hc, hg _ _ _ (.inr rfl) (.inl rfl), hb]
 have key2 : a.eval r = .slice none 0 0 -> v = .bool (!neg) -> ∃ u, (execOp a.eval o).run P w = .ok (.value u) w /\ V g v u /\ own3 v u = [] := by
   rintro hr rfl
   refine ⟨.bool (!neg), ?_, .bool _, rfl⟩
   have hg : ∀ op, (eqGuard op T ra rb (.slice none 0 0) (.slice none 0 0)).run P w = .ok () w := by
     intro op
     unfold eqGuard
     split <;> simp
   have he : ∀ d : Nat, (Op.equalIn (d + 1) T (.slice none 0 0) (.slice none 0 0)).run P w = .ok true w := fun d => by simp [Op.equalIn, run_und hT]
   have e1 := he 9999
   have hc : a.eval (.const (.slice none 0 0)) = .slice none 0 0 := rfl
   have hb : (binOp (eqOp neg) T (.slice none 0 0) (.slice none 0 0)).run P w = .ok (.bool (!neg)) w := by
     cases neg <;> simp [eqOp, binOp, Op.equal, Op.maxDepth, e1]
   rcases hn with ⟨rfl, rfl⟩ | ⟨rfl, rfl⟩ <;> simp [execOp, hop, hr, hc, hg, hb]
 have hx := hV 0 _ r rfl rfl
 cases x <;> simp only [purI] at hv <;> try (cases hv; done)
 . rename_i own rf xs
   cases xs with
   | nil =>
     simp only [Option.some.injEq] at hv
     generalize hu : a.eval r = u at hx
     cases hx with
     | nil => exact key2 hu (by rw [<- hv]; cases neg <;> rfl)
     | sl _ _ _ vs ad cap _ _ _ _ _ _ _ _ _ _ hnn => exact key ⟨_, _, _, hu⟩ (by rw [<- hv, hnn rfl]; cases neg <;> rfl)
   | cons y ys =>
     simp only [Option.some.injEq] at hv
     refine key ?_ hv.symm
     generalize a.eval r = u at hx
     cases hx with
     | sl => exact ⟨_, _, _, rfl⟩
 . simp only [Option.some.injEq] at hv
   obtain ⟨b, cap, hb, -⟩ := hx.rs_inv
   exact key ⟨_, _, _, hb⟩ hv.symm
def nilMT (P : Program) (t : TypeId) (n : String) : Bool := match P.info? t, P.underlying t with
 | some i, some _ => (match i.methods.find? (fun m => m.name == n) with
   | some m => m.path.toList.isEmpty && m.func.isSome
   | none => false)
 | _, _ => false
theorem pur_mkM {n : String} {r : Operand} {rs qs : Array Operand} (hop : o.op = .makeFunc (.method n) rs qs) (hr : rs.toList = [r]) (hq : qs.toList = []) : PurSim P o a (.mkM n) [r] := by
 intro g w vs v hl hV hm hv
 obtain ⟨x, rfl⟩ := len1 hl
 simp only [purI] at hv
 split at hv
 . rename_i hn
   simp only [Option.some.injEq] at hv
   subst hv
   have hx := hV 0 _ r rfl rfl
   have e1 : rs = #[r] := Array.toList_inj.1 (by simpa using hr)
   have e2 : qs = #[] := Array.toList_inj.1 (by simpa using hq)
   refine ⟨.func (.method n) #[a.eval r] #[], ?_, ?_, by simp [own3, own2, own1]⟩
   . simp [execOp, hop, Instr.makeFunc, e1, e2]
   . refine .fn _ _ _ _ _ (by simp) (fun i y u hy hu => ?_) (fun y hy => ?_) (by simp) (fun i y u hy hu => by simp at hy) (fun y hy => by simp at hy)
     . cases i with
       | zero =>
         simp at hy hu
         subst hy hu
         exact hx.un2
       | succ i => simp at hy
     . simp at hy
       subst hy
       exact nt_un2_of hn
 . cases hv
theorem run_nilAhead {t : TypeId} {n : String} {v : Value} {f : Nat} (h : nilMT P t n = true) (hv : v ≠ .pointer none) (hf : 0 < f) : (nilAhead f t v n).run P w = .ok (some false) w := by
 unfold nilMT at h
 split at h
 . rename_i hi hu
   split at h
   . rename_i hm
     simp only [Bool.and_eq_true] at h
     obtain ⟨h1, h2⟩ := h
     have h1 := List.isEmpty_iff.1 h1
     obtain ⟨q, hq⟩ := Option.isSome_iff_exists.1 h2
     obtain ⟨q1, q2⟩ := q
     cases f with
     | zero => omega
     | succ f =>
       simp only [nilAhead, typeInfo, Sem.run_bind, run_program, hi, Result.andThen_ok, Sem.run_pure, hm, h1, followBlind, hq]
       cases q2 with
       | true => simp [hq]
       | false =>
         simp only [hq, run_und hu, Sem.run_bind, Result.andThen_ok]
         split
         . rename_i h9
           simp only [Option.some.injEq] at h9
           exact absurd h9 hv
         . simp
         . rename_i h9; cases h9
         . simp
   . cases h
 . cases h
theorem pur_nilM {ts : List TypeId} {n : String} {r : Operand} (hop : o.op = .nilCheck r) (hts : ∀ t ∈ ts, nilMT P t n = true) : PurSim P o a (.nilM ts n) [r] := by
 intro g w vs v hl hV hm hv
 obtain ⟨x, rfl⟩ := len1 hl
 have hx := hV 0 _ r rfl rfl
 simp only [purI] at hv
 unfold nilMI at hv
 split at hv
 . rename_i n' t wv
   split at hv
   . rename_i hc
     obtain ⟨rfl, hc, hw⟩ := hc
     simp only [Option.some.injEq] at hv
     subst hv
     have hform : ∃ q, q ≠ Value.pointer none /\ a.eval r = .func (.method n) #[.iface t q] #[] := by
       generalize a.eval r = u at hx
       cases hx with
       | fn _ _ _ vs us hl1 hv1 hf1 hl2 hv2 hf2 =>
         have e2 : us = #[] := Array.eq_empty_of_size_eq_zero (by simpa using hl2.symm)
         obtain ⟨u, hu⟩ : ∃ u, vs = #[u] := by
           have : vs.size = 1 := by simpa using hl1.symm
           exact Array.size_eq_one_iff.1 this
         subst e2 hu
         have h0 := hv1 0 _ u rfl rfl
         obtain ⟨q, rfl, hq, _⟩ := h0.iface_inv
         refine ⟨_, ?_, rfl⟩
         rintro rfl
         cases hq <;> simp [noNilP] at hw
     obtain ⟨q, hqn, hform⟩ := hform
     refine ⟨a.eval r, ?_, hx, by simp [own3, own2, own1]⟩
     have hrun := run_nilAhead (P := P) (w := w) (v := q) (f := P.types.size + Made.depth) (hts t (by simpa using hc)) hqn (by simp [Made.depth])
     simp only [execOp, hop, hform]
     simp [hrun]
   . cases hv
 . cases hv
theorem pur_eqi {neg : Bool} {ks : List (TypeId × Nat)} {T : TypeId} {ms : Array (String × TypeId)} {rx ry : Operand} {T' : TypeId} (hop : o.op = .binOp (eqOp neg) T rx ry T') (hT : P.underlying T = some (.interface ms))
   (hk : ∀ p ∈ ks, ∃ i d, P.info? p.1 = some i /\ i.comparable = true /\ P.underlying p.1 = some d /\ kindT d p.2 = true) : PurSim P o a (.eqi neg ks) [rx, ry] := by
 intro g w vs v hl hV hm hv
 obtain ⟨x, y, rfl⟩ := len2 hl
 have key : ∀ (r : Bool) (ux uy : Value), a.eval rx = ux -> a.eval ry = uy -> (Op.equalIn 10000 T ux uy).run P w = .ok r w -> ((∃ t u, ux = .iface t u /\ ((∃ t' u', uy = .iface t' u') \/ uy = .nilIface)) \/ (ux = .nilIface /\ ∃ t u, uy = .iface t u)) -> v = .bool (r != neg) -> ∃ u, (execOp a.eval o).run P w = .ok (.value u) w /\ V g v u /\ own3 v u = [] := by
   rintro r ux uy ex ey hr h1 rfl
   refine ⟨.bool (r != neg), ?_, .bool _, rfl⟩
   have hgb : (eqGuard (eqOp neg) T rx ry ux uy).run P w = .ok () w /\ (binOp (eqOp neg) T ux uy).run P w = .ok (.bool (r != neg)) w := by
     rcases h1 with ⟨t, u, rfl, ⟨t', u', rfl⟩ | rfl⟩ | ⟨rfl, t, u, rfl⟩ <;> refine ⟨by unfold eqGuard; split <;> simp, ?_⟩ <;> cases neg <;> cases r <;> simp [eqOp, binOp, Op.equal, Op.maxDepth, hr]
   simp [execOp, hop, ex, ey, hgb.1, hgb.2]
 have hxx := hV 0 _ rx rfl rfl
 have hyy := hV 1 _ ry rfl rfl
 cases x <;> cases y <;> simp only [purI] at hv <;> try (cases hv; done)
 . rename_i pv t y
   cases pv <;> simp only at hv <;> try (cases hv; done)
   simp only [Option.some.injEq] at hv
   obtain ⟨u, hu, -⟩ := hyy.iface_inv
   refine key false _ _ hxx.nilI_inv hu ?_ (.inr ⟨rfl, _, _, rfl⟩) (by rw [<- hv]; cases neg <;> rfl)
   have hd : ∀ d : Nat, (Op.equalIn (d + 1) T (.nilIface) (.iface t u)).run P w = .ok false w /\ (Op.equalIn (d + 1) T (.iface t u) (.nilIface)).run P w = .ok false w := fun d => by constructor <;> simp [Op.equalIn, run_und hT]
   exact (hd 9999).1
 . rename_i t x pv
   cases pv <;> simp only at hv <;> try (cases hv; done)
   simp only [Option.some.injEq] at hv
   obtain ⟨u, hu, -⟩ := hxx.iface_inv
   refine key false _ _ hu hyy.nilI_inv ?_ (.inl ⟨_, _, rfl, .inr rfl⟩) (by rw [<- hv]; cases neg <;> rfl)
   have hd : ∀ d : Nat, (Op.equalIn (d + 1) T (.nilIface) (.iface t u)).run P w = .ok false w /\ (Op.equalIn (d + 1) T (.iface t u) (.nilIface)).run P w = .ok false w := fun d => by constructor <;> simp [Op.equalIn, run_und hT]
   exact (hd 9999).2
 . rename_i t x t' y
   obtain ⟨u, hu, hVu, hfu⟩ := hxx.iface_inv
   obtain ⟨u', hu', hVu', hfu'⟩ := hyy.iface_inv
   split at hv
   . rename_i ht
     subst ht
     split at hv
     . rename_i t1 k hf
       split at hv
       . rename_i hkk
         split at hv
         . rename_i r hr
           simp only [Option.some.injEq] at hv
           have hmem := List.mem_of_find?_eq_some hf
           have hpt := List.find?_some hf
           simp only [beq_iff_eq] at hpt
           subst hpt
           obtain ⟨i, d, k1, k2, k3, k4⟩ := hk _ hmem
           refine key r _ _ hu hu' ?_ (.inl ⟨_, _, rfl, .inl ⟨_, _, rfl⟩⟩) hv.symm
           have hc := eq_cell (d := 9998) (w := w) k3 k4 hVu hVu' hkk hr
           have hd : ∀ d : Nat, (Op.equalIn (d + 1) T (.iface t1 u) (.iface t1 u')).run P w = (Op.equalIn d t1 u u').run P w := by
             intro d
             conv => lhs; unfold Op.equalIn
             simp [run_und hT, typeInfo, k1, k2]
           exact (hd 9999).trans hc
         . cases hv
       . cases hv
     . cases hv
   . rename_i ht
     simp only [Option.some.injEq] at hv
     refine key false _ _ hu hu' ?_ (.inl ⟨_, _, rfl, .inl ⟨_, _, rfl⟩⟩) (by rw [<- hv]; cases neg <;> rfl)
     have hd : ∀ d : Nat, (Op.equalIn (d + 1) T (.iface t u) (.iface t' u')).run P w = .ok false w := fun d => by simp [Op.equalIn, run_und hT, ht]
     exact hd 9999
end Go.Idl
namespace Go.Idl
open Go.Extern Go.Extern.Rtype
variable [Globs]
variable {P : Program} {o : Oper} {a : Act} {g : Gh} {O : List Nat} {w : World} {s : St} {res : Res} {cf : CallF}
def undP (P : Program) (t : TypeId) : Option (TypeId × TypeInfo) :=
 match P.info? t with
 | some i => match i.desc with
   | .named _ u => match P.info? u with
     | some j => some (u, j)
     | none => none
   | _ => some (t, i)
 | none => none
theorem run_under {t : TypeId} {r : TypeId × TypeInfo} (h : undP P t = some r) : (under t).run P w = .ok r w := by
 unfold undP at h
 split at h
 . rename_i i hi
   split at h
   . rename_i n u hd
     split at h
     . rename_i j hj
       simp only [Option.some.injEq] at h
       subst h
       simp [under, typeInfo, hi, hd, hj]
     . cases h
   . rename_i hd
     simp only [Option.some.injEq] at h
     subst h
     simp only [under]
     simp only [typeInfo, Sem.run_bind, run_program, Result.andThen, hi]
     simp only [Sem.run_pure]
 . cases h
def kindD (i : TypeInfo) : Option Nat :=
 match i.desc with
 | .bool => some 1
 | .int .i64 => some (if i.str == "int" then 2 else 6)
 | .int .i8 => some 3 | .int .i16 => some 4 | .int .i32 => some 5
 | .int .u64 => some (if i.str == "uint" then 7 else if i.str == "uintptr" then 12 else 11)
 | .int .u8 => some 8 | .int .u16 => some 9 | .int .u32 => some 10
 | .func _ _ _ => some 19 | .interface _ => some 20 | .map _ _ => some 21
 | .pointer _ => some 22 | .slice _ => some 23 | .string => some 24 | .struct _ => some 25
 | _ => none
def kindP (P : Program) (t : TypeId) : Option Nat := match undP P t with
 | some r => kindD r.2
 | none => none
theorem run_kind {t : TypeId} {k : Nat} (h : kindP P t = some k) : (kind t).run P w = .ok k w := by
 unfold kindP at h
 split at h
 . rename_i r hr
   simp only [kind, Sem.run_bind, run_under hr, Result.andThen]
   unfold kindD at h
   split at h <;> first | (cases h; done) | (rename_i e; simp only [Option.some.injEq] at h; subst h; simp only [e]; rfl)
 . cases h
def elemD : TypeDesc -> Option TypeId
 | .array _ e => some e
 | .chan _ e => some e
 | .map _ e => some e
 | .pointer e => some e
 | .slice e => some e
 | _ => none
def elemP (P : Program) (t : TypeId) : Option TypeId := match undP P t with
 | some r => elemD r.2.desc
 | none => none
theorem run_elem {t e : TypeId} (h : elemP P t = some e) : (elem? t).run P w = .ok (some e) w := by
 unfold elemP at h
 split at h
 . rename_i r hr
   simp only [elem?, Sem.run_bind, run_under hr, Result.andThen]
   unfold elemD at h
   split at h <;> first | (cases h; done) | (rename_i e; simp only [Option.some.injEq] at h; subst h; simp only [e]; rfl)
 . cases h
def namedD : TypeDesc -> Bool
 | .named _ _ => true
 | .bool => true
 | .int _ => true
 | .float _ => true
 | .complex _ => true
 | .string => true
 | .unsafePointer => true
 | _ => false
theorem run_hasName {t : TypeId} {i : TypeInfo} (h : P.info? t = some i) : (hasName t).run P w = .ok (namedD i.desc) w := by
 simp only [hasName, typeInfo, Sem.run_bind, run_program, Result.andThen, h, Sem.run_pure]
 unfold namedD
 split <;> rename_i e <;> first | rfl | simp_all
def daP (P : Program) (T V : TypeId) : Option Bool :=
 if T == V then some true else match P.info? T, P.info? V with
   | some i, some j => if namedD i.desc && namedD j.desc then some false else match undP P T, undP P V with
     | some (t, ti), some (v, vi) => match ti.desc with
       | .chan _ _ => none
       | _ => some (t == v)
     | _, _ => none
   | _, _ => none
theorem run_da {T U : TypeId} {b : Bool} (h : daP P T U = some b) : (directlyAssignable T U).run P w = .ok b w := by
 unfold daP at h
 unfold directlyAssignable
 split at h
 . rename_i e
   simp only [Option.some.injEq] at h
   subst h
   simp [e]
 . rename_i e
   split at h
   . rename_i i j hi hj
     simp only [e, Bool.false_eq_true, if_false, Sem.run_bind, run_hasName hi, run_hasName hj, Result.andThen]
     split at h
     . rename_i hn
       simp only [Option.some.injEq] at h
       subst h
       simp [hn]
     . rename_i hn
       simp only [hn, Bool.false_eq_true, if_false, Sem.run_bind]
       split at h
       . rename_i t ti v vi ht hv
         simp only [Sem.run_pure, Result.andThen, run_under ht, run_under hv]
         split at h
         . cases h
         . rename_i hd
           simp only [Option.some.injEq] at h
           subst h
           split
           . rename_i e1 _; exact absurd e1 (hd _ _)
           . rfl
       . cases h
   . cases h
def ifaceD : TypeDesc -> Option (Array (String × TypeId))
 | .interface ms => some ms
 | _ => none
def implP (P : Program) (T U : TypeId) : Option Bool :=
 match undP P T, undP P U, P.info? U with
 | some r, some q, some i => match ifaceD r.2.desc, ifaceD q.2.desc with
   | none, _ => some false
   | some want, none => some (Go.lacking want i.methods).isEmpty
   | some _, some _ => none
 | _, _, _ => none
theorem run_impl {T U : TypeId} {b : Bool} (h : implP P T U = some b) (h1 : P.methodsOfAPack P.depth T = false) (h2 : P.methodsOfAPack P.depth U = false) : (implements T U).run P w = .ok b w := by
 unfold implP at h
 split at h
 . rename_i r q i hT hU hi
   simp only [implements, noPackMethods, Sem.run_bind, run_program, Result.andThen, h1, h2, Bool.false_eq_true, if_false, Sem.run_pure, run_under hT, run_under hU]
   generalize r.2.desc = d1 at h ⊢
   generalize q.2.desc = d2 at h ⊢
   have hm : ∀ want, (Instr.missingMethod want i.methods).isNone = (Go.lacking want i.methods).isEmpty := by
     intro want
     by_cases e : Go.lacking want i.methods = []
     . rw [missingMethod_none e, e]; rfl
     . obtain ⟨m, hm⟩ := missingMethod_some e
       rw [hm]
       cases hl : Go.lacking want i.methods with
       | nil => exact absurd hl e
       | cons a r => rfl
   cases d1 with
   | interface want =>
     cases d2 with
     | interface got => simp [ifaceD] at h
     | _ =>
       simp only [ifaceD, Option.some.injEq] at h
       subst h
       simp only [typeInfo, Sem.run_bind, run_program, Result.andThen, hi, Sem.run_pure, hm]
   | _ =>
     simp only [ifaceD, Option.some.injEq] at h
     subst h
     rfl
 . cases h
def cutOK (P : Program) (name : String) (t : TypeId) : Bool := match P.cutTypes.find? (·.1 == name) with
 | some (_, u) => t == u
 | none => false
theorem run_cut {name : String} {t : TypeId} (h : cutOK P name t = true) : (cutType name).run P w = .ok t w := by
 unfold cutOK at h
 split at h
 . rename_i n u hf
   have := eq_of_beq h
   subst this
   simp [cutType, hf]
 . cases h
theorem run_handle (t : TypeId) : (handle t).run P w = .ok (.pointer (some ⟨P.globals.size, t, none⟩)) w := rfl
theorem run_ofHandle (t : TypeId) : (ofHandle (.pointer (some ⟨P.globals.size, t, none⟩))).run P w = .ok t w := by
 simp [ofHandle, handleType]
theorem run_noPack {what : String} {t : TypeId} (h : P.packed t = false) : (noPack what t).run P w = .ok () w := by simp [noPack, h]
theorem run_noPackHeld {what : String} {t : TypeId} (h : P.holdsPacked P.depth t = false) : (noPackHeld what t).run P w = .ok () w := by simp [noPackHeld, h]
theorem run_noPackMethods {what : String} {t : TypeId} (h : P.methodsOfAPack P.depth t = false) : (noPackMethods what t).run P w = .ok () w := by simp [noPackMethods, h]
theorem run_toType {rt t : TypeId} (h : cutOK P "internal/reflectlite.rtype" rt = true) : (ReflectliteType.toType t).run P w = .ok (.iface rt (.agg #[.pointer (some ⟨P.globals.size, t, none⟩)])) w := by
 simp [ReflectliteType.toType, run_cut h, run_handle, Result.andThen]
theorem ofRtype_eq (h : Value) : ReflectliteType.ofRtype (.agg #[h]) = (do let t <- ofHandle h; noPack "a Type asked or handed on" t; pure t) := rfl
theorem run_ofRtype {t : TypeId} (h : P.packed t = false) : (ReflectliteType.ofRtype (.agg #[.pointer (some ⟨P.globals.size, t, none⟩)])).run P w = .ok t w := by
 rw [ofRtype_eq]
 simp [run_ofHandle, run_noPack h, Result.andThen]
def extName : ExtK -> String
 | .typeOf _ _ => "internal/reflectlite.TypeOf"
 | .vType _ _ => "(internal/reflectlite.Value).Type"
 | .vIsNil _ _ => "(internal/reflectlite.Value).IsNil"
 | .vElem _ _ => "(internal/reflectlite.Value).Elem"
 | .rElem _ _ _ => "(internal/reflectlite.rtype).Elem"
 | .rCmp _ _ => "(internal/reflectlite.rtype).Comparable"
 | .rImpl _ _ => "(internal/reflectlite.rtype).Implements"
 | .rAsg _ _ => "(internal/reflectlite.rtype).AssignableTo"
 | .aKind _ _ => "(*internal/abi.Type).Kind"
def extFn : ExtK -> Array Value -> Sem Value
 | .typeOf _ _ => ReflectliteType.typeOf
 | .vType _ _ => ReflectliteValue.methodAny (ReflectliteValue.valueError "reflectlite.Value.Type" 0) fun t _ _ _ => ReflectliteType.toType t
 | .vIsNil _ _ => ReflectliteValue.method (ReflectliteValue.valueError "reflectlite.Value.IsNil" 0) ReflectliteValue.isNil
 | .vElem _ _ => ReflectliteValue.method (ReflectliteValue.valueError "reflectlite.Value.Elem" 0) ReflectliteValue.elem
 | .rElem _ _ _ => ReflectliteType.method ReflectliteType.elem
 | .rCmp _ _ => ReflectliteType.method fun t => do noPackHeld "Comparable" t; pure (.bool (<- typeInfo t).comparable)
 | .rImpl _ _ => ReflectliteType.relation "Implements" ReflectliteType.implements_
 | .rAsg _ _ => ReflectliteType.relation "AssignableTo" ReflectliteType.assignableTo
 | .aKind _ _ => ReflectliteType.abiMethod fun t => do pure (.int .u8 (<- kind t))
theorem ext_find {fn : Func} {k : ExtK} (h : fn.name = extName k) (ho : fn.origin = "") : Extern.findNext fn = none /\ Extern.find fn = some (extFn k) := by
 unfold Extern.findNext Extern.find
 rw [h, ho]
 cases k <;> exact ⟨by kernel_rfl, by kernel_rfl⟩
def extOK (P : Program) : ExtK -> Bool
 | .typeOf rt G => G == P.globals.size && cutOK P "internal/reflectlite.rtype" rt
 | .vType rt G => G == P.globals.size && cutOK P "internal/reflectlite.rtype" rt
 | .vIsNil G tab => G == P.globals.size && tab.all fun t => !P.packed t && tyN P t none
 | .vElem G tab => G == P.globals.size && tab.all fun p => !P.packed p.1 && (tyN P p.1 none && (elemP P p.1 == some p.2.1 && kindP P p.2.1 == some p.2.2))
 | .rElem rt G tab => G == P.globals.size && (cutOK P "internal/reflectlite.rtype" rt && tab.all fun p => !P.packed p.1 && elemP P p.1 == some p.2)
 | .rCmp G tab => G == P.globals.size && tab.all fun p => !P.packed p.1 && (!P.holdsPacked P.depth p.1 && (match P.info? p.1 with | some i => i.comparable == p.2 | none => false))
 | .rImpl G tab => G == P.globals.size && tab.all fun p => !P.packed p.1.1 && (!P.packed p.1.2 && (!P.methodsOfAPack P.depth p.1.1 && (!P.methodsOfAPack P.depth p.1.2 && (kindP P p.1.2 == some 20 && implP P p.1.2 p.1.1 == some p.2))))
 | .rAsg G tab => G == P.globals.size && tab.all fun p => !P.packed p.1.1 && (!P.packed p.1.2 && (!P.methodsOfAPack P.depth p.1.1 && (!P.methodsOfAPack P.depth p.1.2 && (match daP P p.1.2 p.1.1, implP P p.1.2 p.1.1 with | some a, some b => (a || b) == p.2 | _, _ => false))))
 | .aKind G tab => G == P.globals.size && tab.all fun p => !P.packed p.1 && kindP P p.1 == some p.2
theorem hdl_inv {G : Nat} {h : IVal} {hv : Value} {t : TypeId} (hV : V g h hv) (ht : hdlT G h = some t) : hv = .pointer (some ⟨G, t, none⟩) := by
 unfold hdlT at ht
 split at ht
 . split at ht
   . rename_i e
     simp only [Option.some.injEq] at ht
     subst ht e
     cases hV; rfl
   . cases ht
 . cases ht
theorem agg1_inv {h : IVal} {u : Value} (hV : V g (.agg [h]) u) : ∃ hv, u = .agg #[hv] /\ V g h hv := by
 cases hV with
 | agg _ vs hl hv hi =>
   obtain ⟨hv', e⟩ : ∃ x, vs = #[x] := by
     obtain ⟨l⟩ := vs
     match l, hl with
     | [x], _ => exact ⟨x, rfl⟩
   subst e
   exact ⟨hv', rfl, hv 0 _ _ rfl rfl⟩
theorem agg3_inv {h p q : IVal} {u : Value} (hV : V g (.agg [h, p, q]) u) : ∃ hv pv qv, u = .agg #[hv, pv, qv] /\ V g h hv /\ V g p pv /\ V g q qv := by
 cases hV with
 | agg _ vs hl hv hi =>
   obtain ⟨x, y, z, e⟩ : ∃ x y z, vs = #[x, y, z] := by
     obtain ⟨l⟩ := vs
     match l, hl with
     | [x, y, z], _ => exact ⟨x, y, z, rfl⟩
   subst e
   exact ⟨x, y, z, rfl, hv 0 _ _ rfl rfl, hv 1 _ _ rfl rfl, hv 2 _ _ rfl rfl⟩
theorem pv1_inv {r : Bool} {c : IVal} {u : Value} (hV : V g (.pv r [c] 0) u) : ∃ b o cv, u = .pointer (some ⟨b, o, none⟩) /\ V g c cv /\ c.isCell = true /\ g.M b o = some cv /\ un1 c = c := by
 cases hV with
 | pv _ _ _ vs a hs ho hl hv hf hr hm =>
   obtain ⟨cv, e⟩ : ∃ x, vs = [x] := by
     match vs, hl with
     | [x], _ => exact ⟨x, rfl⟩
   subst e
   obtain ⟨b, o, sp⟩ := a
   simp only at hs
   subst hs
   exact ⟨b, o, cv, rfl, hv 0 _ _ rfl rfl, (hf c (by simp)).2, by have := hm 0 cv rfl; simpa using this, (hf c (by simp)).1⟩
theorem pvany_inv {r : Bool} {cs : List IVal} {off : Nat} {u : Value} (hV : V g (.pv r cs off) u) : ∃ a, u = .pointer (some a) := by
 cases hV with
 | pv _ _ _ vs a hs ho hl hv hf hr hm => exact ⟨a, rfl⟩
theorem rt_V (g : Gh) (rt G : Nat) (t : TypeId) : V g (rtI rt G t) (.iface rt (.agg #[.pointer (some ⟨G, t, none⟩)])) /\ own3 (rtI rt G t) (.iface rt (.agg #[.pointer (some ⟨G, t, none⟩)])) = [] := by
 refine ⟨.iface _ _ _ (.agg _ _ rfl (fun i x v hx hv => ?_) (by simp [hdlI, IVal.isCell])) ⟨rfl, rfl⟩, rfl⟩
 cases i with
 | zero => simp at hx hv; subst hx hv; exact .prim _ rfl
 | succ i => simp at hx
theorem methodAny_eq (z : Sem Value) (f : TypeId -> Addr -> Nat -> Nat -> Sem Value) (v : Value) :
   ReflectliteValue.methodAny z f #[v] = (do match <- ReflectliteValue.partsAny v with | none => z | some (t, a, fl) => f t a fl (fl % 32)) := rfl
theorem method_eq (z : Sem Value) (f : TypeId -> Addr -> Nat -> Nat -> Sem Value) (v : Value) :
   ReflectliteValue.method z f #[v] = (do match <- ReflectliteValue.parts v with | none => z | some (t, a, fl) => f t a fl (fl % 32)) := rfl
def vfl (f : Int) : Prop := f = 150 \/ f = 406
theorem run_partsAny {t : TypeId} {ad : Addr} {f : Int} (hf : vfl f) : (ReflectliteValue.partsAny (.agg #[.pointer (some ⟨P.globals.size, t, none⟩), .pointer (some ad), .int .u64 f])).run P w = .ok (some (t, ad, f.toNat)) w := by
 have e : ReflectliteValue.partsAny (.agg #[.pointer (some ⟨P.globals.size, t, none⟩), .pointer (some ad), .int .u64 f]) = (do pure (some (<- ofHandle (.pointer (some ⟨P.globals.size, t, none⟩)), ad, f.toNat))) := by
   rcases hf with rfl | rfl <;> rfl
 rw [e]
 simp [run_ofHandle, Result.andThen]
theorem run_parts {t : TypeId} {ad : Addr} {f : Int} (hf : vfl f) (hp : P.packed t = false) : (ReflectliteValue.parts (.agg #[.pointer (some ⟨P.globals.size, t, none⟩), .pointer (some ad), .int .u64 f])).run P w = .ok (some (t, ad, f.toNat)) w := by
 simp [ReflectliteValue.parts, run_partsAny hf, run_noPack hp, Result.andThen]
theorem run_loadP {T : TypeId} {b o : Nat} {c : IVal} {cv : Value} (hT : tyN P T none = true) (hV : V g c cv) (hc : c.isCell = true) (hm : w.cell? ⟨b, o, none⟩ = some cv) : ∃ u, (loadVar T ⟨b, o, none⟩).run P w = .ok u w /\ V g c u := by
 obtain ⟨u, h1, h2, -⟩ := run_loadVar (P := P) (w := w) (n := none) (cs := [c]) (vs := [cv]) (b := b) (e := o) (off := 0) (z := c) hT (Nat.le_refl _) (fun i x v hx hv => by
   cases i with
   | zero => simp at hx hv; subst hx hv; exact hV
   | succ i => simp at hx) (by simpa using hc) (fun j v hj => by
   cases j with
   | zero => simp at hj; subst hj; exact hm
   | succ j => simp at hj) rfl
 exact ⟨u, h1, h2⟩
theorem args1 {vs : List IVal} {us : List Value} {x : IVal} (e : vs = [x]) (hl : vs.length = us.length) (hv : ∀ (i : Nat) x u, vs[i]? = some x -> us[i]? = some u -> V g x u) : ∃ u, us = [u] /\ V g x u := by
 subst e
 match us, hl with
 | [u], _ => exact ⟨u, rfl, hv 0 _ _ rfl rfl⟩
theorem args2 {vs : List IVal} {us : List Value} {x y : IVal} (e : vs = [x, y]) (hl : vs.length = us.length) (hv : ∀ (i : Nat) x u, vs[i]? = some x -> us[i]? = some u -> V g x u) : ∃ u v, us = [u, v] /\ V g x u /\ V g y v := by
 subst e
 match us, hl with
 | [u, v], _ => exact ⟨u, v, rfl, hv 0 _ _ rfl rfl, hv 1 _ _ rfl rfl⟩
theorem find_mem {α : Type} {p : α -> Bool} {l : List α} {x : α} (h : l.find? p = some x) : x ∈ l /\ p x = true := ⟨List.mem_of_find?_eq_some h, List.find?_some h⟩
theorem iface_inv {t : TypeId} {x : IVal} {u : Value} (hV : V g (.iface t x) u) : ∃ v, u = .iface t v /\ V g x v /\ Flat x := by
 cases hV with
 | iface _ _ v hv hf => exact ⟨v, rfl, hv, hf⟩
theorem rtMethod_eq (f : TypeId -> Sem Value) (r : Value) : ReflectliteType.method f #[r] = (do f (<- ReflectliteType.ofRtype r)) := rfl
theorem relation_eq (n : String) (f : TypeId -> TypeId -> Sem Bool) (r v : Value) (u : TypeId) : ReflectliteType.relation n f #[r, .iface u v] = (do pure (.bool (<- f (<- ReflectliteType.ofRtype v) (<- ReflectliteType.ofRtype r)))) := rfl
theorem abi_eq (f : TypeId -> Sem Value) (h : Value) : ReflectliteType.abiMethod f #[h] = (do let t <- ofHandle h; noPack "a method of abi.Type" t; f t) := rfl
theorem ext_run {k : ExtK} (hk : extOK P k = true) {vs : List IVal} {us : List Value} (hl : vs.length = us.length) (hv : ∀ (i : Nat) x u, vs[i]? = some x -> us[i]? = some u -> V g x u)
   (hm : ∀ b o c, g.M b o = some c -> w.cell? ⟨b, o, none⟩ = some c) {v : IVal} (h : extI k vs = some v) : ∃ u, (extFn k us.toArray).run P w = .ok u w /\ V g v u /\ own3 v u = [] := by
 unfold extI at h
 split at h
 . -- typeOf
   rename_i rt G t x
   simp only [Option.some.injEq] at h
   subst h
   simp only [extOK, Bool.and_eq_true, beq_iff_eq] at hk
   obtain ⟨rfl, hk⟩ := hk
   obtain ⟨u, rfl, hV⟩ := args1 rfl hl hv
   obtain ⟨v, rfl, -, -⟩ := iface_inv hV
   exact ⟨_, run_toType hk, rt_V g rt _ t⟩
 . -- vType
   rename_i rt G hd r cs off f
   split at h
   . rename_i t ht
     split at h
     . rename_i hf
       simp only [Option.some.injEq] at h
       subst h
       simp only [extOK, Bool.and_eq_true, beq_iff_eq] at hk
       obtain ⟨rfl, hk⟩ := hk
       obtain ⟨u, rfl, hV⟩ := args1 rfl hl hv
       obtain ⟨hv', pv, qv, rfl, v1, v2, v3⟩ := agg3_inv hV
       have := hdl_inv v1 ht; subst this
       obtain ⟨ad, rfl⟩ := pvany_inv v2
       cases v3
       refine ⟨_, ?_, rt_V g rt _ t⟩
       simp only [extFn]
       rw [methodAny_eq]
       simp only [Sem.run_bind, run_partsAny (.inl hf), Result.andThen, run_toType hk]
     . cases h
   . cases h
 . -- vIsNil
   rename_i G tab hd r c f
   split at h
   . rename_i t ht
     split at h
     . rename_i hf
       obtain ⟨hf, hc⟩ := hf
       simp only [extOK, Bool.and_eq_true, beq_iff_eq, List.all_eq_true, Bool.not_eq_true'] at hk
       obtain ⟨rfl, hk⟩ := hk
       obtain ⟨hp, hT⟩ := hk t (List.contains_iff_mem.1 hc)
       obtain ⟨u, rfl, hV⟩ := args1 rfl hl hv
       obtain ⟨hv', pv, qv, rfl, v1, v2, v3⟩ := agg3_inv hV
       have := hdl_inv v1 ht; subst this
       obtain ⟨b, o, cv, rfl, vc, hcell, hM, -⟩ := pv1_inv v2
       cases v3
       obtain ⟨lu, hlu, vlu⟩ := run_loadP (w := w) hT vc hcell (hm _ _ _ hM)
       have e : ∀ p, lu = .pointer p -> (extFn (.vIsNil P.globals.size tab) [Value.agg #[.pointer (some ⟨P.globals.size, t, none⟩), .pointer (some ⟨b, o, none⟩), .int .u64 f]].toArray).run P w = .ok (.bool p.isNone) w := by
         intro p hp'
         simp only [extFn]
         rw [method_eq]
         subst hf hp'
         simp only [Sem.run_bind, run_parts (.inl rfl) hp, Result.andThen, ReflectliteValue.isNil]
         simp [hlu, Result.andThen]
         cases p <;> rfl
       split at h
       . simp only [Option.some.injEq] at h; subst h
         cases vlu
         exact ⟨_, e _ rfl, .bool _, rfl⟩
       . simp only [Option.some.injEq] at h; subst h
         cases vlu
         exact ⟨_, e _ rfl, .bool _, rfl⟩
       . simp only [Option.some.injEq] at h; subst h
         obtain ⟨ad, rfl⟩ := pvany_inv vlu
         exact ⟨_, e _ rfl, .bool _, rfl⟩
       . cases h
     . cases h
   . cases h
 . -- vElem
   rename_i G tab hd r c f
   split at h
   . rename_i t ht
     split at h
     . rename_i hf
       split at h
       . rename_i t' e k hfind
         split at h
         . rename_i id off
           simp only [Option.some.injEq] at h
           subst h
           simp only [extOK, Bool.and_eq_true, beq_iff_eq, List.all_eq_true, Bool.not_eq_true'] at hk
           obtain ⟨rfl, hk⟩ := hk
           obtain ⟨hmem, he⟩ := find_mem hfind
           have := eq_of_beq he; subst this
           obtain ⟨hp, hT, hE, hK⟩ := hk _ hmem
           obtain ⟨u, rfl, hV⟩ := args1 rfl hl hv
           obtain ⟨hv', pv, qv, rfl, v1, v2, v3⟩ := agg3_inv hV
           have := hdl_inv v1 ht; subst this
           obtain ⟨b, o, cv, rfl, vc, hcell, hM, -⟩ := pv1_inv v2
           cases v3
           obtain ⟨lu, hlu, vlu⟩ := run_loadP (w := w) hT vc hcell (hm _ _ _ hM)
           subst hf
           cases vlu with
           | ptr _ _ b' hb' =>
           refine ⟨.agg #[.pointer (some ⟨P.globals.size, e, none⟩), .pointer (some ⟨b', off, none⟩), .int .u64 (k + 384 : Nat)], ?_, .agg _ _ rfl (fun i x v hx hv' => ?_) (by simp [hdlI, IVal.isCell]), rfl⟩
           . simp only [extFn]
             rw [method_eq]
             simp only [Sem.run_bind, run_parts (.inl rfl) hp, Result.andThen, ReflectliteValue.elem]
             have e1 : ((150 : Int).toNat % 32 != 20 && (150 : Int).toNat % 32 != 22) = false := rfl
             simp only [e1, Bool.false_eq_true, if_false, Sem.run_bind, hlu, Result.andThen, run_elem hE]
             show (ReflectliteValue.mk e ⟨b', off, none⟩ ReflectliteValue.flagAddr).run P w = _
             simp [ReflectliteValue.mk, run_handle, run_kind hK, Result.andThen, ReflectliteValue.flagIndir, ReflectliteValue.flagAddr]
             omega
           . match i with
             | 0 => simp at hx hv'; subst hx hv'; exact .prim _ rfl
             | 1 => simp at hx hv'; subst hx hv'; exact .ptr _ _ _ hb'
             | 2 => simp at hx hv'; subst hx hv'; exact .int _ _
             | i + 3 => simp at hx
         . cases h
       . cases h
     . cases h
   . cases h
 . -- rElem
   rename_i rt G tab hd
   split at h
   . rename_i t ht
     split at h
     . rename_i u e hf
       simp only [Option.some.injEq] at h
       subst h
       simp only [extOK, Bool.and_eq_true, beq_iff_eq, List.all_eq_true, Bool.not_eq_true'] at hk
       obtain ⟨rfl, hcut, hk⟩ := hk
       obtain ⟨hmem, he⟩ := find_mem hf
       have := eq_of_beq he; subst this
       obtain ⟨hp, hE⟩ := hk _ hmem
       obtain ⟨u', rfl, hV⟩ := args1 rfl hl hv
       obtain ⟨hv', rfl, v1⟩ := agg1_inv hV
       have := hdl_inv v1 ht; subst this
       refine ⟨_, ?_, rt_V g rt _ e⟩
       simp only [extFn]
       rw [rtMethod_eq]
       simp only [Sem.run_bind, run_ofRtype hp, Result.andThen, ReflectliteType.elem, run_elem hE, run_toType hcut]
     . cases h
   . cases h
 . -- rCmp
   rename_i G tab hd
   split at h
   . rename_i t ht
     split at h
     . rename_i u b hf
       simp only [Option.some.injEq] at h
       subst h
       simp only [extOK, Bool.and_eq_true, beq_iff_eq, List.all_eq_true, Bool.not_eq_true'] at hk
       obtain ⟨rfl, hk⟩ := hk
       obtain ⟨hmem, he⟩ := find_mem hf
       have := eq_of_beq he; subst this
       obtain ⟨hp, hH, hE⟩ := hk _ hmem
       split at hE
       . rename_i i hi
         have hE := eq_of_beq hE
         simp only at hE
         subst hE
         obtain ⟨u', rfl, hV⟩ := args1 rfl hl hv
         obtain ⟨hv', rfl, v1⟩ := agg1_inv hV
         have := hdl_inv v1 ht; subst this
         refine ⟨.bool i.comparable, ?_, .bool _, rfl⟩
         simp only [extFn]
         rw [rtMethod_eq]
         simp only [Sem.run_bind, run_ofRtype hp, Result.andThen, run_noPackHeld hH, typeInfo, run_program, hi, Sem.run_pure]
       . cases hE
     . cases h
   . cases h
 . -- rImpl
   rename_i G tab hd u0 hd'
   split at h
   . rename_i t t' ht ht'
     split at h
     . rename_i p b hf
       simp only [Option.some.injEq] at h
       subst h
       simp only [extOK, Bool.and_eq_true, beq_iff_eq, List.all_eq_true, Bool.not_eq_true'] at hk
       obtain ⟨rfl, hk⟩ := hk
       obtain ⟨hmem, he⟩ := find_mem hf
       simp only [Bool.and_eq_true, beq_iff_eq] at he
       obtain ⟨e1, e2⟩ := he
       subst e1 e2
       obtain ⟨hp, hp', hM, hM', hK, hI⟩ := hk _ hmem
       obtain ⟨x, y, rfl, hV, hV'⟩ := args2 rfl hl hv
       obtain ⟨hv1, rfl, v1⟩ := agg1_inv hV
       obtain ⟨y', rfl, hV', -⟩ := iface_inv hV'
       obtain ⟨hv2, rfl, v2⟩ := agg1_inv hV'
       have := hdl_inv v1 ht; subst this
       have := hdl_inv v2 ht'; subst this
       refine ⟨.bool b, ?_, .bool _, rfl⟩
       simp only [extFn]
       show (ReflectliteType.relation _ _ #[_, _]).run P w = _
       rw [relation_eq]
       have e20 : ((20 : Nat) != 20) = false := rfl
       have hrun : (ReflectliteType.implements_ p.2 p.1).run P w = .ok b w := by
         simp only [ReflectliteType.implements_, Sem.run_bind, run_kind hK, Result.andThen, e20, Bool.false_eq_true, if_false, run_noPackMethods hM, run_noPack hp', run_impl hI hM' hM]
       simp only [Sem.run_bind, run_ofRtype hp, run_ofRtype hp', Result.andThen, hrun, Sem.run_pure]
     . cases h
   . cases h
 . -- rAsg
   rename_i G tab hd u0 hd'
   split at h
   . rename_i t t' ht ht'
     split at h
     . rename_i p b hf
       simp only [Option.some.injEq] at h
       subst h
       simp only [extOK, Bool.and_eq_true, beq_iff_eq, List.all_eq_true, Bool.not_eq_true'] at hk
       obtain ⟨rfl, hk⟩ := hk
       obtain ⟨hmem, he⟩ := find_mem hf
       simp only [Bool.and_eq_true, beq_iff_eq] at he
       obtain ⟨e1, e2⟩ := he
       subst e1 e2
       obtain ⟨hp, hp', hM, hM', hI⟩ := hk _ hmem
       split at hI
       . rename_i b1 b2 hd1 hd2
         have hI := eq_of_beq hI
         simp only at hI
         subst hI
         obtain ⟨x, y, rfl, hV, hV'⟩ := args2 rfl hl hv
         obtain ⟨hv1, rfl, v1⟩ := agg1_inv hV
         obtain ⟨y', rfl, hV', -⟩ := iface_inv hV'
         obtain ⟨hv2, rfl, v2⟩ := agg1_inv hV'
         have := hdl_inv v1 ht; subst this
         have := hdl_inv v2 ht'; subst this
         refine ⟨.bool (b1 || b2), ?_, .bool _, rfl⟩
         simp only [extFn]
         show (ReflectliteType.relation _ _ #[_, _]).run P w = _
         rw [relation_eq]
         have hrun : (ReflectliteType.assignableTo p.2 p.1).run P w = .ok (b1 || b2) w := by
           simp only [ReflectliteType.assignableTo]
           split
           . simp only [Sem.run_bind, run_noPackMethods hM, run_noPackMethods hM', Result.andThen, run_da hd1, run_impl hd2 hM' hM, Sem.run_pure]
           . simp only [Sem.run_bind, Result.andThen, run_da hd1, run_impl hd2 hM' hM, Sem.run_pure]
         simp only [Sem.run_bind, run_ofRtype hp, run_ofRtype hp', Result.andThen, hrun, Sem.run_pure]
       . cases hI
     . cases h
   . cases h
 . -- aKind
   rename_i G tab hd
   split at h
   . rename_i t ht
     split at h
     . rename_i u n hf
       simp only [Option.some.injEq] at h
       subst h
       simp only [extOK, Bool.and_eq_true, beq_iff_eq, List.all_eq_true, Bool.not_eq_true'] at hk
       obtain ⟨rfl, hk⟩ := hk
       obtain ⟨hmem, he⟩ := find_mem hf
       have := eq_of_beq he; subst this
       obtain ⟨hp, hK⟩ := hk _ hmem
       obtain ⟨u', rfl, hV⟩ := args1 rfl hl hv
       have := hdl_inv hV ht; subst this
       refine ⟨.int .u8 n, ?_, .int _ _, rfl⟩
       simp only [extFn]
       rw [abi_eq]
       simp only [Sem.run_bind, run_ofHandle, run_noPack hp, Result.andThen, run_kind hK, Sem.run_pure]
     . cases h
   . cases h
 . cases h
end Go.Idl
namespace Go.Idl
open Go.Extern Go.Extern.Rtype
variable [Globs]
variable {P : Program} {o : Oper} {a : Act} {g : Gh} {O : List Nat} {w : World} {s : St} {res : Res} {cf : CallF}
def recvT (P : Program) (t : TypeId) (ptr : Bool) : Bool :=
 match P.underlying t with
 | some (.pointer _) => ptr
 | some _ => !ptr
 | none => false
theorem run_receiverAt {t : TypeId} {ptr : Bool} {v : Value} {wr : Option String} (h : recvT P t ptr = true) : (receiverAt t (.val v) ptr wr).run P w = .ok v w := by
 unfold recvT at h
 split at h
 . rename_i e hu
   subst h
   simp [receiverAt, run_underlying hu, Result.andThen, Place.get]
 . rename_i d hne hu
   cases ptr with
   | true => simp at h
   | false =>
     simp only [receiverAt, Sem.run_bind, run_underlying hu, Result.andThen]; rfl
 . cases h
def recvOK (P : Program) (t : TypeId) (name : String) (f : FuncId) (rk : RecvK) : Bool :=
 match P.info? t with
 | some i => match i.methods.find? (fun m => m.name == name) with
   | some m => match m.func with
     | some (f', ptr) => f == f' && (match rk, m.path.toList with
       | .same, [] => recvT P t ptr
       | .fld off n, [s] => !s.deref && (match P.underlying s.struct with
         | some (.struct fs) => match fs[s.index]? with
           | some fd => fd.offset == off && (tyN P fd.type n && recvT P fd.type ptr)
           | none => false
         | _ => false)
       | _, _ => false)
     | none => false
   | none => false
 | none => false
theorem run_method {fuel : Nat} {t : TypeId} {name : String} {f : FuncId} {rk : RecvK} {x y : IVal} {v : Value} (h : recvOK P t name f rk = true) (hV : V g x v) (hf : Flat x) (hy : recvI rk x = some y) :
   ∃ u, (Go.method (fuel + 1) t v name).run P w = .ok (f, u) w /\ V g y u /\ own3 y u = [] := by
 unfold recvOK at h
 split at h
 . rename_i i hi
   split at h
   . rename_i m hm
     split at h
     . rename_i f' ptr hfn
       simp only [Bool.and_eq_true, beq_iff_eq] at h
       obtain ⟨rfl, h⟩ := h
       split at h
       . rename_i hp
         simp only [recvI, Option.some.injEq] at hy
         subst hy
         refine ⟨v, ?_, hV, own3_flat hf v⟩
         simp only [Go.method, typeInfo, Sem.run_bind, run_program, Result.andThen, hi, Sem.run_pure, hm, hp, follow, hfn, run_receiverAt h]
       . rename_i off n st hp
         simp only [Bool.and_eq_true, Bool.not_eq_true'] at h
         obtain ⟨hd, h⟩ := h
         split at h
         . rename_i fs hs
           split at h
           . rename_i fd hfd
             simp only [Bool.and_eq_true, beq_iff_eq] at h
             obtain ⟨ho, hT, hr⟩ := h
             subst ho
             cases x with
             | agg cs =>
               simp only [recvI] at hy
               obtain ⟨vs, rfl, hl', hv, hc⟩ := hV.agg_inv
               obtain ⟨u, hu, hVu, hou⟩ := run_part (P := P) (w := w) hT hl' hv hc hy
               refine ⟨u, ?_, hVu, ?_⟩
               . simp only [Go.method, typeInfo, Sem.run_bind, run_program, Result.andThen, hi, Sem.run_pure, hm, hp, follow, run_underlying hs, hfd, hd, Bool.false_eq_true, if_false, hu, hfn, run_receiverAt hr]
               . have := own3_flat hf (.agg vs)
                 simp only [own3, own2] at this
                 rw [this] at hou
                 exact List.sublist_nil.1 hou
             | _ => simp [recvI] at hy
           . cases h
         . cases h
       . cases h
     . cases h
   . cases h
 . cases h
theorem extract_one (x : Value) (us : Array Value) : (#[x] ++ us).extract 1 (#[x] ++ us).size = us := by
 apply Array.ext'
 simp
def isExt (P : Program) (f : FuncId) (k : ExtK) : Bool := match P.funcs[f]? with
 | some fn => fn.name == extName k && (fn.origin == "" && (fn.body.isNone && extOK P k))
 | none => false
theorem run_ext {f : FuncId} {k : ExtK} (h : isExt P f k = true) {vs : List IVal} {us : Array Value} (hl : vs.length = us.toList.length) (hv : ∀ (i : Nat) x u, vs[i]? = some x -> us.toList[i]? = some u -> V g x u)
   (hm : ∀ b o c, g.M b o = some c -> w.cell? ⟨b, o, none⟩ = some c) {v : IVal} (he : extI k vs = some v) : ∃ u, (callFunc f us).run P w = .ok (.value u) w /\ V g v u /\ own3 v u = [] := by
 unfold isExt at h
 split at h
 . rename_i fn hf
   simp only [Bool.and_eq_true, beq_iff_eq] at h
   obtain ⟨h1, h2, h3, h4⟩ := h
   obtain ⟨e1, e2⟩ := ext_find h1 h2
   obtain ⟨u, q1, q2, q3⟩ := ext_run (w := w) h4 hl hv hm he
   refine ⟨u, ?_, q2, q3⟩
   rw [run_callFunc_extern hf (by rw [h1]; cases k <;> rfl) h3 e1 e2]
   have e : us.toList.toArray = us := by simp
   rw [e] at q1
   rw [q1]; rfl
 . cases h
theorem pur_ext {k : ExtK} {c : Call} {f : FuncId} (hop : o.op = .call c) (hc : c.callee = .value (.func f)) (h : isExt P f k = true) : PurSim P o a (.ext k) c.args.toList := by
 intro g w vs v hl hv hm he
 obtain ⟨u, q1, q2, q3⟩ := run_ext (w := w) (us := c.args.map a.eval) h (by simpa using hl) (fun i x u hx hu => by
   simp only [Array.toList_map, List.getElem?_map, Option.map_eq_some_iff] at hu
   obtain ⟨r, hr, rfl⟩ := hu
   exact hv i x r hx hr) hm he
 refine ⟨u, ?_, q2, q3⟩
 simp only [execOp, hop, resolve, hc, Act.eval, Deferred.ofValue, Sem.run_bind, Sem.run_pure, Result.andThen, invoke]
 simpa using q1
theorem pur_invX {tab : List (TypeId × ExtK × RecvK)} {c : Call} {r : Operand} {name : String} (hop : o.op = .call c) (hc : c.callee = .invoke r name)
   (h : ∀ p ∈ tab, ∃ f, recvOK P p.1 name f p.2.2 = true /\ isExt P f p.2.1 = true) : PurSim P o a (.invX tab) (r :: c.args.toList) := by
 intro g w vs v hl hv hm he
 cases vs with
 | nil => simp [purI] at he
 | cons x0 vs =>
 cases x0 with
 | iface t x =>
   simp only [purI] at he
   split at he
   . rename_i t' k rk hfind
     split at he
     . rename_i y hy
       obtain ⟨hmem, ht⟩ := find_mem hfind
       have := eq_of_beq ht; subst this
       obtain ⟨f, hr, hx⟩ := h _ hmem
       obtain ⟨xv, hxv, hVx, hfx⟩ := iface_inv (hv 0 _ r rfl rfl)
       obtain ⟨u, q1, q2, q3⟩ := run_method (w := w) (fuel := P.types.size + (Made.depth - 1)) hr hVx hfx hy
       obtain ⟨u', p1, p2, p3⟩ := run_ext (w := w) (us := #[u] ++ c.args.map a.eval) hx (by simpa using hl) (fun i x u' hx hu => by
         cases i with
         | zero => simp at hx hu; subst hx hu; exact q2
         | succ i =>
           simp only [List.getElem?_cons_succ] at hx
           have hu' : (c.args.toList.map a.eval)[i]? = some u' := by simpa using hu
           simp only [List.getElem?_map, Option.map_eq_some_iff] at hu'
           obtain ⟨r', hr', rfl⟩ := hu'
           exact hv (i + 1) x r' (by rw [List.getElem?_cons_succ]; exact hx) (by rw [List.getElem?_cons_succ]; exact hr')) hm he
       refine ⟨u', ?_, p2, p3⟩
       have hfu : P.types.size + Made.depth = P.types.size + (Made.depth - 1) + 1 := rfl
       have harg : (#[Value.iface t' xv] ++ c.args.map a.eval)[0]? = some (.iface t' xv) := by rw [Array.getElem?_append_left (by simp)]; rfl
       simp only [execOp, hop, resolve, hc, Sem.run_bind, Sem.run_pure, Result.andThen, invoke, hxv]
       rw [harg]
       simp only [extract_one, callMethod, Sem.run_bind, run_program, Result.andThen, hfu, q1]
       exact p1
     . cases he
   . cases he
 | _ => simp [purI] at he
end Go.Idl
namespace Go.Idl
open Go.Extern Go.Extern.Rtype
variable [Globs]
variable {P : Program} {o : Oper} {a : Act} {g : Gh} {O : List Nat} {w : World} {s : St} {res : Res} {cf : CallF}
theorem opRes_inv {tab : List (TypeId × FuncId × RecvK)} {c : Call} {r : Operand} {name : String} {x : Opd} {xs : List Opd} {C0 : CRel} (hcf : CallOK P C0 cf) (hC : g.C = C0) (hop : o.op = .call c) (hc : c.callee = .invoke r name)
   (hr : opdOK x r = true) (hx : opdsOK xs c.args.toList = true) (ht : ∀ p ∈ tab, recvOK P p.1 name p.2.1 p.2.2 = true) (hs : stepOp cf (.inv tab x xs) s = some res)
   (hl : WT s.ts a.tmps) (hR : R g O (s.ts.roots a.tmps) s.σ w) : OpRes P o a g O w s res := by
 simp only [stepOp] at hs
 split at hs
 . rename_i t v ts h
   split at hs
   . rename_i t' f rk hfind
     split at hs
     . rename_i y hy
       split at hs
       . rename_i vs ts' h'
         obtain ⟨hmem, he⟩ := find_mem hfind
         have := eq_of_beq he; subst this
         obtain ⟨h1, h2⟩ := get_sim (l := []) hr h hl hR
         obtain ⟨h3, h4, h5⟩ := getAll_sim (l := [(.iface t' v, a.eval r)]) hx h' h2 h1
         have hV : V g (.iface t' v) (a.eval r) := h3.vals (.iface t' v, a.eval r) (by simp)
         obtain ⟨xv, hxv, hVx, hfx⟩ := iface_inv hV
         obtain ⟨u, q1, q2, q3⟩ := run_method (w := w) (fuel := P.types.size + (Made.depth - 1)) (ht _ hmem) hVx hfx hy
         have hbase : R g O (vs.zip (c.args.toList.map a.eval) ++ ts'.roots a.tmps) s.σ w := by
           have hp : (vs.zip (c.args.toList.map a.eval) ++ ([(IVal.iface t' v, a.eval r)] ++ ts'.roots a.tmps)).Perm ((IVal.iface t' v, a.eval r) :: (vs.zip (c.args.toList.map a.eval) ++ ts'.roots a.tmps)) := List.perm_middle
           exact (h3.perm hp).drop
         refine opRes_call (rargs := #[u] ++ c.args.map a.eval) hcf hC (fun c' h => by rw [hop] at h; cases h) (fun hf => ?_) (by simp at h5 ⊢; omega) ?_ h4 hs
         . obtain ⟨fn, f1, f2, f3⟩ := hf
           have hfu : P.types.size + Made.depth = P.types.size + (Made.depth - 1) + 1 := rfl
           have harg : (#[Value.iface t' xv] ++ c.args.map a.eval)[0]? = some (.iface t' xv) := by rw [Array.getElem?_append_left (by simp)]; rfl
           simp only [execOp, hop, resolve, hc, Sem.run_bind, Sem.run_pure, Result.andThen, invoke, hxv]
           rw [harg]
           simp only [extract_one, callMethod, Sem.run_bind, run_program, Result.andThen, hfu, q1]
           simp [callFunc, f1, f2, f3]
         . have e : (y :: vs).zip (#[u] ++ c.args.map a.eval).toList = (y, u) :: vs.zip (c.args.toList.map a.eval) := by simp
           rw [e]
           exact hbase.push q2 q3
       . cases hs
     . cases hs
   . cases hs
 . cases hs
def isVOf (P : Program) (f : FuncId) (G : Nat) (tab : List (TypeId × Nat)) : Bool := match P.funcs[f]? with
 | some fn => fn.name == "internal/reflectlite.ValueOf" && (fn.origin == "" && (fn.body.isNone && (G == P.globals.size && tab.all fun p => kindP P p.1 == some p.2)))
 | none => false
theorem vOf_find {fn : Func} (h : fn.name = "internal/reflectlite.ValueOf") (ho : fn.origin = "") : Extern.findNext fn = none /\ Extern.find fn = some (fun args => ReflectliteValue.unpack (args.getD 0 (.tuple #[]))) := by
 unfold Extern.findNext Extern.find
 rw [h, ho]
 exact ⟨by kernel_rfl, by kernel_rfl⟩
theorem sim_vOf {G : Nat} {tab : List (TypeId × Nat)} {c : Call} {f : FuncId} {r : Operand} {x : Opd} (hop : o.op = .call c) (hc : c.callee = .value (.func f)) (ha : c.args = #[r]) (hf : isVOf P f G tab = true) (hx : opdOK x r = true)
   (hs : stepOp cf (.vOf G tab x) s = some res) (hl : WT s.ts a.tmps) (hR : R g O (s.ts.roots a.tmps) s.σ w) : SimV P o a g O w s res := by
 unfold isVOf at hf
 split at hf
 . rename_i fn hfn
   simp only [Bool.and_eq_true, beq_iff_eq, List.all_eq_true] at hf
   obtain ⟨f1, f2, f3, f4, f5⟩ := hf
   obtain ⟨e1, e2⟩ := vOf_find f1 f2
   simp only [stepOp] at hs
   split at hs
   . rename_i t v ts h
     split at hs
     . rename_i t' k hfind
       split at hs
       . rename_i hcell
         simp only [rv, Option.some.injEq] at hs
         subst hs
         obtain ⟨hmem, he⟩ := find_mem hfind
         have := eq_of_beq he; subst this
         have hk := f5 _ hmem
         obtain ⟨h1, h2⟩ := get_sim (l := []) hx h hl hR
         obtain ⟨xv, hxv, hVx, hfx⟩ := iface_inv h1.head
         subst f4
         have hrun : (execOp a.eval o).run P w = .ok (.value (.agg #[.pointer (some ⟨P.globals.size, t', none⟩), .pointer (some ⟨w.heap.size, 0, none⟩), .int .u64 (k + 128 : Nat)])) (w.alloc (.cells xv.cells t')) := by
           have : (callFunc f #[.iface t' xv]).run P w = .ok (.value (.agg #[.pointer (some ⟨P.globals.size, t', none⟩), .pointer (some ⟨w.heap.size, 0, none⟩), .int .u64 (k + 128 : Nat)])) (w.alloc (.cells xv.cells t')) := by
             rw [run_callFunc_extern hfn (by rw [f1]; rfl) f3 e1 e2]
             show ((ReflectliteValue.unpack (.iface t' xv)).run P w).andThen _ = _
             simp [ReflectliteValue.unpack, ReflectliteValue.mk, run_newVar, run_handle, run_kind hk, Result.andThen, ReflectliteValue.flagIndir]
           simp only [execOp, hop, resolve, hc, Act.eval, Deferred.ofValue, Sem.run_bind, Sem.run_pure, Result.andThen, invoke, ha]
           have e : (#[] : Array Value) ++ (#[r].map a.eval) ++ #[] = #[.iface t' xv] := by simp [<- hxv]
           simpa [<- hxv] using this
         obtain ⟨q1, q2⟩ := hVx.cells
         obtain ⟨g', hR', hg, hι⟩ := h1.drop.newPv (cs := v.cells.map un1) (vs := xv.cells) (rf := ext v.cells) (el := t') (by simpa using q1) (fun i y u hy hu => by
             simp only [List.getElem?_map, Option.map_eq_some_iff] at hy
             obtain ⟨y', hy', rfl⟩ := hy
             exact (q2 i y' u hy' hu).un1) (fun y hy => by
             simp only [List.mem_map] at hy
             obtain ⟨y', hy', rfl⟩ := hy
             exact ⟨un1_un1 y', by rw [isCell_un1]; exact List.all_eq_true.1 hcell y' hy'⟩) (fun hrf y hy => by
             simp only [List.mem_map] at hy
             obtain ⟨y', hy', rfl⟩ := hy
             simp only [ext, Bool.not_eq_false', List.all_eq_true] at hrf
             have := hrf y' hy'
             have hcell := List.all_eq_true.1 hcell y' hy'
             cases y' <;> simp_all [nr2, nr1, nr0, un1, IVal.isCell])
         refine ⟨rfl, _, _, _, hrun, rfl, g', O, [], hg, ?_, h2, rfl, Keep.refl _⟩
         refine hR'.swap (fun hVp => ?_) (List.nil_sublist _)
         refine .agg _ _ rfl (fun i x v hx hv' => ?_) (by simp [hdlI, IVal.isCell])
         match i with
         | 0 => simp at hx hv'; subst hx hv'; exact .prim _ rfl
         | 1 => simp at hx hv'; subst hx hv'; exact hVp
         | 2 => simp at hx hv'; subst hx hv'; exact .int _ _
         | i + 3 => simp at hx
       . cases hs
     . cases hs
   . cases hs
 . cases hf
theorem R.putAt {l : Roots} {σ : List IObj} {v : IVal} {uv : Value} {id off b : Nat} {cs : List IVal} (hroot : R g O ((v, uv) :: l) σ w) (hι : g.ι[id]? = some b) (hσ : σ[id]? = some (.cells cs)) (hput : off + v.cells.length <= cs.length) (hcell : v.cells.all IVal.isCell = true) :
   ∃ w', (storeCells ⟨b, off, none⟩ uv.cells.toList).run P w = .ok () w' /\ R g O ((undefI, undef) :: l) (σ.set id (.cells (putCells cs off v.cells))) w' /\ Grow O g w O g w' /\ Keep σ (σ.set id (.cells (putCells cs off v.cells))) [(id, !(v.cells.all nr1))] := by
 obtain ⟨c, el, hh, hsz, hc⟩ := hroot.objs id b _ hι hσ
 have hV := hroot.head
 obtain ⟨p1, p2⟩ := hV.cells
 have hun : uv.cells.toList.length = v.cells.length := by rw [Array.length_toList, <- p1]
 have hput' : off + uv.cells.toList.length <= c.toList.length := by
   rw [hun]
   have h0 : c.toList.length = c.size := by simp
   omega
 have hones : ∀ u ∈ uv.cells.toList, u.oneCell' = true := by
   intro u hu
   obtain ⟨j, hj⟩ := mem_idx hu
   have hj' : uv.cells[j]? = some u := by simpa using hj
   obtain ⟨x, hx⟩ : ∃ x, v.cells[j]? = some x := by
     have := (Array.getElem?_eq_some_iff.1 hj').1
     exact ⟨v.cells[j]'(by omega), by simp⟩
   have hVj := p2 j x u hx hj'
   exact oneCell_of (by rw [<- hVj.isCell]; exact List.all_eq_true.1 hcell x (List.mem_of_getElem? hx))
 let row := (c.toList.take off ++ uv.cells.toList ++ c.toList.drop (off + uv.cells.toList.length)).toArray
 have hst : (storeCells ⟨b, off, none⟩ uv.cells.toList).run P w = .ok () (w.setRow b row) := by
   have := run_storeCells_atF P b off el (0, 0) uv.cells.toList 0 c w hh (by simp) (by simpa using hput') hones
   simpa [row] using this
 have hrow : (w.setRow b row).heap[b]? = some (.cells row el (0, 0)) := setRow_heap w b c row el _ hh
 have hOB : OBJ g (w.setRow b row) b (.cells (putCells cs off v.cells)) := by
   refine ⟨row, el, hrow, ?_, fun j x u hxj huj => ?_⟩
   . rw [putCells_len hput]; simp [row]; simp at hput' hun; omega
   . rw [putCells_get hput] at hxj
     have huj' : (c.toList.take off ++ uv.cells.toList ++ c.toList.drop (off + uv.cells.toList.length))[j]? = some u := by simpa [row] using huj
     rw [putR_get hput', hun] at huj'
     split at hxj
     . rename_i hj
       rw [if_pos hj] at huj'
       have huj'' : uv.cells[j - off]? = some u := by simpa using huj'
       exact ⟨p2 _ _ _ hxj huj'', List.all_eq_true.1 hcell x (List.mem_of_getElem? hxj)⟩
     . rename_i hj
       rw [if_neg hj] at huj'
       exact hc j x u hxj (by simpa using huj')
 have hf := setRow_fields w b row
 have hR' := hroot.upd (y := undefI) (u := undef) (id := id) (b := b) (ob := .cells cs) (ob' := .cells (putCells cs off v.cells)) (w' := w.setRow b row) (undef_V g) hι hσ (by simp) (fun k hk => setRow_other w b k row hk) hf.2.2.2 (fun c' el' fz' hc' => by
   rw [hh] at hc'; cases hc'
   exact ⟨row, el, hrow, by simp [row]; simp at hput'; omega⟩) hOB (by
   simp only [ownO, blockCells, hh, hrow]
   obtain ⟨A, C, e1, e2⟩ := own_put (cs := cs) (ws := v.cells) (c := c.toList) (us := uv.cells.toList) (off := off) (by simpa using hsz) (by rw [hun]) hput
   rw [show row.toList = c.toList.take off ++ uv.cells.toList ++ c.toList.drop (off + uv.cells.toList.length) from rfl, e1, e2, own_cells hV hcell]
   show SubP (b :: (A ++ own3 v uv ++ C)) (own3 v uv ++ b :: (A ++ _ ++ C))
   refine SubP.perm_right (List.perm_middle.symm) ?_
   refine SubP.append_left [b] ?_
   refine SubP.perm_left (a := own3 v uv ++ (A ++ C)) ?_ ?_
   . rw [<- List.append_assoc]; exact List.perm_append_comm.append_right C
   . refine SubP.append_left _ (SubP.of_sub ?_)
     rw [List.append_assoc]
     exact List.Sublist.append (.refl _) (List.sublist_append_right _ _))
 refine ⟨_, hst, hR', ?_, Keep.set fun m hid hm ho => ?_⟩
 . exact Grow.of_setRow g w (hroot.sub b (List.mem_append_right _ (ownS_mem hι hσ (by simp [ownO])))) _ (fun k hk => setRow_other w b k row hk) hf.2.2.2 hf.1 hf.2.1 hf.2.2.1
 . refine RLO_put hput (ho _ hσ) (fun x hx => ?_)
   obtain ⟨j, hj⟩ := mem_idx hx
   obtain ⟨u, hu⟩ := get_of_size p1 hj
   have hVx := p2 j x u hj hu
   by_cases hnr : v.cells.all nr1 = true
   . exact hVx.norl m (nr3_of_nr2 (nr2_of_nr1 (List.all_eq_true.1 hnr x hx)))
   . exact absurd (hm (by simpa using hnr)) (by omega)
def isVSet (P : Program) (f : FuncId) (G : Nat) (tab : List TypeId) : Bool := match P.funcs[f]? with
 | some fn => fn.name == "(internal/reflectlite.Value).Set" && (fn.origin == "" && (fn.body.isNone && (G == P.globals.size && tab.all fun t => !P.packed t && tyN P t none)))
 | none => false
theorem vSet_find {fn : Func} (h : fn.name = "(internal/reflectlite.Value).Set") (ho : fn.origin = "") : Extern.findNext fn = none /\ Extern.find fn = some ReflectliteValue.set := by
 unfold Extern.findNext Extern.find
 rw [h, ho]
 exact ⟨by kernel_rfl, by kernel_rfl⟩
theorem set_eq (v x : Value) : ReflectliteValue.set #[v, x] = (do
   let (some (dst, a, fl), some (src, b, _)) := (<- ReflectliteValue.parts v, <- ReflectliteValue.parts x)
     | unsupported (.noEntry "extern/(internal/reflectlite.Value).Set.zeroValue")
   if fl / ReflectliteValue.flagAddr % 2 == 0 then unsupported (.noEntry "extern/(internal/reflectlite.Value).Set.unaddressable")
   let val <- loadVar src b
   if <- directlyAssignable dst src then storeVar dst a val
   else if <- implements dst src then
     if (<- kind src) == 20 then
       match val with
       | .nilIface => unsupported (.noEntry "extern/reflectlite: a nil value of one interface type handed on as a value of another")
       | _ => storeVar dst a val
     else storeVar dst a (.iface src val)
   else panicString ("reflectlite.Set: value of type " ++ (<- spelt src) ++ " is not assignable to type " ++ (<- spelt dst))
   pure (.tuple #[])) := rfl
theorem sim_vSet {G : Nat} {tab : List TypeId} {c : Call} {f : FuncId} {rx ry : Operand} {x y : Opd} (hop : o.op = .call c) (hc : c.callee = .value (.func f)) (ha : c.args = #[rx, ry]) (hf : isVSet P f G tab = true) (hx : opdOK x rx = true) (hy : opdOK y ry = true)
   (hs : stepOp cf (.vSet G tab x y) s = some res) (hl : WT s.ts a.tmps) (hR : R g O (s.ts.roots a.tmps) s.σ w) : SimV P o a g O w s res := by
 unfold isVSet at hf
 split at hf
 . rename_i fn hfn
   simp only [Bool.and_eq_true, beq_iff_eq, List.all_eq_true, Bool.not_eq_true'] at hf
   obtain ⟨f1, f2, f3, rfl, f5⟩ := hf
   obtain ⟨e1, e2⟩ := vSet_find f1 f2
   simp only [stepOp] at hs
   split at hs
   . rename_i hd id off fl ts h
     split at hs
     . rename_i hd' rr v fl' ts' h'
       split at hs
       . rename_i t t' ht ht'
         split at hs
         . rename_i hcond
           obtain ⟨rfl, rfl, rfl, hcon⟩ := hcond
           split at hs
           . rename_i cs hcs
             split at hs
             . rename_i hoff
               simp only [Option.some.injEq] at hs
               subst hs
               obtain ⟨hp, hT⟩ := f5 t (List.contains_iff_mem.1 hcon)
               obtain ⟨h1, h2⟩ := get_sim (l := []) hx h hl hR
               have hVx : V g (.agg [hd, .ptr id off, .int .u64 406]) (a.eval rx) := h1.head
               obtain ⟨h3, h4⟩ := get_sim (l := [(.agg [hd, .ptr id off, .int .u64 406], a.eval rx)]) hy h' h2 h1
               obtain ⟨x1, x2, x3, ex, v1, v2, v3⟩ := agg3_inv hVx
               have := hdl_inv v1 ht; subst this
               obtain ⟨b, rfl, hι⟩ := v2.ptr_inv
               cases v3
               obtain ⟨y1, y2, y3, ey, u1, u2, u3⟩ := agg3_inv h3.head
               have := hdl_inv u1 ht'; subst this
               obtain ⟨b', o', cv, rfl, vc, hcell, hM, hun1⟩ := pv1_inv u2
               cases u3
               obtain ⟨lu, hlu, vlu⟩ := run_loadP (w := w) hT vc hcell (h3.claim _ _ _ hM)
               have hroot : R g O ((v, lu) :: ts'.roots a.tmps) s.σ w := by
                 have hb : R g O (ts'.roots a.tmps) s.σ w := by
                   have := h3.drop
                   exact R.drop (by simpa using this)
                 have hfl : Flat v := ⟨by cases v <;> simp_all [IVal.isCell, un2], by cases v <;> simp_all [IVal.isCell, nt]⟩
                 exact hb.push vlu (own3_flat hfl lu)
               have hσ := loadCell_some hcs
               have hvc : v.cells = [v] := by cases v <;> simp [IVal.isCell] at hcell <;> rfl
               obtain ⟨w', hst, hR', hg, hk⟩ := R.putAt (P := P) (off := off) hroot hι hσ (by rw [hvc]; simp; omega) (by rw [hvc]; simpa using hcell)
               rw [hvc] at hR' hk
               obtain ⟨i, hi, hisz⟩ : ∃ i, P.info? t = some i /\ i.size = 1 := by
                 obtain ⟨-, i, q1, q2⟩ := run_isAgg (w := w) hT
                 exact ⟨i, q1, by simpa using q2⟩
               have hlsz : lu.cells.size = 1 := by
                 have := vlu.cells.1
                 rw [hvc] at this
                 simpa using this.symm
               have hrun : (execOp a.eval o).run P w = .ok (.value (.tuple #[])) w' := by
                 have hset : (ReflectliteValue.set #[a.eval rx, a.eval ry]).run P w = .ok (.tuple #[]) w' := by
                   rw [ex, ey, set_eq]
                   have hda : (directlyAssignable t t).run P w = .ok true w := run_da (by simp [daP])
                   have hfl : ((406 : Int).toNat / ReflectliteValue.flagAddr % 2 == 0) = false := rfl
                   have hsv : (storeVar t ⟨b, off, none⟩ lu).run P w = .ok () w' := by
                     simp [storeVar, run_sizeOf hi, hlsz, hisz, hst]
                   simp only [Sem.run_bind, run_parts (.inr rfl) hp, run_parts (.inl rfl) hp, Result.andThen, hfl, Bool.false_eq_true, if_false, hlu, hda, if_true, hsv, Sem.run_pure]
                 have : (callFunc f #[a.eval rx, a.eval ry]).run P w = .ok (.value (.tuple #[])) w' := by
                   rw [run_callFunc_extern hfn (by rw [f1]; rfl) f3 e1 e2, hset]; rfl
                 simp only [execOp, hop, resolve, hc, Deferred.ofValue, Sem.run_bind, Sem.run_pure, Result.andThen, invoke, ha]
                 simpa [Act.eval] using this
               refine ⟨rfl, undef, _, _, hrun, rfl, g, O, [(id, !([v].all nr1))], hg, hR', h4, rfl, hk⟩
             . cases hs
           . cases hs
         . cases hs
       . cases hs
     . cases hs
   . cases hs
 . cases hf
end Go.Idl
namespace Go.Idl
variable [Globs]
variable {P : Program} {g : Gh} {O : List Nat} {w : World}
theorem R.free_of {l : Roots} {σ : List IObj} {b : Nat} (h : R g O l σ w) (hb : b ∉ ownL l ++ ownS w g.ι σ) : R g (O.filter (fun k => k != b)) l σ w := by
 have hm : ∀ k, k ∈ O.filter (fun k => k != b) -> k ∈ O := fun k hk => (List.mem_filter.1 hk).1
 refine ⟨h.len, h.vals, h.objs, h.nodup, fun k hk => List.mem_filter.2 ⟨h.sub k hk, ?_⟩, fun k hk => h.lt k (hm k hk), h.claim, h.apart, fun k hk => h.spare k (hm k hk), h.glob, h.zs⟩
 have : k ≠ b := fun e => hb (e ▸ hk)
 simpa using this
def Gh.renew (g : Gh) (b : Nat) : Gh := { g with ι := g.ι ++ [b], T := fun k => if k = b then none else g.T k }
theorem R.renew {x y : IVal} {v u : Value} {l : Roots} {σ : List IObj} {id b : Nat} {ob ob' : IObj} {w' : World} (h : R g O ((x, v) :: l) σ w) (hι : g.ι[id]? = some b) (hσ : σ[id]? = some ob) (hlive : ob ≠ .dead)
   (hw : ∀ k, k ≠ b -> w'.heap[k]? = w.heap[k]?) (hs : w'.heap.size = w.heap.size) (hsp : ∀ c el fz, w.heap[b]? = some (.cells c el fz) -> ∃ c' el', w'.heap[b]? = some (.cells c' el' fz) /\ c'.size = c.size)
   (hy : V g y u) (hyo : SubP (own3 y u) (own3 x v ++ ownO w b ob)) (hyb : b ∉ own3 y u) (hob : OBJ (g.renew b) w' b ob') (hown : ∃ r, ownO w' b ob' = b :: r /\ r.Sublist (own3 y u)) (h1 : w'.os = w.os) (h2 : w'.tape = w.tape) (h3 : w'.output = w.output) :
   ∃ O', R (g.renew b) O' l ((σ.set id .dead) ++ [ob']) w' /\ Grow O g w O' (g.renew b) w' := by
 have hbO : b ∈ O := h.sub b (List.mem_append_right _ (ownS_mem hι hσ (ownO_head hlive)))
 have hM : ∀ o, g.M b o = none := h.apart id b ob hι hσ (ownO_head hlive)
 have hd := h.upd (ob' := .dead) (w' := w') hy hι hσ hlive hw hs hsp trivial (by
   simp only [ownO, List.append_nil]
   exact hyo)
 -- nothing owns the block now
 have hnb : b ∉ ownL ((y, u) :: l) ++ ownS w' g.ι (σ.set id .dead) := by
   intro hm
   have hn := h.nodup
   have hin : b ∈ ownS w g.ι σ := ownS_mem hι hσ (ownO_head hlive)
   have e : ownL ((y, u) :: l) = own3 y u ++ ownL l := by simp [ownL]
   have e' : ownL ((x, v) :: l) = own3 x v ++ ownL l := by simp [ownL]
   rcases List.mem_append.1 hm with hm | hm
   . rw [e] at hm
     rcases List.mem_append.1 hm with hm | hm
     . exact hyb hm
     . exact (List.nodup_append.1 hn).2.2 b (by rw [e']; exact List.mem_append_right _ hm) b hin rfl
   . simp only [ownS, List.mem_flatten] at hm
     obtain ⟨c, hc, hbc⟩ := hm
     obtain ⟨j, k, z, q1, q2, rfl⟩ := mem_zipWith hc
     by_cases hj : j = id
     . subst hj
       rw [List.getElem?_set_self (lt_of_get hσ)] at q2; cases q2
       simp [ownO] at hbc
     . rw [List.getElem?_set_ne (by omega)] at q2
       have hk : ownO w' k z = ownO w k z \/ k = b := by
         by_cases e : k = b
         . exact .inr e
         . exact .inl (ownO_same (hw k e) z)
       have hnS := (List.nodup_append.1 hn).2.1
       have g1 : (List.zipWith (ownO w) g.ι σ)[id]? = some (ownO w b ob) := by simp [List.getElem?_zipWith, hι, hσ]
       have g2 : (List.zipWith (ownO w) g.ι σ)[j]? = some (ownO w k z) := by simp [List.getElem?_zipWith, q1, q2]
       rcases hk with hk | hk
       . rw [hk] at hbc
         exact nodup_getElem hnS g1 g2 (by omega) (ownO_head hlive) hbc
       . subst hk
         by_cases hyd : z = .dead
         . subst hyd; simp [ownO] at hbc
         . exact nodup_getElem hnS g1 g2 (by omega) (ownO_head hlive) (ownO_head hyd)
 have hf := hd.free_of hnb
 have hkf : b ∉ O.filter (fun k => k != b) := by simp
 have hg : R { g with T := fun k => if k = b then none else g.T k } (O.filter (fun k => k != b)) ((y, u) :: l) (σ.set id .dead) w' := by
   refine hf.ghost hkf rfl rfl (fun _ _ _ => rfl) (fun _ _ h => h) (fun k hk => by simp [hk]) (fun o v hm => ?_)
   rw [hM o] at hm; cases hm
 have ha := hg.addObj (k := b) (ob := ob') hkf (by rw [hs]; exact h.lt b hbO) hM (by simp) hob hown
 refine ⟨_, ha, ⟨by omega, fun k hk hkO => ⟨hw k (fun e => hkO (e ▸ hbO)), ?_, fun _ => rfl⟩, fun _ _ _ h => h, fun j k hj => ?_, fun k hk => ?_, rfl, h1, h2, h3, fun _ => Nat.le_refl _⟩⟩
 . have : k ≠ b := fun e => hkO (e ▸ hbO)
   simp [Gh.renew, this]
 . simp only [Gh.renew]; rw [List.getElem?_append_left (lt_of_get hj)]; exact hj
 . rcases List.mem_cons.1 hk with rfl | hk
   . exact .inl hbO
   . exact .inl (List.mem_filter.1 hk).1
end Go.Idl
