/-
  CallsBound: Deep.
-/
import Derived.Test.YtkjcgfadojfeeaaCbB
set_option linter.unusedSectionVars false
set_option linter.unusedVariables false
set_option linter.unusedSimpArgs false
namespace Go.Idl.Cb
open Go Go.Idl
variable {F : IProg}

abbrev I (n : Int) : IVal := .int .i64 n
def fd (A : List Int) (l : List Nat) : Int := l.foldl (fun m c => max m (A.getD c 0)) 0
def Dl (g : List (List Nat)) (s : List Int) : Nat → List Int
  | 0 => []
  | k + 1 => Dl g s k ++ [fd (Dl g s k) (g.getD k []) + s.getD k 0]

theorem Dl_length (g : List (List Nat)) (s : List Int) : ∀ k, (Dl g s k).length = k := by
  intro k; induction k with
  | zero => rfl
  | succ k ih => simp [Dl, ih]
theorem getD_range {A : List Int} {a b : Int} (h : ∀ x ∈ A, a ≤ x ∧ x ≤ b) (h0 : a ≤ 0) (h1 : 0 ≤ b) (c : Nat) : a ≤ A.getD c 0 ∧ A.getD c 0 ≤ b := by
  rw [List.getD_eq_getElem?_getD]
  cases hc : A[c]? with
  | none => simpa using ⟨h0, h1⟩
  | some x => simpa using h x (List.mem_of_getElem? hc)
theorem fd_snoc (A : List Int) (l : List Nat) (c : Nat) : fd A (l ++ [c]) = max (fd A l) (A.getD c 0) := by simp [fd]
theorem fd_range {A : List Int} {b : Int} (h : ∀ x ∈ A, 0 ≤ x ∧ x ≤ b) (h1 : 0 ≤ b) : ∀ l : List Nat, 0 ≤ fd A l ∧ fd A l ≤ b := by
  intro l
  suffices H : ∀ (l : List Nat) (m : Int), 0 ≤ m ∧ m ≤ b → 0 ≤ l.foldl (fun m c => max m (A.getD c 0)) m ∧ l.foldl (fun m c => max m (A.getD c 0)) m ≤ b from H l 0 ⟨Int.le_refl _, h1⟩
  intro l
  induction l with
  | nil => exact fun m h => h
  | cons c l ih =>
    intro m hm
    have := getD_range h (Int.le_refl _) h1 c
    have hm2 : 0 ≤ max m (A.getD c 0) ∧ max m (A.getD c 0) ≤ b := by omega
    exact ih _ hm2
theorem Dl_range {g : List (List Nat)} {s : List Int} (hs : ∀ x ∈ s, 0 ≤ x ∧ x ≤ 40) : ∀ (k : Nat), ∀ x ∈ Dl g s k, 0 ≤ x ∧ x ≤ 40 * k := by
  intro k
  induction k with
  | zero => intro x hx; cases hx
  | succ k ih =>
    intro x hx
    simp only [Dl, List.mem_append, List.mem_singleton] at hx
    rcases hx with hx | rfl
    · have := ih x hx; omega
    · have h1 := fd_range ih (by omega) (g.getD k [])
      have h2 := getD_range hs (by omega) (by omega) k
      omega
theorem max_if (a b : Int) : (if a < b then b else a) = max a b := by split <;> omega

theorem mid_get {A Z : List Int} {x : Int} {k : Nat} (h : A.length = k) : (A ++ x :: Z)[k]? = some x := by subst h; simp
theorem mid_low {A Z : List Int} {x : Int} {c : Nat} (h : c < A.length) : (A ++ x :: Z)[c]? = some (A.getD c 0) := by
  rw [List.getElem?_append_left h]; simp [h]
theorem mid_set {A Z : List Int} {x y : Int} {k : Nat} (h : A.length = k) : ((A ++ x :: Z).map I).set k (I y) = (A ++ y :: Z).map I := by
  subst h; simp

/-- The deepest of those that are called. -/
theorem deep_in {f0 : Nat → Option (Nat × IVal)} {σ : List IObj} {wr : List (Nat × Bool)} {R : Option (IExit × St)} {A Z : List Int} {k n : Nat} {l : List Nat}
    (hE : evw F (.loop ir6_l1) ⟨E 34 12 6 [] f0, σ ++ [.cells ((A ++ 0 :: Z).map I)], wr⟩ = R) {g : List (List Nat)} {o : Nat} (hA : A.length = k) (hn : k < n) (hng : n = g.length) (hg : n < 10) (hw : AllW σ.length wr) (hll : l.length < 1000) (hlk : ∀ c ∈ l, c < k) (hAr : ∀ x ∈ A, 0 ≤ x ∧ x ≤ 1000)
    (h0 : f0 0 = some (0, .sl o false (LL g))) (h7 : f0 7 = some (7, .rs 1 σ.length 0 n)) (h9 : f0 9 = some (9, N k)) (h31 : f0 31 = some (31, L l)) (h32 : f0 32 = some (32, N l.length)) (h33 : f0 33 = some (33, N 0)) :
    ∃ x : (Nat → Option (Nat × IVal)) × List (Nat × Bool), R = some (.exit 2, ⟨E 34 12 6 [] (base x.1), σ ++ [.cells ((A ++ fd A l :: Z).map I)], x.2⟩) ∧ KeepT [0, 1, 4, 7, 9, 22, 23, 24] f0 x.1 ∧ AllW σ.length x.2 := by
  subst hE
  refine loop_invE (fun j s => ∃ f wr, s = ⟨E 34 12 6 [] (base f), σ ++ [.cells ((A ++ fd A (l.take j) :: Z).map I)], wr⟩ ∧ KeepT [0, 1, 4, 7, 9, 22, 23, 24, 31, 32] f0 f ∧ f 33 = some (33, N j) ∧ AllW σ.length wr) l.length ⟨f0, wr, rfl, KeepT.refl _ _, h33, hw⟩ ?_ ?_
  · rintro j s hj ⟨f, wr, rfl, hK, e33, hw⟩
    have e0 := (hK 0 (by decide)).trans h0
    have e7 := (hK 7 (by decide)).trans h7
    have e9 := (hK 9 (by decide)).trans h9
    have e31 := (hK 31 (by decide)).trans h31
    have e32 := (hK 32 (by decide)).trans h32
    obtain ⟨c, hc⟩ : ∃ c, l[j]? = some c := ⟨l[j], by simp⟩
    have hck := hlk c (List.mem_of_getElem? hc)
    have d1 : decide ((j : Int) < l.length) = true := dec_t (by omega)
    have d2 : (0 : Int) ≤ j := by omega
    have d3 : decide ((c : Int) ≥ 0) = true := dec_t (by omega)
    have d4 : decide ((c : Int) < g.length) = true := dec_t (by omega)
    have d5 : (0 : Int) ≤ k := by omega
    have d6 : (k : Int) < n := by omega
    have d7 : (0 : Int) ≤ c := by omega
    have d8 : (c : Int) < n := by omega
    have w1 := inc64 (n := j) (by omega)
    have m1 := mid_get (Z := Z) (x := fd A (l.take j)) hA
    have m2 := mid_low (Z := Z) (x := fd A (l.take j)) (A := A) (c := c) (by omega)
    have m3 : k + 1 ≤ (A ++ fd A (l.take j) :: Z).length := by simp; omega
    have m4 : fd A (l.take (j + 1)) = max (fd A (l.take j)) (A.getD c 0) := by rw [List.take_add_one, hc, ← fd_snoc]; rfl
    simp only [ir6_l1, e0, e7, e9, e31, e32, e33, d1, d2, d3, d4, d5, d6, d7, d8, hc, w1, m1, m2, m3, get_last, set_last, loadCell, max_if, mid_set hA, Int.toNat_natCast, takeV, List.getElem?_cons_zero, evw_draw, runDraw, stepD, noRs, opdsOf, pairsOK_nil, evw_cond, evw_seq, evw_ops, evw_ret, evw_skip, evw_exit, evw_block, evw_scope, evw_label, runOps, wantedI, stepOp, getAll, stepCall, addOut, unI, Opd.get, E_get?, E_set, slotN, upd_get, base_get, ins_base, ins_eq, ins_lt, ins_gt, tag, markW, cells_int, cells_bool, cells_str, cells_rs, cells_ptr, cells_sl, nt_int, nt_bool, nt_str, nt_rs, nt_ptr, nt_sl, nt_agg, nr2_int, nr2_bool, nr2_str, nr2_sl, nr2_rs, nr2_ptr, List.map_cons, List.map_nil, List.length_range, isCell_int, isCell_bool, isCell_str, isCell_rs, isCell_ptr, isCell_sl, nr1_int, nr1_bool, nr1_str, nr1_rs, nr1_ptr, nr1_sl, List.all_cons, List.all_nil, putCells, List.set_cons_zero, Bool.and_true, Bool.true_and, Bool.not_true, Bool.not_false, putT, rv, bin, binI, un3_int, un3_bool, un3_str, un3_rs, un3_ptr, un3_map, un3_iface, un3_prim, un3_fn, un3_yl, un3_sl, un3_agg, un3_tup, un3_pv, un2_int, un2_bool, un2_str, un2_rs, un2_ptr, un2_sl, un1_int, un1_bool, un1_str, un1_rs, un1_ptr, un1_sl, Nat.reduceAdd, Nat.reduceSub, Nat.reduceMul, Nat.reduceDiv, Nat.reduceMod, Nat.reducePow, Nat.reduceLT, Nat.reduceLeDiff, Nat.reduceEqDiff, Nat.reduceBEq, Nat.reduceBNe, reduceIte, Int.reduceEq, Int.reduceLT, Int.reduceLE, Int.reduceNeg, Int.reduceToNat, Int.reduceMul, Int.reduceAdd, Int.reduceSub, Int.cast_ofNat_Int, reduceCtorEq, Nat.zero_add, Nat.add_zero, Nat.mul_one, bft, btf, beq_self_eq_true, Bool.not_true, Bool.not_false, true_and, and_true, and_self, if_true, if_false, ite_true, ite_false, c0, c1, not_true_eq_false, not_false_eq_true, Bool.true_eq_false, Bool.false_eq_true, Option.some.injEq, Prod.mk.injEq, exists_eq_left, List.length_map, List.getElem?_map, Option.map_some, List.cons_append, List.nil_append, List.length_cons, List.length_nil, List.append_nil, decide_true, decide_false]
    exact ⟨_, rfl, _, _, by rw [m4]; rfl, (by repeat (first | exact hK | refine KeepT.upd (by decide) ?_)), by simp only [upd_get, base_get, Nat.reduceAdd, Nat.reduceSub, Nat.reduceMul, Nat.reduceDiv, Nat.reduceMod, Nat.reducePow, Nat.reduceLT, Nat.reduceLeDiff, Nat.reduceEqDiff, Nat.reduceBEq, Nat.reduceBNe, reduceIte, Int.reduceEq, Int.reduceLT, Int.reduceLE, Int.reduceNeg, Int.reduceToNat, Int.reduceMul, Int.reduceAdd, Int.reduceSub, Int.cast_ofNat_Int, reduceCtorEq, Nat.zero_add, Nat.add_zero, Nat.mul_one], hw.cons⟩
  · rintro s ⟨f, wr, rfl, hK, e33, hw⟩
    have e32 := (hK 32 (by decide)).trans h32
    have d1 : decide ((l.length : Int) < l.length) = false := dec_f (by omega)
    rw [evw_loop]
    simp only [ir6_l1, e32, e33, d1, List.take_length, evw_cond, evw_seq, evw_ops, evw_ret, evw_skip, evw_exit, evw_block, evw_scope, evw_label, runOps, wantedI, stepOp, getAll, stepCall, addOut, unI, Opd.get, E_get?, E_set, slotN, upd_get, base_get, ins_base, ins_eq, ins_lt, ins_gt, tag, markW, cells_int, cells_bool, cells_str, cells_rs, cells_ptr, cells_sl, nt_int, nt_bool, nt_str, nt_rs, nt_ptr, nt_sl, nt_agg, nr2_int, nr2_bool, nr2_str, nr2_sl, nr2_rs, nr2_ptr, List.map_cons, List.map_nil, List.length_range, isCell_int, isCell_bool, isCell_str, isCell_rs, isCell_ptr, isCell_sl, nr1_int, nr1_bool, nr1_str, nr1_rs, nr1_ptr, nr1_sl, List.all_cons, List.all_nil, putCells, List.set_cons_zero, Bool.and_true, Bool.true_and, Bool.not_true, Bool.not_false, putT, rv, bin, binI, un3_int, un3_bool, un3_str, un3_rs, un3_ptr, un3_map, un3_iface, un3_prim, un3_fn, un3_yl, un3_sl, un3_agg, un3_tup, un3_pv, un2_int, un2_bool, un2_str, un2_rs, un2_ptr, un2_sl, un1_int, un1_bool, un1_str, un1_rs, un1_ptr, un1_sl, Nat.reduceAdd, Nat.reduceSub, Nat.reduceMul, Nat.reduceDiv, Nat.reduceMod, Nat.reducePow, Nat.reduceLT, Nat.reduceLeDiff, Nat.reduceEqDiff, Nat.reduceBEq, Nat.reduceBNe, reduceIte, Int.reduceEq, Int.reduceLT, Int.reduceLE, Int.reduceNeg, Int.reduceToNat, Int.reduceMul, Int.reduceAdd, Int.reduceSub, Int.cast_ofNat_Int, reduceCtorEq, Nat.zero_add, Nat.add_zero, Nat.mul_one, bft, btf, beq_self_eq_true, Bool.not_true, Bool.not_false, true_and, and_true, and_self, if_true, if_false, ite_true, ite_false, c0, c1, not_true_eq_false, not_false_eq_true, Bool.true_eq_false, Bool.false_eq_true, Option.some.injEq, Prod.mk.injEq, exists_eq_left, List.length_map, List.getElem?_map, Option.map_some, List.cons_append, List.nil_append, List.length_cons, List.length_nil, List.append_nil, decide_true, decide_false]
    exact ⟨(_, _), rfl, (by repeat (first | exact hK.sub (by decide) | refine KeepT.upd (by decide) ?_)), hw⟩

theorem AllW.wr {id : Nat} {wr : List (Nat × Bool)} (h : AllW id wr) : AllW id ([(id, false)] ++ wr) := h.cons

/-- Each function's depth. -/
theorem deep_loop {f0 : Nat → Option (Nat × IVal)} {σ : List IObj} {R : Option (IExit × St)} {g : List (List Nat)} {o o' : Nat} {r' : Bool} {s : List Int}
    (hE : evw F (.loop ir6_l0) ⟨E 34 12 6 [] f0, σ ++ [.cells ((List.replicate g.length (0 : Int)).map I)], []⟩ = R) (h14 : F 14 = some ir14) (hg : g.length < 10) (hl : ∀ (i : Nat) (l : List Nat), g[i]? = some l → l.length < 1000 ∧ ∀ c ∈ l, c < i) (hs : ∀ x ∈ s, 0 ≤ x ∧ x ≤ 40)
    (h0 : f0 0 = some (0, .sl o false (LL g))) (h1 : f0 1 = some (1, .sl o' r' (s.map I))) (h7 : f0 7 = some (7, .rs 1 σ.length 0 g.length)) (h22 : f0 22 = some (22, .sl 0 false ((List.range g.length).map N))) (h23 : f0 23 = some (23, N g.length)) (h24 : f0 24 = some (24, N 0)) :
    ∃ x : (Nat → Option (Nat × IVal)) × List (Nat × Bool), R = some (.exit 0, ⟨E 34 12 6 [] (base x.1), σ ++ [.cells ((Dl g s g.length).map I)], x.2⟩) ∧ KeepT [7] f0 x.1 ∧ AllW σ.length x.2 := by
  subst hE
  refine loop_invE (fun k st => ∃ f wr, st = ⟨E 34 12 6 [] (base f), σ ++ [.cells ((Dl g s k ++ List.replicate (g.length - k) 0).map I)], wr⟩ ∧ KeepT [0, 1, 7, 22, 23] f0 f ∧ f 24 = some (24, N k) ∧ AllW σ.length wr) g.length ⟨f0, [], rfl, KeepT.refl _ _, h24, AllW.nil _⟩ ?_ ?_
  · rintro k st hk ⟨f, wr, rfl, hK, e24, hw⟩
    have e0 := (hK 0 (by decide)).trans h0
    have e1 := (hK 1 (by decide)).trans h1
    have e7 := (hK 7 (by decide)).trans h7
    have e22 := (hK 22 (by decide)).trans h22
    have e23 := (hK 23 (by decide)).trans h23
    obtain ⟨l, hlk⟩ : ∃ l, g[k]? = some l := ⟨g[k], by simp⟩
    obtain ⟨hll, hlc⟩ := hl k l hlk
    have d1 : decide ((k : Int) < g.length) = true := dec_t (by omega)
    have d2 : (0 : Int) ≤ k := by omega
    have d3 : (k : Int) < g.length := by omega
    have c1 : (List.range g.length)[k]? = some k := by simp [hk]
    have z1 : Dl g s k ++ List.replicate (g.length - k) 0 = Dl g s k ++ 0 :: List.replicate (g.length - (k + 1)) 0 := by
      rw [show g.length - k = (g.length - (k + 1)) + 1 by omega, List.replicate_succ]
    rw [z1]
    have hA := Dl_length g s k
    have hr := Dl_range (g := g) hs k
    simp only [ir6_l0, e0, e1, e7, e22, e23, e24, d1, d2, c1, hlk, Int.toNat_natCast, takeV, List.getElem?_cons_zero, evw_cond, evw_seq, evw_ops, evw_ret, evw_skip, evw_exit, evw_block, evw_scope, evw_label, runOps, wantedI, stepOp, getAll, stepCall, addOut, unI, Opd.get, E_get?, E_set, slotN, upd_get, base_get, ins_base, ins_eq, ins_lt, ins_gt, tag, markW, cells_int, cells_bool, cells_str, cells_rs, cells_ptr, cells_sl, nt_int, nt_bool, nt_str, nt_rs, nt_ptr, nt_sl, nt_agg, nr2_int, nr2_bool, nr2_str, nr2_sl, nr2_rs, nr2_ptr, List.map_cons, List.map_nil, List.length_range, isCell_int, isCell_bool, isCell_str, isCell_rs, isCell_ptr, isCell_sl, nr1_int, nr1_bool, nr1_str, nr1_rs, nr1_ptr, nr1_sl, List.all_cons, List.all_nil, putCells, List.set_cons_zero, Bool.and_true, Bool.true_and, Bool.not_true, Bool.not_false, putT, rv, bin, binI, un3_int, un3_bool, un3_str, un3_rs, un3_ptr, un3_map, un3_iface, un3_prim, un3_fn, un3_yl, un3_sl, un3_agg, un3_tup, un3_pv, un2_int, un2_bool, un2_str, un2_rs, un2_ptr, un2_sl, un1_int, un1_bool, un1_str, un1_rs, un1_ptr, un1_sl, Nat.reduceAdd, Nat.reduceSub, Nat.reduceMul, Nat.reduceDiv, Nat.reduceMod, Nat.reducePow, Nat.reduceLT, Nat.reduceLeDiff, Nat.reduceEqDiff, Nat.reduceBEq, Nat.reduceBNe, reduceIte, Int.reduceEq, Int.reduceLT, Int.reduceLE, Int.reduceNeg, Int.reduceToNat, Int.reduceMul, Int.reduceAdd, Int.reduceSub, Int.cast_ofNat_Int, reduceCtorEq, Nat.zero_add, Nat.add_zero, Nat.mul_one, bft, btf, beq_self_eq_true, Bool.not_true, Bool.not_false, true_and, and_true, and_self, if_true, if_false, ite_true, ite_false, c0, c1, not_true_eq_false, not_false_eq_true, Bool.true_eq_false, Bool.false_eq_true, Option.some.injEq, Prod.mk.injEq, exists_eq_left, List.length_map, List.getElem?_map, Option.map_some, List.cons_append, List.nil_append, List.length_cons, List.length_nil, List.append_nil, decide_true, decide_false]
    generalize hE : evw F (ICode.loop ir6_l1) _ = R
    obtain ⟨⟨f2, wr2⟩, rfl, hK2, hw2⟩ := deep_in hE (g := g) (n := g.length) hA hk rfl hg hw hll hlc (fun x hx => by have := hr x hx; omega) (by (try simp only [upd_get, base_get, Nat.reduceAdd, Nat.reduceSub, Nat.reduceMul, Nat.reduceDiv, Nat.reduceMod, Nat.reducePow, Nat.reduceLT, Nat.reduceLeDiff, Nat.reduceEqDiff, Nat.reduceBEq, Nat.reduceBNe, reduceIte, Int.reduceEq, Int.reduceLT, Int.reduceLE, Int.reduceNeg, Int.reduceToNat, Int.reduceMul, Int.reduceAdd, Int.reduceSub, Int.cast_ofNat_Int, reduceCtorEq, Nat.zero_add, Nat.add_zero, Nat.mul_one]) <;> first | exact e0 | rfl) (by (try simp only [upd_get, base_get, Nat.reduceAdd, Nat.reduceSub, Nat.reduceMul, Nat.reduceDiv, Nat.reduceMod, Nat.reducePow, Nat.reduceLT, Nat.reduceLeDiff, Nat.reduceEqDiff, Nat.reduceBEq, Nat.reduceBNe, reduceIte, Int.reduceEq, Int.reduceLT, Int.reduceLE, Int.reduceNeg, Int.reduceToNat, Int.reduceMul, Int.reduceAdd, Int.reduceSub, Int.cast_ofNat_Int, reduceCtorEq, Nat.zero_add, Nat.add_zero, Nat.mul_one]) <;> first | exact e7 | rfl) (by (try simp only [upd_get, base_get, Nat.reduceAdd, Nat.reduceSub, Nat.reduceMul, Nat.reduceDiv, Nat.reduceMod, Nat.reducePow, Nat.reduceLT, Nat.reduceLeDiff, Nat.reduceEqDiff, Nat.reduceBEq, Nat.reduceBNe, reduceIte, Int.reduceEq, Int.reduceLT, Int.reduceLE, Int.reduceNeg, Int.reduceToNat, Int.reduceMul, Int.reduceAdd, Int.reduceSub, Int.cast_ofNat_Int, reduceCtorEq, Nat.zero_add, Nat.add_zero, Nat.mul_one]) <;> rfl) (by (try simp only [upd_get, base_get, Nat.reduceAdd, Nat.reduceSub, Nat.reduceMul, Nat.reduceDiv, Nat.reduceMod, Nat.reducePow, Nat.reduceLT, Nat.reduceLeDiff, Nat.reduceEqDiff, Nat.reduceBEq, Nat.reduceBNe, reduceIte, Int.reduceEq, Int.reduceLT, Int.reduceLE, Int.reduceNeg, Int.reduceToNat, Int.reduceMul, Int.reduceAdd, Int.reduceSub, Int.cast_ofNat_Int, reduceCtorEq, Nat.zero_add, Nat.add_zero, Nat.mul_one]) <;> rfl) (by (try simp only [upd_get, base_get, Nat.reduceAdd, Nat.reduceSub, Nat.reduceMul, Nat.reduceDiv, Nat.reduceMod, Nat.reducePow, Nat.reduceLT, Nat.reduceLeDiff, Nat.reduceEqDiff, Nat.reduceBEq, Nat.reduceBNe, reduceIte, Int.reduceEq, Int.reduceLT, Int.reduceLE, Int.reduceNeg, Int.reduceToNat, Int.reduceMul, Int.reduceAdd, Int.reduceSub, Int.cast_ofNat_Int, reduceCtorEq, Nat.zero_add, Nat.add_zero, Nat.mul_one]) <;> rfl) (by (try simp only [upd_get, base_get, Nat.reduceAdd, Nat.reduceSub, Nat.reduceMul, Nat.reduceDiv, Nat.reduceMod, Nat.reducePow, Nat.reduceLT, Nat.reduceLeDiff, Nat.reduceEqDiff, Nat.reduceBEq, Nat.reduceBNe, reduceIte, Int.reduceEq, Int.reduceLT, Int.reduceLE, Int.reduceNeg, Int.reduceToNat, Int.reduceMul, Int.reduceAdd, Int.reduceSub, Int.cast_ofNat_Int, reduceCtorEq, Nat.zero_add, Nat.add_zero, Nat.mul_one]) <;> rfl)
    dsimp only at hK2 hw2
    have a1 := (hK2 1 (by decide)).trans (by (try simp only [upd_get, base_get, Nat.reduceAdd, Nat.reduceSub, Nat.reduceMul, Nat.reduceDiv, Nat.reduceMod, Nat.reducePow, Nat.reduceLT, Nat.reduceLeDiff, Nat.reduceEqDiff, Nat.reduceBEq, Nat.reduceBNe, reduceIte, Int.reduceEq, Int.reduceLT, Int.reduceLE, Int.reduceNeg, Int.reduceToNat, Int.reduceMul, Int.reduceAdd, Int.reduceSub, Int.cast_ofNat_Int, reduceCtorEq, Nat.zero_add, Nat.add_zero, Nat.mul_one]) <;> first | exact e1 | rfl)
    have a7 := (hK2 7 (by decide)).trans (by (try simp only [upd_get, base_get, Nat.reduceAdd, Nat.reduceSub, Nat.reduceMul, Nat.reduceDiv, Nat.reduceMod, Nat.reducePow, Nat.reduceLT, Nat.reduceLeDiff, Nat.reduceEqDiff, Nat.reduceBEq, Nat.reduceBNe, reduceIte, Int.reduceEq, Int.reduceLT, Int.reduceLE, Int.reduceNeg, Int.reduceToNat, Int.reduceMul, Int.reduceAdd, Int.reduceSub, Int.cast_ofNat_Int, reduceCtorEq, Nat.zero_add, Nat.add_zero, Nat.mul_one]) <;> first | exact e7 | rfl)
    have a9 : f2 9 = some (9, N k) := (hK2 9 (by decide)).trans (by (try simp only [upd_get, base_get, Nat.reduceAdd, Nat.reduceSub, Nat.reduceMul, Nat.reduceDiv, Nat.reduceMod, Nat.reducePow, Nat.reduceLT, Nat.reduceLeDiff, Nat.reduceEqDiff, Nat.reduceBEq, Nat.reduceBNe, reduceIte, Int.reduceEq, Int.reduceLT, Int.reduceLE, Int.reduceNeg, Int.reduceToNat, Int.reduceMul, Int.reduceAdd, Int.reduceSub, Int.cast_ofNat_Int, reduceCtorEq, Nat.zero_add, Nat.add_zero, Nat.mul_one]) <;> rfl)
    have a24 := (hK2 24 (by decide)).trans (by (try simp only [upd_get, base_get, Nat.reduceAdd, Nat.reduceSub, Nat.reduceMul, Nat.reduceDiv, Nat.reduceMod, Nat.reducePow, Nat.reduceLT, Nat.reduceLeDiff, Nat.reduceEqDiff, Nat.reduceBEq, Nat.reduceBNe, reduceIte, Int.reduceEq, Int.reduceLT, Int.reduceLE, Int.reduceNeg, Int.reduceToNat, Int.reduceMul, Int.reduceAdd, Int.reduceSub, Int.cast_ofNat_Int, reduceCtorEq, Nat.zero_add, Nat.add_zero, Nat.mul_one]) <;> first | exact e24 | rfl)
    have htold := told_spec h14 (o := 0) (r := r') (xs := s) (i := k) (σ := σ ++ [.cells ((Dl g s k ++ fd (Dl g s k) l :: List.replicate (g.length - (k + 1)) 0).map I)]) (fun x hx => (hs x hx).1)
    have m1 := mid_get (Z := List.replicate (g.length - (k + 1)) 0) (x := fd (Dl g s k) l) hA
    have m3 : k + 1 ≤ (Dl g s k).length + ((List.replicate (g.length - (k + 1)) (0 : Int)).length + 1) := by omega
    have w1 := inc64 (n := k) (by omega)
    have r1 := fd_range hr (by omega) l
    have r2 := getD_range hs (by omega) (by omega) k
    have w2 : IntKind.i64.wrap (fd (Dl g s k) l + s.getD k 0) = fd (Dl g s k) l + s.getD k 0 := wrap64 (by omega) (by omega)
    simp only [a1, a7, a9, a24, htold, w1, w2, m1, m3, d2, d3, get_last, set_last, loadCell, mid_set hA, Int.toNat_natCast, takeV, List.getElem?_cons_zero, evw_draw, runDraw, stepD, noRs, opdsOf, pairsOK, okPair, rdOf, quiet, Bool.true_or, Bool.or_true, Bool.false_or, Bool.or_false, bne_self_eq_false, List.length_append, Nat.lt_add_one, Nat.lt_succ_self, evw_cond, evw_seq, evw_ops, evw_ret, evw_skip, evw_exit, evw_block, evw_scope, evw_label, runOps, wantedI, stepOp, getAll, stepCall, addOut, unI, Opd.get, E_get?, E_set, slotN, upd_get, base_get, ins_base, ins_eq, ins_lt, ins_gt, tag, markW, cells_int, cells_bool, cells_str, cells_rs, cells_ptr, cells_sl, nt_int, nt_bool, nt_str, nt_rs, nt_ptr, nt_sl, nt_agg, nr2_int, nr2_bool, nr2_str, nr2_sl, nr2_rs, nr2_ptr, List.map_cons, List.map_nil, List.length_range, isCell_int, isCell_bool, isCell_str, isCell_rs, isCell_ptr, isCell_sl, nr1_int, nr1_bool, nr1_str, nr1_rs, nr1_ptr, nr1_sl, List.all_cons, List.all_nil, putCells, List.set_cons_zero, Bool.and_true, Bool.true_and, Bool.not_true, Bool.not_false, putT, rv, bin, binI, un3_int, un3_bool, un3_str, un3_rs, un3_ptr, un3_map, un3_iface, un3_prim, un3_fn, un3_yl, un3_sl, un3_agg, un3_tup, un3_pv, un2_int, un2_bool, un2_str, un2_rs, un2_ptr, un2_sl, un1_int, un1_bool, un1_str, un1_rs, un1_ptr, un1_sl, Nat.reduceAdd, Nat.reduceSub, Nat.reduceMul, Nat.reduceDiv, Nat.reduceMod, Nat.reducePow, Nat.reduceLT, Nat.reduceLeDiff, Nat.reduceEqDiff, Nat.reduceBEq, Nat.reduceBNe, reduceIte, Int.reduceEq, Int.reduceLT, Int.reduceLE, Int.reduceNeg, Int.reduceToNat, Int.reduceMul, Int.reduceAdd, Int.reduceSub, Int.cast_ofNat_Int, reduceCtorEq, Nat.zero_add, Nat.add_zero, Nat.mul_one, bft, btf, beq_self_eq_true, Bool.not_true, Bool.not_false, true_and, and_true, and_self, if_true, if_false, ite_true, ite_false, c0, c1, not_true_eq_false, not_false_eq_true, Bool.true_eq_false, Bool.false_eq_true, Option.some.injEq, Prod.mk.injEq, exists_eq_left, List.length_map, List.getElem?_map, Option.map_some, List.cons_append, List.nil_append, List.length_cons, List.length_nil, List.append_nil, decide_true, decide_false]
    have z2 : Dl g s (k + 1) ++ List.replicate (g.length - (k + 1)) 0 = Dl g s k ++ (fd (Dl g s k) l + s.getD k 0) :: List.replicate (g.length - (k + 1)) 0 := by
      rw [Dl, List.append_assoc]
      have e : g.getD k [] = l := by rw [List.getD_eq_getElem?_getD, hlk]; rfl
      rw [e]; rfl
    have k3 : KeepT [0, 1, 7, 22, 23] f0 f2 := KeepT.trans (by repeat (first | exact hK | refine KeepT.upd (by decide) ?_)) (hK2.sub (by decide))
    refine ⟨_, rfl, _, _, by rw [z2]; rfl, ?_, ?_, ?_⟩
    · exact (by repeat (first | exact k3 | refine KeepT.upd (by decide) ?_))
    · exact (by (try simp only [upd_get, base_get, Nat.reduceAdd, Nat.reduceSub, Nat.reduceMul, Nat.reduceDiv, Nat.reduceMod, Nat.reducePow, Nat.reduceLT, Nat.reduceLeDiff, Nat.reduceEqDiff, Nat.reduceBEq, Nat.reduceBNe, reduceIte, Int.reduceEq, Int.reduceLT, Int.reduceLE, Int.reduceNeg, Int.reduceToNat, Int.reduceMul, Int.reduceAdd, Int.reduceSub, Int.cast_ofNat_Int, reduceCtorEq, Nat.zero_add, Nat.add_zero, Nat.mul_one]) <;> first | exact a24 | rfl)
    · exact hw2.cons
  · rintro st ⟨f, wr, rfl, hK, e24, hw⟩
    have e23 := (hK 23 (by decide)).trans h23
    have d1 : decide ((g.length : Int) < g.length) = false := dec_f (by omega)
    rw [evw_loop]
    simp only [ir6_l0, e23, e24, d1, Nat.sub_self, List.replicate_zero, evw_cond, evw_seq, evw_ops, evw_ret, evw_skip, evw_exit, evw_block, evw_scope, evw_label, runOps, wantedI, stepOp, getAll, stepCall, addOut, unI, Opd.get, E_get?, E_set, slotN, upd_get, base_get, ins_base, ins_eq, ins_lt, ins_gt, tag, markW, cells_int, cells_bool, cells_str, cells_rs, cells_ptr, cells_sl, nt_int, nt_bool, nt_str, nt_rs, nt_ptr, nt_sl, nt_agg, nr2_int, nr2_bool, nr2_str, nr2_sl, nr2_rs, nr2_ptr, List.map_cons, List.map_nil, List.length_range, isCell_int, isCell_bool, isCell_str, isCell_rs, isCell_ptr, isCell_sl, nr1_int, nr1_bool, nr1_str, nr1_rs, nr1_ptr, nr1_sl, List.all_cons, List.all_nil, putCells, List.set_cons_zero, Bool.and_true, Bool.true_and, Bool.not_true, Bool.not_false, putT, rv, bin, binI, un3_int, un3_bool, un3_str, un3_rs, un3_ptr, un3_map, un3_iface, un3_prim, un3_fn, un3_yl, un3_sl, un3_agg, un3_tup, un3_pv, un2_int, un2_bool, un2_str, un2_rs, un2_ptr, un2_sl, un1_int, un1_bool, un1_str, un1_rs, un1_ptr, un1_sl, Nat.reduceAdd, Nat.reduceSub, Nat.reduceMul, Nat.reduceDiv, Nat.reduceMod, Nat.reducePow, Nat.reduceLT, Nat.reduceLeDiff, Nat.reduceEqDiff, Nat.reduceBEq, Nat.reduceBNe, reduceIte, Int.reduceEq, Int.reduceLT, Int.reduceLE, Int.reduceNeg, Int.reduceToNat, Int.reduceMul, Int.reduceAdd, Int.reduceSub, Int.cast_ofNat_Int, reduceCtorEq, Nat.zero_add, Nat.add_zero, Nat.mul_one, bft, btf, beq_self_eq_true, Bool.not_true, Bool.not_false, true_and, and_true, and_self, if_true, if_false, ite_true, ite_false, c0, c1, not_true_eq_false, not_false_eq_true, Bool.true_eq_false, Bool.false_eq_true, Option.some.injEq, Prod.mk.injEq, exists_eq_left, List.length_map, List.getElem?_map, Option.map_some, List.cons_append, List.nil_append, List.length_cons, List.length_nil, List.append_nil, decide_true, decide_false]
    exact ⟨(_, _), rfl, (by repeat (first | exact hK.sub (by decide) | refine KeepT.upd (by decide) ?_)), hw⟩

theorem deep_spec (h6 : F 6 = some ir6) (h5 : F 5 = some ir5) (h11 : F 11 = some ir11) (h12 : F 12 = some ir12) (h13 : F 13 = some ir13) (h14 : F 14 = some ir14) {g : List (List Nat)} {o o' : Nat} {r' : Bool} {s : List Int} {σ : List IObj} (hg : g.length < 10) (hl : ∀ (i : Nat) (l : List Nat), g[i]? = some l → l.length < 1000 ∧ ∀ c ∈ l, c < i) (hs : ∀ x ∈ s, 0 ≤ x ∧ x ≤ 40) :
    cfw F (.f 6) [.sl o false (LL g), .sl o' r' (s.map I)] σ = some ⟨false, .rs 1 σ.length 0 g.length, σ ++ [.cells ((Dl g s g.length).map I)], []⟩ := by
  have hord := order_spec h5 h11 h12 h13 (g := g) (o := 0) (σ := σ) hg hl
  have p0 : (0 : Int) ≤ g.length := by omega
  have p1 : (g.length : Int) * 8 ≤ 1099511627776 := by omega
  have p2 : (g.length : Int) ≤ 1099511627776 := by omega
  have p3 : repl g.length [IVal.int .i64 0] = (List.replicate g.length (0 : Int)).map I := by simp [repl]
  rw [cfw_of ir6 h6, callI]
  simp only [ir6, hord, p0, p1, p2, p3, Int.le_refl, Int.toNat_natCast, List.getElem?_cons_zero, List.getElem?_cons_succ, callI, entry_E, Ts.fill, evw_cond, evw_seq, evw_ops, evw_ret, evw_skip, evw_exit, evw_block, evw_scope, evw_label, runOps, wantedI, stepOp, getAll, stepCall, addOut, unI, Opd.get, E_get?, E_set, slotN, upd_get, base_get, ins_base, ins_eq, ins_lt, ins_gt, tag, markW, cells_int, cells_bool, cells_str, cells_rs, cells_ptr, cells_sl, nt_int, nt_bool, nt_str, nt_rs, nt_ptr, nt_sl, nt_agg, nr2_int, nr2_bool, nr2_str, nr2_sl, nr2_rs, nr2_ptr, List.map_cons, List.map_nil, List.length_range, isCell_int, isCell_bool, isCell_str, isCell_rs, isCell_ptr, isCell_sl, nr1_int, nr1_bool, nr1_str, nr1_rs, nr1_ptr, nr1_sl, List.all_cons, List.all_nil, putCells, List.set_cons_zero, Bool.and_true, Bool.true_and, Bool.not_true, Bool.not_false, putT, rv, bin, binI, un3_int, un3_bool, un3_str, un3_rs, un3_ptr, un3_map, un3_iface, un3_prim, un3_fn, un3_yl, un3_sl, un3_agg, un3_tup, un3_pv, un2_int, un2_bool, un2_str, un2_rs, un2_ptr, un2_sl, un1_int, un1_bool, un1_str, un1_rs, un1_ptr, un1_sl, Nat.reduceAdd, Nat.reduceSub, Nat.reduceMul, Nat.reduceDiv, Nat.reduceMod, Nat.reducePow, Nat.reduceLT, Nat.reduceLeDiff, Nat.reduceEqDiff, Nat.reduceBEq, Nat.reduceBNe, reduceIte, Int.reduceEq, Int.reduceLT, Int.reduceLE, Int.reduceNeg, Int.reduceToNat, Int.reduceMul, Int.reduceAdd, Int.reduceSub, Int.cast_ofNat_Int, reduceCtorEq, Nat.zero_add, Nat.add_zero, Nat.mul_one, bft, btf, beq_self_eq_true, Bool.not_true, Bool.not_false, true_and, and_true, and_self, if_true, if_false, ite_true, ite_false, c0, c1, not_true_eq_false, not_false_eq_true, Bool.true_eq_false, Bool.false_eq_true, Option.some.injEq, Prod.mk.injEq, exists_eq_left, List.length_map, List.getElem?_map, Option.map_some, List.cons_append, List.nil_append, List.length_cons, List.length_nil, List.append_nil, decide_true, decide_false]
  generalize hE : evw F (ICode.loop ir6_l0) _ = R
  obtain ⟨⟨f2, wr2⟩, rfl, hK2, hw2⟩ := deep_loop hE h14 hg hl hs (by (try simp only [upd_get, base_get, Nat.reduceAdd, Nat.reduceSub, Nat.reduceMul, Nat.reduceDiv, Nat.reduceMod, Nat.reducePow, Nat.reduceLT, Nat.reduceLeDiff, Nat.reduceEqDiff, Nat.reduceBEq, Nat.reduceBNe, reduceIte, Int.reduceEq, Int.reduceLT, Int.reduceLE, Int.reduceNeg, Int.reduceToNat, Int.reduceMul, Int.reduceAdd, Int.reduceSub, Int.cast_ofNat_Int, reduceCtorEq, Nat.zero_add, Nat.add_zero, Nat.mul_one]) <;> rfl) (by (try simp only [upd_get, base_get, Nat.reduceAdd, Nat.reduceSub, Nat.reduceMul, Nat.reduceDiv, Nat.reduceMod, Nat.reducePow, Nat.reduceLT, Nat.reduceLeDiff, Nat.reduceEqDiff, Nat.reduceBEq, Nat.reduceBNe, reduceIte, Int.reduceEq, Int.reduceLT, Int.reduceLE, Int.reduceNeg, Int.reduceToNat, Int.reduceMul, Int.reduceAdd, Int.reduceSub, Int.cast_ofNat_Int, reduceCtorEq, Nat.zero_add, Nat.add_zero, Nat.mul_one]) <;> rfl) (by (try simp only [upd_get, base_get, Nat.reduceAdd, Nat.reduceSub, Nat.reduceMul, Nat.reduceDiv, Nat.reduceMod, Nat.reducePow, Nat.reduceLT, Nat.reduceLeDiff, Nat.reduceEqDiff, Nat.reduceBEq, Nat.reduceBNe, reduceIte, Int.reduceEq, Int.reduceLT, Int.reduceLE, Int.reduceNeg, Int.reduceToNat, Int.reduceMul, Int.reduceAdd, Int.reduceSub, Int.cast_ofNat_Int, reduceCtorEq, Nat.zero_add, Nat.add_zero, Nat.mul_one]) <;> rfl) (by (try simp only [upd_get, base_get, Nat.reduceAdd, Nat.reduceSub, Nat.reduceMul, Nat.reduceDiv, Nat.reduceMod, Nat.reducePow, Nat.reduceLT, Nat.reduceLeDiff, Nat.reduceEqDiff, Nat.reduceBEq, Nat.reduceBNe, reduceIte, Int.reduceEq, Int.reduceLT, Int.reduceLE, Int.reduceNeg, Int.reduceToNat, Int.reduceMul, Int.reduceAdd, Int.reduceSub, Int.cast_ofNat_Int, reduceCtorEq, Nat.zero_add, Nat.add_zero, Nat.mul_one]) <;> rfl) (by (try simp only [upd_get, base_get, Nat.reduceAdd, Nat.reduceSub, Nat.reduceMul, Nat.reduceDiv, Nat.reduceMod, Nat.reducePow, Nat.reduceLT, Nat.reduceLeDiff, Nat.reduceEqDiff, Nat.reduceBEq, Nat.reduceBNe, reduceIte, Int.reduceEq, Int.reduceLT, Int.reduceLE, Int.reduceNeg, Int.reduceToNat, Int.reduceMul, Int.reduceAdd, Int.reduceSub, Int.cast_ofNat_Int, reduceCtorEq, Nat.zero_add, Nat.add_zero, Nat.mul_one]) <;> rfl) (by (try simp only [upd_get, base_get, Nat.reduceAdd, Nat.reduceSub, Nat.reduceMul, Nat.reduceDiv, Nat.reduceMod, Nat.reducePow, Nat.reduceLT, Nat.reduceLeDiff, Nat.reduceEqDiff, Nat.reduceBEq, Nat.reduceBNe, reduceIte, Int.reduceEq, Int.reduceLT, Int.reduceLE, Int.reduceNeg, Int.reduceToNat, Int.reduceMul, Int.reduceAdd, Int.reduceSub, Int.cast_ofNat_Int, reduceCtorEq, Nat.zero_add, Nat.add_zero, Nat.mul_one]) <;> rfl)
  dsimp only at hK2 hw2
  have a7 : f2 7 = some (7, .rs 1 σ.length 0 g.length) := (hK2 7 (by decide)).trans (by (try simp only [upd_get, base_get, Nat.reduceAdd, Nat.reduceSub, Nat.reduceMul, Nat.reduceDiv, Nat.reduceMod, Nat.reducePow, Nat.reduceLT, Nat.reduceLeDiff, Nat.reduceEqDiff, Nat.reduceBEq, Nat.reduceBNe, reduceIte, Int.reduceEq, Int.reduceLT, Int.reduceLE, Int.reduceNeg, Int.reduceToNat, Int.reduceMul, Int.reduceAdd, Int.reduceSub, Int.cast_ofNat_Int, reduceCtorEq, Nat.zero_add, Nat.add_zero, Nat.mul_one]) <;> rfl)
  simp only [a7, hw2.filter, retI, E_ds, shut, readRes, List.map_nil, List.map_cons, List.all_nil, List.all_cons, tupV, finish, nt_int, nt_bool, nt_str, nt_rs, nt_ptr, nt_sl, nt_agg, nr3_int, nr3_bool, nr3_str, nr3_sl, nr3_rs, nr3_ptr, nr3_tup, nr3_agg, nr2_int, nr2_bool, nr2_str, nr2_sl, nr2_rs, nr2_ptr, Bool.and_true, Bool.true_and, Bool.false_and, Bool.and_false, Bool.not_false, Bool.not_true, Bool.or_true, Bool.true_or, List.take_length, List.filter_nil, List.filter_cons, Bool.false_eq_true, evw_cond, evw_seq, evw_ops, evw_ret, evw_skip, evw_exit, evw_block, evw_scope, evw_label, runOps, wantedI, stepOp, getAll, stepCall, addOut, unI, Opd.get, E_get?, E_set, slotN, upd_get, base_get, ins_base, ins_eq, ins_lt, ins_gt, tag, markW, cells_int, cells_bool, cells_str, cells_rs, cells_ptr, cells_sl, nt_int, nt_bool, nt_str, nt_rs, nt_ptr, nt_sl, nt_agg, nr2_int, nr2_bool, nr2_str, nr2_sl, nr2_rs, nr2_ptr, List.map_cons, List.map_nil, List.length_range, isCell_int, isCell_bool, isCell_str, isCell_rs, isCell_ptr, isCell_sl, nr1_int, nr1_bool, nr1_str, nr1_rs, nr1_ptr, nr1_sl, List.all_cons, List.all_nil, putCells, List.set_cons_zero, Bool.and_true, Bool.true_and, Bool.not_true, Bool.not_false, putT, rv, bin, binI, un3_int, un3_bool, un3_str, un3_rs, un3_ptr, un3_map, un3_iface, un3_prim, un3_fn, un3_yl, un3_sl, un3_agg, un3_tup, un3_pv, un2_int, un2_bool, un2_str, un2_rs, un2_ptr, un2_sl, un1_int, un1_bool, un1_str, un1_rs, un1_ptr, un1_sl, Nat.reduceAdd, Nat.reduceSub, Nat.reduceMul, Nat.reduceDiv, Nat.reduceMod, Nat.reducePow, Nat.reduceLT, Nat.reduceLeDiff, Nat.reduceEqDiff, Nat.reduceBEq, Nat.reduceBNe, reduceIte, Int.reduceEq, Int.reduceLT, Int.reduceLE, Int.reduceNeg, Int.reduceToNat, Int.reduceMul, Int.reduceAdd, Int.reduceSub, Int.cast_ofNat_Int, reduceCtorEq, Nat.zero_add, Nat.add_zero, Nat.mul_one, bft, btf, beq_self_eq_true, Bool.not_true, Bool.not_false, true_and, and_true, and_self, if_true, if_false, ite_true, ite_false, c0, c1, not_true_eq_false, not_false_eq_true, Bool.true_eq_false, Bool.false_eq_true, Option.some.injEq, Prod.mk.injEq, exists_eq_left, List.length_map, List.getElem?_map, Option.map_some, List.cons_append, List.nil_append, List.length_cons, List.length_nil, List.append_nil, decide_true, decide_false]

/-- A number is the greatest of ways. -/
def wk (g : List (List Nat)) (s : List Int) (f : Nat) : Int := (Dl g s (f + 1)).getD f 0
theorem Dl_get {g : List (List Nat)} {s : List Int} : ∀ {k c : Nat}, c < k → (Dl g s k).getD c 0 = wk g s c := by
  intro k
  induction k with
  | zero => intro c h; omega
  | succ k ih =>
    intro c h
    by_cases hc : c = k
    · subst hc; rfl
    · have hck : c < k := by omega
      rw [← ih hck, Dl]
      rw [List.getD_eq_getElem?_getD, List.getElem?_append_left (by rw [Dl_length]; exact hck), ← List.getD_eq_getElem?_getD]
theorem wk_eq (g : List (List Nat)) (s : List Int) (f : Nat) : wk g s f = fd (Dl g s f) (g.getD f []) + s.getD f 0 := by
  unfold wk
  rw [Dl, List.getD_eq_getElem?_getD, mid_get (Z := []) (Dl_length g s f)]
  rfl

theorem wk_range {g : List (List Nat)} {s : List Int} (hs : ∀ x ∈ s, 0 ≤ x ∧ x ≤ 40) (f : Nat) : 0 ≤ wk g s f ∧ wk g s f ≤ 40 * ((f + 1 : Nat) : Int) :=
  getD_range (Dl_range hs (f + 1)) (Int.le_refl _) (by omega) f

theorem walk_loop {f0 : Nat → Option (Nat × IVal)} {σ : List IObj} {R : Option (IExit × St)} {g : List (List Nat)} {s : List Int} {f : Nat} {l : List Nat} {o o' : Nat} {r' : Bool}
    (hE : evw F (.loop ir7_l0) ⟨E 9 12 5 [] f0, σ, []⟩ = R) (hlf : g[f]? = some l) (hll : l.length < 1000) (hlc : ∀ c ∈ l, c < f) (hfg : f < g.length)
    (ih : ∀ c, c < f → ∀ (σ : List IObj) (o o' : Nat) (r' : Bool), c < g.length → cfw F (.f 7) [.sl o false (LL g), .sl o' r' (s.map I), N c] σ = some ⟨false, I (wk g s c), σ, []⟩)
    (h0 : f0 0 = some (0, .sl o false (LL g))) (h1 : f0 1 = some (1, .sl o' r' (s.map I))) (h2 : f0 2 = some (2, N f)) (h7 : f0 7 = some (7, I 0)) (h8 : f0 8 = some (8, N 0)) :
    ∃ f', R = some (.exit 0, ⟨E 9 12 5 [] (base f'), σ, []⟩) ∧ KeepT [1, 2] f0 f' ∧ f' 7 = some (7, I (fd (Dl g s f) l)) := by
  subst hE
  refine loop_invE (fun j st => ∃ f', st = ⟨E 9 12 5 [] (base f'), σ, []⟩ ∧ KeepT [0, 1, 2] f0 f' ∧ f' 7 = some (7, I (fd (Dl g s f) (l.take j))) ∧ f' 8 = some (8, N j)) l.length ⟨f0, rfl, KeepT.refl _ _, h7, h8⟩ ?_ ?_
  · rintro j st hj ⟨f', rfl, hK, e7, e8⟩
    have e0 := (hK 0 (by decide)).trans h0
    have e1 := (hK 1 (by decide)).trans h1
    have e2 := (hK 2 (by decide)).trans h2
    obtain ⟨c, hc⟩ : ∃ c, l[j]? = some c := ⟨l[j], by simp⟩
    have hck := hlc c (List.mem_of_getElem? hc)
    have d1 : decide ((j : Int) < l.length) = true := dec_t (by omega)
    have d2 : (0 : Int) ≤ j := by omega
    have d3 : (0 : Int) ≤ f := by omega
    have hw := ih c hck σ 0 0 r' (by omega)
    have w1 := inc64 (n := j) (by omega)
    have m4 : fd (Dl g s f) (l.take (j + 1)) = max (fd (Dl g s f) (l.take j)) (wk g s c) := by rw [List.take_add_one, hc, ← Dl_get hck, ← fd_snoc]; rfl
    simp only [ir7_l0, e0, e1, e2, e7, e8, hlf, hc, d1, d2, d3, hw, w1, max_if, Int.toNat_natCast, takeV, List.getElem?_cons_zero, evw_cond, evw_seq, evw_ops, evw_ret, evw_skip, evw_exit, evw_block, evw_scope, evw_label, runOps, wantedI, stepOp, getAll, stepCall, addOut, unI, Opd.get, E_get?, E_set, slotN, upd_get, base_get, ins_base, ins_eq, ins_lt, ins_gt, tag, markW, cells_int, cells_bool, cells_str, cells_rs, cells_ptr, cells_sl, nt_int, nt_bool, nt_str, nt_rs, nt_ptr, nt_sl, nt_agg, nr2_int, nr2_bool, nr2_str, nr2_sl, nr2_rs, nr2_ptr, List.map_cons, List.map_nil, List.length_range, isCell_int, isCell_bool, isCell_str, isCell_rs, isCell_ptr, isCell_sl, nr1_int, nr1_bool, nr1_str, nr1_rs, nr1_ptr, nr1_sl, List.all_cons, List.all_nil, putCells, List.set_cons_zero, Bool.and_true, Bool.true_and, Bool.not_true, Bool.not_false, putT, rv, bin, binI, un3_int, un3_bool, un3_str, un3_rs, un3_ptr, un3_map, un3_iface, un3_prim, un3_fn, un3_yl, un3_sl, un3_agg, un3_tup, un3_pv, un2_int, un2_bool, un2_str, un2_rs, un2_ptr, un2_sl, un1_int, un1_bool, un1_str, un1_rs, un1_ptr, un1_sl, Nat.reduceAdd, Nat.reduceSub, Nat.reduceMul, Nat.reduceDiv, Nat.reduceMod, Nat.reducePow, Nat.reduceLT, Nat.reduceLeDiff, Nat.reduceEqDiff, Nat.reduceBEq, Nat.reduceBNe, reduceIte, Int.reduceEq, Int.reduceLT, Int.reduceLE, Int.reduceNeg, Int.reduceToNat, Int.reduceMul, Int.reduceAdd, Int.reduceSub, Int.cast_ofNat_Int, reduceCtorEq, Nat.zero_add, Nat.add_zero, Nat.mul_one, bft, btf, beq_self_eq_true, Bool.not_true, Bool.not_false, true_and, and_true, and_self, if_true, if_false, ite_true, ite_false, c0, c1, not_true_eq_false, not_false_eq_true, Bool.true_eq_false, Bool.false_eq_true, Option.some.injEq, Prod.mk.injEq, exists_eq_left, List.length_map, List.getElem?_map, Option.map_some, List.cons_append, List.nil_append, List.length_cons, List.length_nil, List.append_nil, decide_true, decide_false]
    refine ⟨_, rfl, _, rfl, ?_, ?_, ?_⟩
    · exact (by repeat (first | exact hK | refine KeepT.upd (by decide) ?_))
    · rw [m4]; simp only [upd_get, base_get, Nat.reduceAdd, Nat.reduceSub, Nat.reduceMul, Nat.reduceDiv, Nat.reduceMod, Nat.reducePow, Nat.reduceLT, Nat.reduceLeDiff, Nat.reduceEqDiff, Nat.reduceBEq, Nat.reduceBNe, reduceIte, Int.reduceEq, Int.reduceLT, Int.reduceLE, Int.reduceNeg, Int.reduceToNat, Int.reduceMul, Int.reduceAdd, Int.reduceSub, Int.cast_ofNat_Int, reduceCtorEq, Nat.zero_add, Nat.add_zero, Nat.mul_one]
    · simp only [upd_get, base_get, Nat.reduceAdd, Nat.reduceSub, Nat.reduceMul, Nat.reduceDiv, Nat.reduceMod, Nat.reducePow, Nat.reduceLT, Nat.reduceLeDiff, Nat.reduceEqDiff, Nat.reduceBEq, Nat.reduceBNe, reduceIte, Int.reduceEq, Int.reduceLT, Int.reduceLE, Int.reduceNeg, Int.reduceToNat, Int.reduceMul, Int.reduceAdd, Int.reduceSub, Int.cast_ofNat_Int, reduceCtorEq, Nat.zero_add, Nat.add_zero, Nat.mul_one]
  · rintro st ⟨f', rfl, hK, e7, e8⟩
    have e0 := (hK 0 (by decide)).trans h0
    have e2 := (hK 2 (by decide)).trans h2
    have d1 : decide ((l.length : Int) < l.length) = false := dec_f (by omega)
    have d3 : (0 : Int) ≤ f := by omega
    rw [evw_loop]
    simp only [ir7_l0, e0, e2, e8, hlf, d1, d3, Int.toNat_natCast, takeV, List.getElem?_cons_zero, evw_cond, evw_seq, evw_ops, evw_ret, evw_skip, evw_exit, evw_block, evw_scope, evw_label, runOps, wantedI, stepOp, getAll, stepCall, addOut, unI, Opd.get, E_get?, E_set, slotN, upd_get, base_get, ins_base, ins_eq, ins_lt, ins_gt, tag, markW, cells_int, cells_bool, cells_str, cells_rs, cells_ptr, cells_sl, nt_int, nt_bool, nt_str, nt_rs, nt_ptr, nt_sl, nt_agg, nr2_int, nr2_bool, nr2_str, nr2_sl, nr2_rs, nr2_ptr, List.map_cons, List.map_nil, List.length_range, isCell_int, isCell_bool, isCell_str, isCell_rs, isCell_ptr, isCell_sl, nr1_int, nr1_bool, nr1_str, nr1_rs, nr1_ptr, nr1_sl, List.all_cons, List.all_nil, putCells, List.set_cons_zero, Bool.and_true, Bool.true_and, Bool.not_true, Bool.not_false, putT, rv, bin, binI, un3_int, un3_bool, un3_str, un3_rs, un3_ptr, un3_map, un3_iface, un3_prim, un3_fn, un3_yl, un3_sl, un3_agg, un3_tup, un3_pv, un2_int, un2_bool, un2_str, un2_rs, un2_ptr, un2_sl, un1_int, un1_bool, un1_str, un1_rs, un1_ptr, un1_sl, Nat.reduceAdd, Nat.reduceSub, Nat.reduceMul, Nat.reduceDiv, Nat.reduceMod, Nat.reducePow, Nat.reduceLT, Nat.reduceLeDiff, Nat.reduceEqDiff, Nat.reduceBEq, Nat.reduceBNe, reduceIte, Int.reduceEq, Int.reduceLT, Int.reduceLE, Int.reduceNeg, Int.reduceToNat, Int.reduceMul, Int.reduceAdd, Int.reduceSub, Int.cast_ofNat_Int, reduceCtorEq, Nat.zero_add, Nat.add_zero, Nat.mul_one, bft, btf, beq_self_eq_true, Bool.not_true, Bool.not_false, true_and, and_true, and_self, if_true, if_false, ite_true, ite_false, c0, c1, not_true_eq_false, not_false_eq_true, Bool.true_eq_false, Bool.false_eq_true, Option.some.injEq, Prod.mk.injEq, exists_eq_left, List.length_map, List.getElem?_map, Option.map_some, List.cons_append, List.nil_append, List.length_cons, List.length_nil, List.append_nil, decide_true, decide_false]
    rw [List.take_length] at e7
    exact ⟨_, rfl, (by repeat (first | exact hK.sub (by decide) | refine KeepT.upd (by decide) ?_)), (by (try simp only [upd_get, base_get, Nat.reduceAdd, Nat.reduceSub, Nat.reduceMul, Nat.reduceDiv, Nat.reduceMod, Nat.reducePow, Nat.reduceLT, Nat.reduceLeDiff, Nat.reduceEqDiff, Nat.reduceBEq, Nat.reduceBNe, reduceIte, Int.reduceEq, Int.reduceLT, Int.reduceLE, Int.reduceNeg, Int.reduceToNat, Int.reduceMul, Int.reduceAdd, Int.reduceSub, Int.cast_ofNat_Int, reduceCtorEq, Nat.zero_add, Nat.add_zero, Nat.mul_one]) <;> first | exact e7 | rfl)⟩

/-- walk: the greatest need by all ways. -/
theorem walk_spec (h7 : F 7 = some ir7) {g : List (List Nat)} {s : List Int} (hg : g.length < 10) (hgs : s.length = g.length) (hl : ∀ (i : Nat) (l : List Nat), g[i]? = some l → l.length < 1000 ∧ ∀ c ∈ l, c < i) (hs : ∀ x ∈ s, 0 ≤ x ∧ x ≤ 40) :
    ∀ (f : Nat) (σ : List IObj) (o o' : Nat) (r' : Bool), f < g.length → cfw F (.f 7) [.sl o false (LL g), .sl o' r' (s.map I), N f] σ = some ⟨false, I (wk g s f), σ, []⟩ := by
  intro f
  induction f using Nat.strongRecOn with
  | _ f ih =>
    intro σ o o' r' hf
    obtain ⟨l, hlf⟩ : ∃ l, g[f]? = some l := ⟨g[f], by simp⟩
    obtain ⟨hll, hlc⟩ := hl f l hlf
    have d2 : (0 : Int) ≤ f := by omega
    rw [cfw_of ir7 h7, callI]
    simp only [ir7, hlf, d2, callI, entry_E, Ts.fill, evw_cond, evw_seq, evw_ops, evw_ret, evw_skip, evw_exit, evw_block, evw_scope, evw_label, runOps, wantedI, stepOp, getAll, stepCall, addOut, unI, Opd.get, E_get?, E_set, slotN, upd_get, base_get, ins_base, ins_eq, ins_lt, ins_gt, tag, markW, cells_int, cells_bool, cells_str, cells_rs, cells_ptr, cells_sl, nt_int, nt_bool, nt_str, nt_rs, nt_ptr, nt_sl, nt_agg, nr2_int, nr2_bool, nr2_str, nr2_sl, nr2_rs, nr2_ptr, List.map_cons, List.map_nil, List.length_range, isCell_int, isCell_bool, isCell_str, isCell_rs, isCell_ptr, isCell_sl, nr1_int, nr1_bool, nr1_str, nr1_rs, nr1_ptr, nr1_sl, List.all_cons, List.all_nil, putCells, List.set_cons_zero, Bool.and_true, Bool.true_and, Bool.not_true, Bool.not_false, putT, rv, bin, binI, un3_int, un3_bool, un3_str, un3_rs, un3_ptr, un3_map, un3_iface, un3_prim, un3_fn, un3_yl, un3_sl, un3_agg, un3_tup, un3_pv, un2_int, un2_bool, un2_str, un2_rs, un2_ptr, un2_sl, un1_int, un1_bool, un1_str, un1_rs, un1_ptr, un1_sl, Nat.reduceAdd, Nat.reduceSub, Nat.reduceMul, Nat.reduceDiv, Nat.reduceMod, Nat.reducePow, Nat.reduceLT, Nat.reduceLeDiff, Nat.reduceEqDiff, Nat.reduceBEq, Nat.reduceBNe, reduceIte, Int.reduceEq, Int.reduceLT, Int.reduceLE, Int.reduceNeg, Int.reduceToNat, Int.reduceMul, Int.reduceAdd, Int.reduceSub, Int.cast_ofNat_Int, reduceCtorEq, Nat.zero_add, Nat.add_zero, Nat.mul_one, bft, btf, beq_self_eq_true, Bool.not_true, Bool.not_false, true_and, and_true, and_self, if_true, if_false, ite_true, ite_false, c0, c1, not_true_eq_false, not_false_eq_true, Bool.true_eq_false, Bool.false_eq_true, Option.some.injEq, Prod.mk.injEq, exists_eq_left, List.length_map, List.getElem?_map, Option.map_some, List.cons_append, List.nil_append, List.length_cons, List.length_nil, List.append_nil, decide_true, decide_false]
    generalize hE : evw F (ICode.loop ir7_l0) _ = R
    obtain ⟨f2, rfl, hK2, a7⟩ := walk_loop hE hlf hll hlc hf ih (by (try simp only [upd_get, base_get, Nat.reduceAdd, Nat.reduceSub, Nat.reduceMul, Nat.reduceDiv, Nat.reduceMod, Nat.reducePow, Nat.reduceLT, Nat.reduceLeDiff, Nat.reduceEqDiff, Nat.reduceBEq, Nat.reduceBNe, reduceIte, Int.reduceEq, Int.reduceLT, Int.reduceLE, Int.reduceNeg, Int.reduceToNat, Int.reduceMul, Int.reduceAdd, Int.reduceSub, Int.cast_ofNat_Int, reduceCtorEq, Nat.zero_add, Nat.add_zero, Nat.mul_one]) <;> rfl) (by (try simp only [upd_get, base_get, Nat.reduceAdd, Nat.reduceSub, Nat.reduceMul, Nat.reduceDiv, Nat.reduceMod, Nat.reducePow, Nat.reduceLT, Nat.reduceLeDiff, Nat.reduceEqDiff, Nat.reduceBEq, Nat.reduceBNe, reduceIte, Int.reduceEq, Int.reduceLT, Int.reduceLE, Int.reduceNeg, Int.reduceToNat, Int.reduceMul, Int.reduceAdd, Int.reduceSub, Int.cast_ofNat_Int, reduceCtorEq, Nat.zero_add, Nat.add_zero, Nat.mul_one]) <;> rfl) (by (try simp only [upd_get, base_get, Nat.reduceAdd, Nat.reduceSub, Nat.reduceMul, Nat.reduceDiv, Nat.reduceMod, Nat.reducePow, Nat.reduceLT, Nat.reduceLeDiff, Nat.reduceEqDiff, Nat.reduceBEq, Nat.reduceBNe, reduceIte, Int.reduceEq, Int.reduceLT, Int.reduceLE, Int.reduceNeg, Int.reduceToNat, Int.reduceMul, Int.reduceAdd, Int.reduceSub, Int.cast_ofNat_Int, reduceCtorEq, Nat.zero_add, Nat.add_zero, Nat.mul_one]) <;> rfl) (by (try simp only [upd_get, base_get, Nat.reduceAdd, Nat.reduceSub, Nat.reduceMul, Nat.reduceDiv, Nat.reduceMod, Nat.reducePow, Nat.reduceLT, Nat.reduceLeDiff, Nat.reduceEqDiff, Nat.reduceBEq, Nat.reduceBNe, reduceIte, Int.reduceEq, Int.reduceLT, Int.reduceLE, Int.reduceNeg, Int.reduceToNat, Int.reduceMul, Int.reduceAdd, Int.reduceSub, Int.cast_ofNat_Int, reduceCtorEq, Nat.zero_add, Nat.add_zero, Nat.mul_one]) <;> rfl) (by (try simp only [upd_get, base_get, Nat.reduceAdd, Nat.reduceSub, Nat.reduceMul, Nat.reduceDiv, Nat.reduceMod, Nat.reducePow, Nat.reduceLT, Nat.reduceLeDiff, Nat.reduceEqDiff, Nat.reduceBEq, Nat.reduceBNe, reduceIte, Int.reduceEq, Int.reduceLT, Int.reduceLE, Int.reduceNeg, Int.reduceToNat, Int.reduceMul, Int.reduceAdd, Int.reduceSub, Int.cast_ofNat_Int, reduceCtorEq, Nat.zero_add, Nat.add_zero, Nat.mul_one]) <;> rfl)
    have a1 : f2 1 = some (1, .sl o' r' (s.map I)) := (hK2 1 (by decide)).trans (by (try simp only [upd_get, base_get, Nat.reduceAdd, Nat.reduceSub, Nat.reduceMul, Nat.reduceDiv, Nat.reduceMod, Nat.reducePow, Nat.reduceLT, Nat.reduceLeDiff, Nat.reduceEqDiff, Nat.reduceBEq, Nat.reduceBNe, reduceIte, Int.reduceEq, Int.reduceLT, Int.reduceLE, Int.reduceNeg, Int.reduceToNat, Int.reduceMul, Int.reduceAdd, Int.reduceSub, Int.cast_ofNat_Int, reduceCtorEq, Nat.zero_add, Nat.add_zero, Nat.mul_one]) <;> rfl)
    have a2 : f2 2 = some (2, N f) := (hK2 2 (by decide)).trans (by (try simp only [upd_get, base_get, Nat.reduceAdd, Nat.reduceSub, Nat.reduceMul, Nat.reduceDiv, Nat.reduceMod, Nat.reducePow, Nat.reduceLT, Nat.reduceLeDiff, Nat.reduceEqDiff, Nat.reduceBEq, Nat.reduceBNe, reduceIte, Int.reduceEq, Int.reduceLT, Int.reduceLE, Int.reduceNeg, Int.reduceToNat, Int.reduceMul, Int.reduceAdd, Int.reduceSub, Int.cast_ofNat_Int, reduceCtorEq, Nat.zero_add, Nat.add_zero, Nat.mul_one]) <;> rfl)
    have s1 : s[f]? = some (s.getD f 0) := by rw [List.getD_eq_getElem?_getD, List.getElem?_eq_getElem (by omega)]; rfl
    have e1 : g.getD f [] = l := by rw [List.getD_eq_getElem?_getD, hlf]; rfl
    have r1 := wk_range (g := g) hs f
    have w1 : IntKind.i64.wrap (s.getD f 0 + fd (Dl g s f) l) = wk g s f := by
      have := wk_eq g s f
      rw [e1] at this
      rw [Int.add_comm, ← this]
      exact wrap64 (by omega) (by omega)
    simp only [a1, a2, a7, s1, d2, w1, Int.toNat_natCast, takeV, List.getElem?_cons_zero, retI, E_ds, shut, readRes, List.map_nil, List.map_cons, List.all_nil, List.all_cons, tupV, finish, nt_int, nt_bool, nt_str, nt_rs, nt_ptr, nt_sl, nt_agg, nr3_int, nr3_bool, nr3_str, nr3_sl, nr3_rs, nr3_ptr, nr3_tup, nr3_agg, nr2_int, nr2_bool, nr2_str, nr2_sl, nr2_rs, nr2_ptr, Bool.and_true, Bool.true_and, Bool.false_and, Bool.and_false, Bool.not_false, Bool.not_true, Bool.or_true, Bool.true_or, List.take_length, List.filter_nil, List.filter_cons, Bool.false_eq_true, evw_cond, evw_seq, evw_ops, evw_ret, evw_skip, evw_exit, evw_block, evw_scope, evw_label, runOps, wantedI, stepOp, getAll, stepCall, addOut, unI, Opd.get, E_get?, E_set, slotN, upd_get, base_get, ins_base, ins_eq, ins_lt, ins_gt, tag, markW, cells_int, cells_bool, cells_str, cells_rs, cells_ptr, cells_sl, nt_int, nt_bool, nt_str, nt_rs, nt_ptr, nt_sl, nt_agg, nr2_int, nr2_bool, nr2_str, nr2_sl, nr2_rs, nr2_ptr, List.map_cons, List.map_nil, List.length_range, isCell_int, isCell_bool, isCell_str, isCell_rs, isCell_ptr, isCell_sl, nr1_int, nr1_bool, nr1_str, nr1_rs, nr1_ptr, nr1_sl, List.all_cons, List.all_nil, putCells, List.set_cons_zero, Bool.and_true, Bool.true_and, Bool.not_true, Bool.not_false, putT, rv, bin, binI, un3_int, un3_bool, un3_str, un3_rs, un3_ptr, un3_map, un3_iface, un3_prim, un3_fn, un3_yl, un3_sl, un3_agg, un3_tup, un3_pv, un2_int, un2_bool, un2_str, un2_rs, un2_ptr, un2_sl, un1_int, un1_bool, un1_str, un1_rs, un1_ptr, un1_sl, Nat.reduceAdd, Nat.reduceSub, Nat.reduceMul, Nat.reduceDiv, Nat.reduceMod, Nat.reducePow, Nat.reduceLT, Nat.reduceLeDiff, Nat.reduceEqDiff, Nat.reduceBEq, Nat.reduceBNe, reduceIte, Int.reduceEq, Int.reduceLT, Int.reduceLE, Int.reduceNeg, Int.reduceToNat, Int.reduceMul, Int.reduceAdd, Int.reduceSub, Int.cast_ofNat_Int, reduceCtorEq, Nat.zero_add, Nat.add_zero, Nat.mul_one, bft, btf, beq_self_eq_true, Bool.not_true, Bool.not_false, true_and, and_true, and_self, if_true, if_false, ite_true, ite_false, c0, c1, not_true_eq_false, not_false_eq_true, Bool.true_eq_false, Bool.false_eq_true, Option.some.injEq, Prod.mk.injEq, exists_eq_left, List.length_map, List.getElem?_map, Option.map_some, List.cons_append, List.nil_append, List.length_cons, List.length_nil, List.append_nil, decide_true, decide_false]
end Go.Idl.Cb
