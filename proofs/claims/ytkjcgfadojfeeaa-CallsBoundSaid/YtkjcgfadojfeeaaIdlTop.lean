/-
  The way in: arguments as they read at the entry; what the call gives back.
-/
import Derived.Test.YtkjcgfadojfeeaaIdlTr
import Derived.ProofKit
import Derived.Deep.Slices
set_option linter.unusedSectionVars false
set_option linter.unusedVariables false
set_option linter.unusedSimpArgs false
namespace Go.Idl
variable [Globs]
open Go.RowKit (Below)

variable {P : Program} {w : World}

/-- At the entry all that there is is known. -/
def topG (P : Program) (w : World) : Gh := { ι := [], M := fun b o => w.cell? ⟨b, o, none⟩, T := fun _ => none, C := CR P }

theorem ownL_none {l : Roots} (h : ∀ p ∈ l, own3 p.1 p.2 = []) : ownL l = [] := by
  unfold ownL
  apply flatten_nil
  intro x hx
  obtain ⟨p, hp, rfl⟩ := List.mem_map.1 hx
  exact h p hp

def GlobsAt (w : World) : Prop := ∀ k vs, Globs.vals k = some vs → ∀ (i : Nat) c, vs[i]? = some c → w.cell? ⟨k, i, none⟩ = some c

theorem top_R {l : Roots} (hG : GlobsAt w) (hV : ∀ p ∈ l, V (topG P w) p.1 p.2 ∧ own3 p.1 p.2 = []) : R (topG P w) [] l [] w := by
  have e : ownL l = [] := ownL_none fun p hp => (hV p hp).2
  refine ⟨rfl, fun p hp => (hV p hp).1, fun id b o h => (by simp [topG] at h), ?_, ?_, fun b hb => (by cases hb), fun b o v h => h, fun id b o h => (by simp [topG] at h), fun b hb => (by cases hb), fun k vs hk i c hi => by rw [Nat.zero_add]; exact hG k vs hk i c hi⟩
  · rw [e]; simp [ownS, topG]
  · rw [e]; simp [ownS, topG]

theorem below_of_grow {g g' : Gh} {O' : List Nat} {w' : World} (h : Grow [] g w O' g' w') : Below w.heap.size w w' :=
  ⟨h.os, h.tape, h.output, h.size, fun k hk => (h.same k hk (by simp)).1⟩

/-- What the ideal call comes to, the model's call comes to. -/
theorem top_calls {cf : CallF} (hcf : CallOK P (CR P) cf) (hG : GlobsAt w) {f : FuncId} {args : List IVal} {rargs : Array Value} {out : Out} (hrun : cf (.f f) args [] = some out) (hlen : args.length = rargs.toList.length)
    (hV : ∀ p ∈ args.zip rargs.toList, V (topG P w) p.1 p.2 ∧ own3 p.1 p.2 = []) :
    Calls P f rargs w fun e w' => ∃ v' g', e = endOf out.pan v' ∧ V g' out.v v' ∧ Below w.heap.size w w' := by
  refine callsIn_wide.1 ((hcf.fn f args [] out hrun).2 (topG P w) [] rargs w rfl hlen (top_R hG hV) |>.mono ?_)
  rintro e w' ⟨g', O', v', rfl, hg, hR, -⟩
  exact ⟨v', g', rfl, hR.vals (out.v, v') (by simp), below_of_grow hg⟩

/-- A law that answers true. -/
theorem top_true {cf : CallF} (hcf : CallOK P (CR P) cf) (hG : GlobsAt w) {f : FuncId} {args : List IVal} {rargs : Array Value} {σ' : List IObj} {wr' : List (Nat × Bool)} (hrun : cf (.f f) args [] = some ⟨false, .bool true, σ', wr'⟩) (hlen : args.length = rargs.toList.length)
    (hV : ∀ p ∈ args.zip rargs.toList, V (topG P w) p.1 p.2 ∧ own3 p.1 p.2 = []) :
    Calls P f rargs w fun e w' => e = .returned (.bool true) ∧ Below w.heap.size w w' := by
  refine (top_calls hcf hG hrun hlen hV).mono ?_
  rintro e w' ⟨v', g', rfl, hv, hb⟩
  have : v' = .bool true := (hv.bool_iff true).2 rfl
  subst this
  exact ⟨rfl, hb⟩

/-! ### arguments -/
/-- A slice that reads so. -/
theorem top_slice {a : Addr} {len cap esz : Nat} {xs : List IVal} {vs : List Value} (hl : xs.length = len) (hl2 : vs.length = len) (hc : len ≤ cap) (hspot : 0 < cap → a.spot = none)
    (hv : ∀ (i : Nat) x v, xs[i]? = some x → vs[i]? = some v → V (topG P w) x v) (hf : ∀ x ∈ xs, Flat x) (hr : ∀ x ∈ xs, nr2 x = true) (hz : ∀ v ∈ vs, v.cells.size = esz)
    (hm : ∀ (k : Nat) c, (flatV vs)[k]? = some c → w.cell? ⟨a.block, a.off + k, none⟩ = some c) :
    V (topG P w) (.sl 0 false xs) (.slice (some a) len cap) ∧ own3 (.sl 0 false xs) (.slice (some a) len cap) = [] := by
  subst hl
  exact ⟨.sl 0 false xs vs a cap esz hspot hc hl2.symm hv hf (fun _ => hr) hz hm (fun h => absurd rfl h), own3_un3 (.sl 0 false xs) _⟩

theorem top_ints {H : Type} {enc : TypeId × Value → H} {base fuel : Nat} {held : Bool} {t e : TypeId} {k : IntKind} {cs : List Value} {x : DataW H × List MemPlace}
    (ht : P.underlying t = some (.slice e)) (he : P.underlying e = some (.int k)) (hc : P.cellsOf e = 1) (h : DataW.trod enc P w base (fun _ => true) held fuel t cs = some x) :
    ∃ (v : Value) (zs : List Int), cs = [v] ∧ (∀ n ∈ zs, (Lit.int k n).wf = true) ∧ V (topG P w) (.sl 0 false (zs.map (.int k))) v ∧ own3 (.sl 0 false (zs.map (.int k))) v = [] := by
  rcases Go.ChangeShapes.open_ints ht he hc h with ⟨rfl, rfl⟩ | ⟨a, len, cap, zs, rfl, hb, hl, hm, hzl, rfl, hcell, hwf⟩
  · exact ⟨_, [], rfl, by simp, .nil 0 false, rfl⟩
  · simp only [if_true] at hzl
    refine ⟨_, zs.take len, rfl, fun n hn => hwf n (List.mem_of_mem_take hn), ?_⟩
    have hspot : 0 < cap → a.spot = none := by
      intro h0
      have := hcell 0 (by omega)
      simp only [Addr.add, if_true, World.cell?] at this
      split at this
      · cases hs : a.spot with
        | none => rfl
        | some s => simp [hs] at this
      · cases this
    refine top_slice (vs := (zs.take len).map (.int k)) (esz := 1) (by simp; omega) (by simp; omega) hl hspot (fun i x v hx hv => ?_) (fun x hx => ?_) (fun x hx => ?_) (fun v hv => ?_) (fun j c hj => ?_)
    · simp only [List.getElem?_map, Option.map_eq_some_iff] at hx hv
      obtain ⟨n, h1, rfl⟩ := hx
      obtain ⟨n', h2, rfl⟩ := hv
      rw [h1] at h2; cases h2
      exact .int k n
    · obtain ⟨n, _, rfl⟩ := List.mem_map.1 hx; exact ⟨rfl, rfl⟩
    · obtain ⟨n, _, rfl⟩ := List.mem_map.1 hx; rfl
    · obtain ⟨n, _, rfl⟩ := List.mem_map.1 hv; rfl
    · have hfl : flatV ((zs.take len).map (.int k)) = (zs.take len).map (.int k) := by
        generalize zs.take len = l
        induction l with
        | nil => rfl
        | cons n l ih => simp only [flatV, List.map_cons, List.flatMap_cons] at ih ⊢; rw [ih]; rfl
      rw [hfl] at hj
      simp only [List.getElem?_map, Option.map_eq_some_iff] at hj
      obtain ⟨n, h1, rfl⟩ := hj
      have hjl : j < (zs.take len).length := lt_of_get h1
      have hjz : j < zs.length := by simp at hjl; omega
      have := hcell j hjz
      have ha : a.add j = ⟨a.block, a.off + j, none⟩ := by
        have h0 := hspot (by omega)
        unfold Addr.add
        split
        · subst_vars; cases a; simp at h0; simp [h0]
        · rfl
      rw [ha] at this
      rw [this]
      rw [List.getElem?_take] at h1
      split at h1
      · simp [h1]
      · cases h1


def intsI (k : IntKind) (zs : List Int) : IVal := .sl 0 false (zs.map (.int k))

theorem flatV_cells : ∀ {vs : List Value}, (∀ v ∈ vs, v.cells = #[v]) → flatV vs = vs := by
  intro vs
  induction vs with
  | nil => intro _; rfl
  | cons v vs ih =>
    intro h
    have h1 := h v (by simp)
    have h2 := ih fun u hu => h u (by simp [hu])
    simp only [flatV] at h2 ⊢
    rw [List.flatMap_cons, h2, h1]
    rfl

/-- A slice of slices of integers. -/
theorem top_intss {H : Type} {enc : TypeId × Value → H} {base fuel : Nat} {held : Bool} {t e e2 : TypeId} {k : IntKind} {cs : List Value} {x : DataW H × List MemPlace}
    (ht : P.underlying t = some (.slice e)) (he : P.underlying e = some (.slice e2)) (he2 : P.underlying e2 = some (.int k)) (hc : P.cellsOf e = 1) (hc2 : P.cellsOf e2 = 1) (h : DataW.trod enc P w base (fun _ => true) held fuel t cs = some x) :
    ∃ (v : Value) (zss : List (List Int)), cs = [v] ∧ (∀ zs ∈ zss, ∀ n ∈ zs, (Lit.int k n).wf = true) ∧ V (topG P w) (.sl 0 false (zss.map (intsI k))) v ∧ own3 (.sl 0 false (zss.map (intsI k))) v = [] := by
  rcases Go.Deep.open_slice1 ht hc h with ⟨rfl, rfl⟩ | ⟨a, len, cap, m, n, Vf, D, Pl, rfl, hb, hl, hm, hmm, rfl, hx⟩
  · exact ⟨_, [], rfl, by simp, .nil 0 false, rfl⟩
  · simp only [if_true] at hmm
    subst hmm
    have hex : ∀ i, i < m → ∃ zs : List Int, (∀ n ∈ zs, (Lit.int k n).wf = true) ∧ V (topG P w) (intsI k zs) (Vf i) ∧ (Vf i).cells = #[Vf i] := by
      intro i hi
      obtain ⟨h1, h2⟩ := hx i hi
      obtain ⟨v, zs, h3, h4, h5, h6⟩ := top_ints he he2 hc2 h2
      simp only [List.cons.injEq, and_true] at h3
      subst h3
      refine ⟨zs, h4, h5, ?_⟩
      generalize Vf i = u at h5
      generalize zs.map (IVal.int k) = xs at h5
      cases h5 <;> rfl
    obtain ⟨Z, hZ⟩ := Go.Deep.choose_lt hex
    have hspot : 0 < m → a.spot = none := by
      intro h0
      have := (hx 0 h0).1
      simp only [Addr.add, if_true, World.cell?] at this
      split at this
      · cases hs : a.spot with
        | none => rfl
        | some s => simp [hs] at this
      · cases this
    have hlt : ∀ {i : Nat}, i ∈ List.range len → i < m := fun {i} hi => by have := List.mem_range.1 hi; omega
    have hcs : ∀ v ∈ (List.range len).map Vf, v.cells = #[v] := by
      intro v hv
      obtain ⟨i, hi, rfl⟩ := List.mem_map.1 hv
      exact (hZ i (hlt hi)).2.2
    refine ⟨_, (List.range len).map Z, rfl, fun zs hzs => ?_, ?_⟩
    · obtain ⟨i, hi, rfl⟩ := List.mem_map.1 hzs
      exact (hZ i (hlt hi)).1
    · refine top_slice (vs := (List.range len).map Vf) (esz := 1) (by simp) (by simp) hl hspot (fun i x v hx' hv => ?_) (fun x hx' => ?_) (fun x hx' => ?_) (fun v hv => ?_) (fun j c hj => ?_)
      · simp only [List.map_map, List.getElem?_map, Option.map_eq_some_iff] at hx' hv
        obtain ⟨i1, h1, rfl⟩ := hx'
        obtain ⟨i2, h2, rfl⟩ := hv
        rw [h1] at h2; cases h2
        exact (hZ i1 (hlt (List.mem_of_getElem? h1))).2.1
      · simp only [List.mem_map] at hx'
        obtain ⟨zs, _, rfl⟩ := hx'
        exact ⟨rfl, rfl⟩
      · simp only [List.mem_map] at hx'
        obtain ⟨zs, _, rfl⟩ := hx'
        rfl
      · rw [hcs v hv]; rfl
      · rw [flatV_cells hcs] at hj
        simp only [List.getElem?_map, Option.map_eq_some_iff] at hj
        obtain ⟨i, h1, rfl⟩ := hj
        have hi : i = j := by
          have hj' := lt_of_get h1
          simp at hj'
          rw [List.getElem?_range hj'] at h1
          simpa using h1.symm
        subst hi
        have hil := hlt (List.mem_of_getElem? h1)
        have := (hx i hil).1
        have ha : a.add i = ⟨a.block, a.off + i, none⟩ := by
          have h0 := hspot (by omega)
          unfold Addr.add
          split
          · subst_vars; cases a; simp at h0; simp [h0]
          · rfl
        rw [ha] at this
        exact this

end Go.Idl
