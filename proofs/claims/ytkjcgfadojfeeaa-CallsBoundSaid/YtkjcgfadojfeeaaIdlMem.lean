/-
  What happens to the relation where memory is made or written.
-/
import Derived.Test.YtkjcgfadojfeeaaIdlOpsF
set_option linter.unusedSectionVars false
set_option linter.unusedVariables false
set_option linter.unusedSimpArgs false
namespace Go.Idl
variable [Globs]

variable {P : Program} {g : Gh} {O : List Nat} {w : World}

theorem cell_of_heap {w w' : World} {b o : Nat} (h : w'.heap[b]? = w.heap[b]?) : w'.cell? ⟨b, o, none⟩ = w.cell? ⟨b, o, none⟩ := by simp [World.cell?, h]

theorem ownO_same {w w' : World} {b : Nat} (h : w'.heap[b]? = w.heap[b]?) (x : IObj) : ownO w' b x = ownO w b x := by
  cases x <;> simp [ownO, blockCells, h]

theorem OBJ.mono {g g' : Gh} {w w' : World} {b : Nat} {x : IObj} (h : OBJ g w b x) (hw : w'.heap[b]? = w.heap[b]?) (hι : ∀ (id b : Nat), g.ι[id]? = some b → g'.ι[id]? = some b)
    (hM : ∀ b o c, g.M b o = some c → g'.M b o = some c) (hC : g'.C = g.C) (hT : ∀ b' ∈ ownO w b x, g'.T b' = g.T b') : OBJ g' w' b x := by
  cases x with
  | cells cs =>
    obtain ⟨c, el, h1, h2, h3⟩ := h
    refine ⟨c, el, by rw [hw]; exact h1, h2, fun i x v hx hv => ⟨(h3 i x v hx hv).1.mono hι hM fun b' hb' => hT b' ?_, (h3 i x v hx hv).2⟩⟩
    rw [own3_cell (h3 i x v hx hv).2] at hb'
    simp only [ownO, blockCells, h1]
    refine List.mem_cons_of_mem _ (mem_flatten_zip (f := own1) hx ?_ hb')
    simpa using hv
  | map es =>
    obtain ⟨mes, clock, h1, h2, h3⟩ := h
    refine ⟨mes, clock, by rw [hw]; exact h1, h2, fun i e me he hm => ?_⟩
    obtain ⟨⟨h4, h5⟩, h6, h7⟩ := h3 i e me he hm
    exact ⟨⟨h4.mono hι hM (by rw [own3_flat h6]; simp), h5.mono hι hM (by rw [own3_flat h7]; simp)⟩, h6, h7⟩
  | loop L =>
    obtain ⟨r, h1, h2⟩ := h
    refine ⟨r, by rw [hw]; exact h1, h2.st, h2.ps, h2.pend, h2.wt, h2.ds, fun p hp => ⟨(h2.vals p hp).1.mono hι hM fun b' hb' => ?_, (h2.vals p hp).2⟩, by rw [hC]; exact h2.code⟩
    rw [← (h2.vals p hp).2, own3_un3] at hb'; cases hb'
  | defr => exact (hw.trans h)
  | dead => trivial

theorem ownS_mem {w : World} {ι : List Nat} {σ : List IObj} {id b : Nat} {x : IObj} (h1 : ι[id]? = some b) (h2 : σ[id]? = some x) {k : Nat} (hk : k ∈ ownO w b x) : k ∈ ownS w ι σ := by
  simp only [ownS, List.mem_flatten]
  refine ⟨ownO w b x, List.mem_of_getElem? (i := id) ?_, hk⟩
  simp [List.getElem?_zipWith, h1, h2]

theorem zipWith_congr {α β γ : Type} {f f' : α → β → γ} {xs : List α} {ys : List β} (h : ∀ (i : Nat) x y, xs[i]? = some x → ys[i]? = some y → f x y = f' x y) : List.zipWith f xs ys = List.zipWith f' xs ys := by
  induction xs generalizing ys with
  | nil => simp
  | cons x xs ih =>
    cases ys with
    | nil => simp
    | cons y ys =>
      simp only [List.zipWith_cons_cons]
      rw [h 0 x y rfl rfl, ih fun i x y hx hy => h (i + 1) x y (by simpa using hx) (by simpa using hy)]

theorem ownO_head {w : World} {b : Nat} {x : IObj} (h : x ≠ .dead) : b ∈ ownO w b x := by
  cases x <;> simp_all [ownO]

/-- The world has grown; what was there is as it was. -/
theorem R.world {l : Roots} {σ : List IObj} {w' : World} (h : R g O l σ w) (hs : w.heap.size ≤ w'.heap.size) (hw : ∀ b, b < w.heap.size → w'.heap[b]? = w.heap[b]?) : R g O l σ w' := by
  have hlt : ∀ (id b : Nat) x, g.ι[id]? = some b → σ[id]? = some x → x = .dead ∨ b < w.heap.size := by
    intro id b x h1 h2
    by_cases hd : x = .dead
    · exact .inl hd
    · exact .inr (h.lt b (h.sub b (List.mem_append_right _ (ownS_mem h1 h2 (ownO_head hd)))))
  have hO : ∀ (id b : Nat) x, g.ι[id]? = some b → σ[id]? = some x → ownO w' b x = ownO w b x := by
    intro id b x h1 h2
    rcases hlt id b x h1 h2 with rfl | hb
    · rfl
    · exact ownO_same (hw b hb) x
  have hS : ownS w' g.ι σ = ownS w g.ι σ := by simp only [ownS]; rw [zipWith_congr hO]
  refine ⟨h.len, h.vals, fun id b x h1 h2 => ?_, by rw [hS]; exact h.nodup, by rw [hS]; exact h.sub, fun b hb => Nat.lt_of_lt_of_le (h.lt b hb) hs, fun b o v hm => ?_, fun id b x h1 h2 hm => ?_, fun b hb ext top ht => ?_, h.glob⟩
  · rcases hlt id b x h1 h2 with rfl | hb
    · trivial
    · exact (h.objs id b x h1 h2).mono (hw b hb) (fun _ _ h => h) (fun _ _ _ h => h) rfl (fun _ _ => rfl)
  · have hc := h.claim b o v hm
    have := World.block_lt_of_cell? w _ hc
    rw [cell_of_heap (hw b this)]; exact hc
  · rw [hO id b x h1 h2] at hm; exact h.apart id b x h1 h2 hm
  · rw [hw b (h.lt b hb)]; exact h.spare b hb ext top ht

/-- More is known of a block that nobody owns. -/
theorem R.ghost {l : Roots} {σ : List IObj} {g' : Gh} {k : Nat} (h : R g O l σ w) (hk : k ∉ O) (hι : g'.ι = g.ι) (hC : g'.C = g.C) (hM : ∀ b o, b ≠ k → g'.M b o = g.M b o) (hM' : ∀ o c, g.M k o = some c → g'.M k o = some c) (hT : ∀ b, b ≠ k → g'.T b = g.T b)
    (hc : ∀ o v, g'.M k o = some v → w.cell? ⟨k, o, none⟩ = some v) : R g' O l σ w := by
  have hMm : ∀ b o c, g.M b o = some c → g'.M b o = some c := by
    intro b o c hb
    by_cases e : b = k
    · subst e; exact hM' o c hb
    · rw [hM b o e]; exact hb
  have hιm : ∀ (id b : Nat), g.ι[id]? = some b → g'.ι[id]? = some b := fun id b hb => by rw [hι]; exact hb
  have hne : ∀ b ∈ O, b ≠ k := fun b hb e => hk (e ▸ hb)
  refine ⟨by rw [hι]; exact h.len, fun p hp => (h.vals p hp).mono hιm hMm fun b hb => hT b (hne b ?_), fun id b x h1 h2 => ?_, by rw [hι]; exact h.nodup, by rw [hι]; exact h.sub, h.lt, fun b o v hm => ?_, fun id b x h1 h2 hm => ?_, fun b hb ext top ht => ?_, fun k' vs hk' i c hi => hMm _ _ _ (h.glob k' vs hk' i c hi)⟩
  · refine h.sub b (List.mem_append_left _ ?_)
    simp only [ownL, List.mem_flatten, List.mem_map]
    exact ⟨_, ⟨p, hp, rfl⟩, hb⟩
  · rw [hι] at h1
    exact (h.objs id b x h1 h2).mono rfl hιm hMm hC fun b' hb' => hT b' (hne b' (h.sub b' (List.mem_append_right _ (ownS_mem h1 h2 hb'))))
  · by_cases e : b = k
    · subst e; exact hc o v hm
    · rw [hM b o e] at hm; exact h.claim b o v hm
  · rw [hι] at h1
    have hb := hne b (h.sub b (List.mem_append_right _ (ownS_mem h1 h2 hm)))
    intro k'
    rw [hM b k' hb]; exact h.apart id b x h1 h2 hm k'
  · rw [hT b (hne b hb)] at ht
    obtain ⟨q1, q2⟩ := h.spare b hb ext top ht
    exact ⟨q1, fun o ho => by rw [hM b o (hne b hb)]; exact q2 o ho⟩

/-- A root that owns a block that nobody owned. -/
theorem R.pushOwn {x : IVal} {v : Value} {l : Roots} {σ : List IObj} {k : Nat} (h : R g O l σ w) (hk : k ∉ O) (hv : V g x v) (ho : own3 x v = [] ∨ own3 x v = [k]) (hlt : k < w.heap.size) (hsp : Spare g w k)
    : R g (k :: O) ((x, v) :: l) σ w := by
  have e : ownL ((x, v) :: l) = own3 x v ++ ownL l := by simp [ownL]
  refine ⟨h.len, fun q hm => ?_, h.objs, ?_, fun b hb => ?_, fun b hb => ?_, h.claim, h.apart, fun b hb => ?_, h.glob⟩
  · rcases List.mem_cons.1 hm with rfl | hm
    · exact hv
    · exact h.vals q hm
  · rw [e]
    rcases ho with ho | ho
    · rw [ho]; exact h.nodup
    · rw [ho, List.append_assoc, List.singleton_append, List.nodup_cons]
      exact ⟨fun hm => hk (h.sub k hm), h.nodup⟩
  · rw [e, List.append_assoc, List.mem_append] at hb
    rcases hb with hb | hb
    · rcases ho with ho | ho
      · rw [ho] at hb; cases hb
      · rw [ho] at hb; simp at hb; subst hb; simp
    · exact List.mem_cons_of_mem _ (h.sub b hb)
  · rcases List.mem_cons.1 hb with rfl | hb
    · exact hlt
    · exact h.lt b hb
  · rcases List.mem_cons.1 hb with rfl | hb
    · exact hsp
    · exact h.spare b hb

theorem ownS_snoc {w : World} {ι : List Nat} {σ : List IObj} (hl : ι.length = σ.length) (b : Nat) (x : IObj) : ownS w (ι ++ [b]) (σ ++ [x]) = ownS w ι σ ++ ownO w b x := by
  simp only [ownS]
  rw [List.zipWith_append hl]
  simp

def Gh.add (g : Gh) (b : Nat) : Gh := { g with ι := g.ι ++ [b] }

theorem get_snoc {α : Type} {l : List α} {a x : α} {i : Nat} (h : (l ++ [a])[i]? = some x) : l[i]? = some x ∨ (i = l.length ∧ x = a) := by
  by_cases hi : i < l.length
  · rw [List.getElem?_append_left hi] at h; exact .inl h
  · have := lt_of_get h
    simp at this
    have e : i = l.length := by omega
    subst e
    simp at h
    exact .inr ⟨rfl, h.symm⟩

/-- A new object of the store; what its cells own was a root's. -/
theorem R.addObj {x : IVal} {v : Value} {l : Roots} {σ : List IObj} {k : Nat} {ob : IObj} (h : R g O ((x, v) :: l) σ w) (hk : k ∉ O) (hlt : k < w.heap.size) (hM : ∀ o, g.M k o = none) (hT : g.T k = none)
    (hob : OBJ (g.add k) w k ob) (ho : ∃ r, ownO w k ob = k :: r ∧ r.Sublist (own3 x v)) : R (g.add k) (k :: O) l (σ ++ [ob]) w := by
  obtain ⟨r, hr1, hr2⟩ := ho
  have hιm : ∀ (id b : Nat), g.ι[id]? = some b → (g.add k).ι[id]? = some b := fun id b hb => by
    simp only [Gh.add]; rw [List.getElem?_append_left (lt_of_get hb)]; exact hb
  have e : ownL ((x, v) :: l) = own3 x v ++ ownL l := by simp [ownL]
  have hp : (ownL l ++ ownS w (g.add k).ι (σ ++ [ob])).Perm (k :: (r ++ (ownL l ++ ownS w g.ι σ))) := by
    simp only [Gh.add]
    rw [ownS_snoc h.len, hr1]
    have h1 : (ownL l ++ (ownS w g.ι σ ++ k :: r)).Perm ((k :: r) ++ (ownL l ++ ownS w g.ι σ)) := by
      rw [← List.append_assoc]; exact List.perm_append_comm
    simpa using h1
  have hsub : (r ++ (ownL l ++ ownS w g.ι σ)).Sublist (ownL ((x, v) :: l) ++ ownS w g.ι σ) := by
    rw [e, List.append_assoc]; exact hr2.append_right _
  refine ⟨by simp [Gh.add, h.len], fun p hp' => (h.vals p (by simp [hp'])).mono hιm (fun _ _ _ h => h) (fun _ _ => rfl), fun id b y h1 h2 => ?_, ?_, fun b hb => ?_, fun b hb => ?_, h.claim, fun id b y h1 h2 hm => ?_, fun b hb => ?_, h.glob⟩
  · rcases get_snoc h1 with h1' | ⟨h1', rfl⟩
    · have hid : id < σ.length := by rw [← h.len]; exact lt_of_get h1'
      rw [List.getElem?_append_left hid] at h2
      exact (h.objs id b y h1' h2).mono rfl hιm (fun _ _ _ h => h) rfl (fun _ _ => rfl)
    · rw [h1', h.len] at h2
      simp at h2
      subst h2
      exact hob
  · rw [hp.nodup_iff, List.nodup_cons]
    exact ⟨fun hm => hk (h.sub k (hsub.mem hm)), h.nodup.sublist hsub⟩
  · rcases List.mem_cons.1 (hp.mem_iff.1 hb) with rfl | hb
    · simp
    · exact List.mem_cons_of_mem _ (h.sub b (hsub.mem hb))
  · rcases List.mem_cons.1 hb with rfl | hb
    · exact hlt
    · exact h.lt b hb
  · rcases get_snoc h1 with h1' | ⟨h1', rfl⟩
    · have hid : id < σ.length := by rw [← h.len]; exact lt_of_get h1'
      rw [List.getElem?_append_left hid] at h2
      exact h.apart id b y h1' h2 hm
    · exact hM
  · rcases List.mem_cons.1 hb with rfl | hb
    · intro ext top ht; simp [Gh.add, hT] at ht
    · exact h.spare b hb

end Go.Idl
