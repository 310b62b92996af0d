/-
  Writes into objects; appends in place; draws.
-/
import Derived.Test.YtkjcgfadojfeeaaIdlMem2
set_option linter.unusedSectionVars false
set_option linter.unusedVariables false
set_option linter.unusedSimpArgs false
namespace Go.Idl
variable [Globs]

variable {P : Program} {g : Gh} {O : List Nat} {w : World}

theorem zipWith_set2 {α β γ : Type} {f : α → β → γ} {xs : List α} {ys : List β} {i : Nat} {x : α} {y : β} (hx : ys[i]? = some y) : List.zipWith f (xs.set i x) ys = (List.zipWith f xs ys).set i (f x y) := by
  induction xs generalizing i ys with
  | nil => simp
  | cons z xs ih =>
    cases ys with
    | nil => simp at hx
    | cons u ys =>
      cases i with
      | zero => simp at hx; subst hx; simp
      | succ i => simp at hx; simp [ih hx]

theorem nodup_getElem {α : Type} [DecidableEq α] {L : List (List α)} (h : L.flatten.Nodup) {i j : Nat} {a b : List α} (hi : L[i]? = some a) (hj : L[j]? = some b) (hne : i ≠ j) {x : α} (hx : x ∈ a) : x ∉ b := by
  induction L generalizing i j with
  | nil => simp at hi
  | cons c L ih =>
    simp only [List.flatten_cons, List.nodup_append] at h
    obtain ⟨h1, h2, h3⟩ := h
    have hmem : ∀ {k : Nat} {d : List α} {y : α}, L[k]? = some d → y ∈ d → y ∈ L.flatten := fun hk hy => List.mem_flatten.2 ⟨_, List.mem_of_getElem? hk, hy⟩
    cases i with
    | zero =>
      cases j with
      | zero => exact absurd rfl hne
      | succ j =>
        simp at hi hj; subst hi
        exact fun hb => h3 x hx x (hmem hj hb) rfl
    | succ i =>
      cases j with
      | zero =>
        simp at hi hj; subst hj
        exact fun hb => h3 x hb x (hmem hi hx) rfl
      | succ j => simp at hi hj; exact ih h2 hi hj (by omega)

theorem subset_flatten_set {α : Type} {L : List (List α)} {i : Nat} {c d : List α} (hi : L[i]? = some c) : ∃ r, L.flatten.Perm (c ++ r) ∧ (L.set i d).flatten.Perm (d ++ r) := by
  induction L generalizing i with
  | nil => simp at hi
  | cons e L ih =>
    cases i with
    | zero => simp at hi; subst hi; exact ⟨L.flatten, by simp, by simp⟩
    | succ i =>
      simp at hi
      obtain ⟨r, h1, h2⟩ := ih hi
      refine ⟨e ++ r, ?_, ?_⟩
      · simp only [List.flatten_cons]
        refine (h1.append_left e).trans ?_
        rw [← List.append_assoc, ← List.append_assoc]
        exact List.perm_append_comm.append_right r
      · simp only [List.set_cons_succ, List.flatten_cons]
        refine (h2.append_left e).trans ?_
        rw [← List.append_assoc, ← List.append_assoc]
        exact List.perm_append_comm.append_right r

theorem Grow.of_setRow (g : Gh) (w : World) {O : List Nat} {b : Nat} (hb : b ∈ O) (w' : World) (hw : ∀ k, k ≠ b → w'.heap[k]? = w.heap[k]?) (hs : w'.heap.size = w.heap.size) (h1 : w'.os = w.os) (h2 : w'.tape = w.tape) (h3 : w'.output = w.output) : Grow O g w O g w' :=
  ⟨by omega, fun k _ hk => ⟨hw k (fun e => hk (e ▸ hb)), rfl, fun _ => rfl⟩, fun _ _ _ h => h, fun _ _ h => h, fun _ h => .inl h, rfl, h1, h2, h3⟩

/-- An object of the store is another one: what it owns now is of what it owned, and of a root. -/
theorem R.upd {x y : IVal} {v u : Value} {l : Roots} {σ : List IObj} {id b : Nat} {ob ob' : IObj} {w' : World} (h : R g O ((x, v) :: l) σ w) (hy : V g y u) (hι : g.ι[id]? = some b) (hσ : σ[id]? = some ob) (hlive : ob ≠ .dead)
    (hw : ∀ k, k ≠ b → w'.heap[k]? = w.heap[k]?) (hs : w'.heap.size = w.heap.size) (hsp : ∀ c el fz, w.heap[b]? = some (.cells c el fz) → ∃ c' el', w'.heap[b]? = some (.cells c' el' fz) ∧ c'.size = c.size)
    (hob : OBJ g w' b ob') (hown : SubP (own3 y u ++ ownO w' b ob') (own3 x v ++ ownO w b ob)) : R g O ((y, u) :: l) (σ.set id ob') w' := by
  have e : ownL ((x, v) :: l) = own3 x v ++ ownL l := by simp [ownL]
  have e' : ownL ((y, u) :: l) = own3 y u ++ ownL l := by simp [ownL]
  have hbO : b ∈ O := h.sub b (List.mem_append_right _ (ownS_mem hι hσ (ownO_head hlive)))
  have hidl : id < σ.length := lt_of_get hσ
  have hidι : id < g.ι.length := lt_of_get hι
  have hS : ownS w g.ι σ = (List.zipWith (ownO w) g.ι σ).flatten := rfl
  have hnS : (List.zipWith (ownO w) g.ι σ).flatten.Nodup := (List.nodup_append.1 h.nodup).2.1
  have hget : (List.zipWith (ownO w) g.ι σ)[id]? = some (ownO w b ob) := by simp [List.getElem?_zipWith, hι, hσ]
  -- another object stands in another block
  have hother : ∀ (id' b' : Nat) y, id' ≠ id → g.ι[id']? = some b' → σ[id']? = some y → y = .dead ∨ b' ≠ b := by
    intro id' b' y hne h1 h2
    by_cases hd : y = .dead
    · exact .inl hd
    · refine .inr fun eb => ?_
      subst eb
      have hg' : (List.zipWith (ownO w) g.ι σ)[id']? = some (ownO w b' y) := by simp [List.getElem?_zipWith, h1, h2]
      exact nodup_getElem hnS hg' hget hne (ownO_head hd) (ownO_head hlive)
  have hzip : List.zipWith (ownO w') g.ι (σ.set id ob') = (List.zipWith (ownO w) g.ι σ).set id (ownO w' b ob') := by
    apply List.ext_getElem?
    intro j
    by_cases hj : j = id
    · subst hj
      rw [List.getElem?_set_self (by simp; omega)]
      simp [List.getElem?_zipWith, hι, hidl]
    · rw [List.getElem?_set_ne (by omega)]
      simp only [List.getElem?_zipWith]
      rw [List.getElem?_set_ne (by omega)]
      cases h1 : g.ι[j]? with
      | none => rfl
      | some b' =>
        cases h2 : σ[j]? with
        | none => rfl
        | some y =>
          rcases hother j b' y hj h1 h2 with rfl | hne
          · rfl
          · show some (ownO w' b' y) = some (ownO w b' y)
            rw [ownO_same (hw b' hne)]
  obtain ⟨r, hr1, hr2⟩ := subset_flatten_set (d := ownO w' b ob') hget
  have hsub : SubP (ownL ((y, u) :: l) ++ ownS w' g.ι (σ.set id ob')) (ownL ((x, v) :: l) ++ ownS w g.ι σ) := by
    have e1 : (ownL ((y, u) :: l) ++ ownS w' g.ι (σ.set id ob')).Perm ((own3 y u ++ ownO w' b ob') ++ (ownL l ++ r)) := by
      simp only [ownS]; rw [hzip, e', List.append_assoc, List.append_assoc]
      refine List.Perm.append_left _ ?_
      refine (hr2.append_left _).trans ?_
      rw [← List.append_assoc, ← List.append_assoc]
      exact List.perm_append_comm.append_right r
    have e2 : ((own3 x v ++ ownO w b ob) ++ (ownL l ++ r)).Perm (ownL ((x, v) :: l) ++ ownS w g.ι σ) := by
      rw [e, hS, List.append_assoc, List.append_assoc]
      refine List.Perm.append_left _ ?_
      refine List.Perm.trans ?_ (hr1.symm.append_left _)
      rw [← List.append_assoc, ← List.append_assoc]
      exact List.perm_append_comm.append_right r
    exact SubP.perm_left e1 (SubP.perm_right e2 (hown.append_right _))
  refine ⟨by simpa using h.len, fun p hp => by rcases List.mem_cons.1 hp with rfl | hp; exact hy; exact h.vals p (by simp [hp]), fun id' b' y h1 h2 => ?_, hsub.nodup h.nodup, fun k hk => h.sub k (hsub.mem hk), fun k hk => by rw [hs]; exact h.lt k hk, fun k o u hm => ?_, fun id' b' y h1 h2 hm => ?_, fun k hk ext top ht => ?_, h.glob⟩
  · by_cases hj : id' = id
    · subst hj
      rw [hι] at h1; cases h1
      rw [List.getElem?_set_self hidl] at h2; cases h2
      exact hob
    · rw [List.getElem?_set_ne (by omega)] at h2
      rcases hother id' b' y hj h1 h2 with rfl | hne
      · trivial
      · exact (h.objs id' b' y h1 h2).mono (hw b' hne) (fun _ _ h => h) (fun _ _ _ h => h) rfl (fun _ _ => rfl)
  · have hne : k ≠ b := fun e => by
      subst e
      rw [h.apart id k ob hι hσ (ownO_head hlive) o] at hm; cases hm
    rw [cell_of_heap (hw k hne)]; exact h.claim k o u hm
  · by_cases hj : id' = id
    · subst hj
      rw [hι] at h1; cases h1
      exact h.apart id' b ob hι hσ (ownO_head hlive)
    · rw [List.getElem?_set_ne (by omega)] at h2
      rcases hother id' b' y hj h1 h2 with rfl | hne
      · cases hm
      · rw [ownO_same (hw b' hne)] at hm; exact h.apart id' b' y h1 h2 hm
  · obtain ⟨⟨c, el, fz, q1, q2, q3⟩, q4⟩ := h.spare k hk ext top ht
    refine ⟨?_, q4⟩
    by_cases hkb : k = b
    · subst hkb
      obtain ⟨c', el', q5, q6⟩ := hsp c el fz q1
      exact ⟨c', el', fz, q5, by omega, q3⟩
    · exact ⟨c, el, fz, by rw [hw k hkb]; exact q1, q2, q3⟩

theorem Keep.set {σ : List IObj} {id : Nat} {ob : IObj} {rf : Bool} (h : ∀ n, id < n → (rf = true → n ≤ id) → (∀ o, σ[id]? = some o → RLO n o) → RLO n ob) : Keep σ (σ.set id ob) [(id, rf)] := by
  refine ⟨by simp, fun n hn hw ho id' o hid' hg => ?_⟩
  by_cases hj : id' = id
  · subst hj
    have hlt : id' < σ.length := by omega
    rw [List.getElem?_set_self hlt] at hg; cases hg
    exact h n hid' (fun hr => hw (id', rf) (by simp) hr) (fun o ho' => ho id' o hid' ho')
  · rw [List.getElem?_set_ne (by omega)] at hg
    exact ho id' o hid' hg

theorem Keep.snoc (σ : List IObj) (ob : IObj) : Keep σ (σ ++ [ob]) [] := by
  refine ⟨by simp, fun n hn _ ho id o hid hg => ?_⟩
  rw [List.getElem?_append_left (by omega)] at hg
  exact ho id o hid hg

/-- Elements are put behind a slice that has the right to it: its block has the room. -/
theorem R.appendIn {l : Roots} {σ : List IObj} {xs ys : List IVal} {us : List Value} {rf rf' : Bool} {esz cap : Nat} {ad : Addr} {c : Array Value} {el : TypeId} {fz : Nat × Nat} {w' : World}
    (h : R g O ((.sl esz rf xs, .slice (some ad) xs.length cap) :: l) σ w) (h0 : 0 < esz) (hl : ys.length = us.length) (hv : ∀ (i : Nat) y u, ys[i]? = some y → us[i]? = some u → V g y u) (hf : ∀ y ∈ ys, Flat y)
    (hr : rf' = false → rf = false ∧ ∀ y ∈ ys, nr2 y = true) (hz : ∀ u ∈ us, u.cells.size = esz) (hroom : xs.length + ys.length ≤ cap) (hne : ys ≠ []) (hb : w.heap[ad.block]? = some (.cells c el fz))
    (hw : ∀ k, k ≠ ad.block → w'.heap[k]? = w.heap[k]?) (hs : w'.heap.size = w.heap.size) (hw' : w'.heap[ad.block]? = some (.cells (c.toList.take (ad.off + xs.length * esz) ++ flatV us ++ c.toList.drop (ad.off + xs.length * esz + (flatV us).length)).toArray el fz))
    (hfl : (flatV us).length = ys.length * esz) (h1 : w'.os = w.os) (h2 : w'.tape = w.tape) (h3 : w'.output = w.output) :
    ∃ g', R g' O ((.sl esz rf' (xs ++ ys), .slice (some ad) (xs ++ ys).length cap) :: l) σ w' ∧ Grow O g w O g' w' ∧ g'.ι = g.ι := by
  have hpos : 0 < ys.length := List.length_pos_iff.2 hne
  have hV := h.vals _ (List.mem_cons_self ..)
  have hownb : ad.block ∈ own3 (.sl esz rf xs) (.slice (some ad) xs.length cap) := by
    simp only [own3, own2, own1]; rw [if_neg (by omega)]; simp
  have e : ownL ((.sl esz rf xs, .slice (some ad) xs.length cap) :: l) = own3 (.sl esz rf xs) (.slice (some ad) xs.length cap) ++ ownL l := by simp [ownL]
  have hbO : ad.block ∈ O := h.sub _ (by rw [e]; simp [hownb])
  have hnl : ad.block ∉ ownL l ++ ownS w g.ι σ := by
    have hn := h.nodup
    rw [e, List.append_assoc] at hn
    exact fun hm => (List.nodup_append.1 hn).2.2 _ hownb _ hm rfl
  simp only at hV
  cases hV with
  | sl _ _ _ vs _ _ esz' hsp hc hl' hv' hf' hr' hz' hcl ho =>
  obtain ⟨heq, hT⟩ := ho (by omega)
  subst heq
  have hT := hT (by omega)
  obtain ⟨⟨c', el', fz', hb', hsz, hfz⟩, hnone⟩ := h.spare _ hbO _ _ hT
  rw [hb] at hb'; cases hb'
  have hflx : (flatV vs).length = xs.length * esz := by
    have : ∀ us : List Value, (∀ u ∈ us, u.cells.size = esz) → (flatV us).length = us.length * esz := by
      intro us hu
      induction us with
      | nil => simp [flatV]
      | cons u us ih =>
        have := ih (fun v hv => hu v (by simp [hv]))
        simp only [flatV, List.flatMap_cons, List.length_append] at this ⊢
        rw [this]
        have := hu u (by simp)
        simp [this, Nat.add_mul]; omega
    rw [this vs hz', hl']
  have hmul : xs.length * esz + ys.length * esz ≤ cap * esz := by rw [← Nat.add_mul]; exact Nat.mul_le_mul_right _ hroom
  let g' : Gh := { g with M := fun b o => if b = ad.block ∧ ad.off + xs.length * esz ≤ o ∧ o < ad.off + xs.length * esz + ys.length * esz then (flatV us)[o - (ad.off + xs.length * esz)]? else g.M b o
                          T := fun b => if b = ad.block then some (ad.off + (xs.length + ys.length) * esz, ad.off + cap * esz) else g.T b }
  have hMm : ∀ b o v, g.M b o = some v → g'.M b o = some v := by
    intro b o v hm
    simp only [g']
    rw [if_neg]
    · exact hm
    · rintro ⟨rfl, h5, _⟩
      rw [hnone o h5] at hm; cases hm
  have hcells : ∀ k : Nat, (c.toList.take (ad.off + xs.length * esz) ++ flatV us ++ c.toList.drop (ad.off + xs.length * esz + (flatV us).length)).toArray[k]? =
      if ad.off + xs.length * esz ≤ k ∧ k < ad.off + xs.length * esz + ys.length * esz then (flatV us)[k - (ad.off + xs.length * esz)]? else c[k]? := by
    intro k
    have hlen : (c.toList.take (ad.off + xs.length * esz)).length = ad.off + xs.length * esz := by simp; omega
    simp only [List.getElem?_toArray]
    by_cases h5 : k < ad.off + xs.length * esz
    · rw [if_neg (by omega), List.append_assoc, List.getElem?_append_left (by omega), List.getElem?_take, if_pos h5]; simp
    · by_cases h6 : k < ad.off + xs.length * esz + ys.length * esz
      · rw [if_pos ⟨by omega, h6⟩, List.append_assoc, List.getElem?_append_right (by omega), hlen, List.getElem?_append_left (by omega)]
      · rw [if_neg (by omega), List.getElem?_append_right (by simp; omega), List.getElem?_drop]
        simp only [List.length_append, hlen, hfl]
        rw [show ad.off + xs.length * esz + ys.length * esz + (k - (ad.off + xs.length * esz + ys.length * esz)) = k by omega]
        simp
  have hTo : ∀ b, b ≠ ad.block → g'.T b = g.T b := fun b hb => by simp [g', hb]
  have hSame : ownS w' g.ι σ = ownS w g.ι σ := by
    simp only [ownS]
    rw [zipWith_congr]
    intro i b y hbi hyi
    by_cases hd : y = .dead
    · subst hd; rfl
    · refine ownO_same (hw b fun eb => hnl ?_) y
      subst eb
      exact List.mem_append_right _ (ownS_mem hbi hyi (ownO_head hd))
  have hVn : V g' (.sl esz rf' (xs ++ ys)) (.slice (some ad) (xs ++ ys).length cap) := by
    refine .sl esz rf' (xs ++ ys) (vs ++ us) ad cap esz hsp (by simp; omega) (by simp [hl', hl]) (fun i x v hx hw => ?_) (fun x hx => ?_) (fun hrf x hx => ?_) (fun v hv => ?_) (fun k cc hk => ?_) (fun _ => ⟨rfl, fun _ => ?_⟩)
    · have hfl0 : ∀ {x v}, V g x v → Flat x → V g' x v := fun hxv hfx => hxv.mono (fun _ _ h => h) hMm (by rw [own3_flat hfx]; simp)
      by_cases hi : i < xs.length
      · rw [List.getElem?_append_left hi] at hx
        rw [List.getElem?_append_left (by omega)] at hw
        exact hfl0 (hv' i x v hx hw) (hf' x (List.mem_of_getElem? hx))
      · rw [List.getElem?_append_right (by omega)] at hx
        rw [List.getElem?_append_right (by omega), ← hl'] at hw
        exact hfl0 (hv _ x v hx hw) (hf x (List.mem_of_getElem? hx))
    · rcases List.mem_append.1 hx with hx | hx
      · exact hf' x hx
      · exact hf x hx
    · rcases List.mem_append.1 hx with hx | hx
      · exact hr' (hr hrf).1 x hx
      · exact (hr hrf).2 x hx
    · rcases List.mem_append.1 hv with hv | hv
      · exact hz' v hv
      · exact hz v hv
    · have e1 : flatV (vs ++ us) = flatV vs ++ flatV us := by simp [flatV]
      rw [e1] at hk
      simp only [g']
      by_cases hi : k < (flatV vs).length
      · rw [List.getElem?_append_left hi] at hk
        rw [if_neg (by omega)]
        exact hcl k cc hk
      · rw [List.getElem?_append_right (by omega)] at hk
        have := lt_of_get hk
        rw [if_pos ⟨trivial, by omega, by omega⟩]
        rw [← hk]; congr 1; omega
    · simp [g']
  refine ⟨g', ⟨h.len, fun p hp => ?_, fun id b y h4 h5 => ?_, ?_, ?_, fun b hb => by rw [hs]; exact h.lt b hb, fun b o v hm => ?_, fun id b y h4 h5 hm k => ?_, fun b hb ext top ht => ?_, fun k' vs hk' i c hi => hMm _ _ _ (h.glob k' vs hk' i c hi)⟩, ⟨by omega, fun b hb' hbO' => ⟨hw b (fun eb => hbO' (eb ▸ hbO)), hTo b (fun eb => hbO' (eb ▸ hbO)), fun o => ?_⟩, hMm, fun _ _ h => h, fun _ h => .inl h, rfl, h1, h2, h3⟩, rfl⟩
  · rcases List.mem_cons.1 hp with rfl | hp
    · exact hVn
    · refine (h.vals p (by simp [hp])).mono (fun _ _ h => h) hMm fun b hb => hTo b fun eb => hnl ?_
      subst eb
      refine List.mem_append_left _ ?_
      simp only [ownL, List.mem_flatten, List.mem_map]
      exact ⟨_, ⟨p, hp, rfl⟩, hb⟩
  · by_cases hd : y = .dead
    · subst hd; trivial
    · have hne' : b ≠ ad.block := fun eb => hnl (by subst eb; exact List.mem_append_right _ (ownS_mem h4 h5 (ownO_head hd)))
      exact (h.objs id b y h4 h5).mono (hw b hne') (fun _ _ h => h) hMm rfl fun b' hb' => hTo b' fun eb => hnl (by subst eb; exact List.mem_append_right _ (ownS_mem h4 h5 hb'))
  · have hsubl : (ownL ((.sl esz rf' (xs ++ ys), .slice (some ad) (xs ++ ys).length cap) :: l) ++ ownS w' g.ι σ).Sublist (ownL ((.sl esz rf xs, .slice (some ad) xs.length cap) :: l) ++ ownS w g.ι σ) := by
      rw [hSame, e]
      have e2 : ownL ((.sl esz rf' (xs ++ ys), .slice (some ad) (xs ++ ys).length cap) :: l) = own3 (.sl esz rf' (xs ++ ys)) (.slice (some ad) (xs ++ ys).length cap) ++ ownL l := by simp [ownL]
      rw [e2, List.append_assoc, List.append_assoc]
      refine List.Sublist.append ?_ (.refl _)
      simp only [own3, own2, own1]
      rw [if_neg (by omega : ¬ (esz = 0 ∨ cap ≤ xs.length))]
      split <;> simp
    exact h.nodup.sublist hsubl
  · intro b hb
    rw [hSame] at hb
    rcases List.mem_append.1 hb with hb | hb
    · have e2 : ownL ((.sl esz rf' (xs ++ ys), .slice (some ad) (xs ++ ys).length cap) :: l) = own3 (.sl esz rf' (xs ++ ys)) (.slice (some ad) (xs ++ ys).length cap) ++ ownL l := by simp [ownL]
      rw [e2] at hb
      rcases List.mem_append.1 hb with hb | hb
      · simp only [own3, own2, own1] at hb
        split at hb
        · cases hb
        · simp at hb; subst hb; exact hbO
      · exact h.sub b (by rw [e]; simp [hb])
    · exact h.sub b (List.mem_append_right _ hb)
  · simp only [g'] at hm
    by_cases hbb : b = ad.block
    · subst hbb
      have hcell : w'.cell? ⟨ad.block, o, none⟩ = if ad.off + xs.length * esz ≤ o ∧ o < ad.off + xs.length * esz + ys.length * esz then (flatV us)[o - (ad.off + xs.length * esz)]? else c[o]? := by
        simp only [World.cell?, hw']
        simpa using hcells o
      rw [hcell]
      by_cases hin : ad.off + xs.length * esz ≤ o ∧ o < ad.off + xs.length * esz + ys.length * esz
      · rw [if_pos ⟨rfl, hin⟩] at hm; rw [if_pos hin]; exact hm
      · rw [if_neg (fun h => hin h.2)] at hm; rw [if_neg hin]
        have := h.claim _ _ _ hm
        simpa [World.cell?, hb] using this
    · rw [if_neg (fun h => hbb h.1)] at hm
      rw [cell_of_heap (hw b hbb)]; exact h.claim b o v hm
  · by_cases hd : y = .dead
    · subst hd; cases hm
    · have hne' : b ≠ ad.block := fun eb => hnl (by subst eb; exact List.mem_append_right _ (ownS_mem h4 h5 (ownO_head hd)))
      rw [ownO_same (hw b hne')] at hm
      simp only [g']
      rw [if_neg (fun h => hne' h.1)]
      exact h.apart id b y h4 h5 hm k
  · by_cases hbb : b = ad.block
    · subst hbb
      simp only [g', if_true, Option.some.injEq, Prod.mk.injEq] at ht
      obtain ⟨rfl, rfl⟩ := ht
      rw [Nat.add_mul]
      refine ⟨⟨_, el, fz, hw', ?_, by omega⟩, fun o ho' => ?_⟩
      · simp; omega
      · simp only [g']
        rw [if_neg (by omega)]
        exact hnone o (by omega)
    · rw [hTo b hbb] at ht
      obtain ⟨⟨c1, el1, fz1, q1, q2, q3⟩, q4⟩ := h.spare b hb ext top ht
      refine ⟨⟨c1, el1, fz1, by rw [hw b hbb]; exact q1, q2, q3⟩, fun o ho' => ?_⟩
      simp only [g']
      rw [if_neg (fun h => hbb h.1)]
      exact q4 o ho'
  · simp only [g']
    rw [if_neg]
    exact fun h => hbO' (h.1 ▸ hbO)

end Go.Idl
