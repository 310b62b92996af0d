/-
  New objects, new slices, writes, appends in place.
-/
import Derived.Test.YtkjcgfadojfeeaaIdlMem
import Derived.Lib.FrozenHead
set_option linter.unusedSectionVars false
set_option linter.unusedVariables false
set_option linter.unusedSimpArgs false
namespace Go.Idl
variable [Globs]

variable {P : Program} {g : Gh} {O : List Nat} {w : World}

theorem alloc_same (w : World) (ob : Obj) : ∀ b, b < w.heap.size → (w.alloc ob).heap[b]? = w.heap[b]? := fun b hb => by
  simp only [World.alloc]; rw [Array.getElem?_push_lt hb]; simp [hb]

theorem alloc_new (w : World) (ob : Obj) : (w.alloc ob).heap[w.heap.size]? = some ob := by show (w.heap.push ob)[w.heap.size]? = some ob; simp

theorem R.allocW {l : Roots} {σ : List IObj} (h : R g O l σ w) (ob : Obj) : R g O l σ (w.alloc ob) := h.world (by simp) (alloc_same w ob)

theorem R.noClaim {l : Roots} {σ : List IObj} (h : R g O l σ w) (o : Nat) : g.M w.heap.size o = none := by
  cases hm : g.M w.heap.size o with
  | none => rfl
  | some v =>
    have := World.block_lt_of_cell? w _ (h.claim _ _ _ hm)
    simp at this

theorem R.notO {l : Roots} {σ : List IObj} (h : R g O l σ w) : w.heap.size ∉ O := fun hm => by have := h.lt _ hm; omega

def Gh.fresh (g : Gh) (k : Nat) : Gh := { g with ι := g.ι ++ [k], T := fun b => if b = k then none else g.T b }

theorem growFresh {l : Roots} {σ : List IObj} (_h : R g O l σ w) (ob : Obj) : Grow O g w (w.heap.size :: O) (g.fresh w.heap.size) (w.alloc ob) := by
  refine ⟨by simp, fun b hb _ => ⟨alloc_same w ob b hb, by simp [Gh.fresh]; omega, fun _ => rfl⟩, fun _ _ _ h => h, fun id b hb => ?_, fun b hb => ?_, rfl, rfl, rfl, rfl⟩
  · simp only [Gh.fresh]; rw [List.getElem?_append_left (lt_of_get hb)]; exact hb
  · rcases List.mem_cons.1 hb with rfl | hb
    · exact .inr (Nat.le_refl _)
    · exact .inl hb

/-- A new object of the store. -/
theorem R.new {x : IVal} {v : Value} {l : Roots} {σ : List IObj} {obr : Obj} {ob : IObj} (h : R g O ((x, v) :: l) σ w)
    (hob : V (g.fresh w.heap.size) x v → OBJ (g.fresh w.heap.size) (w.alloc obr) w.heap.size ob) (ho : ∃ r, ownO (w.alloc obr) w.heap.size ob = w.heap.size :: r ∧ r.Sublist (own3 x v)) :
    R (g.fresh w.heap.size) (w.heap.size :: O) l (σ ++ [ob]) (w.alloc obr) := by
  have h1 := h.allocW obr
  have hk := h.notO
  have h2 : R { g with T := fun b => if b = w.heap.size then none else g.T b } O ((x, v) :: l) σ (w.alloc obr) := by
    refine h1.ghost hk rfl rfl (fun _ _ _ => rfl) (fun _ _ h => h) (fun b hb => by simp [hb]) (fun o v hm => ?_)
    rw [h.noClaim o] at hm; cases hm
  refine h2.addObj hk (by simp) h.noClaim (by simp) (hob ?_) ho
  refine (h2.vals (x, v) (by simp)).mono (fun id b hb => ?_) (fun _ _ _ h => h) (fun _ _ => rfl)
  simp only [Gh.fresh]; rw [List.getElem?_append_left (lt_of_get hb)]; exact hb

def Gh.claim (g : Gh) (k : Nat) (cs : List Value) (t : Option (Nat × Nat)) : Gh :=
  { g with M := fun b o => if b = k then cs[o]? else g.M b o, T := fun b => if b = k then t else g.T b }

theorem claim_grow {l : Roots} {σ : List IObj} (h : R g O l σ w) (ob : Obj) (cs : List Value) (t : Option (Nat × Nat)) (O' : List Nat) (hO' : ∀ b ∈ O', b = w.heap.size ∨ b ∈ O) : Grow O g w O' (g.claim w.heap.size cs t) (w.alloc ob) := by
  refine ⟨by simp, fun b hb _ => ⟨alloc_same w ob b hb, by simp [Gh.claim]; omega, fun o => by simp [Gh.claim]; omega⟩, fun b o v hm => ?_, fun id b hb => hb, fun b hb => ?_, rfl, rfl, rfl, rfl⟩
  · have : b ≠ w.heap.size := fun e => by subst e; rw [h.noClaim o] at hm; cases hm
    simp [Gh.claim, this, hm]
  · rcases hO' b hb with rfl | hb
    · exact .inr (Nat.le_refl _)
    · exact .inl hb

/-- A new block whose first cells stay as they are. -/
theorem R.claimW {l : Roots} {σ : List IObj} (h : R g O l σ w) {c : Array Value} {el : TypeId} {fz : Nat × Nat} (cs : List Value) (hc : ∀ (k : Nat) v, cs[k]? = some v → c[k]? = some v) (t : Option (Nat × Nat)) :
    R (g.claim w.heap.size cs t) O l σ (w.alloc (.cells c el fz)) := by
  refine (h.allocW _).ghost h.notO rfl rfl (fun b o hb => by simp [Gh.claim, hb]) (fun o c hm => ?_) (fun b hb => by simp [Gh.claim, hb]) (fun o v hm => ?_)
  · rw [h.noClaim o] at hm; cases hm
  · simp only [Gh.claim, if_true] at hm
    simp only [World.cell?]
    rw [alloc_new]
    simpa using hc o v hm

theorem V.claim {x : IVal} {v : Value} {l : Roots} {σ : List IObj} (h : R g O l σ w) (hv : V g x v) (ho : own3 x v = []) (cs : List Value) (t : Option (Nat × Nat)) : V (g.claim w.heap.size cs t) x v := by
  refine hv.mono (fun _ _ h => h) (fun b o c hm => ?_) (by rw [ho]; simp)
  have : b ≠ w.heap.size := fun e => by subst e; rw [h.noClaim o] at hm; cases hm
  simp [Gh.claim, this, hm]

/-- A slice in a new block. -/
theorem R.newSlice {l : Roots} {σ : List IObj} (h : R g O l σ w) {xs : List IVal} {vs : List Value} {esz cap own : Nat} {rf : Bool} {c : Array Value} {el : TypeId} {fz : Nat × Nat} (hl : xs.length = vs.length)
    (hv : ∀ (i : Nat) x v, xs[i]? = some x → vs[i]? = some v → V g x v) (hf : ∀ x ∈ xs, Flat x) (hr : rf = false → ∀ x ∈ xs, nr2 x = true) (hz : ∀ v ∈ vs, v.cells.size = esz)
    (hc : ∀ (k : Nat) v, (flatV vs)[k]? = some v → c[k]? = some v) (hcap : xs.length ≤ cap) (hsz : cap * esz ≤ c.size) (ho : own = 0 ∨ own = esz) (hfz : own ≠ 0 → fz.2 ≤ xs.length * esz) (hfl : (flatV vs).length = xs.length * esz) :
    ∃ g' O', R g' O' ((.sl own rf xs, .slice (some ⟨w.heap.size, 0, none⟩) xs.length cap) :: l) σ (w.alloc (.cells c el fz)) ∧ Grow O g w O' g' (w.alloc (.cells c el fz)) ∧ g'.ι = g.ι := by
  have hV : V (g.claim w.heap.size (flatV vs) (some (xs.length * esz, cap * esz))) (.sl own rf xs) (.slice (some ⟨w.heap.size, 0, none⟩) xs.length cap) := by
    refine .sl own rf xs vs _ cap esz (fun _ => rfl) hcap hl (fun i x v hx hw => V.claim h (hv i x v hx hw) (own3_flat (hf x (List.mem_of_getElem? hx)) v) _ _) hf hr hz (fun k c hk => ?_) (fun h0 => ⟨?_, fun _ => ?_⟩)
    · simp [Gh.claim, hk]
    · rcases ho with ho | ho
      · exact absurd ho h0
      · exact ho
    · simp [Gh.claim]
  have hR := h.claimW (c := c) (el := el) (fz := fz) (flatV vs) hc (some (xs.length * esz, cap * esz))
  by_cases h0 : own = 0
  · refine ⟨_, O, hR.push hV ?_, claim_grow h _ _ _ O (fun b hb => .inr hb), rfl⟩
    subst h0; exact own3_un3 (.sl 0 rf xs) _
  · refine ⟨_, w.heap.size :: O, hR.pushOwn h.notO hV ?_ (by simp) ?_, claim_grow h _ _ _ _ (fun b hb => List.mem_cons.1 hb), rfl⟩
    · simp only [own3, own2, own1]
      split
      · exact .inl rfl
      · exact .inr rfl
    · intro ext top ht
      simp only [Gh.claim, if_true, Option.some.injEq, Prod.mk.injEq] at ht
      obtain ⟨rfl, rfl⟩ := ht
      refine ⟨⟨c, el, fz, alloc_new w _, hsz, hfz h0⟩, fun o ho' => ?_⟩
      simp only [Gh.claim, if_true]
      rw [List.getElem?_eq_none_iff]; omega

/-- A pointer at a new block that stays as it is. -/
theorem R.newPv {l : Roots} {σ : List IObj} (h : R g O l σ w) {cs : List IVal} {vs : Array Value} {rf : Bool} {el : TypeId} (hl : cs.length = vs.size)
    (hv : ∀ (i : Nat) x v, cs[i]? = some x → vs[i]? = some v → V g x v) (hf : ∀ x ∈ cs, un1 x = x ∧ x.isCell = true) (hr : rf = false → ∀ x ∈ cs, nr1 x = true) :
    ∃ g', R g' O ((.pv rf cs 0, .pointer (some ⟨w.heap.size, 0, none⟩)) :: l) σ (w.alloc (.cells vs el)) ∧ Grow O g w O g' (w.alloc (.cells vs el)) ∧ g'.ι = g.ι := by
  refine ⟨g.claim w.heap.size vs.toList none, ?_, claim_grow h _ _ _ O (fun b hb => .inr hb), rfl⟩
  refine (h.claimW vs.toList (fun k v hk => by simpa using hk) none).push ?_ rfl
  refine V.pv_mk (vs := vs.toList) (b := w.heap.size) (e := 0) 0 (by simpa using hl) (fun i x v hx hw => ?_) hf hr (fun k c hk => by simpa [Gh.claim] using hk)
  have hx' := hf x (List.mem_of_getElem? hx)
  exact V.claim h (hv i x v hx (by simpa using hw)) (by rw [own3_cell hx'.2, own1_flat hx'.1]) _ _

/-- One list is, up to its order, part of another one. -/
def SubP (a b : List Nat) : Prop := ∃ r, a.Perm r ∧ r.Sublist b

theorem SubP.nodup {a b : List Nat} (h : SubP a b) (hb : b.Nodup) : a.Nodup := by
  obtain ⟨r, h1, h2⟩ := h
  exact h1.nodup_iff.2 (hb.sublist h2)
theorem SubP.mem {a b : List Nat} (h : SubP a b) {x : Nat} (hx : x ∈ a) : x ∈ b := by
  obtain ⟨r, h1, h2⟩ := h
  exact h2.mem (h1.mem_iff.1 hx)
theorem SubP.refl (a : List Nat) : SubP a a := ⟨a, .refl _, .refl _⟩
theorem SubP.of_sub {a b : List Nat} (h : a.Sublist b) : SubP a b := ⟨a, .refl _, h⟩
theorem SubP.append_left {a b : List Nat} (c : List Nat) (h : SubP a b) : SubP (c ++ a) (c ++ b) := by
  obtain ⟨r, h1, h2⟩ := h
  exact ⟨c ++ r, h1.append_left c, List.Sublist.append (.refl _) h2⟩
theorem SubP.append_right {a b : List Nat} (c : List Nat) (h : SubP a b) : SubP (a ++ c) (b ++ c) := by
  obtain ⟨r, h1, h2⟩ := h
  exact ⟨r ++ c, h1.append_right c, List.Sublist.append h2 (.refl _)⟩
theorem SubP.perm_left {a a' b : List Nat} (hp : a'.Perm a) (h : SubP a b) : SubP a' b := by
  obtain ⟨r, h1, h2⟩ := h
  exact ⟨r, hp.trans h1, h2⟩
theorem SubP.perm_right {a b b' : List Nat} (hp : b.Perm b') (h : SubP a b) : SubP a b' := by
  obtain ⟨r, h1, h2⟩ := h
  obtain ⟨r', h3, h4⟩ : ∃ r', r.Perm r' ∧ r'.Sublist b' := by
    clear h1
    induction hp generalizing r with
    | nil => exact ⟨r, .refl _, h2⟩
    | cons x hp ih =>
      cases h2 with
      | cons _ h2 => obtain ⟨r', a, b⟩ := ih r h2; exact ⟨r', a, .cons _ b⟩
      | cons_cons _ h2 => obtain ⟨r', a, b⟩ := ih _ h2; exact ⟨_, a.cons _, .cons_cons _ b⟩
    | swap x y l =>
      cases h2 with
      | cons _ h2 =>
        cases h2 with
        | cons _ h2 => exact ⟨r, .refl _, .cons _ (.cons _ h2)⟩
        | cons_cons _ h2 => exact ⟨_, .refl _, .cons_cons _ (.cons _ h2)⟩
      | cons_cons _ h2 =>
        cases h2 with
        | cons _ h2 => exact ⟨_, .refl _, .cons _ (.cons_cons _ h2)⟩
        | cons_cons _ h2 => exact ⟨_, .swap _ _ _, .cons_cons _ (.cons_cons _ h2)⟩
    | trans _ _ ih1 ih2 =>
      obtain ⟨r', a, b⟩ := ih1 r h2
      obtain ⟨r'', c, d⟩ := ih2 r' b
      exact ⟨r'', a.trans c, d⟩
  exact ⟨r', h1.trans h3, h4⟩
theorem SubP.trans {a b c : List Nat} (h : SubP a b) (k : SubP b c) : SubP a c := by
  obtain ⟨r, h1, h2⟩ := h
  obtain ⟨s, k1, k2⟩ := k
  obtain ⟨t, t1, t2⟩ := SubP.perm_right k1 ⟨r, h1, h2⟩
  exact ⟨t, t1, t2.trans k2⟩

end Go.Idl
