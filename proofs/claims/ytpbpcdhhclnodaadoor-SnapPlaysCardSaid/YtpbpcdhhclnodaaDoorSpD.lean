/- SnapPlays: what the ideal machine makes of its functions, part D; no conditions. -/
import Derived.Test.YtpbpcdhhclnodaaDoorSpC
set_option linter.unusedSectionVars false
set_option linter.unusedVariables false
set_option linter.unusedSimpArgs false
namespace Go.Idl.Sp
open Go Go.Idl Go.Idl.En
variable {F : vM}
def lid : IVal -> List Nat
 | .rs _ id _ _ => [id]
 | _ => []
structure Inv (P : List Nat) (px pr : Nat) (ev : Int) (lp lr : List It) (Lp Lr : IVal) (σ : List IObj) : Prop where
 hp : σ[px]? = some (.cells [I ev, Lp])
 hr : σ[pr]? = some (.cells [I ev, Lr])
 pl : PL σ Lp lp
 rl : RL σ Lr lr
 n1 : px ≠ pr
 n2 : ∀ i ∈ lid Lp, i ≠ px /\ i ≠ pr /\ i ∉ lid Lr
 n3 : ∀ i ∈ lid Lr, i ≠ px /\ i ≠ pr
 dj : ∀ i, i = px \/ i = pr \/ i ∈ lid Lp \/ i ∈ lid Lr -> i ∉ P /\ ∀ t ∈ lp, t.id ≠ i
 it : ∀ t ∈ lp, t.xs.length = 3 /\ σ[t.id]? = some (.cells (t.xs.map J)) /\ t.id ∉ P
 pb : ∀ i ∈ P, i < σ.length
/-- What the store keeps. -/
def Kept (P : List Nat) (σ σ' : List IObj) : Prop := σ.length <= σ'.length /\ ∀ i ∈ P, σ'[i]? = σ[i]?
theorem Kept.trans {P : List Nat} {a b c : List IObj} (h : Kept P a b) (h' : Kept P b c) : Kept P a c := ⟨Nat.le_trans h.1 h'.1, fun i hi => (h'.2 i hi).trans (h.2 i hi)⟩
variable {P : List Nat} {px pr : Nat} {ev : Int} {lp lr : List It} {Lp Lr : IVal} {σ : List IObj}
/-- The store grows; what is new may be guarded too. -/
theorem Inv.grow (h : Inv P px pr ev lp lr Lp Lr σ) {σ' : List IObj} (hl : σ.length <= σ'.length) (hs : ∀ i, i < σ.length -> σ'[i]? = σ[i]?) (Q : List Nat) (hQ : ∀ i ∈ Q, σ.length <= i /\ i < σ'.length) : Inv (Q ++ P) px pr ev lp lr Lp Lr σ' := by
 have g : ∀ {i : Nat} {o : IObj}, σ[i]? = some o -> σ'[i]? = some o := fun {i o} h => by rw [hs i (jj h), h]
 refine ⟨g h.hp, g h.hr, ?_, ?_, h.n1, h.n2, h.n3, ?_, ?_, ?_⟩
 . rcases h.pl with h1 | ⟨id, tl, h1, h2⟩
   . exact Or.inl h1
   . exact Or.inr ⟨id, tl, h1, g h2⟩
 . rcases h.rl with h1 | ⟨id, tl, h1, h2⟩
   . exact Or.inl h1
   . exact Or.inr ⟨id, tl, h1, g h2⟩
 . intro i hi
   obtain ⟨h1, h2⟩ := h.dj i hi
   refine ⟨fun h3 => ?_, h2⟩
   rcases List.mem_append.1 h3 with h3 | h3
   . have h4 := (hQ i h3).1
     have h5 : i < σ.length := by
       rcases hi with rfl | rfl | hi | hi
       . exact jj h.hp
       . exact jj h.hr
       . rcases h.pl with ⟨o, rfl, _⟩ | ⟨id, tl, rfl, h2⟩
         . cases hi
         . simp only [lid, List.mem_singleton] at hi; rw [hi]; exact jj h2
       . rcases h.rl with ⟨o, rfl, _⟩ | ⟨id, tl, rfl, h2⟩
         . cases hi
         . simp only [lid, List.mem_singleton] at hi; rw [hi]; exact jj h2
     omega
   . exact h1 h3
 . intro t ht
   obtain ⟨h1, h2, h3⟩ := h.it t ht
   refine ⟨h1, g h2, fun h4 => ?_⟩
   rcases List.mem_append.1 h4 with h4 | h4
   . have h5 := (hQ _ h4).1
     have h6 := jj h2
     omega
   . exact h3 h4
 . intro i hi
   rcases List.mem_append.1 hi with h4 | h4
   . exact (hQ i h4).2
   . exact Nat.lt_of_lt_of_le (h.pb i h4) hl
/-- A guarded object changes. -/
theorem Inv.upd (h : Inv P px pr ev lp lr Lp Lr σ) {i : Nat} (hi : i ∈ P) (o : IObj) : Inv P px pr ev lp lr Lp Lr (σ.set i o) := by
 have own : ∀ j, j = px \/ j = pr \/ j ∈ lid Lp \/ j ∈ lid Lr -> i ≠ j := fun j hj e => (h.dj j hj).1 (e ▸ hi)
 refine ⟨get_set h.hp (own _ (Or.inl rfl)), get_set h.hr (own _ (Or.inr (Or.inl rfl))), ?_, ?_, h.n1, h.n2, h.n3, h.dj, ?_, ?_⟩
 . rcases h.pl with h1 | ⟨id, tl, h1, h2⟩
   . exact Or.inl h1
   . exact Or.inr ⟨id, tl, h1, get_set h2 (own _ (Or.inr (Or.inr (Or.inl (by rw [h1]; simp [lid])))))⟩
 . rcases h.rl with h1 | ⟨id, tl, h1, h2⟩
   . exact Or.inl h1
   . exact Or.inr ⟨id, tl, h1, get_set h2 (own _ (Or.inr (Or.inr (Or.inr (by rw [h1]; simp [lid])))))⟩
 . intro t ht
   obtain ⟨h1, h2, h3⟩ := h.it t ht
   exact ⟨h1, get_set h2 (fun e => h3 (e ▸ hi)), h3⟩
 . intro j hj
   rw [List.length_set]; exact h.pb j hj
/-- Fewer are guarded. -/
theorem Inv.sub (h : Inv P px pr ev lp lr Lp Lr σ) {P' : List Nat} (hP : ∀ i ∈ P', i ∈ P) : Inv P' px pr ev lp lr Lp Lr σ :=
 ⟨h.hp, h.hr, h.pl, h.rl, h.n1, h.n2, h.n3, fun i hi => ⟨fun h2 => (h.dj i hi).1 (hP i h2), (h.dj i hi).2⟩, fun t ht => ⟨(h.it t ht).1, (h.it t ht).2.1, fun h2 => (h.it t ht).2.2 (hP _ h2)⟩, fun i hi => h.pb i (hP i hi)⟩
instance (ev cy : Int) (t : It) : Decidable (jcd ev cy t) := by unfold jcd; infer_instance
/-- Is it far enough. -/
def jbv (ev cy : Int) (l : List It) : Bool := match l[l.length - 1]? with
 | some t => !decide (jcd ev cy t)
 | none => true
def Vz (ev cy : Int) (l : List It) (u : It) : List It := if jbv ev cy l then l ++ [u] else l
theorem ZM {ev cy : Int} {l : List It} (h : jbv ev cy l = false) : ∃ t, l[l.length - 1]? = some t /\ jcd ev cy t /\ 0 < l.length := by
 unfold jbv at h
 cases ht : l[l.length - 1]? with
 | none => rw [ht] at h; simp at h
 | some t =>
   rw [ht] at h
   refine ⟨t, rfl, by simpa using h, ?_⟩
   have := Kr ht
   omega
theorem Yp {ev cy : Int} {l : List It} (h : jbv ev cy l = true) : ∀ t, l[l.length - 1]? = some t -> ¬ jcd ev cy t := by
 intro t ht
 unfold jbv at h
 rw [ht] at h
 simpa using h
theorem Inv.add8 (h8 : F 8 = some ir8) (h20 : F 20 = some QE) (h30 : F 30 = some KK) (h31 : F 31 = some Qz) (h : Inv P px pr ev lp lr Lp Lr σ) {ss : Nat} (a b : Nat) {rt cy : Int} {xs : List Int} (hP : ss ∈ P) (hs : σ[ss]? = some (.cells (xs.map J))) (hxs : xs.length = 3) (hn : lp.length < 1000) (hb : ∀ t ∈ lp, IntKind.i64.wrap (cy - t.cy) = cy - t.cy) :
   ∃ σ' wr Lp', cfw F (.f 8) [.ptr px 0, .agg (SC (.sl a true []) (.rs 1 ss 0 3) (.sl b true []) rt cy)] σ = some ⟨false, .bool (jbv ev cy lp), σ', wr⟩ /\ Inv P px pr ev (Vz ev cy lp ⟨σ.length + 3, rt, cy, xs⟩) lr Lp' Lr σ' /\ (∀ q ∈ wr, q.1 ∉ P) /\ Kept P σ σ' := by
 have lx := jj h.hp
 have lr' := jj h.hr
 cases hA : jbv ev cy lp with
 | false =>
   obtain ⟨t, ht, hne, h0⟩ := ZM hA
   rcases h.pl with ⟨o, _, h2⟩ | ⟨id, tl, h1, h2⟩
   . rw [h2] at h0; exact absurd h0 (Nat.lt_irrefl _)
   . have hp := h.hp
     rw [h1] at hp
     refine ⟨σ, [], Lp, jdF h8 hp h2 rfl ht h0 hn (hb t (List.mem_of_getElem? ht)) hne, ?_, fun q hq => (by cases hq), Nat.le_refl _, fun _ _ => rfl⟩
     unfold Vz; rw [hA]; exact h
 | true =>
   have hy := Yp hA
   rcases h.pl with ⟨o, h1, h2⟩ | ⟨id, tl, h1, h2⟩
   . have hp := h.hp
     rw [h1] at hp
     obtain ⟨o1, o2, wr, H, hw⟩ := jbr h8 h20 h30 h31 (rt := rt) (cy := cy) (a := a) (b := b) hp hs hxs
     generalize hsb : σ.set px (.cells [I ev, .rs 55 (σ.length + 4) 0 1]) = sb at H
     have lsb : sb.length = σ.length := by rw [<- hsb, List.length_set]
     have g : ∀ {i : Nat} {o : IObj}, i ≠ px -> σ[i]? = some o -> ∀ l, (sb ++ l)[i]? = some o := fun hi ho l => vk (by rw [<- hsb]; exact get_set ho hi.symm) l
     refine ⟨_, wr, .rs 55 (σ.length + 4) 0 1, H, ?_, fun q hq => by rw [hw q hq]; exact (h.dj px (Or.inl rfl)).1, ?_⟩
     . have eL : Vz ev cy lp ⟨σ.length + 3, rt, cy, xs⟩ = [⟨σ.length + 3, rt, cy, xs⟩] := by unfold Vz; rw [hA, h2]; rfl
       rw [eL]
       have hfr : ∀ i, σ.length <= i -> i ∉ lid Lr := by
         intro i hi hm
         rcases h.rl with ⟨o, e, _⟩ | ⟨id, tl, e, h4⟩
         . rw [e] at hm; cases hm
         . rw [e] at hm
           simp only [lid, List.mem_singleton] at hm
           have := jj h4
           omega
       refine ⟨by rw [List.getElem?_append_left (by rw [lsb]; exact lx), <- hsb, List.getElem?_set_self lx], g h.n1.symm h.hr _, Or.inr ⟨σ.length + 4, [], rfl, ?_⟩, ?_, h.n1, ?_, h.n3, ?_, ?_, ?_⟩
       . rw [List.append_nil, <- lsb, jT]; rfl
       . rcases h.rl with h3 | ⟨id, tl, h3, h4⟩
         . exact Or.inl h3
         . exact Or.inr ⟨id, tl, h3, g (h.n3 id (by rw [h3]; simp [lid])).1 h4 _⟩
       . intro i hi
         simp only [lid, List.mem_singleton] at hi
         subst hi
         exact ⟨by omega, by omega, hfr _ (by omega)⟩
       . intro i hi
         have hi' : (i = px \/ i = pr \/ i ∈ lid Lr) \/ i = σ.length + 4 := by
           rcases hi with hi | hi | hi | hi
           . exact Or.inl (Or.inl hi)
           . exact Or.inl (Or.inr (Or.inl hi))
           . simp only [lid, List.mem_singleton] at hi; exact Or.inr hi
           . exact Or.inl (Or.inr (Or.inr hi))
         rcases hi' with hi | rfl
         . refine ⟨(h.dj i (by rcases hi with h | h | h <;> simp [h])).1, ?_⟩
           intro t ht
           simp only [List.mem_singleton] at ht
           subst ht
           intro e
           dsimp only at e
           rcases hi with rfl | rfl | hi
           . omega
           . omega
           . exact hfr i (by omega) hi
         . refine ⟨fun hm => by have := h.pb _ hm; omega, ?_⟩
           intro t ht
           simp only [List.mem_singleton] at ht
           subst ht
           dsimp only; omega
       . intro t ht
         simp only [List.mem_singleton] at ht
         subst ht
         refine ⟨hxs, ?_, fun hm => by have := h.pb _ hm; dsimp only at this; omega⟩
         dsimp only
         rw [<- lsb, jT]; rfl
       . intro i hi
         have := h.pb i hi
         rw [List.length_append, lsb]; omega
     . refine ⟨by rw [List.length_append, lsb]; omega, ?_⟩
       intro i hi
       have hl := h.pb i hi
       rw [List.getElem?_append_left (by rw [lsb]; exact hl), <- hsb, List.getElem?_set_ne]
       intro e; exact (h.dj px (Or.inl rfl)).1 (e ▸ hi)
   . have hp := h.hp
     rw [h1] at hp
     have hm1 : id ∈ lid Lp := by rw [h1]; simp [lid]
     have nid := h.n2 id hm1
     have li := jj h2
     obtain ⟨o1, o2, wr, H, hw⟩ := jbs h8 h20 h30 h31 (rt := rt) (cy := cy) (a := a) (b := b) hp h2 hs hxs rfl hn nid.1.symm (fun t ht => ⟨hb t (List.mem_of_getElem? ht), hy t ht⟩)
     generalize hsb : (σ.set id .dead).set px (.cells [I ev, .rs 55 (σ.length + 4) 0 (lp.length + 1)]) = sb at H
     have lsb : sb.length = σ.length := by rw [<- hsb, List.length_set, List.length_set]
     have g : ∀ {i : Nat} {o : IObj}, i ≠ px -> i ≠ id -> σ[i]? = some o -> ∀ l, (sb ++ l)[i]? = some o := fun hi hi2 ho l => vk (by rw [<- hsb]; exact get_set (get_set ho hi2.symm) hi.symm) l
     have hfr : ∀ i, σ.length <= i -> i ∉ lid Lr := by
       intro i hi hm
       rcases h.rl with ⟨o, e, _⟩ | ⟨id, tl, e, h4⟩
       . rw [e] at hm; cases hm
       . rw [e] at hm
         simp only [lid, List.mem_singleton] at hm
         have := jj h4
         omega
     have eL : Vz ev cy lp ⟨σ.length + 3, rt, cy, xs⟩ = lp ++ [⟨σ.length + 3, rt, cy, xs⟩] := by unfold Vz; rw [hA]; rfl
     refine ⟨_, wr, .rs 55 (σ.length + 4) 0 (lp.length + 1), H, ?_, fun q hq => ?_, ?_⟩
     . rw [eL]
       refine ⟨?_, g h.n1.symm nid.2.1.symm h.hr _, Or.inr ⟨σ.length + 4, [], by rw [List.length_append]; rfl, ?_⟩, ?_, h.n1, ?_, h.n3, ?_, ?_, ?_⟩
       . rw [List.getElem?_append_left (by rw [lsb]; exact lx), <- hsb, List.getElem?_set_self (by rw [List.length_set]; exact lx)]
       . rw [List.append_nil, <- lsb, jT]; rfl
       . rcases h.rl with h3 | ⟨id2, tl2, h3, h4⟩
         . exact Or.inl h3
         . have hm2 : id2 ∈ lid Lr := by rw [h3]; simp [lid]
           exact Or.inr ⟨id2, tl2, h3, g (h.n3 id2 hm2).1 (fun e => nid.2.2 (e ▸ hm2)) h4 _⟩
       . intro i hi
         simp only [lid, List.mem_singleton] at hi
         subst hi
         exact ⟨by omega, by omega, hfr _ (by omega)⟩
       . intro i hi
         have hi' : (i = px \/ i = pr \/ i ∈ lid Lr) \/ i = σ.length + 4 := by
           rcases hi with hi | hi | hi | hi
           . exact Or.inl (Or.inl hi)
           . exact Or.inl (Or.inr (Or.inl hi))
           . simp only [lid, List.mem_singleton] at hi; exact Or.inr hi
           . exact Or.inl (Or.inr (Or.inr hi))
         rcases hi' with hi | rfl
         . have hd := h.dj i (by rcases hi with h | h | h <;> simp [h])
           refine ⟨hd.1, ?_⟩
           intro t ht
           rcases List.mem_append.1 ht with ht | ht
           . exact hd.2 t ht
           simp only [List.mem_singleton] at ht
           subst ht
           intro e
           dsimp only at e
           rcases hi with rfl | rfl | hi
           . omega
           . omega
           . exact hfr i (by omega) hi
         . refine ⟨fun hm => by have := h.pb _ hm; omega, ?_⟩
           intro t ht
           rcases List.mem_append.1 ht with ht | ht
           . have := jj (h.it t ht).2.1; omega
           simp only [List.mem_singleton] at ht
           subst ht
           dsimp only; omega
       . intro t ht
         rcases List.mem_append.1 ht with ht | ht
         . obtain ⟨a1, a2, a3⟩ := h.it t ht
           exact ⟨a1, g ((h.dj px (Or.inl rfl)).2 t ht) ((h.dj id (Or.inr (Or.inr (Or.inl hm1)))).2 t ht) a2 _, a3⟩
         simp only [List.mem_singleton] at ht
         subst ht
         refine ⟨hxs, ?_, fun hm => by have := h.pb _ hm; dsimp only at this; omega⟩
         dsimp only
         rw [<- lsb, jT]; rfl
       . intro i hi
         have := h.pb i hi
         rw [List.length_append, lsb]; omega
     . rcases hw q hq with e | e
       . rw [e]; exact (h.dj px (Or.inl rfl)).1
       . rw [e]; exact (h.dj id (Or.inr (Or.inr (Or.inl hm1)))).1
     . refine ⟨by rw [List.length_append, lsb]; omega, ?_⟩
       intro i hi
       have hl := h.pb i hi
       rw [List.getElem?_append_left (by rw [lsb]; exact hl), <- hsb, List.getElem?_set_ne, List.getElem?_set_ne]
       . intro e; exact (h.dj id (Or.inr (Or.inr (Or.inl hm1)))).1 (e ▸ hi)
       . intro e; exact (h.dj px (Or.inl rfl)).1 (e ▸ hi)
end Go.Idl.Sp
namespace Go.Idl.Sp
open Go Go.Idl Go.Idl.En
variable {F : vM}
variable {P : List Nat} {px pr : Nat} {ev : Int} {lp lr : List It} {Lp Lr : IVal} {σ : List IObj}
theorem Inv.lidr (h : Inv P px pr ev lp lr Lp Lr σ) : ∀ i ∈ lid Lr, i < σ.length := by
 intro i hm
 rcases h.rl with ⟨o, e, _⟩ | ⟨id, tl, e, h4⟩
 . rw [e] at hm; cases hm
 . rw [e] at hm
   simp only [lid, List.mem_singleton] at hm
   rw [hm]; exact jj h4
theorem Inv.lidp (h : Inv P px pr ev lp lr Lp Lr σ) : ∀ i ∈ lid Lp, i < σ.length := by
 intro i hm
 rcases h.pl with ⟨o, e, _⟩ | ⟨id, tl, e, h4⟩
 . rw [e] at hm; cases hm
 . rw [e] at hm
   simp only [lid, List.mem_singleton] at hm
   rw [hm]; exact jj h4
theorem Inv.newR (h : Inv P px pr ev lp lr Lp Lr σ) {σ' : List IObj} {lr' : List It} {Lr' : IVal} (hr : σ'[pr]? = some (.cells [I ev, Lr'])) (rl : RL σ' Lr' lr') (hl : σ.length <= σ'.length) (fr : ∀ i, i < σ.length -> i ≠ pr -> i ∉ lid Lr -> σ'[i]? = σ[i]?) (nw : ∀ i ∈ lid Lr', i ∈ lid Lr \/ σ.length <= i) :
   Inv P px pr ev lp lr' Lp Lr' σ' /\ Kept P σ σ' := by
 have lx := jj h.hp
 have lr2 := jj h.hr
 have nlr := h.lidr
 have nlp := h.lidp
 refine ⟨⟨?_, hr, ?_, rl, h.n1, ?_, ?_, ?_, ?_, ?_⟩, hl, ?_⟩
 . rw [fr px lx h.n1 (fun hm => (h.n3 px hm).1 rfl), h.hp]
 . rcases h.pl with h3 | ⟨id, tl, h3, h4⟩
   . exact Or.inl h3
   . have hm : id ∈ lid Lp := by rw [h3]; simp [lid]
     have := h.n2 id hm
     exact Or.inr ⟨id, tl, h3, by rw [fr id (jj h4) this.2.1 this.2.2, h4]⟩
 . intro i hi
   have h1 := h.n2 i hi
   have h2 := nlp i hi
   refine ⟨h1.1, h1.2.1, fun hm => ?_⟩
   rcases nw i hm with h3 | h3
   . exact h1.2.2 h3
   . omega
 . intro i hi
   rcases nw i hi with h3 | h3
   . exact h.n3 i h3
   . exact ⟨by omega, by omega⟩
 . intro i hi
   have hi' : (i = px \/ i = pr \/ i ∈ lid Lp \/ i ∈ lid Lr) \/ σ.length <= i := by
     rcases hi with hi | hi | hi | hi
     . exact Or.inl (Or.inl hi)
     . exact Or.inl (Or.inr (Or.inl hi))
     . exact Or.inl (Or.inr (Or.inr (Or.inl hi)))
     . rcases nw i hi with h3 | h3
       . exact Or.inl (Or.inr (Or.inr (Or.inr h3)))
       . exact Or.inr h3
   rcases hi' with hi | hi
   . exact h.dj i hi
   . exact ⟨fun hm => by have := h.pb i hm; omega, fun t ht => by have := jj (h.it t ht).2.1; omega⟩
 . intro t ht
   obtain ⟨a1, a2, a3⟩ := h.it t ht
   exact ⟨a1, by rw [fr t.id (jj a2) ((h.dj pr (Or.inr (Or.inl rfl))).2 t ht) (fun hm => (h.dj _ (Or.inr (Or.inr (Or.inr hm)))).2 t ht rfl), a2], a3⟩
 . intro i hi
   exact Nat.lt_of_lt_of_le (h.pb i hi) hl
 . intro i hi
   refine fr i (h.pb i hi) (fun e => (h.dj pr (Or.inr (Or.inl rfl))).1 (e ▸ hi)) (fun hm => (h.dj i (Or.inr (Or.inr (Or.inr hm)))).1 hi)
theorem Inv.newP (h : Inv P px pr ev lp lr Lp Lr σ) {σ' : List IObj} {lp' : List It} {Lp' : IVal} (hp : σ'[px]? = some (.cells [I ev, Lp'])) (pl : PL σ' Lp' lp') (hl : σ.length <= σ'.length) (fr : ∀ i, i < σ.length -> i ≠ px -> i ∉ lid Lp -> σ'[i]? = σ[i]?) (nw : ∀ i ∈ lid Lp', i ∈ lid Lp) (sb : ∀ t ∈ lp', t ∈ lp) :
   Inv P px pr ev lp' lr Lp' Lr σ' /\ Kept P σ σ' := by
 have lx := jj h.hp
 have lr2 := jj h.hr
 have nlr := h.lidr
 have nlp := h.lidp
 have npr : pr ∉ lid Lp := fun hm => (h.n2 pr hm).2.1 rfl
 refine ⟨⟨hp, ?_, pl, ?_, h.n1, fun i hi => h.n2 i (nw i hi), h.n3, ?_, ?_, ?_⟩, hl, ?_⟩
 . rw [fr pr lr2 h.n1.symm npr, h.hr]
 . rcases h.rl with h3 | ⟨id, tl, h3, h4⟩
   . exact Or.inl h3
   . have hm : id ∈ lid Lr := by rw [h3]; simp [lid]
     have := h.n3 id hm
     exact Or.inr ⟨id, tl, h3, by rw [fr id (jj h4) this.1 (fun hm2 => (h.n2 id hm2).2.2 hm), h4]⟩
 . intro i hi
   have hd := h.dj i (by
     rcases hi with hi | hi | hi | hi
     . exact Or.inl hi
     . exact Or.inr (Or.inl hi)
     . exact Or.inr (Or.inr (Or.inl (nw i hi)))
     . exact Or.inr (Or.inr (Or.inr hi)))
   exact ⟨hd.1, fun t ht => hd.2 t (sb t ht)⟩
 . intro t ht
   have ht := sb t ht
   obtain ⟨a1, a2, a3⟩ := h.it t ht
   exact ⟨a1, by rw [fr t.id (jj a2) ((h.dj px (Or.inl rfl)).2 t ht) (fun hm => (h.dj _ (Or.inr (Or.inr (Or.inl hm)))).2 t ht rfl), a2], a3⟩
 . intro i hi
   exact Nat.lt_of_lt_of_le (h.pb i hi) hl
 . intro i hi
   exact fr i (h.pb i hi) (fun e => (h.dj px (Or.inl rfl)).1 (e ▸ hi)) (fun hm => (h.dj i (Or.inr (Or.inr (Or.inl hm)))).1 hi)
theorem Inv.add9 (h9 : F 9 = some ir9) (h21 : F 21 = some Qy) (h : Inv P px pr ev lp lr Lp Lr σ) {ss : Nat} (a b : Nat) (r r2 : Bool) {rt cy : Int} {xs : List Int} (hs : σ[ss]? = some (.cells (xs.map J))) (hxs : xs.length = 3) (hn : lr.length < 1000) (hb : ∀ t ∈ lr, IntKind.i64.wrap (cy - t.cy) = cy - t.cy) (k : Nat) :
   ∃ σ' wr Lr', cfw F (.f 9) [.ptr pr 0, .agg (SC (.sl a r []) (.rs 1 ss 0 3) (.sl b r2 []) rt cy)] σ = some ⟨false, .bool (jbv ev cy lr), σ', wr⟩ /\ Inv P px pr ev lp (Vz ev cy lr ⟨k, rt, cy, xs⟩) Lp Lr' σ' /\ Kept P σ σ' := by
 have lr2 := jj h.hr
 cases hA : jbv ev cy lr with
 | false =>
   obtain ⟨t, ht, hne, h0⟩ := ZM hA
   rcases h.rl with ⟨o, _, h2⟩ | ⟨id, tl, h1, h2⟩
   . rw [h2] at h0; exact absurd h0 (Nat.lt_irrefl _)
   . have hp := h.hr
     rw [h1] at hp
     refine ⟨σ, [], Lr, jdG h9 hp h2 rfl ht h0 hn (hb t (List.mem_of_getElem? ht)) hne, ?_, Nat.le_refl _, fun _ _ => rfl⟩
     unfold Vz; rw [hA]; exact h
 | true =>
   have hy := Yp hA
   rcases h.rl with ⟨o, h1, h2⟩ | ⟨id, tl, h1, h2⟩
   . have hp := h.hr
     rw [h1] at hp
     obtain ⟨wr, H, hw⟩ := jbt h9 h21 (rt := rt) (cy := cy) (a := a) (b := b) (r := r) (r2 := r2) hp hs hxs k
     have eL : Vz ev cy lr ⟨k, rt, cy, xs⟩ = [⟨k, rt, cy, xs⟩] := by unfold Vz; rw [hA, h2]; rfl
     refine ⟨_, wr, .rs 55 σ.length 0 1, H, ?_⟩
     rw [eL]
     refine h.newR ?_ (Or.inr ⟨σ.length, [], rfl, ?_⟩) (by simp) ?_ ?_
     . rw [List.getElem?_append_left (by rw [List.length_set]; exact lr2), List.getElem?_set_self lr2]
     . generalize hsb : σ.set pr (.cells [I ev, .rs 55 σ.length 0 1]) = sb
       have lsb : sb.length = σ.length := by rw [<- hsb, List.length_set]
       rw [<- lsb, jw, List.append_nil]; rfl
     . intro i hi hne _
       rw [List.getElem?_append_left (by rw [List.length_set]; exact hi), List.getElem?_set_ne (Ne.symm hne)]
     . intro i hi
       simp only [lid, List.mem_singleton] at hi
       exact Or.inr (by omega)
   . have hp := h.hr
     rw [h1] at hp
     have hm1 : id ∈ lid Lr := by rw [h1]; simp [lid]
     have nid := h.n3 id hm1
     obtain ⟨wr, H, hw⟩ := jbu h9 h21 (rt := rt) (cy := cy) (a := a) (b := b) (r := r) (r2 := r2) hp h2 hs hxs rfl hn nid.2.symm (fun t ht => ⟨hb t (List.mem_of_getElem? ht), hy t ht⟩) k
     have eL : Vz ev cy lr ⟨k, rt, cy, xs⟩ = lr ++ [⟨k, rt, cy, xs⟩] := by unfold Vz; rw [hA]; rfl
     refine ⟨_, wr, .rs 55 σ.length 0 (lr.length + 1), H, ?_⟩
     rw [eL]
     refine h.newR ?_ (Or.inr ⟨σ.length, [], by rw [List.length_append]; rfl, ?_⟩) (by simp) ?_ ?_
     . rw [List.getElem?_append_left (by rw [List.length_set, List.length_set]; exact lr2), List.getElem?_set_self (by rw [List.length_set]; exact lr2)]
     . generalize hsb : (σ.set id .dead).set pr (.cells [I ev, .rs 55 σ.length 0 (lr.length + 1)]) = sb
       have lsb : sb.length = σ.length := by rw [<- hsb, List.length_set, List.length_set]
       rw [<- lsb, jw, List.append_nil]; rfl
     . intro i hi hne hn2
       rw [List.getElem?_append_left (by rw [List.length_set, List.length_set]; exact hi), List.getElem?_set_ne (Ne.symm hne), List.getElem?_set_ne (fun e => hn2 (by rw [<- e]; exact hm1))]
     . intro i hi
       simp only [lid, List.mem_singleton] at hi
       exact Or.inr (by omega)
theorem Inv.cut6 (h6 : F 6 = some ir6) (h18 : F 18 = some XI) (h19 : F 19 = some jam) (h29 : F 29 = some XM) (h : Inv P px pr ev lp lr Lp Lr σ) (hn : lp.length < 1000) (c : Int) :
   ∃ σ' wr Lp', cfw F (.f 6) [.ptr px 0, I c] σ = some ⟨false, .tup [], σ', wr⟩ /\ Inv P px pr ev (lp.filter fun t => decide (t.cy <= c)) lr Lp' Lr σ' /\ Kept P σ σ' := by
 have lx := jj h.hp
 have ef : (fun t : It => !decide (t.cy > c)) = fun t => decide (t.cy <= c) := by
   funext t
   by_cases h : t.cy <= c
   . rw [decide_eq_true h, decide_eq_false (by omega)]; rfl
   . rw [decide_eq_false h, decide_eq_true (by omega)]; rfl
 rcases h.pl with ⟨o, h1, h2⟩ | ⟨id, tl, h1, h2⟩
 . have hp := h.hp
   rw [h1] at hp
   obtain ⟨wr, H⟩ := jbD h6 h18 h29 (c := c) hp
   refine ⟨_, wr, .sl o true [], H, ?_⟩
   refine h.newP (List.getElem?_set_self lx) (Or.inl ⟨o, rfl, by rw [h2]; rfl⟩) (by simp) ?_ (fun i hi => (by cases hi)) (fun t ht => (List.mem_filter.1 ht).1)
   intro i hi hne _
   rw [List.getElem?_set_ne (Ne.symm hne)]
 . have hp := h.hp
   rw [h1] at hp
   have hm1 : id ∈ lid Lp := by rw [h1]; simp [lid]
   obtain ⟨σ', wr, tl', H, a1, a2, a3, a4⟩ := Sp.cut6 h6 h18 h19 h29 (c := c) hp h2 rfl hn (h.n2 id hm1).1.symm
   rw [ef] at a1 a2
   refine ⟨σ', wr, .rs 55 id 0 (lp.filter fun t => decide (t.cy <= c)).length, H, ?_⟩
   refine h.newP a1 (Or.inr ⟨id, tl', rfl, a2⟩) a3 ?_ ?_ (fun t ht => (List.mem_filter.1 ht).1)
   . intro i hi hne hn2
     exact a4 i hi hne (fun e => hn2 (by rw [e]; exact hm1))
   . intro i hi
     simp only [lid, List.mem_singleton] at hi
     rw [hi]; exact hm1
theorem Inv.cut7 (h7 : F 7 = some ir7) (h : Inv P px pr ev lp lr Lp Lr σ) (hn : lr.length < 1000) (c : Int) :
   ∃ σ' wr Lr', cfw F (.f 7) [.ptr pr 0, I c] σ = some ⟨false, .tup [], σ', wr⟩ /\ Inv P px pr ev lp (lr.filter fun t => decide (t.cy <= c)) Lp Lr' σ' /\ Kept P σ σ' := by
 have lr2 := jj h.hr
 rcases h.rl with ⟨o, h1, h2⟩ | ⟨id, tl, h1, h2⟩
 . have hp := h.hr
   rw [h1] at hp
   obtain ⟨wr, H⟩ := jbE h7 (c := c) hp
   refine ⟨_, wr, .sl 0 true [], H, ?_⟩
   refine h.newR (List.getElem?_set_self lr2) (Or.inl ⟨0, rfl, by rw [h2]; rfl⟩) (by simp) ?_ (fun i hi => (by cases hi))
   intro i hi hne _
   rw [List.getElem?_set_ne (Ne.symm hne)]
 . have hp := h.hr
   rw [h1] at hp
   obtain ⟨σ', wr, v, H, a1, a2, a3, a4, a5⟩ := Sp.cut7 h7 (c := c) hp h2 rfl hn
   refine ⟨σ', wr, v, H, ?_⟩
   refine h.newR a1 a2 a4 (fun i hi hne _ => a5 i hi hne) ?_
   intro i hi
   rcases a2 with ⟨o, e, _⟩ | ⟨oid, tl, e, _⟩
   . rw [e] at hi; cases hi
   . have := a3 oid e
     rw [e] at hi
     simp only [lid, List.mem_singleton] at hi
     exact Or.inr (by omega)
end Go.Idl.Sp
namespace Go.Idl.Sp
open Go Go.Idl Go.Idl.En
variable {F : vM}
section
variable (g sk rn : IVal) (rt cy : Int)
theorem jfm (a b : Nat) (r r2 : Bool) (o : Nat) (r3 : Bool) : JG Z55 [(0, 1, I 0), (1, 1, I 0), (2, 1, I 0), (3, 1, I 0), (4, 1, .int .i32 0), (5, 8, .agg Z8), (13, 1, .sl a r []), (14, 1, .sl o r3 []), (15, 1, I 0), (16, 1, .sl b r2 []), (17, 32, .agg Z32), (49, 1, .int .u8 0), (50, 1, .int .u64 rt), (51, 1, .int .u64 0), (52, 1, I cy), (53, 1, I 0), (54, 1, I 0)] = some (SC (.sl a r []) (.sl o r3 []) (.sl b r2 []) rt cy) := by
 simp only [JG, jk, jy, jx, jn, jf, jm, jl, List.all_cons, List.all_nil, List.length_cons, List.length_nil, kU, Q8, KA, jbl, KR, jhF, jhG, jhH, jhI, jhJ, jhK, jf1, jf2, jf3, jf4, jf5, jf6, qt, qu, qw, qx, qy, Nat.reduceAdd, Nat.reduceLeDiff, Bool.and_true, and_self, if_true]
end
set_option maxHeartbeats 4000000 in
theorem je4 (h : F 10 = some Zd) {o : Nat} {r3 : Bool} {rt cy : Int} {a b : Nat} {r r2 : Bool} {σ : List IObj} :
   ∃ e, cfw F (.f 10) [.agg (SC (.sl a r []) (.sl o r3 []) (.sl b r2 []) rt cy)] σ = some ⟨false, .agg (SC (.sl 0 r []) (.sl 0 r3 []) (.sl 0 r2 []) rt cy), σ ++ e, []⟩ := by
 rw [vp Zd h, kT]
 simp only [Zd, jgu, jgv, jgw, jgx, jgy, jgz, jcA, jfU, jfV, jcB, jfW, jfX, jfY, jcC, jcD, jcE, jcF, f32, f21, f9, jdy, jdz, jgj, jgi, KA, jbj, jdA, Q8, KR, YT, jbm, YU, jdx, jgk, jcZ, jdw, jgf, jgg, jgh, jds, jdt, jdu, jdv, jbk, jfm, List.zip_cons_cons, List.zip_nil_right, List.all_append, qM, vw, jv, jV, nilOwn, vI, kH, jT, jw, kC, jL, kU, qA, qZ, q9, va, vf, vg, vd, qt, qu, qw, qx, qy, qB, qC, qD, qE, qF, ve, kG, vb, jn, kD, kK, List.append_assoc, List.drop_zero, List.isEmpty_nil, List.getElem?_cons_zero, List.getElem?_cons_succ, List.set_cons_succ, List.flatMap_nil, List.take_zero, Nat.zero_le, Nat.le_refl, Nat.lt_irrefl, List.nil_append, List.length_append, dlt, dge, dle, jS, jN, kJ, kI, bff, btt, vN, tk0, tk1, st0, st1, kQ, jM, jz, qz, vy, jO, jU, kR, vt, qH, Bool.true_or, Bool.or_true, Bool.false_or, Bool.or_false, bne_self_eq_false, Nat.lt_add_one, Nat.lt_succ_self, kT, jZ, Ts.fill, vF, vL, vz, jP, List.map_nil, List.map_cons, List.all_nil, List.all_cons, vG, kN, qe, kh, qg, qQ, qf, qR, qd, kb, jG, ke, qc, qb, kc, kg, ka, jX, jF, j9, qa, k9, j8, Bool.and_true, Bool.true_and, Bool.false_and, Bool.and_false, Bool.not_false, Bool.not_true, List.take_length, List.filter_nil, List.filter_cons, Bool.false_eq_true, jB, jR, j0, j5, jD, jC, jo, jt, jr, kL, jQ, jd, getAll, stepCall, kM, unI, Opd.get, kV, qP, qL, je, ja, jE, kW, kY, kX, tag, qG, jk, jg, jq, jx, jp, jy, List.length_range, jf, jb, ji, jl, jh, jm, jW, jA, j7, kZ, j6, k8, jc, List.set_cons_zero, vr, rv, bin, vH, kv, jJ, ky, qp, kx, kw, ju, jK, qn, qr, qq, ku, kz, qo, jY, jI, kt, ql, kq, qm, kl, jH, kp, qh, ko, qk, Nat.reduceAdd, Nat.reduceSub, Nat.reduceMul, Nat.reduceDiv, Nat.reduceMod, Nat.reducePow, Nat.reduceLT, Nat.reduceLeDiff, Nat.reduceEqDiff, Nat.reduceBEq, Nat.reduceBNe, reduceIte, Int.reduceEq, Int.reduceLT, Int.reduceLE, Int.reduceNeg, Int.reduceToNat, Int.reduceMul, Int.reduceAdd, Int.reduceSub, Int.cast_ofNat_Int, reduceCtorEq, Nat.zero_add, Nat.add_zero, Nat.mul_one, bft, btf, beq_self_eq_true, true_and, and_true, and_self, if_true, if_false, ite_true, ite_false, c0, c1, not_true_eq_false, not_false_eq_true, Bool.true_eq_false, Option.some.injEq, Prod.mk.injEq, exists_eq_left, List.length_map, List.getElem?_map, Option.map_some, List.cons_append, List.length_cons, List.length_nil, List.append_nil, decide_true, decide_false]
 exact ⟨[], by rw [List.append_nil]⟩
variable {P : List Nat} {px pr : Nat} {ev : Int} {lp lr : List It} {Lp Lr : IVal} {σ : List IObj}
theorem Inv.bef11 (h11 : F 11 = some jaj) (h23 : F 23 = some jda) (h22 : F 22 = some XJ) (h20 : F 20 = some QE) (h30 : F 30 = some KK) (h31 : F 31 = some Qz) (h32 : F 32 = some VT) (h38 : F 38 = some Xv) (h : Inv P px pr ev lp lr Lp Lr σ) (hn : lp.length < 1000) (c : Int) :
   ∃ e K, cfw F (.f 11) [.ptr px 0, I c] σ = some ⟨false, .tup [ze K (fnd (fun t => decide (t.cy <= c)) lp lp.length), .bool (fnd (fun t => decide (t.cy <= c)) lp lp.length).isSome], σ ++ e, []⟩ /\ ∀ t, fnd (fun t => decide (t.cy <= c)) lp lp.length = some t -> σ.length <= K /\ (σ ++ e)[K]? = some (.cells (t.xs.map J)) := by
 have hp := h.hp
 rcases h.pl with ⟨o, h1, h2⟩ | ⟨id, tl, h1, h2⟩
 . rw [h1] at hp
   rw [h2]
   exact ⟨[], 0, by rw [List.append_nil]; exact ZQ h11 h22 h32 h38 hp, fun t ht => by cases ht⟩
 . rw [h1] at hp
   obtain ⟨e, H, he⟩ := Sp.bef11 h11 h23 h22 h20 h30 h31 h32 h38 (c := c) hp h2 rfl hn (fun t ht => ⟨(h.it t ht).1, (h.it t ht).2.1⟩)
   exact ⟨e, _, H, fun t ht => ⟨by omega, by rw [jT, he t ht]⟩⟩
theorem Inv.bef12 (h12 : F 12 = some jbX) (h21 : F 21 = some Qy) (h : Inv P px pr ev lp lr Lp Lr σ) (hl : ∀ t ∈ lr, t.xs.length = 3) (hn : lr.length < 1000) (c : Int) :
   ∃ wr, cfw F (.f 12) [.ptr pr 0, I c] σ = some ⟨false, .tup [JX (fnd (fun t => decide (t.cy <= c)) lr lr.length), .bool (fnd (fun t => decide (t.cy <= c)) lr lr.length).isSome], σ, wr⟩ := by
 have hp := h.hr
 rcases h.rl with ⟨o, h1, h2⟩ | ⟨id, tl, h1, h2⟩
 . rw [h1] at hp
   rw [h2]
   exact ⟨[], ZR h12 hp⟩
 . rw [h1] at hp
   obtain ⟨wr, H, he⟩ := Sp.bef12 h12 h21 (c := c) hp h2 rfl hn hl
   exact ⟨wr, H⟩
theorem Inv.ret13 (h13 : F 13 = some jak) (h24 : F 24 = some jdb) (h22 : F 22 = some XJ) (h20 : F 20 = some QE) (h30 : F 30 = some KK) (h31 : F 31 = some Qz) (h32 : F 32 = some VT) (h38 : F 38 = some Xv) (h : Inv P px pr ev lp lr Lp Lr σ) (hn : lp.length < 1000) (c : Int) :
   ∃ e K, cfw F (.f 13) [.ptr px 0, (.int .u64 c)] σ = some ⟨false, .tup [ze K (fnd (fun t => decide (t.rt <= c)) lp lp.length), .bool (fnd (fun t => decide (t.rt <= c)) lp lp.length).isSome], σ ++ e, []⟩ /\ ∀ t, fnd (fun t => decide (t.rt <= c)) lp lp.length = some t -> σ.length <= K /\ (σ ++ e)[K]? = some (.cells (t.xs.map J)) := by
 have hp := h.hp
 rcases h.pl with ⟨o, h1, h2⟩ | ⟨id, tl, h1, h2⟩
 . rw [h1] at hp
   rw [h2]
   exact ⟨[], 0, by rw [List.append_nil]; exact jaX h13 h22 h32 h38 hp, fun t ht => by cases ht⟩
 . rw [h1] at hp
   obtain ⟨e, H, he⟩ := Sp.ret13 h13 h24 h22 h20 h30 h31 h32 h38 (c := c) hp h2 rfl hn (fun t ht => ⟨(h.it t ht).1, (h.it t ht).2.1⟩)
   exact ⟨e, _, H, fun t ht => ⟨by omega, by rw [jT, he t ht]⟩⟩
theorem Inv.ret14 (h14 : F 14 = some jbY) (h21 : F 21 = some Qy) (h : Inv P px pr ev lp lr Lp Lr σ) (hl : ∀ t ∈ lr, t.xs.length = 3) (hn : lr.length < 1000) (c : Int) :
   ∃ wr, cfw F (.f 14) [.ptr pr 0, (.int .u64 c)] σ = some ⟨false, .tup [JX (fnd (fun t => decide (t.rt <= c)) lr lr.length), .bool (fnd (fun t => decide (t.rt <= c)) lr lr.length).isSome], σ, wr⟩ := by
 have hp := h.hr
 rcases h.rl with ⟨o, h1, h2⟩ | ⟨id, tl, h1, h2⟩
 . rw [h1] at hp
   rw [h2]
   exact ⟨[], jaY h14 hp⟩
 . rw [h1] at hp
   obtain ⟨wr, H, he⟩ := Sp.ret14 h14 h21 (c := c) hp h2 rfl hn hl
   exact ⟨wr, H⟩
end Go.Idl.Sp
namespace Go.Idl.Sp
open Go Go.Idl Go.Idl.En
variable {F : vM}
variable {P : List Nat} {px pr : Nat} {ev : Int} {lp lr : List It} {Lp Lr : IVal} {σ : List IObj}
theorem Vw {n : Int} (h : 0 <= n) (h2 : n < 18446744073709551616) : IntKind.u64.wrap n = n := by
 simp only [IntKind.wrap, IntKind.bits, IntKind.signed]; simp; omega
theorem jbi (n : Int) : 0 <= IntKind.u16.wrap n /\ IntKind.u16.wrap n < 65536 := by
 simp only [IntKind.wrap, IntKind.bits, IntKind.signed]; simp; omega
/-- An act's cells. -/
abbrev AC (w m a k : Int) : List IVal := [.int .u8 w, .int .u8 m, .int .i16 a, .int .i32 k]
/-- The machine's state. -/
abbrev SS (ss : Nat) (rt cy : Int) : List IVal := SC (.sl 1 true []) (.rs 1 ss 0 3) (.sl 3 true []) rt cy
theorem je0 (w m a k : Int) : vl none (AC w m a k) 0 = some (.int .u8 w) := rfl
theorem jhP (w m a k : Int) : vl none (AC w m a k) 1 = some (.int .u8 m) := rfl
theorem je1 (w m a k : Int) : vl none (AC w m a k) 2 = some (.int .i16 a) := rfl
theorem jhQ (w m a k : Int) : vl none (AC w m a k) 3 = some (.int .i32 k) := rfl
/-- What is added: which cycle, how many instructions, the stack. -/
theorem jdE {ps ss pa i : Nat} {w m a k rt cy : Int} {xs : List Int} {f : Nat -> Option (Nat × IVal)} {wr : List (Nat × Bool)} (rest : ICode)
   (hps : σ[ps]? = some (.cells (SS ss rt cy))) (hss : σ[ss]? = some (.cells (xs.map J))) (hpa : σ[pa]? = some (.cells (AC w m a k))) (n1 : ps ≠ ss) (n2 : pa ≠ ps) (hxs : xs.length = 3)
   (e9 : f 9 = some (9, .ptr ps 0)) (e10 : f 10 = some (10, I i)) (e11 : f 11 = some (11, .ptr pa 0)) (hm : 0 <= m /\ m < 256) (hc : -1000 < cy /\ cy < 1000) (hr : 0 <= rt /\ rt < 1000) :
   ∃ f' wr', evw F (.seq jgM (.seq jgN (.seq jgO rest))) ⟨E 98 32 8 [] (base f), σ, wr⟩ = evw F rest ⟨E 98 32 8 [] (base f'), (σ.set ps (.cells (SS ss (rt + m.tmod 4) (cy + m.tmod 6 - 1)))).set ss (.cells ((xs.set (i % 3) k).map J)), wr'⟩ /\ KeepT [0, 1, 4, 6, 7, 8, 9, 10, 11, 26, 27] f f' := by
 have lps := jj hps
 have s1 : ∀ x, (σ.set ps x)[ps]? = some x := fun x => List.getElem?_set_self lps
 have s2 : ∀ x, (σ.set ps x)[pa]? = some (.cells (AC w m a k)) := fun x => get_set hpa n2.symm
 have s3 : ∀ x, (σ.set ps x)[ss]? = some (.cells (xs.map J)) := fun x => get_set hss n1
 have m6 : 0 <= m.tmod 6 /\ m.tmod 6 < 6 := ⟨Int.tmod_nonneg 6 hm.1, Int.tmod_lt_of_pos m (by omega)⟩
 have m4 : 0 <= m.tmod 4 /\ m.tmod 4 < 4 := ⟨Int.tmod_nonneg 4 hm.1, Int.tmod_lt_of_pos m (by omega)⟩
 have w1 : IntKind.i64.wrap (m.tmod 6) = m.tmod 6 := yH (by omega) (by omega)
 have w2 : IntKind.i64.wrap (cy + m.tmod 6) = cy + m.tmod 6 := yH (by omega) (by omega)
 have w3 : IntKind.i64.wrap (cy + m.tmod 6 - 1) = cy + m.tmod 6 - 1 := yH (by omega) (by omega)
 have w4 : IntKind.u64.wrap (m.tmod 4) = m.tmod 4 := Vw (by omega) (by omega)
 have w5 : IntKind.u64.wrap (rt + m.tmod 4) = rt + m.tmod 4 := Vw (by omega) (by omega)
 have i3 : (i : Int).tmod 3 = ((i % 3 : Nat) : Int) := rfl
 have d2 : (0 : Int) <= ((i % 3 : Nat) : Int) := by omega
 have d3 : ((i % 3 : Nat) : Int) < ((3 : Nat) : Int) := by omega
 have d3' : ((i % 3 : Nat) : Int) < 3 := by omega
 have d4 : i % 3 + 1 <= 3 := by omega
 have ms : (xs.map J).set (i % 3) (J k) = (xs.set (i % 3) k).map J := by rw [List.map_set]
 simp only [jgM, jgN, jgO, e9, e10, e11, hps, hpa, hss, s1, s2, s3, w1, w2, w3, w4, w5, i3, d2, d3, d3', d4, ms, hxs, je0, jhP, jhQ, List.set_set, Int.toNat_natCast, vn, vo, qX, qV, qY, qW, kO, kP, kA, kB, qU, qT, qS, qM, vw, jv, jV, nilOwn, vI, kH, jT, jw, kC, jL, kU, qA, qZ, q9, va, vf, vg, vd, qt, qu, qw, qx, qy, qB, qC, qD, qE, qF, ve, kG, vb, jn, kD, kK, List.append_assoc, List.drop_zero, List.isEmpty_nil, List.getElem?_cons_zero, List.getElem?_cons_succ, List.set_cons_succ, List.flatMap_nil, List.take_zero, Nat.zero_le, Nat.le_refl, Nat.lt_irrefl, List.nil_append, List.length_append, dlt, dge, dle, jS, jN, kJ, kI, bff, btt, vN, tk0, tk1, st0, st1, kQ, jM, jz, qz, vy, jO, jU, kR, vt, qH, Bool.true_or, Bool.or_true, Bool.false_or, Bool.or_false, bne_self_eq_false, Nat.lt_add_one, Nat.lt_succ_self, kT, jZ, Ts.fill, vF, vL, vz, jP, List.map_nil, List.map_cons, List.all_nil, List.all_cons, vG, kN, qe, kh, qg, qQ, qf, qR, qd, kb, jG, ke, qc, qb, kc, kg, ka, jX, jF, j9, qa, k9, j8, Bool.and_true, Bool.true_and, Bool.false_and, Bool.and_false, Bool.not_false, Bool.not_true, List.take_length, List.filter_nil, List.filter_cons, Bool.false_eq_true, jB, jR, j0, j5, jD, jC, jo, jt, jr, kL, jQ, jd, getAll, stepCall, kM, unI, Opd.get, kV, qP, qL, je, ja, jE, kW, kY, kX, tag, qG, jk, jg, jq, jx, jp, jy, List.length_range, jf, jb, ji, jl, jh, jm, jW, jA, j7, kZ, j6, k8, jc, List.set_cons_zero, vr, rv, bin, vH, kv, jJ, ky, qp, kx, kw, ju, jK, qn, qr, qq, ku, kz, qo, jY, jI, kt, ql, kq, qm, kl, jH, kp, qh, ko, qk, Nat.reduceAdd, Nat.reduceSub, Nat.reduceMul, Nat.reduceDiv, Nat.reduceMod, Nat.reducePow, Nat.reduceLT, Nat.reduceLeDiff, Nat.reduceEqDiff, Nat.reduceBEq, Nat.reduceBNe, reduceIte, Int.reduceEq, Int.reduceLT, Int.reduceLE, Int.reduceNeg, Int.reduceToNat, Int.reduceMul, Int.reduceAdd, Int.reduceSub, Int.cast_ofNat_Int, reduceCtorEq, Nat.zero_add, Nat.add_zero, Nat.mul_one, bft, btf, beq_self_eq_true, true_and, and_true, and_self, if_true, if_false, ite_true, ite_false, c0, c1, not_true_eq_false, not_false_eq_true, Bool.true_eq_false, Option.some.injEq, Prod.mk.injEq, exists_eq_left, List.length_map, List.getElem?_map, Option.map_some, List.cons_append, List.length_cons, List.length_nil, List.append_nil, decide_true, decide_false]
 have hK := KeepT.refl [0, 1, 4, 6, 7, 8, 9, 10, 11, 26, 27] f
 exact ⟨_, _, rfl, (by repeat (first | exact hK | refine KeepT.upd (by decide) ?_))⟩
/-- It is added to both. -/
theorem jdC (h8 : F 8 = some ir8) (h9 : F 9 = some ir9) (h10 : F 10 = some Zd) (h20 : F 20 = some QE) (h21 : F 21 = some Qy) (h30 : F 30 = some KK) (h31 : F 31 = some Qz) {ps ss : Nat} {rt cy : Int} {xs : List Int} {l : List It} {f : Nat -> Option (Nat × IVal)} {wr : List (Nat × Bool)}
   (h : Inv P px pr ev l l Lp Lr σ) (hP : ps ∈ P) (hP2 : ss ∈ P) (hps : σ[ps]? = some (.cells (SS ss rt cy))) (hss : σ[ss]? = some (.cells (xs.map J))) (hxs : xs.length = 3) (hn : l.length < 1000) (hb : ∀ t ∈ l, IntKind.i64.wrap (cy - t.cy) = cy - t.cy)
   (e7 : f 7 = some (7, .ptr px 0)) (e8 : f 8 = some (8, .ptr pr 0)) (e9 : f 9 = some (9, .ptr ps 0)) :
   ∃ f' σ' wr' Lp' Lr', evw F (.seq jgn jgo) ⟨E 98 32 8 [] (base f), σ, wr⟩ = some (.normal, ⟨E 98 32 8 [] (base f'), σ', wr'⟩) /\ KeepT [0, 1, 4, 6, 7, 8, 9, 10, 11, 26, 27] f f' /\ Inv P px pr ev (Vz ev cy l ⟨σ.length + 3, rt, cy, xs⟩) (Vz ev cy l ⟨σ.length + 3, rt, cy, xs⟩) Lp' Lr' σ' /\ Kept P σ σ' := by
 obtain ⟨σ1, wr1, Lp1, H1, I1, hw1, k1⟩ := h.add8 (rt := rt) h8 h20 h30 h31 0 0 hP2 hss hxs hn hb
 have hps1 : σ1[ps]? = some (.cells (SS ss rt cy)) := by rw [k1.2 ps hP, hps]
 have hss1 : σ1[ss]? = some (.cells (xs.map J)) := by rw [k1.2 ss hP2, hss]
 obtain ⟨e, H2⟩ := je5 h10 (id := ss) (rt := rt) (cy := cy) (a := 0) (b := 0) (r := true) (r2 := true) (σ := σ1)
 have I2 : Inv P px pr ev (Vz ev cy l ⟨σ.length + 3, rt, cy, xs⟩) l Lp1 Lr (σ1 ++ e) := (I1.grow (by simp) (fun i hi => List.getElem?_append_left hi) [] (fun i hi => by cases hi))
 obtain ⟨σ3, wr3, Lr3, H3, I3, k3⟩ := I2.add9 (rt := rt) h9 h21 0 0 true true (vk hss1 e) hxs hn hb (σ.length + 3)
 have k2 : Kept P σ1 (σ1 ++ e) := ⟨by simp, fun i hi => List.getElem?_append_left (I1.pb i hi)⟩
 have hpl := jj hps
 have q1 : decide (ps < σ.length) = true := decide_eq_true hpl
 have q2 : (wr1.all fun q => q.1 != ps) = true := List.all_eq_true.2 fun q hq => by
   rw [bne_iff_ne]
   intro e
   exact hw1 q hq (e ▸ hP)
 simp only [jgn, jgo, e7, e8, e9, hps, H1, H2, H3, q1, q2, vn, vo, qX, qV, qY, qW, kO, kP, kA, kB, qU, qT, qS, qM, vw, jv, jV, nilOwn, vI, kH, jT, jw, kC, jL, kU, qA, qZ, q9, va, vf, vg, vd, qt, qu, qw, qx, qy, qB, qC, qD, qE, qF, ve, kG, vb, jn, kD, kK, List.append_assoc, List.drop_zero, List.isEmpty_nil, List.getElem?_cons_zero, List.getElem?_cons_succ, List.set_cons_succ, List.flatMap_nil, List.take_zero, Nat.zero_le, Nat.le_refl, Nat.lt_irrefl, List.nil_append, List.length_append, dlt, dge, dle, jS, jN, kJ, kI, bff, btt, vN, tk0, tk1, st0, st1, kQ, jM, jz, qz, vy, jO, jU, kR, vt, qH, Bool.true_or, Bool.or_true, Bool.false_or, Bool.or_false, bne_self_eq_false, Nat.lt_add_one, Nat.lt_succ_self, kT, jZ, Ts.fill, vF, vL, vz, jP, List.map_nil, List.map_cons, List.all_nil, List.all_cons, vG, kN, qe, kh, qg, qQ, qf, qR, qd, kb, jG, ke, qc, qb, kc, kg, ka, jX, jF, j9, qa, k9, j8, Bool.and_true, Bool.true_and, Bool.false_and, Bool.and_false, Bool.not_false, Bool.not_true, List.take_length, List.filter_nil, List.filter_cons, Bool.false_eq_true, jB, jR, j0, j5, jD, jC, jo, jt, jr, kL, jQ, jd, getAll, stepCall, kM, unI, Opd.get, kV, qP, qL, je, ja, jE, kW, kY, kX, tag, qG, jk, jg, jq, jx, jp, jy, List.length_range, jf, jb, ji, jl, jh, jm, jW, jA, j7, kZ, j6, k8, jc, List.set_cons_zero, vr, rv, bin, vH, kv, jJ, ky, qp, kx, kw, ju, jK, qn, qr, qq, ku, kz, qo, jY, jI, kt, ql, kq, qm, kl, jH, kp, qh, ko, qk, Nat.reduceAdd, Nat.reduceSub, Nat.reduceMul, Nat.reduceDiv, Nat.reduceMod, Nat.reducePow, Nat.reduceLT, Nat.reduceLeDiff, Nat.reduceEqDiff, Nat.reduceBEq, Nat.reduceBNe, reduceIte, Int.reduceEq, Int.reduceLT, Int.reduceLE, Int.reduceNeg, Int.reduceToNat, Int.reduceMul, Int.reduceAdd, Int.reduceSub, Int.cast_ofNat_Int, reduceCtorEq, Nat.zero_add, Nat.add_zero, Nat.mul_one, bft, btf, beq_self_eq_true, true_and, and_true, and_self, if_true, if_false, ite_true, ite_false, c0, c1, not_true_eq_false, not_false_eq_true, Bool.true_eq_false, Option.some.injEq, Prod.mk.injEq, exists_eq_left, List.length_map, List.getElem?_map, Option.map_some, List.cons_append, List.length_cons, List.length_nil, List.append_nil, decide_true, decide_false]
 have hK := KeepT.refl [0, 1, 4, 6, 7, 8, 9, 10, 11, 26, 27] f
 exact ⟨_, _, _, _, _, rfl, (by repeat (first | exact hK | refine KeepT.upd (by decide) ?_)), I3, (k1.trans k2).trans k3⟩
/-- Both are cut. -/
theorem jdD (h6 : F 6 = some ir6) (h7 : F 7 = some ir7) (h18 : F 18 = some XI) (h19 : F 19 = some jam) (h29 : F 29 = some XM) {pa : Nat} {w m a k : Int} {l : List It} {f : Nat -> Option (Nat × IVal)} {wr : List (Nat × Bool)}
   (h : Inv P px pr ev l l Lp Lr σ) (hP : pa ∈ P) (hpa : σ[pa]? = some (.cells (AC w m a k))) (hn : l.length < 1000) (ha : -32768 <= a /\ a < 32768)
   (e7 : f 7 = some (7, .ptr px 0)) (e8 : f 8 = some (8, .ptr pr 0)) (e11 : f 11 = some (11, .ptr pa 0)) :
   ∃ f' σ' wr' Lp' Lr', evw F jas ⟨E 98 32 8 [] (base f), σ, wr⟩ = some (.normal, ⟨E 98 32 8 [] (base f'), σ', wr'⟩) /\ KeepT [0, 1, 4, 6, 7, 8, 9, 10, 11, 26, 27] f f' /\ Inv P px pr ev (l.filter fun t => decide (t.cy <= a)) (l.filter fun t => decide (t.cy <= a)) Lp' Lr' σ' /\ Kept P σ σ' := by
 obtain ⟨σ1, wr1, Lp1, H1, I1, k1⟩ := h.cut6 h6 h18 h19 h29 hn a
 obtain ⟨σ2, wr2, Lr2, H2, I2, k2⟩ := I1.cut7 h7 hn a
 have hpa1 : σ1[pa]? = some (.cells (AC w m a k)) := by rw [k1.2 pa hP, hpa]
 have w1 : IntKind.i64.wrap a = a := yH (by omega) (by omega)
 simp only [jas, e7, e8, e11, hpa, hpa1, H1, H2, w1, je1, vn, vo, qX, qV, qY, qW, kO, kP, kA, kB, qU, qT, qS, qM, vw, jv, jV, nilOwn, vI, kH, jT, jw, kC, jL, kU, qA, qZ, q9, va, vf, vg, vd, qt, qu, qw, qx, qy, qB, qC, qD, qE, qF, ve, kG, vb, jn, kD, kK, List.append_assoc, List.drop_zero, List.isEmpty_nil, List.getElem?_cons_zero, List.getElem?_cons_succ, List.set_cons_succ, List.flatMap_nil, List.take_zero, Nat.zero_le, Nat.le_refl, Nat.lt_irrefl, List.nil_append, List.length_append, dlt, dge, dle, jS, jN, kJ, kI, bff, btt, vN, tk0, tk1, st0, st1, kQ, jM, jz, qz, vy, jO, jU, kR, vt, qH, Bool.true_or, Bool.or_true, Bool.false_or, Bool.or_false, bne_self_eq_false, Nat.lt_add_one, Nat.lt_succ_self, kT, jZ, Ts.fill, vF, vL, vz, jP, List.map_nil, List.map_cons, List.all_nil, List.all_cons, vG, kN, qe, kh, qg, qQ, qf, qR, qd, kb, jG, ke, qc, qb, kc, kg, ka, jX, jF, j9, qa, k9, j8, Bool.and_true, Bool.true_and, Bool.false_and, Bool.and_false, Bool.not_false, Bool.not_true, List.take_length, List.filter_nil, List.filter_cons, Bool.false_eq_true, jB, jR, j0, j5, jD, jC, jo, jt, jr, kL, jQ, jd, getAll, stepCall, kM, unI, Opd.get, kV, qP, qL, je, ja, jE, kW, kY, kX, tag, qG, jk, jg, jq, jx, jp, jy, List.length_range, jf, jb, ji, jl, jh, jm, jW, jA, j7, kZ, j6, k8, jc, List.set_cons_zero, vr, rv, bin, vH, kv, jJ, ky, qp, kx, kw, ju, jK, qn, qr, qq, ku, kz, qo, jY, jI, kt, ql, kq, qm, kl, jH, kp, qh, ko, qk, Nat.reduceAdd, Nat.reduceSub, Nat.reduceMul, Nat.reduceDiv, Nat.reduceMod, Nat.reducePow, Nat.reduceLT, Nat.reduceLeDiff, Nat.reduceEqDiff, Nat.reduceBEq, Nat.reduceBNe, reduceIte, Int.reduceEq, Int.reduceLT, Int.reduceLE, Int.reduceNeg, Int.reduceToNat, Int.reduceMul, Int.reduceAdd, Int.reduceSub, Int.cast_ofNat_Int, reduceCtorEq, Nat.zero_add, Nat.add_zero, Nat.mul_one, bft, btf, beq_self_eq_true, true_and, and_true, and_self, if_true, if_false, ite_true, ite_false, c0, c1, not_true_eq_false, not_false_eq_true, Bool.true_eq_false, Option.some.injEq, Prod.mk.injEq, exists_eq_left, List.length_map, List.getElem?_map, Option.map_some, List.cons_append, List.length_cons, List.length_nil, List.append_nil, decide_true, decide_false]
 have hK := KeepT.refl [0, 1, 4, 6, 7, 8, 9, 10, 11, 26, 27] f
 exact ⟨_, _, _, _, _, rfl, (by repeat (first | exact hK | refine KeepT.upd (by decide) ?_)), I2, k1.trans k2⟩
theorem jbq {R : Option (IExit × St)} {pa : Nat} {w m a k : Int} {l : List It} {f : Nat -> Option (Nat × IVal)} {wr : List (Nat × Bool)} (hE : evw F jas ⟨E 98 32 8 [] f, σ, wr⟩ = R) (h6 : F 6 = some ir6) (h7 : F 7 = some ir7) (h18 : F 18 = some XI) (h19 : F 19 = some jam) (h29 : F 29 = some XM)
   (h : Inv P px pr ev l l Lp Lr σ) (hP : pa ∈ P) (hpa : σ[pa]? = some (.cells (AC w m a k))) (hn : l.length < 1000) (ha : -32768 <= a /\ a < 32768)
   (e7 : f 7 = some (7, .ptr px 0)) (e8 : f 8 = some (8, .ptr pr 0)) (e11 : f 11 = some (11, .ptr pa 0)) :
   ∃ f' σ' wr' Lp' Lr', R = some (.normal, ⟨E 98 32 8 [] (base f'), σ', wr'⟩) /\ KeepT [0, 1, 4, 6, 7, 8, 9, 10, 11, 26, 27] f f' /\ Inv P px pr ev (l.filter fun t => decide (t.cy <= a)) (l.filter fun t => decide (t.cy <= a)) Lp' Lr' σ' /\ Kept P σ σ' := by
 subst hE
 exact jdD h6 h7 h18 h19 h29 h hP hpa hn ha e7 e8 e11
theorem jdB {R : Option (IExit × St)} {ps ss pa i : Nat} {w m a k rt cy : Int} {xs : List Int} {l : List It} {f : Nat -> Option (Nat × IVal)} {wr : List (Nat × Bool)} (hE : evw F jb0 ⟨E 98 32 8 [] f, σ, wr⟩ = R) (h8 : F 8 = some ir8) (h9 : F 9 = some ir9) (h10 : F 10 = some Zd) (h20 : F 20 = some QE) (h21 : F 21 = some Qy) (h30 : F 30 = some KK) (h31 : F 31 = some Qz)
   (h : Inv P px pr ev l l Lp Lr σ) (hP1 : ps ∈ P) (hP2 : ss ∈ P) (hP3 : pa ∈ P) (n1 : ps ≠ ss) (n2 : pa ≠ ps) (n3 : pa ≠ ss) (hps : σ[ps]? = some (.cells (SS ss rt cy))) (hss : σ[ss]? = some (.cells (xs.map J))) (hpa : σ[pa]? = some (.cells (AC w m a k))) (hxs : xs.length = 3) (hn : l.length < 900) (hi : i < 60)
   (hm : 0 <= m /\ m < 256) (hcy : -(5 * i : Int) <= cy /\ cy <= 5 * i) (hrt : 0 <= rt /\ rt <= 5 * i) (hlb : ∀ t ∈ l, (-(5 * i : Int) <= t.cy /\ t.cy <= 5 * i) /\ t.xs.length = 3)
   (e7 : f 7 = some (7, .ptr px 0)) (e8 : f 8 = some (8, .ptr pr 0)) (e9 : f 9 = some (9, .ptr ps 0)) (e10 : f 10 = some (10, I i)) (e11 : f 11 = some (11, .ptr pa 0)) :
   ∃ (f' : Nat -> Option (Nat × IVal)) (σ' : List IObj) (wr' : List (Nat × Bool)) (Lp' Lr' : IVal) (l' : List It) (rt' cy' : Int) (xs' : List Int), R = some (.normal, ⟨E 98 32 8 [] (base f'), σ', wr'⟩) /\ KeepT [0, 1, 4, 6, 7, 8, 9, 10, 11, 26, 27] f f' /\ Inv P px pr ev l' l' Lp' Lr' σ' /\ σ'[ps]? = some (.cells (SS ss rt' cy')) /\ σ'[ss]? = some (.cells (xs'.map J)) /\ σ'[pa]? = some (.cells (AC w m a k)) /\ xs'.length = 3 /\ l'.length <= l.length + 1 /\ (-(5 * (i + 1) : Int) <= cy' /\ cy' <= 5 * (i + 1)) /\ (0 <= rt' /\ rt' <= 5 * (i + 1)) /\ (∀ t ∈ l', (-(5 * (i + 1) : Int) <= t.cy /\ t.cy <= 5 * (i + 1)) /\ t.xs.length = 3) /\ σ.length <= σ'.length := by
 subst hE
 have m6 : 0 <= m.tmod 6 /\ m.tmod 6 < 6 := ⟨Int.tmod_nonneg 6 hm.1, Int.tmod_lt_of_pos m (by omega)⟩
 have m4 : 0 <= m.tmod 4 /\ m.tmod 4 < 4 := ⟨Int.tmod_nonneg 4 hm.1, Int.tmod_lt_of_pos m (by omega)⟩
 obtain ⟨f1, wr1, H1, K1⟩ := jdE (F := F) (wr := wr) (.seq jgn jgo) hps hss hpa n1 n2 hxs e9 e10 e11 hm (by omega) (by omega)
 have lps := jj hps
 have lss := jj hss
 have I1 := (h.upd hP1 (.cells (SS ss (rt + m.tmod 4) (cy + m.tmod 6 - 1)))).upd hP2 (.cells ((xs.set (i % 3) k).map J))
 generalize hσ : (σ.set ps (.cells (SS ss (rt + m.tmod 4) (cy + m.tmod 6 - 1)))).set ss (.cells ((xs.set (i % 3) k).map J)) = σ1 at H1 I1
 have lσ : σ1.length = σ.length := by rw [<- hσ, List.length_set, List.length_set]
 have a1 : σ1[ps]? = some (.cells (SS ss (rt + m.tmod 4) (cy + m.tmod 6 - 1))) := by rw [<- hσ]; exact get_set (List.getElem?_set_self lps) n1.symm
 have a2 : σ1[ss]? = some (.cells ((xs.set (i % 3) k).map J)) := by rw [<- hσ]; exact List.getElem?_set_self (by rw [List.length_set]; exact lss)
 have a3 : σ1[pa]? = some (.cells (AC w m a k)) := by rw [<- hσ]; exact get_set (get_set hpa n2.symm) n3.symm
 have hx2 : (xs.set (i % 3) k).length = 3 := by rw [List.length_set, hxs]
 obtain ⟨f2, σ2, wr2, Lp2, Lr2, H2, K2, I2, k2⟩ := jdC (wr := wr1) h8 h9 h10 h20 h21 h30 h31 I1 hP1 hP2 a1 a2 hx2 (by omega) (fun t ht => yH (by have := (hlb t ht).1; omega) (by have := (hlb t ht).1; omega)) ((K1 7 (by decide)).trans e7) ((K1 8 (by decide)).trans e8) ((K1 9 (by decide)).trans e9)
 refine ⟨f2, σ2, wr2, Lp2, Lr2, _, rt + m.tmod 4, cy + m.tmod 6 - 1, _, ?_, K1.trans K2, I2, by rw [k2.2 ps hP1, a1], by rw [k2.2 ss hP2, a2], by rw [k2.2 pa hP3, a3], hx2, ?_, by omega, by omega, ?_, by rw [<- lσ]; exact k2.1⟩
 . rw [jb0]
   exact H1.trans H2
 . unfold Vz; split
   . simp
   . omega
 . intro t ht
   have hold : ∀ t ∈ l, (-(5 * (i + 1) : Int) <= t.cy /\ t.cy <= 5 * (i + 1)) /\ t.xs.length = 3 := fun t ht => by
     obtain ⟨h1, h2⟩ := hlb t ht
     exact ⟨by omega, h2⟩
   unfold Vz at ht
   split at ht
   . rcases List.mem_append.1 ht with ht | ht
     . exact hold t ht
     . simp only [List.mem_singleton] at ht
       subst ht
       exact ⟨by dsimp only; omega, hx2⟩
   . exact hold t ht
/-- What an act does to the list, to the machine's state. -/
theorem je2 (h6 : F 6 = some ir6) (h7 : F 7 = some ir7) (h18 : F 18 = some XI) (h19 : F 19 = some jam) (h29 : F 29 = some XM) (h8 : F 8 = some ir8) (h9 : F 9 = some ir9) (h10 : F 10 = some Zd) (h20 : F 20 = some QE) (h21 : F 21 = some Qy) (h30 : F 30 = some KK) (h31 : F 31 = some Qz)
   {ps ss pa i : Nat} {w m a k rt cy : Int} {xs : List Int} {l : List It} {f : Nat -> Option (Nat × IVal)} {wr : List (Nat × Bool)}
   (h : Inv P px pr ev l l Lp Lr σ) (hP1 : ps ∈ P) (hP2 : ss ∈ P) (hP3 : pa ∈ P) (n1 : ps ≠ ss) (n2 : pa ≠ ps) (n3 : pa ≠ ss) (hps : σ[ps]? = some (.cells (SS ss rt cy))) (hss : σ[ss]? = some (.cells (xs.map J))) (hpa : σ[pa]? = some (.cells (AC w m a k))) (hxs : xs.length = 3) (hn : l.length < 900) (hi : i < 60)
   (hw : 0 <= w /\ w < 256) (hm : 0 <= m /\ m < 256) (ha : -32768 <= a /\ a < 32768) (hcy : -(5 * i : Int) <= cy /\ cy <= 5 * i) (hrt : 0 <= rt /\ rt <= 5 * i) (hlb : ∀ t ∈ l, (-(5 * i : Int) <= t.cy /\ t.cy <= 5 * i) /\ t.xs.length = 3)
   (e7 : f 7 = some (7, .ptr px 0)) (e8 : f 8 = some (8, .ptr pr 0)) (e9 : f 9 = some (9, .ptr ps 0)) (e10 : f 10 = some (10, I i)) (e11 : f 11 = some (11, .ptr pa 0)) :
   ∃ (f' : Nat -> Option (Nat × IVal)) (σ' : List IObj) (wr' : List (Nat × Bool)) (Lp' Lr' : IVal) (l' : List It) (rt' cy' : Int) (xs' : List Int), evw F (.seq l1W jea) ⟨E 98 32 8 [] (base f), σ, wr⟩ = some (.normal, ⟨E 98 32 8 [] (base f'), σ', wr'⟩) /\ KeepT [0, 1, 4, 6, 7, 8, 9, 10, 11, 26, 27] f f' /\ Inv P px pr ev l' l' Lp' Lr' σ' /\ σ'[ps]? = some (.cells (SS ss rt' cy')) /\ σ'[ss]? = some (.cells (xs'.map J)) /\ σ'[pa]? = some (.cells (AC w m a k)) /\ xs'.length = 3 /\ l'.length <= l.length + 1 /\ (-(5 * (i + 1) : Int) <= cy' /\ cy' <= 5 * (i + 1)) /\ (0 <= rt' /\ rt' <= 5 * (i + 1)) /\ (∀ t ∈ l', (-(5 * (i + 1) : Int) <= t.cy /\ t.cy <= 5 * (i + 1)) /\ t.xs.length = 3) /\ σ.length <= σ'.length := by
 have m7 : 0 <= w.tmod 7 /\ w.tmod 7 < 7 := ⟨Int.tmod_nonneg 7 hw.1, Int.tmod_lt_of_pos w (by omega)⟩
 have hK := KeepT.refl [0, 1, 4, 6, 7, 8, 9, 10, 11, 26, 27] f
 have hlb' : ∀ t ∈ l, (-(5 * (i + 1) : Int) <= t.cy /\ t.cy <= 5 * (i + 1)) /\ t.xs.length = 3 := fun t ht => by
   obtain ⟨h1, h2⟩ := hlb t ht
   exact ⟨by omega, h2⟩
 by_cases c4 : w.tmod 7 = 4
 . have d4 : (w.tmod 7 == 4) = true := by rw [c4]; rfl
   simp only [l1W, jea, jat, e11, hpa, d4, je0, vn, vo, qX, qV, qY, qW, kO, kP, kA, kB, qU, qT, qS, qM, vw, jv, jV, nilOwn, vI, kH, jT, jw, kC, jL, kU, qA, qZ, q9, va, vf, vg, vd, qt, qu, qw, qx, qy, qB, qC, qD, qE, qF, ve, kG, vb, jn, kD, kK, List.append_assoc, List.drop_zero, List.isEmpty_nil, List.getElem?_cons_zero, List.getElem?_cons_succ, List.set_cons_succ, List.flatMap_nil, List.take_zero, Nat.zero_le, Nat.le_refl, Nat.lt_irrefl, List.nil_append, List.length_append, dlt, dge, dle, jS, jN, kJ, kI, bff, btt, vN, tk0, tk1, st0, st1, kQ, jM, jz, qz, vy, jO, jU, kR, vt, qH, Bool.true_or, Bool.or_true, Bool.false_or, Bool.or_false, bne_self_eq_false, Nat.lt_add_one, Nat.lt_succ_self, kT, jZ, Ts.fill, vF, vL, vz, jP, List.map_nil, List.map_cons, List.all_nil, List.all_cons, vG, kN, qe, kh, qg, qQ, qf, qR, qd, kb, jG, ke, qc, qb, kc, kg, ka, jX, jF, j9, qa, k9, j8, Bool.and_true, Bool.true_and, Bool.false_and, Bool.and_false, Bool.not_false, Bool.not_true, List.take_length, List.filter_nil, List.filter_cons, Bool.false_eq_true, jB, jR, j0, j5, jD, jC, jo, jt, jr, kL, jQ, jd, getAll, stepCall, kM, unI, Opd.get, kV, qP, qL, je, ja, jE, kW, kY, kX, tag, qG, jk, jg, jq, jx, jp, jy, List.length_range, jf, jb, ji, jl, jh, jm, jW, jA, j7, kZ, j6, k8, jc, List.set_cons_zero, vr, rv, bin, vH, kv, jJ, ky, qp, kx, kw, ju, jK, qn, qr, qq, ku, kz, qo, jY, jI, kt, ql, kq, qm, kl, jH, kp, qh, ko, qk, Nat.reduceAdd, Nat.reduceSub, Nat.reduceMul, Nat.reduceDiv, Nat.reduceMod, Nat.reducePow, Nat.reduceLT, Nat.reduceLeDiff, Nat.reduceEqDiff, Nat.reduceBEq, Nat.reduceBNe, reduceIte, Int.reduceEq, Int.reduceLT, Int.reduceLE, Int.reduceNeg, Int.reduceToNat, Int.reduceMul, Int.reduceAdd, Int.reduceSub, Int.cast_ofNat_Int, reduceCtorEq, Nat.zero_add, Nat.add_zero, Nat.mul_one, bft, btf, beq_self_eq_true, true_and, and_true, and_self, if_true, if_false, ite_true, ite_false, c0, c1, not_true_eq_false, not_false_eq_true, Bool.true_eq_false, Option.some.injEq, Prod.mk.injEq, exists_eq_left, List.length_map, List.getElem?_map, Option.map_some, List.cons_append, List.length_cons, List.length_nil, List.append_nil, decide_true, decide_false]
   exact ⟨_, _, _, Lp, Lr, l, rt, cy, xs, rfl, (by repeat (first | exact hK | refine KeepT.upd (by decide) ?_)), h, hps, hss, hpa, hxs, by omega, by omega, by omega, hlb', Nat.le_refl _⟩
 have d4 : (w.tmod 7 == 4) = false := by rw [beq_eq_false_iff_ne]; exact c4
 by_cases c5 : w.tmod 7 = 5
 . have d5 : (w.tmod 7 == 5) = true := by rw [c5]; rfl
   simp only [l1W, jea, jat, e11, hpa, d4, d5, je0, vn, vo, qX, qV, qY, qW, kO, kP, kA, kB, qU, qT, qS, qM, vw, jv, jV, nilOwn, vI, kH, jT, jw, kC, jL, kU, qA, qZ, q9, va, vf, vg, vd, qt, qu, qw, qx, qy, qB, qC, qD, qE, qF, ve, kG, vb, jn, kD, kK, List.append_assoc, List.drop_zero, List.isEmpty_nil, List.getElem?_cons_zero, List.getElem?_cons_succ, List.set_cons_succ, List.flatMap_nil, List.take_zero, Nat.zero_le, Nat.le_refl, Nat.lt_irrefl, List.nil_append, List.length_append, dlt, dge, dle, jS, jN, kJ, kI, bff, btt, vN, tk0, tk1, st0, st1, kQ, jM, jz, qz, vy, jO, jU, kR, vt, qH, Bool.true_or, Bool.or_true, Bool.false_or, Bool.or_false, bne_self_eq_false, Nat.lt_add_one, Nat.lt_succ_self, kT, jZ, Ts.fill, vF, vL, vz, jP, List.map_nil, List.map_cons, List.all_nil, List.all_cons, vG, kN, qe, kh, qg, qQ, qf, qR, qd, kb, jG, ke, qc, qb, kc, kg, ka, jX, jF, j9, qa, k9, j8, Bool.and_true, Bool.true_and, Bool.false_and, Bool.and_false, Bool.not_false, Bool.not_true, List.take_length, List.filter_nil, List.filter_cons, Bool.false_eq_true, jB, jR, j0, j5, jD, jC, jo, jt, jr, kL, jQ, jd, getAll, stepCall, kM, unI, Opd.get, kV, qP, qL, je, ja, jE, kW, kY, kX, tag, qG, jk, jg, jq, jx, jp, jy, List.length_range, jf, jb, ji, jl, jh, jm, jW, jA, j7, kZ, j6, k8, jc, List.set_cons_zero, vr, rv, bin, vH, kv, jJ, ky, qp, kx, kw, ju, jK, qn, qr, qq, ku, kz, qo, jY, jI, kt, ql, kq, qm, kl, jH, kp, qh, ko, qk, Nat.reduceAdd, Nat.reduceSub, Nat.reduceMul, Nat.reduceDiv, Nat.reduceMod, Nat.reducePow, Nat.reduceLT, Nat.reduceLeDiff, Nat.reduceEqDiff, Nat.reduceBEq, Nat.reduceBNe, reduceIte, Int.reduceEq, Int.reduceLT, Int.reduceLE, Int.reduceNeg, Int.reduceToNat, Int.reduceMul, Int.reduceAdd, Int.reduceSub, Int.cast_ofNat_Int, reduceCtorEq, Nat.zero_add, Nat.add_zero, Nat.mul_one, bft, btf, beq_self_eq_true, true_and, and_true, and_self, if_true, if_false, ite_true, ite_false, c0, c1, not_true_eq_false, not_false_eq_true, Bool.true_eq_false, Option.some.injEq, Prod.mk.injEq, exists_eq_left, List.length_map, List.getElem?_map, Option.map_some, List.cons_append, List.length_cons, List.length_nil, List.append_nil, decide_true, decide_false]
   exact ⟨_, _, _, Lp, Lr, l, rt, cy, xs, rfl, (by repeat (first | exact hK | refine KeepT.upd (by decide) ?_)), h, hps, hss, hpa, hxs, by omega, by omega, by omega, hlb', Nat.le_refl _⟩
 have d5 : (w.tmod 7 == 5) = false := by rw [beq_eq_false_iff_ne]; exact c5
 by_cases c6 : w.tmod 7 = 6
 . have d6 : (w.tmod 7 == 6) = true := by rw [c6]; rfl
   simp only [l1W, jea, jat, jeb, e11, hpa, d4, d5, d6, je0, vn, vo, qX, qV, qY, qW, kO, kP, kA, kB, qU, qT, qS, qM, vw, jv, jV, nilOwn, vI, kH, jT, jw, kC, jL, kU, qA, qZ, q9, va, vf, vg, vd, qt, qu, qw, qx, qy, qB, qC, qD, qE, qF, ve, kG, vb, jn, kD, kK, List.append_assoc, List.drop_zero, List.isEmpty_nil, List.getElem?_cons_zero, List.getElem?_cons_succ, List.set_cons_succ, List.flatMap_nil, List.take_zero, Nat.zero_le, Nat.le_refl, Nat.lt_irrefl, List.nil_append, List.length_append, dlt, dge, dle, jS, jN, kJ, kI, bff, btt, vN, tk0, tk1, st0, st1, kQ, jM, jz, qz, vy, jO, jU, kR, vt, qH, Bool.true_or, Bool.or_true, Bool.false_or, Bool.or_false, bne_self_eq_false, Nat.lt_add_one, Nat.lt_succ_self, kT, jZ, Ts.fill, vF, vL, vz, jP, List.map_nil, List.map_cons, List.all_nil, List.all_cons, vG, kN, qe, kh, qg, qQ, qf, qR, qd, kb, jG, ke, qc, qb, kc, kg, ka, jX, jF, j9, qa, k9, j8, Bool.and_true, Bool.true_and, Bool.false_and, Bool.and_false, Bool.not_false, Bool.not_true, List.take_length, List.filter_nil, List.filter_cons, Bool.false_eq_true, jB, jR, j0, j5, jD, jC, jo, jt, jr, kL, jQ, jd, getAll, stepCall, kM, unI, Opd.get, kV, qP, qL, je, ja, jE, kW, kY, kX, tag, qG, jk, jg, jq, jx, jp, jy, List.length_range, jf, jb, ji, jl, jh, jm, jW, jA, j7, kZ, j6, k8, jc, List.set_cons_zero, vr, rv, bin, vH, kv, jJ, ky, qp, kx, kw, ju, jK, qn, qr, qq, ku, kz, qo, jY, jI, kt, ql, kq, qm, kl, jH, kp, qh, ko, qk, Nat.reduceAdd, Nat.reduceSub, Nat.reduceMul, Nat.reduceDiv, Nat.reduceMod, Nat.reducePow, Nat.reduceLT, Nat.reduceLeDiff, Nat.reduceEqDiff, Nat.reduceBEq, Nat.reduceBNe, reduceIte, Int.reduceEq, Int.reduceLT, Int.reduceLE, Int.reduceNeg, Int.reduceToNat, Int.reduceMul, Int.reduceAdd, Int.reduceSub, Int.cast_ofNat_Int, reduceCtorEq, Nat.zero_add, Nat.add_zero, Nat.mul_one, bft, btf, beq_self_eq_true, true_and, and_true, and_self, if_true, if_false, ite_true, ite_false, c0, c1, not_true_eq_false, not_false_eq_true, Bool.true_eq_false, Option.some.injEq, Prod.mk.injEq, exists_eq_left, List.length_map, List.getElem?_map, Option.map_some, List.cons_append, List.length_cons, List.length_nil, List.append_nil, decide_true, decide_false]
   generalize hE : evw F jas _ = R
   obtain ⟨f2, σ2, wr2, Lp2, Lr2, rfl, K2, I2, k2⟩ := jbq hE h6 h7 h18 h19 h29 h hP3 hpa (by omega) ha (by (try simp only [je, ja, Nat.reduceAdd, Nat.reduceSub, Nat.reduceMul, Nat.reduceDiv, Nat.reduceMod, Nat.reducePow, Nat.reduceLT, Nat.reduceLeDiff, Nat.reduceEqDiff, Nat.reduceBEq, Nat.reduceBNe, reduceIte, Int.reduceEq, Int.reduceLT, Int.reduceLE, Int.reduceNeg, Int.reduceToNat, Int.reduceMul, Int.reduceAdd, Int.reduceSub, Int.cast_ofNat_Int, reduceCtorEq, Nat.zero_add, Nat.add_zero, Nat.mul_one]) <;> first | exact e7 | rfl) (by (try simp only [je, ja, Nat.reduceAdd, Nat.reduceSub, Nat.reduceMul, Nat.reduceDiv, Nat.reduceMod, Nat.reducePow, Nat.reduceLT, Nat.reduceLeDiff, Nat.reduceEqDiff, Nat.reduceBEq, Nat.reduceBNe, reduceIte, Int.reduceEq, Int.reduceLT, Int.reduceLE, Int.reduceNeg, Int.reduceToNat, Int.reduceMul, Int.reduceAdd, Int.reduceSub, Int.cast_ofNat_Int, reduceCtorEq, Nat.zero_add, Nat.add_zero, Nat.mul_one]) <;> first | exact e8 | rfl) (by (try simp only [je, ja, Nat.reduceAdd, Nat.reduceSub, Nat.reduceMul, Nat.reduceDiv, Nat.reduceMod, Nat.reducePow, Nat.reduceLT, Nat.reduceLeDiff, Nat.reduceEqDiff, Nat.reduceBEq, Nat.reduceBNe, reduceIte, Int.reduceEq, Int.reduceLT, Int.reduceLE, Int.reduceNeg, Int.reduceToNat, Int.reduceMul, Int.reduceAdd, Int.reduceSub, Int.cast_ofNat_Int, reduceCtorEq, Nat.zero_add, Nat.add_zero, Nat.mul_one]) <;> first | exact e11 | rfl)
   have hK2 : KeepT [0, 1, 4, 6, 7, 8, 9, 10, 11, 26, 27] f f2 := KeepT.trans (by repeat (first | exact hK | refine KeepT.upd (by decide) ?_)) K2
   simp only [qM, vw, jv, jV, nilOwn, vI, kH, jT, jw, kC, jL, kU, qA, qZ, q9, va, vf, vg, vd, qt, qu, qw, qx, qy, qB, qC, qD, qE, qF, ve, kG, vb, jn, kD, kK, List.append_assoc, List.drop_zero, List.isEmpty_nil, List.getElem?_cons_zero, List.getElem?_cons_succ, List.set_cons_succ, List.flatMap_nil, List.take_zero, Nat.zero_le, Nat.le_refl, Nat.lt_irrefl, List.nil_append, List.length_append, dlt, dge, dle, jS, jN, kJ, kI, bff, btt, vN, tk0, tk1, st0, st1, kQ, jM, jz, qz, vy, jO, jU, kR, vt, qH, Bool.true_or, Bool.or_true, Bool.false_or, Bool.or_false, bne_self_eq_false, Nat.lt_add_one, Nat.lt_succ_self, kT, jZ, Ts.fill, vF, vL, vz, jP, List.map_nil, List.map_cons, List.all_nil, List.all_cons, vG, kN, qe, kh, qg, qQ, qf, qR, qd, kb, jG, ke, qc, qb, kc, kg, ka, jX, jF, j9, qa, k9, j8, Bool.and_true, Bool.true_and, Bool.false_and, Bool.and_false, Bool.not_false, Bool.not_true, List.take_length, List.filter_nil, List.filter_cons, Bool.false_eq_true, jB, jR, j0, j5, jD, jC, jo, jt, jr, kL, jQ, jd, getAll, stepCall, kM, unI, Opd.get, kV, qP, qL, je, ja, jE, kW, kY, kX, tag, qG, jk, jg, jq, jx, jp, jy, List.length_range, jf, jb, ji, jl, jh, jm, jW, jA, j7, kZ, j6, k8, jc, List.set_cons_zero, vr, rv, bin, vH, kv, jJ, ky, qp, kx, kw, ju, jK, qn, qr, qq, ku, kz, qo, jY, jI, kt, ql, kq, qm, kl, jH, kp, qh, ko, qk, Nat.reduceAdd, Nat.reduceSub, Nat.reduceMul, Nat.reduceDiv, Nat.reduceMod, Nat.reducePow, Nat.reduceLT, Nat.reduceLeDiff, Nat.reduceEqDiff, Nat.reduceBEq, Nat.reduceBNe, reduceIte, Int.reduceEq, Int.reduceLT, Int.reduceLE, Int.reduceNeg, Int.reduceToNat, Int.reduceMul, Int.reduceAdd, Int.reduceSub, Int.cast_ofNat_Int, reduceCtorEq, Nat.zero_add, Nat.add_zero, Nat.mul_one, bft, btf, beq_self_eq_true, true_and, and_true, and_self, if_true, if_false, ite_true, ite_false, c0, c1, not_true_eq_false, not_false_eq_true, Bool.true_eq_false, Option.some.injEq, Prod.mk.injEq, exists_eq_left, List.length_map, List.getElem?_map, Option.map_some, List.cons_append, List.length_cons, List.length_nil, List.append_nil, decide_true, decide_false]
   refine ⟨_, _, _, Lp2, Lr2, _, rt, cy, xs, rfl, hK2, I2, by rw [k2.2 ps hP1, hps], by rw [k2.2 ss hP2, hss], by rw [k2.2 pa hP3, hpa], hxs, ?_, by omega, by omega, fun t ht => hlb' t (List.mem_filter.1 ht).1, k2.1⟩
   have := List.length_filter_le (fun t : It => decide (t.cy <= a)) l
   omega
 . have d6 : (w.tmod 7 == 6) = false := by rw [beq_eq_false_iff_ne]; exact c6
   simp only [l1W, jea, jat, jeb, e11, hpa, d4, d5, d6, je0, vn, vo, qX, qV, qY, qW, kO, kP, kA, kB, qU, qT, qS, qM, vw, jv, jV, nilOwn, vI, kH, jT, jw, kC, jL, kU, qA, qZ, q9, va, vf, vg, vd, qt, qu, qw, qx, qy, qB, qC, qD, qE, qF, ve, kG, vb, jn, kD, kK, List.append_assoc, List.drop_zero, List.isEmpty_nil, List.getElem?_cons_zero, List.getElem?_cons_succ, List.set_cons_succ, List.flatMap_nil, List.take_zero, Nat.zero_le, Nat.le_refl, Nat.lt_irrefl, List.nil_append, List.length_append, dlt, dge, dle, jS, jN, kJ, kI, bff, btt, vN, tk0, tk1, st0, st1, kQ, jM, jz, qz, vy, jO, jU, kR, vt, qH, Bool.true_or, Bool.or_true, Bool.false_or, Bool.or_false, bne_self_eq_false, Nat.lt_add_one, Nat.lt_succ_self, kT, jZ, Ts.fill, vF, vL, vz, jP, List.map_nil, List.map_cons, List.all_nil, List.all_cons, vG, kN, qe, kh, qg, qQ, qf, qR, qd, kb, jG, ke, qc, qb, kc, kg, ka, jX, jF, j9, qa, k9, j8, Bool.and_true, Bool.true_and, Bool.false_and, Bool.and_false, Bool.not_false, Bool.not_true, List.take_length, List.filter_nil, List.filter_cons, Bool.false_eq_true, jB, jR, j0, j5, jD, jC, jo, jt, jr, kL, jQ, jd, getAll, stepCall, kM, unI, Opd.get, kV, qP, qL, je, ja, jE, kW, kY, kX, tag, qG, jk, jg, jq, jx, jp, jy, List.length_range, jf, jb, ji, jl, jh, jm, jW, jA, j7, kZ, j6, k8, jc, List.set_cons_zero, vr, rv, bin, vH, kv, jJ, ky, qp, kx, kw, ju, jK, qn, qr, qq, ku, kz, qo, jY, jI, kt, ql, kq, qm, kl, jH, kp, qh, ko, qk, Nat.reduceAdd, Nat.reduceSub, Nat.reduceMul, Nat.reduceDiv, Nat.reduceMod, Nat.reducePow, Nat.reduceLT, Nat.reduceLeDiff, Nat.reduceEqDiff, Nat.reduceBEq, Nat.reduceBNe, reduceIte, Int.reduceEq, Int.reduceLT, Int.reduceLE, Int.reduceNeg, Int.reduceToNat, Int.reduceMul, Int.reduceAdd, Int.reduceSub, Int.cast_ofNat_Int, reduceCtorEq, Nat.zero_add, Nat.add_zero, Nat.mul_one, bft, btf, beq_self_eq_true, true_and, and_true, and_self, if_true, if_false, ite_true, ite_false, c0, c1, not_true_eq_false, not_false_eq_true, Bool.true_eq_false, Option.some.injEq, Prod.mk.injEq, exists_eq_left, List.length_map, List.getElem?_map, Option.map_some, List.cons_append, List.length_cons, List.length_nil, List.append_nil, decide_true, decide_false]
   generalize hE : evw F jb0 _ = R
   obtain ⟨f2, σ2, wr2, Lp2, Lr2, l2, rt2, cy2, xs2, rfl, K2, hrest⟩ := jdB hE h8 h9 h10 h20 h21 h30 h31 h hP1 hP2 hP3 n1 n2 n3 hps hss hpa hxs hn hi hm hcy hrt hlb (by (try simp only [je, ja, Nat.reduceAdd, Nat.reduceSub, Nat.reduceMul, Nat.reduceDiv, Nat.reduceMod, Nat.reducePow, Nat.reduceLT, Nat.reduceLeDiff, Nat.reduceEqDiff, Nat.reduceBEq, Nat.reduceBNe, reduceIte, Int.reduceEq, Int.reduceLT, Int.reduceLE, Int.reduceNeg, Int.reduceToNat, Int.reduceMul, Int.reduceAdd, Int.reduceSub, Int.cast_ofNat_Int, reduceCtorEq, Nat.zero_add, Nat.add_zero, Nat.mul_one]) <;> first | exact e7 | rfl) (by (try simp only [je, ja, Nat.reduceAdd, Nat.reduceSub, Nat.reduceMul, Nat.reduceDiv, Nat.reduceMod, Nat.reducePow, Nat.reduceLT, Nat.reduceLeDiff, Nat.reduceEqDiff, Nat.reduceBEq, Nat.reduceBNe, reduceIte, Int.reduceEq, Int.reduceLT, Int.reduceLE, Int.reduceNeg, Int.reduceToNat, Int.reduceMul, Int.reduceAdd, Int.reduceSub, Int.cast_ofNat_Int, reduceCtorEq, Nat.zero_add, Nat.add_zero, Nat.mul_one]) <;> first | exact e8 | rfl) (by (try simp only [je, ja, Nat.reduceAdd, Nat.reduceSub, Nat.reduceMul, Nat.reduceDiv, Nat.reduceMod, Nat.reducePow, Nat.reduceLT, Nat.reduceLeDiff, Nat.reduceEqDiff, Nat.reduceBEq, Nat.reduceBNe, reduceIte, Int.reduceEq, Int.reduceLT, Int.reduceLE, Int.reduceNeg, Int.reduceToNat, Int.reduceMul, Int.reduceAdd, Int.reduceSub, Int.cast_ofNat_Int, reduceCtorEq, Nat.zero_add, Nat.add_zero, Nat.mul_one]) <;> first | exact e9 | rfl) (by (try simp only [je, ja, Nat.reduceAdd, Nat.reduceSub, Nat.reduceMul, Nat.reduceDiv, Nat.reduceMod, Nat.reducePow, Nat.reduceLT, Nat.reduceLeDiff, Nat.reduceEqDiff, Nat.reduceBEq, Nat.reduceBNe, reduceIte, Int.reduceEq, Int.reduceLT, Int.reduceLE, Int.reduceNeg, Int.reduceToNat, Int.reduceMul, Int.reduceAdd, Int.reduceSub, Int.cast_ofNat_Int, reduceCtorEq, Nat.zero_add, Nat.add_zero, Nat.mul_one]) <;> first | exact e10 | rfl) (by (try simp only [je, ja, Nat.reduceAdd, Nat.reduceSub, Nat.reduceMul, Nat.reduceDiv, Nat.reduceMod, Nat.reducePow, Nat.reduceLT, Nat.reduceLeDiff, Nat.reduceEqDiff, Nat.reduceBEq, Nat.reduceBNe, reduceIte, Int.reduceEq, Int.reduceLT, Int.reduceLE, Int.reduceNeg, Int.reduceToNat, Int.reduceMul, Int.reduceAdd, Int.reduceSub, Int.cast_ofNat_Int, reduceCtorEq, Nat.zero_add, Nat.add_zero, Nat.mul_one]) <;> first | exact e11 | rfl)
   have hK2 : KeepT [0, 1, 4, 6, 7, 8, 9, 10, 11, 26, 27] f f2 := KeepT.trans (by repeat (first | exact hK | refine KeepT.upd (by decide) ?_)) K2
   simp only [qM, vw, jv, jV, nilOwn, vI, kH, jT, jw, kC, jL, kU, qA, qZ, q9, va, vf, vg, vd, qt, qu, qw, qx, qy, qB, qC, qD, qE, qF, ve, kG, vb, jn, kD, kK, List.append_assoc, List.drop_zero, List.isEmpty_nil, List.getElem?_cons_zero, List.getElem?_cons_succ, List.set_cons_succ, List.flatMap_nil, List.take_zero, Nat.zero_le, Nat.le_refl, Nat.lt_irrefl, List.nil_append, List.length_append, dlt, dge, dle, jS, jN, kJ, kI, bff, btt, vN, tk0, tk1, st0, st1, kQ, jM, jz, qz, vy, jO, jU, kR, vt, qH, Bool.true_or, Bool.or_true, Bool.false_or, Bool.or_false, bne_self_eq_false, Nat.lt_add_one, Nat.lt_succ_self, kT, jZ, Ts.fill, vF, vL, vz, jP, List.map_nil, List.map_cons, List.all_nil, List.all_cons, vG, kN, qe, kh, qg, qQ, qf, qR, qd, kb, jG, ke, qc, qb, kc, kg, ka, jX, jF, j9, qa, k9, j8, Bool.and_true, Bool.true_and, Bool.false_and, Bool.and_false, Bool.not_false, Bool.not_true, List.take_length, List.filter_nil, List.filter_cons, Bool.false_eq_true, jB, jR, j0, j5, jD, jC, jo, jt, jr, kL, jQ, jd, getAll, stepCall, kM, unI, Opd.get, kV, qP, qL, je, ja, jE, kW, kY, kX, tag, qG, jk, jg, jq, jx, jp, jy, List.length_range, jf, jb, ji, jl, jh, jm, jW, jA, j7, kZ, j6, k8, jc, List.set_cons_zero, vr, rv, bin, vH, kv, jJ, ky, qp, kx, kw, ju, jK, qn, qr, qq, ku, kz, qo, jY, jI, kt, ql, kq, qm, kl, jH, kp, qh, ko, qk, Nat.reduceAdd, Nat.reduceSub, Nat.reduceMul, Nat.reduceDiv, Nat.reduceMod, Nat.reducePow, Nat.reduceLT, Nat.reduceLeDiff, Nat.reduceEqDiff, Nat.reduceBEq, Nat.reduceBNe, reduceIte, Int.reduceEq, Int.reduceLT, Int.reduceLE, Int.reduceNeg, Int.reduceToNat, Int.reduceMul, Int.reduceAdd, Int.reduceSub, Int.cast_ofNat_Int, reduceCtorEq, Nat.zero_add, Nat.add_zero, Nat.mul_one, bft, btf, beq_self_eq_true, true_and, and_true, and_self, if_true, if_false, ite_true, ite_false, c0, c1, not_true_eq_false, not_false_eq_true, Bool.true_eq_false, Option.some.injEq, Prod.mk.injEq, exists_eq_left, List.length_map, List.getElem?_map, Option.map_some, List.cons_append, List.length_cons, List.length_nil, List.append_nil, decide_true, decide_false]
   exact ⟨_, _, _, Lp2, Lr2, l2, rt2, cy2, xs2, rfl, hK2, hrest⟩
end Go.Idl.Sp
namespace Go.Idl.Sp
open Go Go.Idl Go.Idl.En
variable {F : vM}
variable {P : List Nat} {px pr : Nat} {ev : Int} {lp lr : List It} {Lp Lr : IVal} {σ : List IObj}
theorem VA (K : Nat) (q : Option It) : ∃ sk rt cy, ze K q = .agg (SC nl1 sk nl3 rt cy) /\ sk.isCell = true := by
 cases q with
 | none => exact ⟨nl1, 0, 0, rfl, rfl⟩
 | some t => exact ⟨_, _, _, rfl, rfl⟩
theorem VB (q : Option It) : ∃ r sk rt cy, JX q = .agg (SC (.sl 1 r []) sk (.sl 3 r []) rt cy) /\ sk.isCell = true := by
 cases q with
 | none => exact ⟨true, nl1, 0, 0, rfl, rfl⟩
 | some t => exact ⟨false, _, _, _, rfl, rfl⟩
/-- What stays as it is. -/
def Same (σ τ : List IObj) : Prop := σ.length <= τ.length /\ ∀ i, i < σ.length -> τ[i]? = σ[i]?
theorem Same.refl (σ : List IObj) : Same σ σ := ⟨Nat.le_refl _, fun _ _ => rfl⟩
theorem Same.app (σ e : List IObj) : Same σ (σ ++ e) := ⟨by simp, fun i hi => List.getElem?_append_left hi⟩
theorem Same.trans {a b c : List IObj} (h : Same a b) (h' : Same b c) : Same a c := ⟨Nat.le_trans h.1 h'.1, fun i hi => (h'.2 i (Nat.lt_of_lt_of_le hi h.1)).trans (h.2 i hi)⟩
theorem Same.get {a b : List IObj} (h : Same a b) {i : Nat} {o : IObj} (ho : a[i]? = some o) : b[i]? = some o := by rw [h.2 i (jj ho), ho]
theorem jgP {τ : List IObj} {pa K : Nat} {w m a k : Int} {q : Option It} {f : Nat -> Option (Nat × IVal)} {wr : List (Nat × Bool)} (hpa : σ[pa]? = some (.cells (AC w m a k))) (ha : -32768 <= a /\ a < 32768)
   (H : cfw F (.f 11) [.ptr px 0, I a] σ = some ⟨false, .tup [ze K q, .bool q.isSome], τ, []⟩)
   (e7 : f 7 = some (7, .ptr px 0)) (e11 : f 11 = some (11, .ptr pa 0)) :
   ∃ f' wr', evw F jgp ⟨E 98 32 8 [] (base f), σ, wr⟩ = some (.normal, ⟨E 98 32 8 [] (base f'), τ ++ [.cells (ze K q).cells], wr'⟩) /\ KeepT [0, 1, 4, 6, 7, 8, 9, 10, 11, 26, 27] f f' /\ f' 12 = some (12, .ptr τ.length 0) /\ f' 13 = some (13, .bool q.isSome) := by
 have w1 : IntKind.i64.wrap a = a := yH (by omega) (by omega)
 have hK := KeepT.refl [0, 1, 4, 6, 7, 8, 9, 10, 11, 26, 27] f
 obtain ⟨sk, rt, cy, hq, hc⟩ := VA K q
 rw [hq] at H ⊢
 simp only [jgp, e7, e11, hpa, H, w1, hc, je1, vn, vo, qX, qV, qY, qW, kO, kP, kA, kB, qU, qT, qS, qM, vw, jv, jV, nilOwn, vI, kH, jT, jw, kC, jL, kU, qA, qZ, q9, va, vf, vg, vd, qt, qu, qw, qx, qy, qB, qC, qD, qE, qF, ve, kG, vb, jn, kD, kK, List.append_assoc, List.drop_zero, List.isEmpty_nil, List.getElem?_cons_zero, List.getElem?_cons_succ, List.set_cons_succ, List.flatMap_nil, List.take_zero, Nat.zero_le, Nat.le_refl, Nat.lt_irrefl, List.nil_append, List.length_append, dlt, dge, dle, jS, jN, kJ, kI, bff, btt, vN, tk0, tk1, st0, st1, kQ, jM, jz, qz, vy, jO, jU, kR, vt, qH, Bool.true_or, Bool.or_true, Bool.false_or, Bool.or_false, bne_self_eq_false, Nat.lt_add_one, Nat.lt_succ_self, kT, jZ, Ts.fill, vF, vL, vz, jP, List.map_nil, List.map_cons, List.all_nil, List.all_cons, vG, kN, qe, kh, qg, qQ, qf, qR, qd, kb, jG, ke, qc, qb, kc, kg, ka, jX, jF, j9, qa, k9, j8, Bool.and_true, Bool.true_and, Bool.false_and, Bool.and_false, Bool.not_false, Bool.not_true, List.take_length, List.filter_nil, List.filter_cons, Bool.false_eq_true, jB, jR, j0, j5, jD, jC, jo, jt, jr, kL, jQ, jd, getAll, stepCall, kM, unI, Opd.get, kV, qP, qL, je, ja, jE, kW, kY, kX, tag, qG, jk, jg, jq, jx, jp, jy, List.length_range, jf, jb, ji, jl, jh, jm, jW, jA, j7, kZ, j6, k8, jc, List.set_cons_zero, vr, rv, bin, vH, kv, jJ, ky, qp, kx, kw, ju, jK, qn, qr, qq, ku, kz, qo, jY, jI, kt, ql, kq, qm, kl, jH, kp, qh, ko, qk, Nat.reduceAdd, Nat.reduceSub, Nat.reduceMul, Nat.reduceDiv, Nat.reduceMod, Nat.reducePow, Nat.reduceLT, Nat.reduceLeDiff, Nat.reduceEqDiff, Nat.reduceBEq, Nat.reduceBNe, reduceIte, Int.reduceEq, Int.reduceLT, Int.reduceLE, Int.reduceNeg, Int.reduceToNat, Int.reduceMul, Int.reduceAdd, Int.reduceSub, Int.cast_ofNat_Int, reduceCtorEq, Nat.zero_add, Nat.add_zero, Nat.mul_one, bft, btf, beq_self_eq_true, true_and, and_true, and_self, if_true, if_false, ite_true, ite_false, c0, c1, not_true_eq_false, not_false_eq_true, Bool.true_eq_false, Option.some.injEq, Prod.mk.injEq, exists_eq_left, List.length_map, List.getElem?_map, Option.map_some, List.cons_append, List.length_cons, List.length_nil, List.append_nil, decide_true, decide_false]
 exact ⟨_, _, rfl, (by repeat (first | exact hK | refine KeepT.upd (by decide) ?_)), (by (try simp only [je, ja, Nat.reduceAdd, Nat.reduceSub, Nat.reduceMul, Nat.reduceDiv, Nat.reduceMod, Nat.reducePow, Nat.reduceLT, Nat.reduceLeDiff, Nat.reduceEqDiff, Nat.reduceBEq, Nat.reduceBNe, reduceIte, Int.reduceEq, Int.reduceLT, Int.reduceLE, Int.reduceNeg, Int.reduceToNat, Int.reduceMul, Int.reduceAdd, Int.reduceSub, Int.cast_ofNat_Int, reduceCtorEq, Nat.zero_add, Nat.add_zero, Nat.mul_one]) <;> rfl), (by (try simp only [je, ja, Nat.reduceAdd, Nat.reduceSub, Nat.reduceMul, Nat.reduceDiv, Nat.reduceMod, Nat.reducePow, Nat.reduceLT, Nat.reduceLeDiff, Nat.reduceEqDiff, Nat.reduceBEq, Nat.reduceBNe, reduceIte, Int.reduceEq, Int.reduceLT, Int.reduceLE, Int.reduceNeg, Int.reduceToNat, Int.reduceMul, Int.reduceAdd, Int.reduceSub, Int.cast_ofNat_Int, reduceCtorEq, Nat.zero_add, Nat.add_zero, Nat.mul_one]) <;> rfl)⟩
theorem jgQ {pa : Nat} {w m a k : Int} {q : Option It} {f : Nat -> Option (Nat × IVal)} {wr wr0 : List (Nat × Bool)} (hpa : σ[pa]? = some (.cells (AC w m a k))) (ha : -32768 <= a /\ a < 32768)
   (H : cfw F (.f 12) [.ptr pr 0, I a] σ = some ⟨false, .tup [JX q, .bool q.isSome], σ, wr0⟩)
   (e8 : f 8 = some (8, .ptr pr 0)) (e11 : f 11 = some (11, .ptr pa 0)) :
   ∃ f' wr', evw F jgq ⟨E 98 32 8 [] (base f), σ, wr⟩ = some (.normal, ⟨E 98 32 8 [] (base f'), σ ++ [.cells (JX q).cells], wr'⟩) /\ KeepT [0, 1, 4, 6, 7, 8, 9, 10, 11, 26, 27, 12, 13] f f' /\ f' 14 = some (14, .ptr σ.length 0) /\ f' 15 = some (15, .bool q.isSome) := by
 have w1 : IntKind.i64.wrap a = a := yH (by omega) (by omega)
 have hK := KeepT.refl [0, 1, 4, 6, 7, 8, 9, 10, 11, 26, 27, 12, 13] f
 obtain ⟨r, sk, rt, cy, hq, hc⟩ := VB q
 rw [hq] at H ⊢
 simp only [jgq, e8, e11, hpa, H, w1, hc, je1, vn, vo, qX, qV, qY, qW, kO, kP, kA, kB, qU, qT, qS, qM, vw, jv, jV, nilOwn, vI, kH, jT, jw, kC, jL, kU, qA, qZ, q9, va, vf, vg, vd, qt, qu, qw, qx, qy, qB, qC, qD, qE, qF, ve, kG, vb, jn, kD, kK, List.append_assoc, List.drop_zero, List.isEmpty_nil, List.getElem?_cons_zero, List.getElem?_cons_succ, List.set_cons_succ, List.flatMap_nil, List.take_zero, Nat.zero_le, Nat.le_refl, Nat.lt_irrefl, List.nil_append, List.length_append, dlt, dge, dle, jS, jN, kJ, kI, bff, btt, vN, tk0, tk1, st0, st1, kQ, jM, jz, qz, vy, jO, jU, kR, vt, qH, Bool.true_or, Bool.or_true, Bool.false_or, Bool.or_false, bne_self_eq_false, Nat.lt_add_one, Nat.lt_succ_self, kT, jZ, Ts.fill, vF, vL, vz, jP, List.map_nil, List.map_cons, List.all_nil, List.all_cons, vG, kN, qe, kh, qg, qQ, qf, qR, qd, kb, jG, ke, qc, qb, kc, kg, ka, jX, jF, j9, qa, k9, j8, Bool.and_true, Bool.true_and, Bool.false_and, Bool.and_false, Bool.not_false, Bool.not_true, List.take_length, List.filter_nil, List.filter_cons, Bool.false_eq_true, jB, jR, j0, j5, jD, jC, jo, jt, jr, kL, jQ, jd, getAll, stepCall, kM, unI, Opd.get, kV, qP, qL, je, ja, jE, kW, kY, kX, tag, qG, jk, jg, jq, jx, jp, jy, List.length_range, jf, jb, ji, jl, jh, jm, jW, jA, j7, kZ, j6, k8, jc, List.set_cons_zero, vr, rv, bin, vH, kv, jJ, ky, qp, kx, kw, ju, jK, qn, qr, qq, ku, kz, qo, jY, jI, kt, ql, kq, qm, kl, jH, kp, qh, ko, qk, Nat.reduceAdd, Nat.reduceSub, Nat.reduceMul, Nat.reduceDiv, Nat.reduceMod, Nat.reducePow, Nat.reduceLT, Nat.reduceLeDiff, Nat.reduceEqDiff, Nat.reduceBEq, Nat.reduceBNe, reduceIte, Int.reduceEq, Int.reduceLT, Int.reduceLE, Int.reduceNeg, Int.reduceToNat, Int.reduceMul, Int.reduceAdd, Int.reduceSub, Int.cast_ofNat_Int, reduceCtorEq, Nat.zero_add, Nat.add_zero, Nat.mul_one, bft, btf, beq_self_eq_true, true_and, and_true, and_self, if_true, if_false, ite_true, ite_false, c0, c1, not_true_eq_false, not_false_eq_true, Bool.true_eq_false, Option.some.injEq, Prod.mk.injEq, exists_eq_left, List.length_map, List.getElem?_map, Option.map_some, List.cons_append, List.length_cons, List.length_nil, List.append_nil, decide_true, decide_false]
 exact ⟨_, _, rfl, (by repeat (first | exact hK | refine KeepT.upd (by decide) ?_)), (by (try simp only [je, ja, Nat.reduceAdd, Nat.reduceSub, Nat.reduceMul, Nat.reduceDiv, Nat.reduceMod, Nat.reducePow, Nat.reduceLT, Nat.reduceLeDiff, Nat.reduceEqDiff, Nat.reduceBEq, Nat.reduceBNe, reduceIte, Int.reduceEq, Int.reduceLT, Int.reduceLE, Int.reduceNeg, Int.reduceToNat, Int.reduceMul, Int.reduceAdd, Int.reduceSub, Int.cast_ofNat_Int, reduceCtorEq, Nat.zero_add, Nat.add_zero, Nat.mul_one]) <;> rfl), (by (try simp only [je, ja, Nat.reduceAdd, Nat.reduceSub, Nat.reduceMul, Nat.reduceDiv, Nat.reduceMod, Nat.reducePow, Nat.reduceLT, Nat.reduceLeDiff, Nat.reduceEqDiff, Nat.reduceBEq, Nat.reduceBNe, reduceIte, Int.reduceEq, Int.reduceLT, Int.reduceLE, Int.reduceNeg, Int.reduceToNat, Int.reduceMul, Int.reduceAdd, Int.reduceSub, Int.cast_ofNat_Int, reduceCtorEq, Nat.zero_add, Nat.add_zero, Nat.mul_one]) <;> rfl)⟩
theorem jgR {τ : List IObj} {pa K : Nat} {w m a k : Int} {q : Option It} {f : Nat -> Option (Nat × IVal)} {wr : List (Nat × Bool)} (hpa : σ[pa]? = some (.cells (AC w m a k))) (ha : -32768 <= a /\ a < 32768)
   (H : cfw F (.f 13) [.ptr px 0, (.int .u64 (IntKind.u16.wrap a))] σ = some ⟨false, .tup [ze K q, .bool q.isSome], τ, []⟩)
   (e7 : f 7 = some (7, .ptr px 0)) (e11 : f 11 = some (11, .ptr pa 0)) :
   ∃ f' wr', evw F jgr ⟨E 98 32 8 [] (base f), σ, wr⟩ = some (.normal, ⟨E 98 32 8 [] (base f'), τ ++ [.cells (ze K q).cells], wr'⟩) /\ KeepT [0, 1, 4, 6, 7, 8, 9, 10, 11, 26, 27, 12, 13, 14, 15] f f' /\ f' 16 = some (16, .ptr τ.length 0) /\ f' 17 = some (17, .bool q.isSome) := by
 have w1 : IntKind.u64.wrap (IntKind.u16.wrap a) = IntKind.u16.wrap a := by have := jbi a; exact Vw (by omega) (by omega)
 have hK := KeepT.refl [0, 1, 4, 6, 7, 8, 9, 10, 11, 26, 27, 12, 13, 14, 15] f
 obtain ⟨sk, rt, cy, hq, hc⟩ := VA K q
 rw [hq] at H ⊢
 simp only [jgr, e7, e11, hpa, H, w1, hc, je1, vn, vo, qX, qV, qY, qW, kO, kP, kA, kB, qU, qT, qS, qM, vw, jv, jV, nilOwn, vI, kH, jT, jw, kC, jL, kU, qA, qZ, q9, va, vf, vg, vd, qt, qu, qw, qx, qy, qB, qC, qD, qE, qF, ve, kG, vb, jn, kD, kK, List.append_assoc, List.drop_zero, List.isEmpty_nil, List.getElem?_cons_zero, List.getElem?_cons_succ, List.set_cons_succ, List.flatMap_nil, List.take_zero, Nat.zero_le, Nat.le_refl, Nat.lt_irrefl, List.nil_append, List.length_append, dlt, dge, dle, jS, jN, kJ, kI, bff, btt, vN, tk0, tk1, st0, st1, kQ, jM, jz, qz, vy, jO, jU, kR, vt, qH, Bool.true_or, Bool.or_true, Bool.false_or, Bool.or_false, bne_self_eq_false, Nat.lt_add_one, Nat.lt_succ_self, kT, jZ, Ts.fill, vF, vL, vz, jP, List.map_nil, List.map_cons, List.all_nil, List.all_cons, vG, kN, qe, kh, qg, qQ, qf, qR, qd, kb, jG, ke, qc, qb, kc, kg, ka, jX, jF, j9, qa, k9, j8, Bool.and_true, Bool.true_and, Bool.false_and, Bool.and_false, Bool.not_false, Bool.not_true, List.take_length, List.filter_nil, List.filter_cons, Bool.false_eq_true, jB, jR, j0, j5, jD, jC, jo, jt, jr, kL, jQ, jd, getAll, stepCall, kM, unI, Opd.get, kV, qP, qL, je, ja, jE, kW, kY, kX, tag, qG, jk, jg, jq, jx, jp, jy, List.length_range, jf, jb, ji, jl, jh, jm, jW, jA, j7, kZ, j6, k8, jc, List.set_cons_zero, vr, rv, bin, vH, kv, jJ, ky, qp, kx, kw, ju, jK, qn, qr, qq, ku, kz, qo, jY, jI, kt, ql, kq, qm, kl, jH, kp, qh, ko, qk, Nat.reduceAdd, Nat.reduceSub, Nat.reduceMul, Nat.reduceDiv, Nat.reduceMod, Nat.reducePow, Nat.reduceLT, Nat.reduceLeDiff, Nat.reduceEqDiff, Nat.reduceBEq, Nat.reduceBNe, reduceIte, Int.reduceEq, Int.reduceLT, Int.reduceLE, Int.reduceNeg, Int.reduceToNat, Int.reduceMul, Int.reduceAdd, Int.reduceSub, Int.cast_ofNat_Int, reduceCtorEq, Nat.zero_add, Nat.add_zero, Nat.mul_one, bft, btf, beq_self_eq_true, true_and, and_true, and_self, if_true, if_false, ite_true, ite_false, c0, c1, not_true_eq_false, not_false_eq_true, Bool.true_eq_false, Option.some.injEq, Prod.mk.injEq, exists_eq_left, List.length_map, List.getElem?_map, Option.map_some, List.cons_append, List.length_cons, List.length_nil, List.append_nil, decide_true, decide_false]
 exact ⟨_, _, rfl, (by repeat (first | exact hK | refine KeepT.upd (by decide) ?_)), (by (try simp only [je, ja, Nat.reduceAdd, Nat.reduceSub, Nat.reduceMul, Nat.reduceDiv, Nat.reduceMod, Nat.reducePow, Nat.reduceLT, Nat.reduceLeDiff, Nat.reduceEqDiff, Nat.reduceBEq, Nat.reduceBNe, reduceIte, Int.reduceEq, Int.reduceLT, Int.reduceLE, Int.reduceNeg, Int.reduceToNat, Int.reduceMul, Int.reduceAdd, Int.reduceSub, Int.cast_ofNat_Int, reduceCtorEq, Nat.zero_add, Nat.add_zero, Nat.mul_one]) <;> rfl), (by (try simp only [je, ja, Nat.reduceAdd, Nat.reduceSub, Nat.reduceMul, Nat.reduceDiv, Nat.reduceMod, Nat.reducePow, Nat.reduceLT, Nat.reduceLeDiff, Nat.reduceEqDiff, Nat.reduceBEq, Nat.reduceBNe, reduceIte, Int.reduceEq, Int.reduceLT, Int.reduceLE, Int.reduceNeg, Int.reduceToNat, Int.reduceMul, Int.reduceAdd, Int.reduceSub, Int.cast_ofNat_Int, reduceCtorEq, Nat.zero_add, Nat.add_zero, Nat.mul_one]) <;> rfl)⟩
theorem jgS {pa : Nat} {w m a k : Int} {q : Option It} {f : Nat -> Option (Nat × IVal)} {wr wr0 : List (Nat × Bool)} (hpa : σ[pa]? = some (.cells (AC w m a k))) (ha : -32768 <= a /\ a < 32768)
   (H : cfw F (.f 14) [.ptr pr 0, (.int .u64 (IntKind.u16.wrap a))] σ = some ⟨false, .tup [JX q, .bool q.isSome], σ, wr0⟩)
   (e8 : f 8 = some (8, .ptr pr 0)) (e11 : f 11 = some (11, .ptr pa 0)) :
   ∃ f' wr', evw F jgs ⟨E 98 32 8 [] (base f), σ, wr⟩ = some (.normal, ⟨E 98 32 8 [] (base f'), σ ++ [.cells (JX q).cells], wr'⟩) /\ KeepT [0, 1, 4, 6, 7, 8, 9, 10, 11, 26, 27, 12, 13, 14, 15, 16, 17] f f' /\ f' 18 = some (18, .ptr σ.length 0) /\ f' 19 = some (19, .bool q.isSome) := by
 have w1 : IntKind.u64.wrap (IntKind.u16.wrap a) = IntKind.u16.wrap a := by have := jbi a; exact Vw (by omega) (by omega)
 have hK := KeepT.refl [0, 1, 4, 6, 7, 8, 9, 10, 11, 26, 27, 12, 13, 14, 15, 16, 17] f
 obtain ⟨r, sk, rt, cy, hq, hc⟩ := VB q
 rw [hq] at H ⊢
 simp only [jgs, e8, e11, hpa, H, w1, hc, je1, vn, vo, qX, qV, qY, qW, kO, kP, kA, kB, qU, qT, qS, qM, vw, jv, jV, nilOwn, vI, kH, jT, jw, kC, jL, kU, qA, qZ, q9, va, vf, vg, vd, qt, qu, qw, qx, qy, qB, qC, qD, qE, qF, ve, kG, vb, jn, kD, kK, List.append_assoc, List.drop_zero, List.isEmpty_nil, List.getElem?_cons_zero, List.getElem?_cons_succ, List.set_cons_succ, List.flatMap_nil, List.take_zero, Nat.zero_le, Nat.le_refl, Nat.lt_irrefl, List.nil_append, List.length_append, dlt, dge, dle, jS, jN, kJ, kI, bff, btt, vN, tk0, tk1, st0, st1, kQ, jM, jz, qz, vy, jO, jU, kR, vt, qH, Bool.true_or, Bool.or_true, Bool.false_or, Bool.or_false, bne_self_eq_false, Nat.lt_add_one, Nat.lt_succ_self, kT, jZ, Ts.fill, vF, vL, vz, jP, List.map_nil, List.map_cons, List.all_nil, List.all_cons, vG, kN, qe, kh, qg, qQ, qf, qR, qd, kb, jG, ke, qc, qb, kc, kg, ka, jX, jF, j9, qa, k9, j8, Bool.and_true, Bool.true_and, Bool.false_and, Bool.and_false, Bool.not_false, Bool.not_true, List.take_length, List.filter_nil, List.filter_cons, Bool.false_eq_true, jB, jR, j0, j5, jD, jC, jo, jt, jr, kL, jQ, jd, getAll, stepCall, kM, unI, Opd.get, kV, qP, qL, je, ja, jE, kW, kY, kX, tag, qG, jk, jg, jq, jx, jp, jy, List.length_range, jf, jb, ji, jl, jh, jm, jW, jA, j7, kZ, j6, k8, jc, List.set_cons_zero, vr, rv, bin, vH, kv, jJ, ky, qp, kx, kw, ju, jK, qn, qr, qq, ku, kz, qo, jY, jI, kt, ql, kq, qm, kl, jH, kp, qh, ko, qk, Nat.reduceAdd, Nat.reduceSub, Nat.reduceMul, Nat.reduceDiv, Nat.reduceMod, Nat.reducePow, Nat.reduceLT, Nat.reduceLeDiff, Nat.reduceEqDiff, Nat.reduceBEq, Nat.reduceBNe, reduceIte, Int.reduceEq, Int.reduceLT, Int.reduceLE, Int.reduceNeg, Int.reduceToNat, Int.reduceMul, Int.reduceAdd, Int.reduceSub, Int.cast_ofNat_Int, reduceCtorEq, Nat.zero_add, Nat.add_zero, Nat.mul_one, bft, btf, beq_self_eq_true, true_and, and_true, and_self, if_true, if_false, ite_true, ite_false, c0, c1, not_true_eq_false, not_false_eq_true, Bool.true_eq_false, Option.some.injEq, Prod.mk.injEq, exists_eq_left, List.length_map, List.getElem?_map, Option.map_some, List.cons_append, List.length_cons, List.length_nil, List.append_nil, decide_true, decide_false]
 exact ⟨_, _, rfl, (by repeat (first | exact hK | refine KeepT.upd (by decide) ?_)), (by (try simp only [je, ja, Nat.reduceAdd, Nat.reduceSub, Nat.reduceMul, Nat.reduceDiv, Nat.reduceMod, Nat.reducePow, Nat.reduceLT, Nat.reduceLeDiff, Nat.reduceEqDiff, Nat.reduceBEq, Nat.reduceBNe, reduceIte, Int.reduceEq, Int.reduceLT, Int.reduceLE, Int.reduceNeg, Int.reduceToNat, Int.reduceMul, Int.reduceAdd, Int.reduceSub, Int.cast_ofNat_Int, reduceCtorEq, Nat.zero_add, Nat.add_zero, Nat.mul_one]) <;> rfl), (by (try simp only [je, ja, Nat.reduceAdd, Nat.reduceSub, Nat.reduceMul, Nat.reduceDiv, Nat.reduceMod, Nat.reducePow, Nat.reduceLT, Nat.reduceLeDiff, Nat.reduceEqDiff, Nat.reduceBEq, Nat.reduceBNe, reduceIte, Int.reduceEq, Int.reduceLT, Int.reduceLE, Int.reduceNeg, Int.reduceToNat, Int.reduceMul, Int.reduceAdd, Int.reduceSub, Int.cast_ofNat_Int, reduceCtorEq, Nat.zero_add, Nat.add_zero, Nat.mul_one]) <;> rfl)⟩
/-! ### they are alike -/
def SP (K : Nat) : Option It -> List IVal
 | some t => SC z1 (.rs 1 K 0 3) z1 t.rt t.cy
 | none => SC z1 z1 z1 0 0
def SR : Option It -> List IVal
 | some t => SC y1 (.sl 0 false (t.xs.map J)) y1 t.rt t.cy
 | none => SC z1 z1 z1 0 0
theorem jc4 (K : Nat) (q : Option It) : vl (some 55) (ze K q).cells 0 = some (.agg (ze K q).cells) := by cases q <;> rfl
theorem jc5 (q : Option It) : vl (some 55) (JX q).cells 0 = some (.agg (JX q).cells) := by cases q <;> rfl
theorem jeX (K : Nat) (q : Option It) : (ze K q).cells.map un1 = SP K q := by cases q <;> rfl
theorem jeY (q : Option It) : (JX q).cells.map un1 = SR q := by cases q <;> rfl
theorem jfS (K : Nat) (q : Option It) : (SP K q).map un1 = SP K q := by cases q <;> rfl
theorem jfT (q : Option It) : (SR q).map un1 = SR q := by cases q <;> rfl
theorem jg2 (h10 : F 10 = some Zd) (K : Nat) (q : Option It) (σ : List IObj) : ∃ e, cfw F (.f 10) [.agg (SP K q)] σ = some ⟨false, .agg (SP K q), σ ++ e, []⟩ := by
 cases q with
 | none => exact je4 h10
 | some t => exact je5 h10
theorem jdl (h : F 15 = some jbo) (h25 : F 25 = some ZC) (h26 : F 26 = some jbZ) {K : Nat} {q : Option It} (hK : ∀ t, q = some t -> t.xs.length = 3 /\ σ[K]? = some (.cells (t.xs.map J))) : cfw F (.f 15) [.agg (SP K q), .agg (SR q)] σ = some ⟨false, .bool true, σ, []⟩ := by
 cases q with
 | none => exact jcz h h25 h26
 | some t =>
   obtain ⟨h1, h2⟩ := hK t rfl
   obtain ⟨id, rt, cy, xs⟩ := t
   match xs, h1 with
   | [x, y, z], _ => exact jeH h h25 h26 h2
theorem Inv.len16 (h16 : F 16 = some jal) (h : Inv P px pr ev lp lr Lp Lr σ) : cfw F (.f 16) [.ptr px 0] σ = some ⟨false, I lp.length, σ, []⟩ := by
 have hp := h.hp
 rcases h.pl with ⟨o, h1, h2⟩ | ⟨id, tl, h1, h2⟩
 . rw [h1] at hp; rw [h2]; exact jav h16 hp
 . rw [h1] at hp; exact Sp.len16 h16 hp
theorem jfb (h10 : F 10 = some Zd) (h15 : F 15 = some jbo) (h16 : F 16 = some jal) (h25 : F 25 = some ZC) (h26 : F 26 = some jbZ) {l : List It} (h : Inv P px pr ev l l Lp Lr σ) {b c d e K K2 : Nat} {q q2 : Option It} {f : Nat -> Option (Nat × IVal)} {wr : List (Nat × Bool)}
   (hb : σ[b]? = some (.cells (ze K q).cells)) (hc : σ[c]? = some (.cells (JX q).cells)) (hd : σ[d]? = some (.cells (ze K2 q2).cells)) (he : σ[e]? = some (.cells (JX q2).cells))
   (hK : ∀ t, q = some t -> t.xs.length = 3 /\ σ[K]? = some (.cells (t.xs.map J))) (hK2 : ∀ t, q2 = some t -> t.xs.length = 3 /\ σ[K2]? = some (.cells (t.xs.map J)))
   (e7 : f 7 = some (7, .ptr px 0)) (e8 : f 8 = some (8, .ptr pr 0)) (e12 : f 12 = some (12, .ptr b 0)) (e13 : f 13 = some (13, .bool q.isSome)) (e14 : f 14 = some (14, .ptr c 0)) (e15 : f 15 = some (15, .bool q.isSome)) (e16 : f 16 = some (16, .ptr d 0)) (e17 : f 17 = some (17, .bool q2.isSome)) (e18 : f 18 = some (18, .ptr e 0)) (e19 : f 19 = some (19, .bool q2.isSome)) :
   ∃ f' wr' ex, evw F jfu ⟨E 98 32 8 [] (base f), σ, wr⟩ = some (.normal, ⟨E 98 32 8 [] (base f'), σ ++ ex, wr'⟩) /\ KeepT [0, 1, 4, 6, 7, 8, 9, 10, 11, 26, 27, 12, 13] f f' := by
 obtain ⟨x1, H1⟩ := jg2 h10 K q σ
 have H2 := jdl h15 h25 h26 (σ := σ ++ x1) (fun t ht => ⟨(hK t ht).1, vk (hK t ht).2 x1⟩)
 obtain ⟨x2, H3⟩ := jg2 h10 K2 q2 (σ ++ x1)
 have H4 := jdl h15 h25 h26 (σ := σ ++ x1 ++ x2) (fun t ht => ⟨(hK2 t ht).1, vk (vk (hK2 t ht).2 x1) x2⟩)
 have I2 := (h.grow (σ' := σ ++ x1 ++ x2) (by rw [List.length_append, List.length_append]; omega) (fun i hi => by rw [List.getElem?_append_left (by rw [List.length_append]; omega), List.getElem?_append_left hi]) [] (fun i hi => by cases hi))
 have H5 := I2.len16 h16
 rw [List.append_assoc] at H3 H4 H5 I2
 have hr2 := I2.hr
 have hd2 := vk hd
 have he2 := vk he
 have hr3 := vk h.hr
 have lc := jj hc
 have le := jj he
 have lpr := jj h.hr
 have q1 : decide (c < σ.length) = true := decide_eq_true lc
 have q3 : ∀ n, decide (e < σ.length + n) = true := fun n => decide_eq_true (by omega)
 have q4 : ∀ n, decide (pr < σ.length + n) = true := fun n => decide_eq_true (by omega)
 have hKp := KeepT.refl [0, 1, 4, 6, 7, 8, 9, 10, 11, 26, 27, 12, 13] f
 have d1 : ((l.length : Int) != (l.length : Int)) = false := bne_self_eq_false _
 rcases h.rl with ⟨o, hl1, hl2⟩ | ⟨id, tl, hl1, hl2⟩
 . rw [hl1] at hr2 hr3
   have d1 : ((l.length : Int) != 0) = false := by rw [hl2]; rfl
   simp only [jfu, e7, e8, e12, e13, e14, e15, e16, e17, e18, e19, hb, hc, hd, he, hd2, he2, hr2, hr3, H1, H2, H3, H4, H5, jc4, jc5, jeX, jeY, jfS, jfT, q1, q3, q4, d1, vn, vo, qX, qV, qY, qW, kO, kP, kA, kB, qU, qT, qS, qM, vw, jv, jV, nilOwn, vI, kH, jT, jw, kC, jL, kU, qA, qZ, q9, va, vf, vg, vd, qt, qu, qw, qx, qy, qB, qC, qD, qE, qF, ve, kG, vb, jn, kD, kK, List.append_assoc, List.drop_zero, List.isEmpty_nil, List.getElem?_cons_zero, List.getElem?_cons_succ, List.set_cons_succ, List.flatMap_nil, List.take_zero, Nat.zero_le, Nat.le_refl, Nat.lt_irrefl, List.nil_append, List.length_append, dlt, dge, dle, jS, jN, kJ, kI, bff, btt, vN, tk0, tk1, st0, st1, kQ, jM, jz, qz, vy, jO, jU, kR, vt, qH, Bool.true_or, Bool.or_true, Bool.false_or, Bool.or_false, bne_self_eq_false, Nat.lt_add_one, Nat.lt_succ_self, kT, jZ, Ts.fill, vF, vL, vz, jP, List.map_nil, List.map_cons, List.all_nil, List.all_cons, vG, kN, qe, kh, qg, qQ, qf, qR, qd, kb, jG, ke, qc, qb, kc, kg, ka, jX, jF, j9, qa, k9, j8, Bool.and_true, Bool.true_and, Bool.false_and, Bool.and_false, Bool.not_false, Bool.not_true, List.take_length, List.filter_nil, List.filter_cons, Bool.false_eq_true, jB, jR, j0, j5, jD, jC, jo, jt, jr, kL, jQ, jd, getAll, stepCall, kM, unI, Opd.get, kV, qP, qL, je, ja, jE, kW, kY, kX, tag, qG, jk, jg, jq, jx, jp, jy, List.length_range, jf, jb, ji, jl, jh, jm, jW, jA, j7, kZ, j6, k8, jc, List.set_cons_zero, vr, rv, bin, vH, kv, jJ, ky, qp, kx, kw, ju, jK, qn, qr, qq, ku, kz, qo, jY, jI, kt, ql, kq, qm, kl, jH, kp, qh, ko, qk, Nat.reduceAdd, Nat.reduceSub, Nat.reduceMul, Nat.reduceDiv, Nat.reduceMod, Nat.reducePow, Nat.reduceLT, Nat.reduceLeDiff, Nat.reduceEqDiff, Nat.reduceBEq, Nat.reduceBNe, reduceIte, Int.reduceEq, Int.reduceLT, Int.reduceLE, Int.reduceNeg, Int.reduceToNat, Int.reduceMul, Int.reduceAdd, Int.reduceSub, Int.cast_ofNat_Int, reduceCtorEq, Nat.zero_add, Nat.add_zero, Nat.mul_one, bft, btf, beq_self_eq_true, true_and, and_true, and_self, if_true, if_false, ite_true, ite_false, c0, c1, not_true_eq_false, not_false_eq_true, Bool.true_eq_false, Option.some.injEq, Prod.mk.injEq, exists_eq_left, List.length_map, List.getElem?_map, Option.map_some, List.cons_append, List.length_cons, List.length_nil, List.append_nil, decide_true, decide_false]
   exact ⟨_, _, _, rfl, (by repeat (first | exact hKp | refine KeepT.upd (by decide) ?_))⟩
 . rw [hl1] at hr2 hr3
   simp only [jfu, e7, e8, e12, e13, e14, e15, e16, e17, e18, e19, hb, hc, hd, he, hd2, he2, hr2, hr3, H1, H2, H3, H4, H5, jc4, jc5, jeX, jeY, jfS, jfT, q1, q3, q4, d1, vn, vo, qX, qV, qY, qW, kO, kP, kA, kB, qU, qT, qS, qM, vw, jv, jV, nilOwn, vI, kH, jT, jw, kC, jL, kU, qA, qZ, q9, va, vf, vg, vd, qt, qu, qw, qx, qy, qB, qC, qD, qE, qF, ve, kG, vb, jn, kD, kK, List.append_assoc, List.drop_zero, List.isEmpty_nil, List.getElem?_cons_zero, List.getElem?_cons_succ, List.set_cons_succ, List.flatMap_nil, List.take_zero, Nat.zero_le, Nat.le_refl, Nat.lt_irrefl, List.nil_append, List.length_append, dlt, dge, dle, jS, jN, kJ, kI, bff, btt, vN, tk0, tk1, st0, st1, kQ, jM, jz, qz, vy, jO, jU, kR, vt, qH, Bool.true_or, Bool.or_true, Bool.false_or, Bool.or_false, bne_self_eq_false, Nat.lt_add_one, Nat.lt_succ_self, kT, jZ, Ts.fill, vF, vL, vz, jP, List.map_nil, List.map_cons, List.all_nil, List.all_cons, vG, kN, qe, kh, qg, qQ, qf, qR, qd, kb, jG, ke, qc, qb, kc, kg, ka, jX, jF, j9, qa, k9, j8, Bool.and_true, Bool.true_and, Bool.false_and, Bool.and_false, Bool.not_false, Bool.not_true, List.take_length, List.filter_nil, List.filter_cons, Bool.false_eq_true, jB, jR, j0, j5, jD, jC, jo, jt, jr, kL, jQ, jd, getAll, stepCall, kM, unI, Opd.get, kV, qP, qL, je, ja, jE, kW, kY, kX, tag, qG, jk, jg, jq, jx, jp, jy, List.length_range, jf, jb, ji, jl, jh, jm, jW, jA, j7, kZ, j6, k8, jc, List.set_cons_zero, vr, rv, bin, vH, kv, jJ, ky, qp, kx, kw, ju, jK, qn, qr, qq, ku, kz, qo, jY, jI, kt, ql, kq, qm, kl, jH, kp, qh, ko, qk, Nat.reduceAdd, Nat.reduceSub, Nat.reduceMul, Nat.reduceDiv, Nat.reduceMod, Nat.reducePow, Nat.reduceLT, Nat.reduceLeDiff, Nat.reduceEqDiff, Nat.reduceBEq, Nat.reduceBNe, reduceIte, Int.reduceEq, Int.reduceLT, Int.reduceLE, Int.reduceNeg, Int.reduceToNat, Int.reduceMul, Int.reduceAdd, Int.reduceSub, Int.cast_ofNat_Int, reduceCtorEq, Nat.zero_add, Nat.add_zero, Nat.mul_one, bft, btf, beq_self_eq_true, true_and, and_true, and_self, if_true, if_false, ite_true, ite_false, c0, c1, not_true_eq_false, not_false_eq_true, Bool.true_eq_false, Option.some.injEq, Prod.mk.injEq, exists_eq_left, List.length_map, List.getElem?_map, Option.map_some, List.cons_append, List.length_cons, List.length_nil, List.append_nil, decide_true, decide_false]
   exact ⟨_, _, _, rfl, (by repeat (first | exact hKp | refine KeepT.upd (by decide) ?_))⟩
/-- What was found is changed. -/
theorem jfG {b K : Nat} {q : Option It} {f : Nat -> Option (Nat × IVal)} {wr : List (Nat × Bool)} (hb : σ[b]? = some (.cells (ze K q).cells)) (hK : ∀ t, q = some t -> t.xs.length = 3 /\ σ[K]? = some (.cells (t.xs.map J)))
   (e12 : f 12 = some (12, .ptr b 0)) (e13 : f 13 = some (13, .bool q.isSome)) :
   ∃ f' wr' σ', evw F jfv ⟨E 98 32 8 [] (base f), σ, wr⟩ = some (.normal, ⟨E 98 32 8 [] (base f'), σ', wr'⟩) /\ KeepT [0, 1, 4, 6, 7, 8, 9, 10, 11, 26, 27] f f' /\ (σ' = σ \/ ∃ o, (∃ t, q = some t) /\ σ' = σ.set K o) := by
 have hKp := KeepT.refl [0, 1, 4, 6, 7, 8, 9, 10, 11, 26, 27] f
 cases q with
 | none =>
   dsimp only [Option.isSome] at e13
   simp only [jfv, e12, e13, vn, vo, qX, qV, qY, qW, kO, kP, kA, kB, qU, qT, qS, qM, vw, jv, jV, nilOwn, vI, kH, jT, jw, kC, jL, kU, qA, qZ, q9, va, vf, vg, vd, qt, qu, qw, qx, qy, qB, qC, qD, qE, qF, ve, kG, vb, jn, kD, kK, List.append_assoc, List.drop_zero, List.isEmpty_nil, List.getElem?_cons_zero, List.getElem?_cons_succ, List.set_cons_succ, List.flatMap_nil, List.take_zero, Nat.zero_le, Nat.le_refl, Nat.lt_irrefl, List.nil_append, List.length_append, dlt, dge, dle, jS, jN, kJ, kI, bff, btt, vN, tk0, tk1, st0, st1, kQ, jM, jz, qz, vy, jO, jU, kR, vt, qH, Bool.true_or, Bool.or_true, Bool.false_or, Bool.or_false, bne_self_eq_false, Nat.lt_add_one, Nat.lt_succ_self, kT, jZ, Ts.fill, vF, vL, vz, jP, List.map_nil, List.map_cons, List.all_nil, List.all_cons, vG, kN, qe, kh, qg, qQ, qf, qR, qd, kb, jG, ke, qc, qb, kc, kg, ka, jX, jF, j9, qa, k9, j8, Bool.and_true, Bool.true_and, Bool.false_and, Bool.and_false, Bool.not_false, Bool.not_true, List.take_length, List.filter_nil, List.filter_cons, Bool.false_eq_true, jB, jR, j0, j5, jD, jC, jo, jt, jr, kL, jQ, jd, getAll, stepCall, kM, unI, Opd.get, kV, qP, qL, je, ja, jE, kW, kY, kX, tag, qG, jk, jg, jq, jx, jp, jy, List.length_range, jf, jb, ji, jl, jh, jm, jW, jA, j7, kZ, j6, k8, jc, List.set_cons_zero, vr, rv, bin, vH, kv, jJ, ky, qp, kx, kw, ju, jK, qn, qr, qq, ku, kz, qo, jY, jI, kt, ql, kq, qm, kl, jH, kp, qh, ko, qk, Nat.reduceAdd, Nat.reduceSub, Nat.reduceMul, Nat.reduceDiv, Nat.reduceMod, Nat.reducePow, Nat.reduceLT, Nat.reduceLeDiff, Nat.reduceEqDiff, Nat.reduceBEq, Nat.reduceBNe, reduceIte, Int.reduceEq, Int.reduceLT, Int.reduceLE, Int.reduceNeg, Int.reduceToNat, Int.reduceMul, Int.reduceAdd, Int.reduceSub, Int.cast_ofNat_Int, reduceCtorEq, Nat.zero_add, Nat.add_zero, Nat.mul_one, bft, btf, beq_self_eq_true, true_and, and_true, and_self, if_true, if_false, ite_true, ite_false, c0, c1, not_true_eq_false, not_false_eq_true, Bool.true_eq_false, Option.some.injEq, Prod.mk.injEq, exists_eq_left, List.length_map, List.getElem?_map, Option.map_some, List.cons_append, List.length_cons, List.length_nil, List.append_nil, decide_true, decide_false]
   exact ⟨_, _, _, rfl, (by repeat (first | exact hKp | refine KeepT.upd (by decide) ?_)), Or.inl rfl⟩
 | some t =>
   dsimp only [Option.isSome] at e13
   obtain ⟨hx, hs⟩ := hK t rfl
   have d1 : decide ((3 : Int) > 0) = true := rfl
   have hb' : σ[b]? = some (.cells (SC nl1 (.rs 1 K 0 3) nl3 t.rt t.cy)) := hb
   have d3 : (0 : Int) < ((3 : Nat) : Int) := by omega
   simp only [jfv, e12, e13, hb', hs, d1, d3, hx, vn, vo, qX, qV, qY, qW, kO, kP, kA, kB, qU, qT, qS, qM, vw, jv, jV, nilOwn, vI, kH, jT, jw, kC, jL, kU, qA, qZ, q9, va, vf, vg, vd, qt, qu, qw, qx, qy, qB, qC, qD, qE, qF, ve, kG, vb, jn, kD, kK, List.append_assoc, List.drop_zero, List.isEmpty_nil, List.getElem?_cons_zero, List.getElem?_cons_succ, List.set_cons_succ, List.flatMap_nil, List.take_zero, Nat.zero_le, Nat.le_refl, Nat.lt_irrefl, List.nil_append, List.length_append, dlt, dge, dle, jS, jN, kJ, kI, bff, btt, vN, tk0, tk1, st0, st1, kQ, jM, jz, qz, vy, jO, jU, kR, vt, qH, Bool.true_or, Bool.or_true, Bool.false_or, Bool.or_false, bne_self_eq_false, Nat.lt_add_one, Nat.lt_succ_self, kT, jZ, Ts.fill, vF, vL, vz, jP, List.map_nil, List.map_cons, List.all_nil, List.all_cons, vG, kN, qe, kh, qg, qQ, qf, qR, qd, kb, jG, ke, qc, qb, kc, kg, ka, jX, jF, j9, qa, k9, j8, Bool.and_true, Bool.true_and, Bool.false_and, Bool.and_false, Bool.not_false, Bool.not_true, List.take_length, List.filter_nil, List.filter_cons, Bool.false_eq_true, jB, jR, j0, j5, jD, jC, jo, jt, jr, kL, jQ, jd, getAll, stepCall, kM, unI, Opd.get, kV, qP, qL, je, ja, jE, kW, kY, kX, tag, qG, jk, jg, jq, jx, jp, jy, List.length_range, jf, jb, ji, jl, jh, jm, jW, jA, j7, kZ, j6, k8, jc, List.set_cons_zero, vr, rv, bin, vH, kv, jJ, ky, qp, kx, kw, ju, jK, qn, qr, qq, ku, kz, qo, jY, jI, kt, ql, kq, qm, kl, jH, kp, qh, ko, qk, Nat.reduceAdd, Nat.reduceSub, Nat.reduceMul, Nat.reduceDiv, Nat.reduceMod, Nat.reducePow, Nat.reduceLT, Nat.reduceLeDiff, Nat.reduceEqDiff, Nat.reduceBEq, Nat.reduceBNe, reduceIte, Int.reduceEq, Int.reduceLT, Int.reduceLE, Int.reduceNeg, Int.reduceToNat, Int.reduceMul, Int.reduceAdd, Int.reduceSub, Int.cast_ofNat_Int, reduceCtorEq, Nat.zero_add, Nat.add_zero, Nat.mul_one, bft, btf, beq_self_eq_true, true_and, and_true, and_self, if_true, if_false, ite_true, ite_false, c0, c1, not_true_eq_false, not_false_eq_true, Bool.true_eq_false, Option.some.injEq, Prod.mk.injEq, exists_eq_left, List.length_map, List.getElem?_map, Option.map_some, List.cons_append, List.length_cons, List.length_nil, List.append_nil, decide_true, decide_false]
   exact ⟨_, _, _, rfl, (by repeat (first | exact hKp | refine KeepT.upd (by decide) ?_)), Or.inr ⟨_, ⟨t, rfl⟩, rfl⟩⟩
end Go.Idl.Sp
namespace Go.Idl.Sp
open Go Go.Idl Go.Idl.En
variable {F : vM}
variable {P : List Nat} {px pr : Nat} {ev : Int} {lp lr : List It} {Lp Lr : IVal} {σ : List IObj}
/-- The functions that are called. -/
structure Fs (F : vM) : Prop where
 h4 : F 4 = some ir4
 h5 : F 5 = some ir5
 h6 : F 6 = some ir6
 h7 : F 7 = some ir7
 h8 : F 8 = some ir8
 h9 : F 9 = some ir9
 h10 : F 10 = some Zd
 h11 : F 11 = some jaj
 h12 : F 12 = some jbX
 h13 : F 13 = some jak
 h14 : F 14 = some jbY
 h15 : F 15 = some jbo
 h16 : F 16 = some jal
 h18 : F 18 = some XI
 h19 : F 19 = some jam
 h20 : F 20 = some QE
 h21 : F 21 = some Qy
 h22 : F 22 = some XJ
 h23 : F 23 = some jda
 h24 : F 24 = some jdb
 h25 : F 25 = some ZC
 h26 : F 26 = some jbZ
 h29 : F 29 = some XM
 h30 : F 30 = some KK
 h31 : F 31 = some Qz
 h32 : F 32 = some VT
 h38 : F 38 = some Xv
structure Act where
 w : Int
 m : Int
 a : Int
 k : Int
def Act.ok (x : Act) : Prop := (0 <= x.w /\ x.w < 256) /\ (0 <= x.m /\ x.m < 256) /\ (-32768 <= x.a /\ x.a < 32768)
def av (x : Act) : IVal := .agg (AC x.w x.m x.a x.k)
/-- The law's state ahead of an act. -/
structure LI (px pr ps ss : Nat) (ev : Int) (i : Nat) (l : List It) (rt cy : Int) (xs : List Int) (Lp Lr : IVal) (σ : List IObj) : Prop where
 inv : Inv [ps, ss] px pr ev l l Lp Lr σ
 n1 : ps ≠ ss
 hps : σ[ps]? = some (.cells (SS ss rt cy))
 hss : σ[ss]? = some (.cells (xs.map J))
 hxs : xs.length = 3
 hl : l.length <= i
 hcy : -(5 * i : Int) <= cy /\ cy <= 5 * i
 hrt : 0 <= rt /\ rt <= 5 * i
 hlb : ∀ t ∈ l, (-(5 * i : Int) <= t.cy /\ t.cy <= 5 * i) /\ t.xs.length = 3
theorem Vd {p : It -> Bool} {l : List It} : ∀ {m : Nat} {t : It}, fnd p l m = some t -> t ∈ l
 | 0, t, h => by cases h
 | m + 1, t, h => by
   simp only [fnd] at h
   cases hm : l[m]? with
   | none => rw [hm] at h; exact Vd h
   | some u =>
     rw [hm] at h
     dsimp only at h
     split at h
     . cases h; exact List.mem_of_getElem? hm
     . exact Vd h
/-- All of an act but where it begins. -/
theorem jeq (fs : Fs F) {ps ss pa i : Nat} {w m a k rt cy : Int} {xs : List Int} {l : List It} {f : Nat -> Option (Nat × IVal)} {wr : List (Nat × Bool)}
   (h : Inv [pa, ps, ss] px pr ev l l Lp Lr σ) (n1 : ps ≠ ss) (n2 : pa ≠ ps) (n3 : pa ≠ ss) (hps : σ[ps]? = some (.cells (SS ss rt cy))) (hss : σ[ss]? = some (.cells (xs.map J))) (hpa : σ[pa]? = some (.cells (AC w m a k))) (hxs : xs.length = 3) (hn : l.length <= i) (hi : i < 60)
   (hw : 0 <= w /\ w < 256) (hm : 0 <= m /\ m < 256) (ha : -32768 <= a /\ a < 32768) (hcy : -(5 * i : Int) <= cy /\ cy <= 5 * i) (hrt : 0 <= rt /\ rt <= 5 * i) (hlb : ∀ t ∈ l, (-(5 * i : Int) <= t.cy /\ t.cy <= 5 * i) /\ t.xs.length = 3)
   (e7 : f 7 = some (7, .ptr px 0)) (e8 : f 8 = some (8, .ptr pr 0)) (e9 : f 9 = some (9, .ptr ps 0)) (e10 : f 10 = some (10, I i)) (e11 : f 11 = some (11, .ptr pa 0)) :
   ∃ (f' : Nat -> Option (Nat × IVal)) (σ' : List IObj) (wr' : List (Nat × Bool)) (Lp' Lr' : IVal) (l' : List It) (rt' cy' : Int) (xs' : List Int), evw F (.seq (.seq l1W jea) (.seq jgp (.seq jgq (.seq jgr (.seq jgs (.seq jfu jfv)))))) ⟨E 98 32 8 [] (base f), σ, wr⟩ = some (.normal, ⟨E 98 32 8 [] (base f'), σ', wr'⟩) /\ KeepT [0, 1, 4, 6, 7, 8, 9, 10, 26, 27] f f' /\ LI px pr ps ss ev (i + 1) l' rt' cy' xs' Lp' Lr' σ' := by
 obtain ⟨f1, σ1, wr1, Lp1, Lr1, l1, rt1, cy1, xs1, H1, K1, I1, a1, a2, a3, a4, a5, a6, a7, a8, a9⟩ := je2 (wr := wr) fs.h6 fs.h7 fs.h18 fs.h19 fs.h29 fs.h8 fs.h9 fs.h10 fs.h20 fs.h21 fs.h30 fs.h31 h (by simp) (by simp) (by simp) n1 n2 n3 hps hss hpa hxs (by omega) hi hw hm ha hcy hrt hlb e7 e8 e9 e10 e11
 have b7 := (K1 7 (by decide)).trans e7
 have b8 := (K1 8 (by decide)).trans e8
 have b11 := (K1 11 (by decide)).trans e11
 -- Before
 obtain ⟨x2, K, H2, hK⟩ := I1.bef11 fs.h11 fs.h23 fs.h22 fs.h20 fs.h30 fs.h31 fs.h32 fs.h38 (by omega) a
 have hqm : ∀ t, fnd (fun t => decide (t.cy <= a)) l1 l1.length = some t -> t.xs.length = 3 := fun t ht => (a8 t (Vd ht)).2
 have H3 := fun {σ : List IObj} {P : List Nat} (I : Inv P px pr ev l1 l1 Lp1 Lr1 σ) => I.bef12 fs.h12 fs.h21 (fun t ht => (a8 t ht).2) (by omega) a
 generalize hq : fnd (fun t => decide (t.cy <= a)) l1 l1.length = q at H2 hK H3 hqm
 generalize hτ : σ1 ++ x2 = τ at H2 hK
 have sτ : Same σ1 τ := hτ ▸ Same.app σ1 x2
 obtain ⟨f2, wr2, E2, K2, c12, c13⟩ := jgP (wr := wr1) a3 ha H2 b7 b11
 have s2 : Same σ1 (τ ++ [.cells (ze K q).cells]) := sτ.trans (Same.app τ _)
 have hb2 : (τ ++ [.cells (ze K q).cells])[τ.length]? = some (.cells (ze K q).cells) := by rw [jw]; rfl
 have hK2 : ∀ t, q = some t -> t.xs.length = 3 /\ (τ ++ [.cells (ze K q).cells])[K]? = some (.cells (t.xs.map J)) := fun t ht => ⟨hqm t ht, vk (hK t ht).2 _⟩
 have I2 := I1.grow s2.1 s2.2 (match q with | some _ => [K] | none => []) (by
   intro i hi
   cases q with
   | none => cases hi
   | some t =>
     simp only [List.mem_singleton] at hi
     subst hi
     exact ⟨(hK t rfl).1, jj (hK2 t rfl).2⟩)
 have hb2' := jj hb2
 generalize hσ2 : τ ++ [.cells (ze K q).cells] = σ2 at E2 s2 hb2 hK2 I2 hb2'
 have hpa2 := s2.get a3
 -- the document's
 obtain ⟨wr3, H3⟩ := H3 I2
 obtain ⟨f3, wr3', E3, K3, c14, c15⟩ := jgQ (wr := wr2) hpa2 ha H3 ((K2 8 (by decide)).trans b8) ((K2 11 (by decide)).trans b11)
 have s3 : Same σ2 (σ2 ++ [.cells (JX q).cells]) := Same.app σ2 _
 have hc3 : (σ2 ++ [.cells (JX q).cells])[σ2.length]? = some (.cells (JX q).cells) := by rw [jw]; rfl
 have I3 := I2.grow s3.1 s3.2 [] (fun i hi => by cases hi)
 generalize hσ3 : σ2 ++ [.cells (JX q).cells] = σ3 at E3 s3 hc3 I3
 -- Retired
 obtain ⟨x4, K4, H4, hK4⟩ := I3.ret13 fs.h13 fs.h24 fs.h22 fs.h20 fs.h30 fs.h31 fs.h32 fs.h38 (by omega) (IntKind.u16.wrap a)
 have hqm4 : ∀ t, fnd (fun t => decide (t.rt <= IntKind.u16.wrap a)) l1 l1.length = some t -> t.xs.length = 3 := fun t ht => (a8 t (Vd ht)).2
 have H5 := fun {σ : List IObj} {P : List Nat} (I : Inv P px pr ev l1 l1 Lp1 Lr1 σ) => I.ret14 fs.h14 fs.h21 (fun t ht => (a8 t ht).2) (by omega) (IntKind.u16.wrap a)
 generalize hq4 : fnd (fun t => decide (t.rt <= IntKind.u16.wrap a)) l1 l1.length = q4 at H4 hK4 H5 hqm4
 generalize hτ4 : σ3 ++ x4 = τ4 at H4 hK4
 have sτ4 : Same σ3 τ4 := hτ4 ▸ Same.app σ3 x4
 have d7 := (K2 7 (by decide)).trans b7
 have d8 := (K2 8 (by decide)).trans b8
 have d11 := (K2 11 (by decide)).trans b11
 obtain ⟨f4, wr4, E4, KK4, c16, c17⟩ := jgR (wr := wr3') (s3.get hpa2) ha H4 ((K3 7 (by decide)).trans d7) ((K3 11 (by decide)).trans d11)
 have s4 : Same σ3 (τ4 ++ [.cells (ze K4 q4).cells]) := sτ4.trans (Same.app τ4 _)
 have hd4 : (τ4 ++ [.cells (ze K4 q4).cells])[τ4.length]? = some (.cells (ze K4 q4).cells) := by rw [jw]; rfl
 have hKK4 : ∀ t, q4 = some t -> t.xs.length = 3 /\ (τ4 ++ [.cells (ze K4 q4).cells])[K4]? = some (.cells (t.xs.map J)) := fun t ht => ⟨hqm4 t ht, vk (hK4 t ht).2 _⟩
 have I4 := I3.grow s4.1 s4.2 [] (fun i hi => by cases hi)
 generalize hσ4 : τ4 ++ [.cells (ze K4 q4).cells] = σ4 at E4 s4 hd4 hKK4 I4
 obtain ⟨wr5, H5⟩ := H5 I4
 obtain ⟨f5, wr5', E5, K5, c18, c19⟩ := jgS (wr := wr4) (s4.get (s3.get hpa2)) ha H5 ((KK4 8 (by decide)).trans ((K3 8 (by decide)).trans d8)) ((KK4 11 (by decide)).trans ((K3 11 (by decide)).trans d11))
 have s5 : Same σ4 (σ4 ++ [.cells (JX q4).cells]) := Same.app σ4 _
 have he5 : (σ4 ++ [.cells (JX q4).cells])[σ4.length]? = some (.cells (JX q4).cells) := by rw [jw]; rfl
 have I5 := I4.grow s5.1 s5.2 [] (fun i hi => by cases hi)
 generalize hσ5 : σ4 ++ [.cells (JX q4).cells] = σ5 at E5 s5 he5 I5
 have g12 : f5 12 = some (12, .ptr τ.length 0) := (K5 12 (by decide)).trans ((KK4 12 (by decide)).trans ((K3 12 (by decide)).trans c12))
 have g13 : f5 13 = some (13, .bool q.isSome) := (K5 13 (by decide)).trans ((KK4 13 (by decide)).trans ((K3 13 (by decide)).trans c13))
 have g14 : f5 14 = some (14, .ptr σ2.length 0) := (K5 14 (by decide)).trans ((KK4 14 (by decide)).trans c14)
 have g15 : f5 15 = some (15, .bool q.isSome) := (K5 15 (by decide)).trans ((KK4 15 (by decide)).trans c15)
 have g16 : f5 16 = some (16, .ptr τ4.length 0) := (K5 16 (by decide)).trans c16
 have g17 : f5 17 = some (17, .bool q4.isSome) := (K5 17 (by decide)).trans c17
 have K35 : KeepT [0, 1, 4, 6, 7, 8, 9, 10, 11, 26, 27] f f5 := (((K1.trans K2).trans (K3.sub (by decide))).trans (KK4.sub (by decide))).trans (K5.sub (by decide))
 have s35 : Same σ2 σ5 := (s3.trans s4).trans s5
 obtain ⟨f6, wr6, x6, E6, K6⟩ := jfb (wr := wr5') fs.h10 fs.h15 fs.h16 fs.h25 fs.h26 I5 (s35.get hb2) ((s4.trans s5).get hc3) (s5.get hd4) he5 (fun t ht => ⟨hqm t ht, s35.get (hK2 t ht).2⟩) (fun t ht => ⟨hqm4 t ht, s5.get (hKK4 t ht).2⟩) ((K35 7 (by decide)).trans e7) ((K35 8 (by decide)).trans e8) g12 g13 g14 g15 g16 g17 c18 c19
 have s6 : Same σ5 (σ5 ++ x6) := Same.app σ5 x6
 have I6 := I5.grow s6.1 s6.2 [] (fun i hi => by cases hi)
 generalize hσ6 : σ5 ++ x6 = σ6 at E6 s6 I6
 have s26 := s35.trans s6
 obtain ⟨f7, wr7, σ7, E7, K7, hσ7⟩ := jfG (wr := wr6) (s26.get hb2) (fun t ht => ⟨hqm t ht, s26.get (hK2 t ht).2⟩) ((K6 12 (by decide)).trans g12) ((K6 13 (by decide)).trans g13)
 have K37 : KeepT [0, 1, 4, 6, 7, 8, 9, 10, 26, 27] f f7 := ((K35.sub (by decide)).trans (K6.sub (by decide))).trans (K7.sub (by decide))
 have s16 := s2.trans s26
 refine ⟨f7, σ7, wr7, Lp1, Lr1, l1, rt1, cy1, xs1, ?_, K37, ?_⟩
 . rw [jR, H1]
   dsimp only
   rw [jR, E2]
   dsimp only
   rw [jR, E3]
   dsimp only
   rw [jR, E4]
   dsimp only
   rw [jR, E5]
   dsimp only
   rw [jR, E6]
   exact E7
 . have ps1 := s16.get a1
   have ss1 := s16.get a2
   rcases hσ7 with rfl | ⟨o, ⟨t, ht⟩, rfl⟩
   . exact ⟨I6.sub (by intro i hi; cases q <;> simp_all), n1, ps1, ss1, a4, by omega, by push_cast; exact a6, by push_cast; exact a7, by push_cast; exact a8⟩
   . have hKl := (hK t ht).1
     have kps : K ≠ ps := by have := jj a1; omega
     have kss : K ≠ ss := by have := jj a2; omega
     exact ⟨(I6.upd (i := K) (by rw [ht]; simp) o).sub (by intro i hi; rw [ht]; simp_all), n1, get_set ps1 kps, get_set ss1 kss, a4, by omega, by push_cast; exact a6, by push_cast; exact a7, by push_cast; exact a8⟩
end Go.Idl.Sp
namespace Go.Idl.Sp
open Go Go.Idl Go.Idl.En
variable {F : vM}
theorem jaw (fs : Fs F) {f0 : Nat -> Option (Nat × IVal)} {wr : List (Nat × Bool)} {σ : List IObj} {R : Option (IExit × St)} {px pr ps ss o : Nat} {r : Bool} {ev : Int} {acts : List Act} {xs : List Int} {Lp Lr : IVal}
   (hE : evw F (.loop J4) ⟨E 98 32 8 [] f0, σ, wr⟩ = R) (hok : ∀ x ∈ acts, x.ok) (h : LI px pr ps ss ev 0 [] 0 0 xs Lp Lr σ)
   (h1 : f0 1 = some (1, .sl o r (acts.map av))) (h7 : f0 7 = some (7, .ptr px 0)) (h8 : f0 8 = some (8, .ptr pr 0)) (h9 : f0 9 = some (9, .ptr ps 0)) (h10 : f0 10 = some (10, I 0)) :
   ∃ x : (Nat -> Option (Nat × IVal)) × List IObj × List (Nat × Bool), R = some (.exit 2, ⟨E 98 32 8 [] (base x.1), x.2.1, x.2.2⟩) /\ KeepT [0, 1, 4, 26, 27] f0 x.1 := by
 subst hE
 refine VX (fun i st => ∃ f σ wr Lp Lr l rt cy xs, st = ⟨E 98 32 8 [] (base f), σ, wr⟩ /\ KeepT [0, 1, 4, 7, 8, 9, 26, 27] f0 f /\ f 10 = some (10, I i) /\ LI px pr ps ss ev i l rt cy xs Lp Lr σ) (min acts.length 60) ⟨f0, σ, wr, Lp, Lr, [], 0, 0, xs, rfl, KeepT.refl _ _, h10, h⟩ ?_ ?_
 . rintro i st hi ⟨f, σ, wr, Lp, Lr, l, rt, cy, xs, rfl, hK, e10, h⟩
   have e1 := (hK 1 (by decide)).trans h1
   have e7 := (hK 7 (by decide)).trans h7
   have e8 := (hK 8 (by decide)).trans h8
   have e9 := (hK 9 (by decide)).trans h9
   obtain ⟨x, hx⟩ : ∃ x, acts[i]? = some x := ⟨acts[i]'(by omega), by simp⟩
   obtain ⟨hw, hm, ha⟩ := hok x (List.mem_of_getElem? hx)
   have hxv : (acts.map av)[i]? = some (.agg (AC x.w x.m x.a x.k)) := by rw [List.getElem?_map, hx]; rfl
   have d1 : decide ((i : Int) < (acts.length : Int)) = true := decide_eq_true (by omega)
   have d2 : decide ((i : Int) < 60) = true := decide_eq_true (by omega)
   have d3 : (0 : Int) <= (i : Int) := by omega
   have hC : ∃ f1, evw F l1C ⟨E 98 32 8 [] (base f), σ, wr⟩ = some (.normal, ⟨E 98 32 8 [] (base f1), σ, wr⟩) /\ KeepT [0, 1, 4, 7, 8, 9, 10, 26, 27] f f1 := by
     have hKf := KeepT.refl [0, 1, 4, 7, 8, 9, 10, 26, 27] f
     simp only [l1C, e1, e8, e10, d1, d2, vn, vo, qX, qV, qY, qW, kO, kP, kA, kB, qU, qT, qS, qM, vw, jv, jV, nilOwn, vI, kH, jT, jw, kC, jL, kU, qA, qZ, q9, va, vf, vg, vd, qt, qu, qw, qx, qy, qB, qC, qD, qE, qF, ve, kG, vb, jn, kD, kK, List.append_assoc, List.drop_zero, List.isEmpty_nil, List.getElem?_cons_zero, List.getElem?_cons_succ, List.set_cons_succ, List.flatMap_nil, List.take_zero, Nat.zero_le, Nat.le_refl, Nat.lt_irrefl, List.nil_append, List.length_append, dlt, dge, dle, jS, jN, kJ, kI, bff, btt, vN, tk0, tk1, st0, st1, kQ, jM, jz, qz, vy, jO, jU, kR, vt, qH, Bool.true_or, Bool.or_true, Bool.false_or, Bool.or_false, bne_self_eq_false, Nat.lt_add_one, Nat.lt_succ_self, kT, jZ, Ts.fill, vF, vL, vz, jP, List.map_nil, List.map_cons, List.all_nil, List.all_cons, vG, kN, qe, kh, qg, qQ, qf, qR, qd, kb, jG, ke, qc, qb, kc, kg, ka, jX, jF, j9, qa, k9, j8, Bool.and_true, Bool.true_and, Bool.false_and, Bool.and_false, Bool.not_false, Bool.not_true, List.take_length, List.filter_nil, List.filter_cons, Bool.false_eq_true, jB, jR, j0, j5, jD, jC, jo, jt, jr, kL, jQ, jd, getAll, stepCall, kM, unI, Opd.get, kV, qP, qL, je, ja, jE, kW, kY, kX, tag, qG, jk, jg, jq, jx, jp, jy, List.length_range, jf, jb, ji, jl, jh, jm, jW, jA, j7, kZ, j6, k8, jc, List.set_cons_zero, vr, rv, bin, vH, kv, jJ, ky, qp, kx, kw, ju, jK, qn, qr, qq, ku, kz, qo, jY, jI, kt, ql, kq, qm, kl, jH, kp, qh, ko, qk, Nat.reduceAdd, Nat.reduceSub, Nat.reduceMul, Nat.reduceDiv, Nat.reduceMod, Nat.reducePow, Nat.reduceLT, Nat.reduceLeDiff, Nat.reduceEqDiff, Nat.reduceBEq, Nat.reduceBNe, reduceIte, Int.reduceEq, Int.reduceLT, Int.reduceLE, Int.reduceNeg, Int.reduceToNat, Int.reduceMul, Int.reduceAdd, Int.reduceSub, Int.cast_ofNat_Int, reduceCtorEq, Nat.zero_add, Nat.add_zero, Nat.mul_one, bft, btf, beq_self_eq_true, true_and, and_true, and_self, if_true, if_false, ite_true, ite_false, c0, c1, not_true_eq_false, not_false_eq_true, Bool.true_eq_false, Option.some.injEq, Prod.mk.injEq, exists_eq_left, List.length_map, List.getElem?_map, Option.map_some, List.cons_append, List.length_cons, List.length_nil, List.append_nil, decide_true, decide_false]
     exact ⟨_, rfl, (by repeat (first | exact hKf | refine KeepT.upd (by decide) ?_))⟩
   obtain ⟨f1, HC, K1⟩ := hC
   have b1 := (K1 1 (by decide)).trans e1
   have b10 := (K1 10 (by decide)).trans e10
   have hA : ∃ f2 wr2, evw F l1A ⟨E 98 32 8 [] (base f1), σ, wr⟩ = some (.normal, ⟨E 98 32 8 [] (base f2), σ ++ [.cells (AC x.w x.m x.a x.k)], wr2⟩) /\ KeepT [0, 1, 4, 7, 8, 9, 10, 26, 27] f1 f2 /\ f2 11 = some (11, .ptr σ.length 0) := by
     have hKf := KeepT.refl [0, 1, 4, 7, 8, 9, 10, 26, 27] f1
     have t4 : vl (some 4) (AC x.w x.m x.a x.k) 0 = some (.agg (AC x.w x.m x.a x.k)) := rfl
     have la : (AC x.w x.m x.a x.k).length = 4 := rfl
     have p4 : jc [.int .u8 0, .int .u8 0, .int .i16 0, .int .i32 0] 0 (AC x.w x.m x.a x.k) = AC x.w x.m x.a x.k := rfl
     have u4 : (AC x.w x.m x.a x.k).map un1 = AC x.w x.m x.a x.k := rfl
     simp only [l1A, b1, b10, hxv, d3, t4, la, p4, u4, Int.toNat_natCast, vn, vo, qX, qV, qY, qW, kO, kP, kA, kB, qU, qT, qS, qM, vw, jv, jV, nilOwn, vI, kH, jT, jw, kC, jL, kU, qA, qZ, q9, va, vf, vg, vd, qt, qu, qw, qx, qy, qB, qC, qD, qE, qF, ve, kG, vb, jn, kD, kK, List.append_assoc, List.drop_zero, List.isEmpty_nil, List.getElem?_cons_zero, List.getElem?_cons_succ, List.set_cons_succ, List.flatMap_nil, List.take_zero, Nat.zero_le, Nat.le_refl, Nat.lt_irrefl, List.nil_append, List.length_append, dlt, dge, dle, jS, jN, kJ, kI, bff, btt, vN, tk0, tk1, st0, st1, kQ, jM, jz, qz, vy, jO, jU, kR, vt, qH, Bool.true_or, Bool.or_true, Bool.false_or, Bool.or_false, bne_self_eq_false, Nat.lt_add_one, Nat.lt_succ_self, kT, jZ, Ts.fill, vF, vL, vz, jP, List.map_nil, List.map_cons, List.all_nil, List.all_cons, vG, kN, qe, kh, qg, qQ, qf, qR, qd, kb, jG, ke, qc, qb, kc, kg, ka, jX, jF, j9, qa, k9, j8, Bool.and_true, Bool.true_and, Bool.false_and, Bool.and_false, Bool.not_false, Bool.not_true, List.take_length, List.filter_nil, List.filter_cons, Bool.false_eq_true, jB, jR, j0, j5, jD, jC, jo, jt, jr, kL, jQ, jd, getAll, stepCall, kM, unI, Opd.get, kV, qP, qL, je, ja, jE, kW, kY, kX, tag, qG, jk, jg, jq, jx, jp, jy, List.length_range, jf, jb, ji, jl, jh, jm, jW, jA, j7, kZ, j6, k8, jc, List.set_cons_zero, vr, rv, bin, vH, kv, jJ, ky, qp, kx, kw, ju, jK, qn, qr, qq, ku, kz, qo, jY, jI, kt, ql, kq, qm, kl, jH, kp, qh, ko, qk, Nat.reduceAdd, Nat.reduceSub, Nat.reduceMul, Nat.reduceDiv, Nat.reduceMod, Nat.reducePow, Nat.reduceLT, Nat.reduceLeDiff, Nat.reduceEqDiff, Nat.reduceBEq, Nat.reduceBNe, reduceIte, Int.reduceEq, Int.reduceLT, Int.reduceLE, Int.reduceNeg, Int.reduceToNat, Int.reduceMul, Int.reduceAdd, Int.reduceSub, Int.cast_ofNat_Int, reduceCtorEq, Nat.zero_add, Nat.add_zero, Nat.mul_one, bft, btf, beq_self_eq_true, true_and, and_true, and_self, if_true, if_false, ite_true, ite_false, c0, c1, not_true_eq_false, not_false_eq_true, Bool.true_eq_false, Option.some.injEq, Prod.mk.injEq, exists_eq_left, List.length_map, List.getElem?_map, Option.map_some, List.cons_append, List.length_cons, List.length_nil, List.append_nil, decide_true, decide_false]
     exact ⟨_, _, rfl, (by repeat (first | exact hKf | refine KeepT.upd (by decide) ?_)), (by (try simp only [je, ja, Nat.reduceAdd, Nat.reduceSub, Nat.reduceMul, Nat.reduceDiv, Nat.reduceMod, Nat.reducePow, Nat.reduceLT, Nat.reduceLeDiff, Nat.reduceEqDiff, Nat.reduceBEq, Nat.reduceBNe, reduceIte, Int.reduceEq, Int.reduceLT, Int.reduceLE, Int.reduceNeg, Int.reduceToNat, Int.reduceMul, Int.reduceAdd, Int.reduceSub, Int.cast_ofNat_Int, reduceCtorEq, Nat.zero_add, Nat.add_zero, Nat.mul_one]) <;> rfl)⟩
   obtain ⟨f2, wr2, HA, K2, c11⟩ := hA
   have lps := jj h.hps
   have lss := jj h.hss
   have IA : Inv ([σ.length] ++ [ps, ss]) px pr ev l l Lp Lr (σ ++ [.cells (AC x.w x.m x.a x.k)]) := h.inv.grow (by simp) (fun i hi => List.getElem?_append_left hi) [σ.length] (fun i hi => by simp only [List.mem_singleton] at hi; subst hi; simp)
   obtain ⟨f3, σ3, wr3, Lp3, Lr3, l3, rt3, cy3, xs3, H3, K3, L3⟩ := jeq (wr := wr2) fs IA h.n1 (by omega) (by omega) (vk h.hps _) (vk h.hss _) (by rw [jw]; rfl) h.hxs h.hl (by omega) hw hm ha h.hcy h.hrt h.hlb ((K2 7 (by decide)).trans ((K1 7 (by decide)).trans e7)) ((K2 8 (by decide)).trans ((K1 8 (by decide)).trans e8)) ((K2 9 (by decide)).trans ((K1 9 (by decide)).trans e9)) ((K2 10 (by decide)).trans b10) c11
   have c10 := (K3 10 (by decide)).trans ((K2 10 (by decide)).trans b10)
   have hI : ∃ f4, evw F jd9 ⟨E 98 32 8 [] (base f3), σ3, wr3⟩ = some (.normal, ⟨E 98 32 8 [] (base f4), σ3, wr3⟩) /\ KeepT [0, 1, 4, 7, 8, 9, 26, 27] f3 f4 /\ f4 10 = some (10, I ((i + 1 : Nat) : Int)) := by
     have hKf := KeepT.refl [0, 1, 4, 7, 8, 9, 26, 27] f3
     have w1 := VS (n := i) (by omega)
     simp only [jd9, c10, w1, vn, vo, qX, qV, qY, qW, kO, kP, kA, kB, qU, qT, qS, qM, vw, jv, jV, nilOwn, vI, kH, jT, jw, kC, jL, kU, qA, qZ, q9, va, vf, vg, vd, qt, qu, qw, qx, qy, qB, qC, qD, qE, qF, ve, kG, vb, jn, kD, kK, List.append_assoc, List.drop_zero, List.isEmpty_nil, List.getElem?_cons_zero, List.getElem?_cons_succ, List.set_cons_succ, List.flatMap_nil, List.take_zero, Nat.zero_le, Nat.le_refl, Nat.lt_irrefl, List.nil_append, List.length_append, dlt, dge, dle, jS, jN, kJ, kI, bff, btt, vN, tk0, tk1, st0, st1, kQ, jM, jz, qz, vy, jO, jU, kR, vt, qH, Bool.true_or, Bool.or_true, Bool.false_or, Bool.or_false, bne_self_eq_false, Nat.lt_add_one, Nat.lt_succ_self, kT, jZ, Ts.fill, vF, vL, vz, jP, List.map_nil, List.map_cons, List.all_nil, List.all_cons, vG, kN, qe, kh, qg, qQ, qf, qR, qd, kb, jG, ke, qc, qb, kc, kg, ka, jX, jF, j9, qa, k9, j8, Bool.and_true, Bool.true_and, Bool.false_and, Bool.and_false, Bool.not_false, Bool.not_true, List.take_length, List.filter_nil, List.filter_cons, Bool.false_eq_true, jB, jR, j0, j5, jD, jC, jo, jt, jr, kL, jQ, jd, getAll, stepCall, kM, unI, Opd.get, kV, qP, qL, je, ja, jE, kW, kY, kX, tag, qG, jk, jg, jq, jx, jp, jy, List.length_range, jf, jb, ji, jl, jh, jm, jW, jA, j7, kZ, j6, k8, jc, List.set_cons_zero, vr, rv, bin, vH, kv, jJ, ky, qp, kx, kw, ju, jK, qn, qr, qq, ku, kz, qo, jY, jI, kt, ql, kq, qm, kl, jH, kp, qh, ko, qk, Nat.reduceAdd, Nat.reduceSub, Nat.reduceMul, Nat.reduceDiv, Nat.reduceMod, Nat.reducePow, Nat.reduceLT, Nat.reduceLeDiff, Nat.reduceEqDiff, Nat.reduceBEq, Nat.reduceBNe, reduceIte, Int.reduceEq, Int.reduceLT, Int.reduceLE, Int.reduceNeg, Int.reduceToNat, Int.reduceMul, Int.reduceAdd, Int.reduceSub, Int.cast_ofNat_Int, reduceCtorEq, Nat.zero_add, Nat.add_zero, Nat.mul_one, bft, btf, beq_self_eq_true, true_and, and_true, and_self, if_true, if_false, ite_true, ite_false, c0, c1, not_true_eq_false, not_false_eq_true, Bool.true_eq_false, Option.some.injEq, Prod.mk.injEq, exists_eq_left, List.length_map, List.getElem?_map, Option.map_some, List.cons_append, List.length_cons, List.length_nil, List.append_nil, decide_true, decide_false]
     exact ⟨_, rfl, (by repeat (first | exact hKf | refine KeepT.upd (by decide) ?_)), (by (try simp only [je, ja, Nat.reduceAdd, Nat.reduceSub, Nat.reduceMul, Nat.reduceDiv, Nat.reduceMod, Nat.reducePow, Nat.reduceLT, Nat.reduceLeDiff, Nat.reduceEqDiff, Nat.reduceBEq, Nat.reduceBNe, reduceIte, Int.reduceEq, Int.reduceLT, Int.reduceLE, Int.reduceNeg, Int.reduceToNat, Int.reduceMul, Int.reduceAdd, Int.reduceSub, Int.cast_ofNat_Int, reduceCtorEq, Nat.zero_add, Nat.add_zero, Nat.mul_one]) <;> rfl)⟩
   obtain ⟨f4, HI, K4, d10⟩ := hI
   refine ⟨_, ?_, f4, σ3, wr3, Lp3, Lr3, l3, rt3, cy3, xs3, rfl, (((hK.trans (K1.sub (by decide))).trans (K2.sub (by decide))).trans (K3.sub (by decide))).trans K4, d10, L3⟩
   rw [J4, jR, HC]
   dsimp only
   rw [jR, jo, jR, HA]
   dsimp only
   rw [H3]
   exact HI
 . rintro st ⟨f, σ, wr, Lp, Lr, l, rt, cy, xs, rfl, hK, e10, h⟩
   have e1 := (hK 1 (by decide)).trans h1
   have e8 := (hK 8 (by decide)).trans h8
   rw [vK, J4]
   have hKf := hK.sub (l' := [0, 1, 4, 26, 27]) (by decide)
   by_cases c : acts.length <= 60
   . rw [Nat.min_eq_left c] at e10
     have d1 : decide ((acts.length : Int) < (acts.length : Int)) = false := decide_eq_false (by omega)
     simp only [l1C, e1, e8, e10, d1, vn, vo, qX, qV, qY, qW, kO, kP, kA, kB, qU, qT, qS, qM, vw, jv, jV, nilOwn, vI, kH, jT, jw, kC, jL, kU, qA, qZ, q9, va, vf, vg, vd, qt, qu, qw, qx, qy, qB, qC, qD, qE, qF, ve, kG, vb, jn, kD, kK, List.append_assoc, List.drop_zero, List.isEmpty_nil, List.getElem?_cons_zero, List.getElem?_cons_succ, List.set_cons_succ, List.flatMap_nil, List.take_zero, Nat.zero_le, Nat.le_refl, Nat.lt_irrefl, List.nil_append, List.length_append, dlt, dge, dle, jS, jN, kJ, kI, bff, btt, vN, tk0, tk1, st0, st1, kQ, jM, jz, qz, vy, jO, jU, kR, vt, qH, Bool.true_or, Bool.or_true, Bool.false_or, Bool.or_false, bne_self_eq_false, Nat.lt_add_one, Nat.lt_succ_self, kT, jZ, Ts.fill, vF, vL, vz, jP, List.map_nil, List.map_cons, List.all_nil, List.all_cons, vG, kN, qe, kh, qg, qQ, qf, qR, qd, kb, jG, ke, qc, qb, kc, kg, ka, jX, jF, j9, qa, k9, j8, Bool.and_true, Bool.true_and, Bool.false_and, Bool.and_false, Bool.not_false, Bool.not_true, List.take_length, List.filter_nil, List.filter_cons, Bool.false_eq_true, jB, jR, j0, j5, jD, jC, jo, jt, jr, kL, jQ, jd, getAll, stepCall, kM, unI, Opd.get, kV, qP, qL, je, ja, jE, kW, kY, kX, tag, qG, jk, jg, jq, jx, jp, jy, List.length_range, jf, jb, ji, jl, jh, jm, jW, jA, j7, kZ, j6, k8, jc, List.set_cons_zero, vr, rv, bin, vH, kv, jJ, ky, qp, kx, kw, ju, jK, qn, qr, qq, ku, kz, qo, jY, jI, kt, ql, kq, qm, kl, jH, kp, qh, ko, qk, Nat.reduceAdd, Nat.reduceSub, Nat.reduceMul, Nat.reduceDiv, Nat.reduceMod, Nat.reducePow, Nat.reduceLT, Nat.reduceLeDiff, Nat.reduceEqDiff, Nat.reduceBEq, Nat.reduceBNe, reduceIte, Int.reduceEq, Int.reduceLT, Int.reduceLE, Int.reduceNeg, Int.reduceToNat, Int.reduceMul, Int.reduceAdd, Int.reduceSub, Int.cast_ofNat_Int, reduceCtorEq, Nat.zero_add, Nat.add_zero, Nat.mul_one, bft, btf, beq_self_eq_true, true_and, and_true, and_self, if_true, if_false, ite_true, ite_false, c0, c1, not_true_eq_false, not_false_eq_true, Bool.true_eq_false, Option.some.injEq, Prod.mk.injEq, exists_eq_left, List.length_map, List.getElem?_map, Option.map_some, List.cons_append, List.length_cons, List.length_nil, List.append_nil, decide_true, decide_false]
     exact ⟨(_, _, _), rfl, (by repeat (first | exact hKf | refine KeepT.upd (by decide) ?_))⟩
   . rw [Nat.min_eq_right (by omega)] at e10
     have d1 : decide ((60 : Int) < (acts.length : Int)) = true := decide_eq_true (by omega)
     have d2 : decide ((60 : Int) < 60) = false := rfl
     have e10 : f 10 = some (10, I 60) := e10
     simp only [l1C, e1, e8, e10, d1, d2, vn, vo, qX, qV, qY, qW, kO, kP, kA, kB, qU, qT, qS, qM, vw, jv, jV, nilOwn, vI, kH, jT, jw, kC, jL, kU, qA, qZ, q9, va, vf, vg, vd, qt, qu, qw, qx, qy, qB, qC, qD, qE, qF, ve, kG, vb, jn, kD, kK, List.append_assoc, List.drop_zero, List.isEmpty_nil, List.getElem?_cons_zero, List.getElem?_cons_succ, List.set_cons_succ, List.flatMap_nil, List.take_zero, Nat.zero_le, Nat.le_refl, Nat.lt_irrefl, List.nil_append, List.length_append, dlt, dge, dle, jS, jN, kJ, kI, bff, btt, vN, tk0, tk1, st0, st1, kQ, jM, jz, qz, vy, jO, jU, kR, vt, qH, Bool.true_or, Bool.or_true, Bool.false_or, Bool.or_false, bne_self_eq_false, Nat.lt_add_one, Nat.lt_succ_self, kT, jZ, Ts.fill, vF, vL, vz, jP, List.map_nil, List.map_cons, List.all_nil, List.all_cons, vG, kN, qe, kh, qg, qQ, qf, qR, qd, kb, jG, ke, qc, qb, kc, kg, ka, jX, jF, j9, qa, k9, j8, Bool.and_true, Bool.true_and, Bool.false_and, Bool.and_false, Bool.not_false, Bool.not_true, List.take_length, List.filter_nil, List.filter_cons, Bool.false_eq_true, jB, jR, j0, j5, jD, jC, jo, jt, jr, kL, jQ, jd, getAll, stepCall, kM, unI, Opd.get, kV, qP, qL, je, ja, jE, kW, kY, kX, tag, qG, jk, jg, jq, jx, jp, jy, List.length_range, jf, jb, ji, jl, jh, jm, jW, jA, j7, kZ, j6, k8, jc, List.set_cons_zero, vr, rv, bin, vH, kv, jJ, ky, qp, kx, kw, ju, jK, qn, qr, qq, ku, kz, qo, jY, jI, kt, ql, kq, qm, kl, jH, kp, qh, ko, qk, Nat.reduceAdd, Nat.reduceSub, Nat.reduceMul, Nat.reduceDiv, Nat.reduceMod, Nat.reducePow, Nat.reduceLT, Nat.reduceLeDiff, Nat.reduceEqDiff, Nat.reduceBEq, Nat.reduceBNe, reduceIte, Int.reduceEq, Int.reduceLT, Int.reduceLE, Int.reduceNeg, Int.reduceToNat, Int.reduceMul, Int.reduceAdd, Int.reduceSub, Int.cast_ofNat_Int, reduceCtorEq, Nat.zero_add, Nat.add_zero, Nat.mul_one, bft, btf, beq_self_eq_true, true_and, and_true, and_self, if_true, if_false, ite_true, ite_false, c0, c1, not_true_eq_false, not_false_eq_true, Bool.true_eq_false, Option.some.injEq, Prod.mk.injEq, exists_eq_left, List.length_map, List.getElem?_map, Option.map_some, List.cons_append, List.length_cons, List.length_nil, List.append_nil, decide_true, decide_false]
     exact ⟨(_, _, _), rfl, (by repeat (first | exact hKf | refine KeepT.upd (by decide) ?_))⟩
theorem jax {f0 : Nat -> Option (Nat × IVal)} {wr : List (Nat × Bool)} {σ : List IObj} {R : Option (IExit × St)} {o : Nat} {r : Bool} {acts : List Act}
   (hE : evw F (.loop J4) ⟨E 98 32 8 [] f0, σ, wr⟩ = R) (h1 : f0 1 = some (1, .sl o r (acts.map av))) (h8 : f0 8 = some (8, .prim (.pointer none))) (h10 : f0 10 = some (10, I 0)) :
   ∃ x : (Nat -> Option (Nat × IVal)) × List IObj × List (Nat × Bool), R = some (.exit 2, ⟨E 98 32 8 [] (base x.1), x.2.1, x.2.2⟩) /\ KeepT [0, 1, 4, 26, 27] f0 x.1 := by
 subst hE
 have hKf := KeepT.refl [0, 1, 4, 26, 27] f0
 show ∃ x : (Nat -> Option (Nat × IVal)) × List IObj × List (Nat × Bool), evw F (.loop J4) ⟨E 98 32 8 [] (base f0), σ, wr⟩ = _ /\ _
 rw [vK, J4]
 have d2 : decide ((0 : Int) < 60) = true := rfl
 by_cases c : 0 < acts.length
 . have d1 : decide ((0 : Int) < (acts.length : Int)) = true := decide_eq_true (by omega)
   simp only [l1C, h1, h8, h10, d1, d2, vn, vo, qX, qV, qY, qW, kO, kP, kA, kB, qU, qT, qS, qM, vw, jv, jV, nilOwn, vI, kH, jT, jw, kC, jL, kU, qA, qZ, q9, va, vf, vg, vd, qt, qu, qw, qx, qy, qB, qC, qD, qE, qF, ve, kG, vb, jn, kD, kK, List.append_assoc, List.drop_zero, List.isEmpty_nil, List.getElem?_cons_zero, List.getElem?_cons_succ, List.set_cons_succ, List.flatMap_nil, List.take_zero, Nat.zero_le, Nat.le_refl, Nat.lt_irrefl, List.nil_append, List.length_append, dlt, dge, dle, jS, jN, kJ, kI, bff, btt, vN, tk0, tk1, st0, st1, kQ, jM, jz, qz, vy, jO, jU, kR, vt, qH, Bool.true_or, Bool.or_true, Bool.false_or, Bool.or_false, bne_self_eq_false, Nat.lt_add_one, Nat.lt_succ_self, kT, jZ, Ts.fill, vF, vL, vz, jP, List.map_nil, List.map_cons, List.all_nil, List.all_cons, vG, kN, qe, kh, qg, qQ, qf, qR, qd, kb, jG, ke, qc, qb, kc, kg, ka, jX, jF, j9, qa, k9, j8, Bool.and_true, Bool.true_and, Bool.false_and, Bool.and_false, Bool.not_false, Bool.not_true, List.take_length, List.filter_nil, List.filter_cons, Bool.false_eq_true, jB, jR, j0, j5, jD, jC, jo, jt, jr, kL, jQ, jd, getAll, stepCall, kM, unI, Opd.get, kV, qP, qL, je, ja, jE, kW, kY, kX, tag, qG, jk, jg, jq, jx, jp, jy, List.length_range, jf, jb, ji, jl, jh, jm, jW, jA, j7, kZ, j6, k8, jc, List.set_cons_zero, vr, rv, bin, vH, kv, jJ, ky, qp, kx, kw, ju, jK, qn, qr, qq, ku, kz, qo, jY, jI, kt, ql, kq, qm, kl, jH, kp, qh, ko, qk, Nat.reduceAdd, Nat.reduceSub, Nat.reduceMul, Nat.reduceDiv, Nat.reduceMod, Nat.reducePow, Nat.reduceLT, Nat.reduceLeDiff, Nat.reduceEqDiff, Nat.reduceBEq, Nat.reduceBNe, reduceIte, Int.reduceEq, Int.reduceLT, Int.reduceLE, Int.reduceNeg, Int.reduceToNat, Int.reduceMul, Int.reduceAdd, Int.reduceSub, Int.cast_ofNat_Int, reduceCtorEq, Nat.zero_add, Nat.add_zero, Nat.mul_one, bft, btf, beq_self_eq_true, true_and, and_true, and_self, if_true, if_false, ite_true, ite_false, c0, c1, not_true_eq_false, not_false_eq_true, Bool.true_eq_false, Option.some.injEq, Prod.mk.injEq, exists_eq_left, List.length_map, List.getElem?_map, Option.map_some, List.cons_append, List.length_cons, List.length_nil, List.append_nil, decide_true, decide_false]
   exact ⟨(_, _, _), rfl, (by repeat (first | exact hKf | refine KeepT.upd (by decide) ?_))⟩
 . have d1 : decide ((0 : Int) < (acts.length : Int)) = false := decide_eq_false (by omega)
   simp only [l1C, h1, h8, h10, d1, vn, vo, qX, qV, qY, qW, kO, kP, kA, kB, qU, qT, qS, qM, vw, jv, jV, nilOwn, vI, kH, jT, jw, kC, jL, kU, qA, qZ, q9, va, vf, vg, vd, qt, qu, qw, qx, qy, qB, qC, qD, qE, qF, ve, kG, vb, jn, kD, kK, List.append_assoc, List.drop_zero, List.isEmpty_nil, List.getElem?_cons_zero, List.getElem?_cons_succ, List.set_cons_succ, List.flatMap_nil, List.take_zero, Nat.zero_le, Nat.le_refl, Nat.lt_irrefl, List.nil_append, List.length_append, dlt, dge, dle, jS, jN, kJ, kI, bff, btt, vN, tk0, tk1, st0, st1, kQ, jM, jz, qz, vy, jO, jU, kR, vt, qH, Bool.true_or, Bool.or_true, Bool.false_or, Bool.or_false, bne_self_eq_false, Nat.lt_add_one, Nat.lt_succ_self, kT, jZ, Ts.fill, vF, vL, vz, jP, List.map_nil, List.map_cons, List.all_nil, List.all_cons, vG, kN, qe, kh, qg, qQ, qf, qR, qd, kb, jG, ke, qc, qb, kc, kg, ka, jX, jF, j9, qa, k9, j8, Bool.and_true, Bool.true_and, Bool.false_and, Bool.and_false, Bool.not_false, Bool.not_true, List.take_length, List.filter_nil, List.filter_cons, Bool.false_eq_true, jB, jR, j0, j5, jD, jC, jo, jt, jr, kL, jQ, jd, getAll, stepCall, kM, unI, Opd.get, kV, qP, qL, je, ja, jE, kW, kY, kX, tag, qG, jk, jg, jq, jx, jp, jy, List.length_range, jf, jb, ji, jl, jh, jm, jW, jA, j7, kZ, j6, k8, jc, List.set_cons_zero, vr, rv, bin, vH, kv, jJ, ky, qp, kx, kw, ju, jK, qn, qr, qq, ku, kz, qo, jY, jI, kt, ql, kq, qm, kl, jH, kp, qh, ko, qk, Nat.reduceAdd, Nat.reduceSub, Nat.reduceMul, Nat.reduceDiv, Nat.reduceMod, Nat.reducePow, Nat.reduceLT, Nat.reduceLeDiff, Nat.reduceEqDiff, Nat.reduceBEq, Nat.reduceBNe, reduceIte, Int.reduceEq, Int.reduceLT, Int.reduceLE, Int.reduceNeg, Int.reduceToNat, Int.reduceMul, Int.reduceAdd, Int.reduceSub, Int.cast_ofNat_Int, reduceCtorEq, Nat.zero_add, Nat.add_zero, Nat.mul_one, bft, btf, beq_self_eq_true, true_and, and_true, and_self, if_true, if_false, ite_true, ite_false, c0, c1, not_true_eq_false, not_false_eq_true, Bool.true_eq_false, Option.some.injEq, Prod.mk.injEq, exists_eq_left, List.length_map, List.getElem?_map, Option.map_some, List.cons_append, List.length_cons, List.length_nil, List.append_nil, decide_true, decide_false]
   exact ⟨(_, _, _), rfl, (by repeat (first | exact hKf | refine KeepT.upd (by decide) ?_))⟩
theorem LI0 {px pr ps ss : Nat} {ev : Int} {σ : List IObj} (h1 : px < pr) (h2 : pr < ps) (h3 : ps < ss) (a1 : σ[px]? = some (.cells [I ev, .sl 55 true []])) (a2 : σ[pr]? = some (.cells [I ev, .sl 55 true []])) (a3 : σ[ps]? = some (.cells (SS ss 0 0))) (a4 : σ[ss]? = some (.cells ([0, 0, 0].map J))) :
   LI px pr ps ss ev 0 [] 0 0 [0, 0, 0] (.sl 55 true []) (.sl 55 true []) σ := by
 refine ⟨⟨a1, a2, Or.inl ⟨55, rfl, rfl⟩, Or.inl ⟨55, rfl, rfl⟩, by omega, fun i hi => (by cases hi), fun i hi => (by cases hi), ?_, fun t ht => (by cases ht), ?_⟩, by omega, a3, a4, rfl, Nat.le_refl _, by omega, by omega, fun t ht => (by cases ht)⟩
 . intro i hi
   refine ⟨?_, fun t ht => (by cases ht)⟩
   intro hm
   simp only [List.mem_cons, List.not_mem_nil, or_false] at hm
   rcases hi with rfl | rfl | hi | hi
   . omega
   . omega
   . cases hi
   . cases hi
 . intro i hi
   simp only [List.mem_cons, List.not_mem_nil, or_false] at hi
   rcases hi with rfl | rfl
   . exact jj a3
   . exact jj a4
theorem jcw (fs : Fs F) {f : Nat -> Option (Nat × IVal)} {wr : List (Nat × Bool)} {σ : List IObj} {o k : Nat} {r : Bool} {e1 e2 n : Int} {acts : List Act} (hok : ∀ x ∈ acts, x.ok) (hk : k < 2) (hn : [I e1, I e2][k]? = some (I n))
   (h1 : f 1 = some (1, .sl o r (acts.map av))) (h4 : f 4 = some (4, .bool false)) (h26 : f 26 = some (26, .agg [I e1, I e2])) (h27 : f 27 = some (27, I k)) :
   ∃ f' σ' wr', evw F Qb ⟨E 98 32 8 [] (base f), σ, wr⟩ = some (.normal, ⟨E 98 32 8 [] (base f'), σ', wr'⟩) /\ KeepT [0, 1, 4, 26] f f' /\ f' 27 = some (27, I ((k + 1 : Nat) : Int)) := by
 have d1 : decide ((k : Int) < 2) = true := decide_eq_true (by omega)
 have d2 : (0 : Int) <= (k : Int) := by omega
 have d3 : (k : Int) < ((2 : Nat) : Int) := by omega
 have d3' : (k : Int) < 2 := by omega
 have t1 : vl none [I e1, I e2] k = some (I n) := hn
 have t2 : vl none [I e1, I e2] (k * 1) = some (I n) := by rw [Nat.mul_one]; exact hn
 have w1 := VS (n := k) (by omega)
 have tt : (true == true) = true := rfl
 have r3 : KE 3 [.int .i32 0] = [0, 0, 0].map J := rfl
 by_cases c : 1 <= n
 . have n4 := fun σ => jhS fs.h4 c σ
   have n5 := fun σ => jhT fs.h5 c σ
   simp only [Qb, h1, h4, h26, h27, d1, d2, d3, d3', t1, t2, n4, n5, tt, r3, Int.toNat_natCast, vn, vo, qX, qV, qY, qW, kO, kP, kA, kB, qU, qT, qS, qM, vw, jv, jV, nilOwn, vI, kH, jT, jw, kC, jL, kU, qA, qZ, q9, va, vf, vg, vd, qt, qu, qw, qx, qy, qB, qC, qD, qE, qF, ve, kG, vb, jn, kD, kK, List.append_assoc, List.drop_zero, List.isEmpty_nil, List.getElem?_cons_zero, List.getElem?_cons_succ, List.set_cons_succ, List.flatMap_nil, List.take_zero, Nat.zero_le, Nat.le_refl, Nat.lt_irrefl, List.nil_append, List.length_append, dlt, dge, dle, jS, jN, kJ, kI, bff, btt, vN, tk0, tk1, st0, st1, kQ, jM, jz, qz, vy, jO, jU, kR, vt, qH, Bool.true_or, Bool.or_true, Bool.false_or, Bool.or_false, bne_self_eq_false, Nat.lt_add_one, Nat.lt_succ_self, kT, jZ, Ts.fill, vF, vL, vz, jP, List.map_nil, List.map_cons, List.all_nil, List.all_cons, vG, kN, qe, kh, qg, qQ, qf, qR, qd, kb, jG, ke, qc, qb, kc, kg, ka, jX, jF, j9, qa, k9, j8, Bool.and_true, Bool.true_and, Bool.false_and, Bool.and_false, Bool.not_false, Bool.not_true, List.take_length, List.filter_nil, List.filter_cons, Bool.false_eq_true, jB, jR, j0, j5, jD, jC, jo, jt, jr, kL, jQ, jd, getAll, stepCall, kM, unI, Opd.get, kV, qP, qL, je, ja, jE, kW, kY, kX, tag, qG, jk, jg, jq, jx, jp, jy, List.length_range, jf, jb, ji, jl, jh, jm, jW, jA, j7, kZ, j6, k8, jc, List.set_cons_zero, vr, rv, bin, vH, kv, jJ, ky, qp, kx, kw, ju, jK, qn, qr, qq, ku, kz, qo, jY, jI, kt, ql, kq, qm, kl, jH, kp, qh, ko, qk, Nat.reduceAdd, Nat.reduceSub, Nat.reduceMul, Nat.reduceDiv, Nat.reduceMod, Nat.reducePow, Nat.reduceLT, Nat.reduceLeDiff, Nat.reduceEqDiff, Nat.reduceBEq, Nat.reduceBNe, reduceIte, Int.reduceEq, Int.reduceLT, Int.reduceLE, Int.reduceNeg, Int.reduceToNat, Int.reduceMul, Int.reduceAdd, Int.reduceSub, Int.cast_ofNat_Int, reduceCtorEq, Nat.zero_add, Nat.add_zero, Nat.mul_one, bft, btf, beq_self_eq_true, true_and, and_true, and_self, if_true, if_false, ite_true, ite_false, c0, c1, not_true_eq_false, not_false_eq_true, Bool.true_eq_false, Option.some.injEq, Prod.mk.injEq, exists_eq_left, List.length_map, List.getElem?_map, Option.map_some, List.cons_append, List.length_cons, List.length_nil, List.append_nil, decide_true, decide_false]
   generalize hE : evw F (.loop J4) _ = R
   obtain ⟨⟨f1, σ1, wr1⟩, rfl, K⟩ := jaw (px := σ.length) (pr := σ.length + 1) (ps := σ.length + 2) (ss := σ.length + 3) (ev := n) fs hE hok (LI0 (by omega) (by omega) (by omega) (by rw [jw]; rfl) (by rw [jT]; rfl) (by rw [jT]; rfl) (by rw [jT]; rfl)) (by (try simp only [je, ja, Nat.reduceAdd, Nat.reduceSub, Nat.reduceMul, Nat.reduceDiv, Nat.reduceMod, Nat.reducePow, Nat.reduceLT, Nat.reduceLeDiff, Nat.reduceEqDiff, Nat.reduceBEq, Nat.reduceBNe, reduceIte, Int.reduceEq, Int.reduceLT, Int.reduceLE, Int.reduceNeg, Int.reduceToNat, Int.reduceMul, Int.reduceAdd, Int.reduceSub, Int.cast_ofNat_Int, reduceCtorEq, Nat.zero_add, Nat.add_zero, Nat.mul_one]) <;> first | exact h1 | rfl) (by (try simp only [je, ja, Nat.reduceAdd, Nat.reduceSub, Nat.reduceMul, Nat.reduceDiv, Nat.reduceMod, Nat.reducePow, Nat.reduceLT, Nat.reduceLeDiff, Nat.reduceEqDiff, Nat.reduceBEq, Nat.reduceBNe, reduceIte, Int.reduceEq, Int.reduceLT, Int.reduceLE, Int.reduceNeg, Int.reduceToNat, Int.reduceMul, Int.reduceAdd, Int.reduceSub, Int.cast_ofNat_Int, reduceCtorEq, Nat.zero_add, Nat.add_zero, Nat.mul_one]) <;> rfl) (by (try simp only [je, ja, Nat.reduceAdd, Nat.reduceSub, Nat.reduceMul, Nat.reduceDiv, Nat.reduceMod, Nat.reducePow, Nat.reduceLT, Nat.reduceLeDiff, Nat.reduceEqDiff, Nat.reduceBEq, Nat.reduceBNe, reduceIte, Int.reduceEq, Int.reduceLT, Int.reduceLE, Int.reduceNeg, Int.reduceToNat, Int.reduceMul, Int.reduceAdd, Int.reduceSub, Int.cast_ofNat_Int, reduceCtorEq, Nat.zero_add, Nat.add_zero, Nat.mul_one]) <;> rfl) (by (try simp only [je, ja, Nat.reduceAdd, Nat.reduceSub, Nat.reduceMul, Nat.reduceDiv, Nat.reduceMod, Nat.reducePow, Nat.reduceLT, Nat.reduceLeDiff, Nat.reduceEqDiff, Nat.reduceBEq, Nat.reduceBNe, reduceIte, Int.reduceEq, Int.reduceLT, Int.reduceLE, Int.reduceNeg, Int.reduceToNat, Int.reduceMul, Int.reduceAdd, Int.reduceSub, Int.cast_ofNat_Int, reduceCtorEq, Nat.zero_add, Nat.add_zero, Nat.mul_one]) <;> rfl) (by (try simp only [je, ja, Nat.reduceAdd, Nat.reduceSub, Nat.reduceMul, Nat.reduceDiv, Nat.reduceMod, Nat.reducePow, Nat.reduceLT, Nat.reduceLeDiff, Nat.reduceEqDiff, Nat.reduceBEq, Nat.reduceBNe, reduceIte, Int.reduceEq, Int.reduceLT, Int.reduceLE, Int.reduceNeg, Int.reduceToNat, Int.reduceMul, Int.reduceAdd, Int.reduceSub, Int.cast_ofNat_Int, reduceCtorEq, Nat.zero_add, Nat.add_zero, Nat.mul_one]) <;> rfl)
   have K2 : KeepT [0, 1, 4, 26] f f1 := by
     have hKf := KeepT.refl [0, 1, 4, 26] f
     exact KeepT.trans (by repeat (first | exact hKf | refine KeepT.upd (by decide) ?_)) (K.sub (by decide))
   have a27 : f1 27 = some (27, I k) := (K 27 (by decide)).trans (by (try simp only [je, ja, Nat.reduceAdd, Nat.reduceSub, Nat.reduceMul, Nat.reduceDiv, Nat.reduceMod, Nat.reducePow, Nat.reduceLT, Nat.reduceLeDiff, Nat.reduceEqDiff, Nat.reduceBEq, Nat.reduceBNe, reduceIte, Int.reduceEq, Int.reduceLT, Int.reduceLE, Int.reduceNeg, Int.reduceToNat, Int.reduceMul, Int.reduceAdd, Int.reduceSub, Int.cast_ofNat_Int, reduceCtorEq, Nat.zero_add, Nat.add_zero, Nat.mul_one]) <;> first | exact h27 | rfl)
   simp only [a27, w1, vn, vo, qX, qV, qY, qW, kO, kP, kA, kB, qU, qT, qS, qM, vw, jv, jV, nilOwn, vI, kH, jT, jw, kC, jL, kU, qA, qZ, q9, va, vf, vg, vd, qt, qu, qw, qx, qy, qB, qC, qD, qE, qF, ve, kG, vb, jn, kD, kK, List.append_assoc, List.drop_zero, List.isEmpty_nil, List.getElem?_cons_zero, List.getElem?_cons_succ, List.set_cons_succ, List.flatMap_nil, List.take_zero, Nat.zero_le, Nat.le_refl, Nat.lt_irrefl, List.nil_append, List.length_append, dlt, dge, dle, jS, jN, kJ, kI, bff, btt, vN, tk0, tk1, st0, st1, kQ, jM, jz, qz, vy, jO, jU, kR, vt, qH, Bool.true_or, Bool.or_true, Bool.false_or, Bool.or_false, bne_self_eq_false, Nat.lt_add_one, Nat.lt_succ_self, kT, jZ, Ts.fill, vF, vL, vz, jP, List.map_nil, List.map_cons, List.all_nil, List.all_cons, vG, kN, qe, kh, qg, qQ, qf, qR, qd, kb, jG, ke, qc, qb, kc, kg, ka, jX, jF, j9, qa, k9, j8, Bool.and_true, Bool.true_and, Bool.false_and, Bool.and_false, Bool.not_false, Bool.not_true, List.take_length, List.filter_nil, List.filter_cons, Bool.false_eq_true, jB, jR, j0, j5, jD, jC, jo, jt, jr, kL, jQ, jd, getAll, stepCall, kM, unI, Opd.get, kV, qP, qL, je, ja, jE, kW, kY, kX, tag, qG, jk, jg, jq, jx, jp, jy, List.length_range, jf, jb, ji, jl, jh, jm, jW, jA, j7, kZ, j6, k8, jc, List.set_cons_zero, vr, rv, bin, vH, kv, jJ, ky, qp, kx, kw, ju, jK, qn, qr, qq, ku, kz, qo, jY, jI, kt, ql, kq, qm, kl, jH, kp, qh, ko, qk, Nat.reduceAdd, Nat.reduceSub, Nat.reduceMul, Nat.reduceDiv, Nat.reduceMod, Nat.reducePow, Nat.reduceLT, Nat.reduceLeDiff, Nat.reduceEqDiff, Nat.reduceBEq, Nat.reduceBNe, reduceIte, Int.reduceEq, Int.reduceLT, Int.reduceLE, Int.reduceNeg, Int.reduceToNat, Int.reduceMul, Int.reduceAdd, Int.reduceSub, Int.cast_ofNat_Int, reduceCtorEq, Nat.zero_add, Nat.add_zero, Nat.mul_one, bft, btf, beq_self_eq_true, true_and, and_true, and_self, if_true, if_false, ite_true, ite_false, c0, c1, not_true_eq_false, not_false_eq_true, Bool.true_eq_false, Option.some.injEq, Prod.mk.injEq, exists_eq_left, List.length_map, List.getElem?_map, Option.map_some, List.cons_append, List.length_cons, List.length_nil, List.append_nil, decide_true, decide_false]
   exact ⟨_, _, _, rfl, (by repeat (first | exact K2 | refine KeepT.upd (by decide) ?_)), (by (try simp only [je, ja, Nat.reduceAdd, Nat.reduceSub, Nat.reduceMul, Nat.reduceDiv, Nat.reduceMod, Nat.reducePow, Nat.reduceLT, Nat.reduceLeDiff, Nat.reduceEqDiff, Nat.reduceBEq, Nat.reduceBNe, reduceIte, Int.reduceEq, Int.reduceLT, Int.reduceLE, Int.reduceNeg, Int.reduceToNat, Int.reduceMul, Int.reduceAdd, Int.reduceSub, Int.cast_ofNat_Int, reduceCtorEq, Nat.zero_add, Nat.add_zero, Nat.mul_one]) <;> rfl)⟩
 . have n4 := fun σ => jen fs.h4 (show n < 1 by omega) σ
   have n5 := fun σ => jeo fs.h5 (show n < 1 by omega) σ
   simp only [Qb, h1, h4, h26, h27, d1, d2, d3, d3', t1, t2, n4, n5, tt, r3, Int.toNat_natCast, vn, vo, qX, qV, qY, qW, kO, kP, kA, kB, qU, qT, qS, qM, vw, jv, jV, nilOwn, vI, kH, jT, jw, kC, jL, kU, qA, qZ, q9, va, vf, vg, vd, qt, qu, qw, qx, qy, qB, qC, qD, qE, qF, ve, kG, vb, jn, kD, kK, List.append_assoc, List.drop_zero, List.isEmpty_nil, List.getElem?_cons_zero, List.getElem?_cons_succ, List.set_cons_succ, List.flatMap_nil, List.take_zero, Nat.zero_le, Nat.le_refl, Nat.lt_irrefl, List.nil_append, List.length_append, dlt, dge, dle, jS, jN, kJ, kI, bff, btt, vN, tk0, tk1, st0, st1, kQ, jM, jz, qz, vy, jO, jU, kR, vt, qH, Bool.true_or, Bool.or_true, Bool.false_or, Bool.or_false, bne_self_eq_false, Nat.lt_add_one, Nat.lt_succ_self, kT, jZ, Ts.fill, vF, vL, vz, jP, List.map_nil, List.map_cons, List.all_nil, List.all_cons, vG, kN, qe, kh, qg, qQ, qf, qR, qd, kb, jG, ke, qc, qb, kc, kg, ka, jX, jF, j9, qa, k9, j8, Bool.and_true, Bool.true_and, Bool.false_and, Bool.and_false, Bool.not_false, Bool.not_true, List.take_length, List.filter_nil, List.filter_cons, Bool.false_eq_true, jB, jR, j0, j5, jD, jC, jo, jt, jr, kL, jQ, jd, getAll, stepCall, kM, unI, Opd.get, kV, qP, qL, je, ja, jE, kW, kY, kX, tag, qG, jk, jg, jq, jx, jp, jy, List.length_range, jf, jb, ji, jl, jh, jm, jW, jA, j7, kZ, j6, k8, jc, List.set_cons_zero, vr, rv, bin, vH, kv, jJ, ky, qp, kx, kw, ju, jK, qn, qr, qq, ku, kz, qo, jY, jI, kt, ql, kq, qm, kl, jH, kp, qh, ko, qk, Nat.reduceAdd, Nat.reduceSub, Nat.reduceMul, Nat.reduceDiv, Nat.reduceMod, Nat.reducePow, Nat.reduceLT, Nat.reduceLeDiff, Nat.reduceEqDiff, Nat.reduceBEq, Nat.reduceBNe, reduceIte, Int.reduceEq, Int.reduceLT, Int.reduceLE, Int.reduceNeg, Int.reduceToNat, Int.reduceMul, Int.reduceAdd, Int.reduceSub, Int.cast_ofNat_Int, reduceCtorEq, Nat.zero_add, Nat.add_zero, Nat.mul_one, bft, btf, beq_self_eq_true, true_and, and_true, and_self, if_true, if_false, ite_true, ite_false, c0, c1, not_true_eq_false, not_false_eq_true, Bool.true_eq_false, Option.some.injEq, Prod.mk.injEq, exists_eq_left, List.length_map, List.getElem?_map, Option.map_some, List.cons_append, List.length_cons, List.length_nil, List.append_nil, decide_true, decide_false]
   generalize hE : evw F (.loop J4) _ = R
   obtain ⟨⟨f1, σ1, wr1⟩, rfl, K⟩ := jax hE (by (try simp only [je, ja, Nat.reduceAdd, Nat.reduceSub, Nat.reduceMul, Nat.reduceDiv, Nat.reduceMod, Nat.reducePow, Nat.reduceLT, Nat.reduceLeDiff, Nat.reduceEqDiff, Nat.reduceBEq, Nat.reduceBNe, reduceIte, Int.reduceEq, Int.reduceLT, Int.reduceLE, Int.reduceNeg, Int.reduceToNat, Int.reduceMul, Int.reduceAdd, Int.reduceSub, Int.cast_ofNat_Int, reduceCtorEq, Nat.zero_add, Nat.add_zero, Nat.mul_one]) <;> first | exact h1 | rfl) (by (try simp only [je, ja, Nat.reduceAdd, Nat.reduceSub, Nat.reduceMul, Nat.reduceDiv, Nat.reduceMod, Nat.reducePow, Nat.reduceLT, Nat.reduceLeDiff, Nat.reduceEqDiff, Nat.reduceBEq, Nat.reduceBNe, reduceIte, Int.reduceEq, Int.reduceLT, Int.reduceLE, Int.reduceNeg, Int.reduceToNat, Int.reduceMul, Int.reduceAdd, Int.reduceSub, Int.cast_ofNat_Int, reduceCtorEq, Nat.zero_add, Nat.add_zero, Nat.mul_one]) <;> rfl) (by (try simp only [je, ja, Nat.reduceAdd, Nat.reduceSub, Nat.reduceMul, Nat.reduceDiv, Nat.reduceMod, Nat.reducePow, Nat.reduceLT, Nat.reduceLeDiff, Nat.reduceEqDiff, Nat.reduceBEq, Nat.reduceBNe, reduceIte, Int.reduceEq, Int.reduceLT, Int.reduceLE, Int.reduceNeg, Int.reduceToNat, Int.reduceMul, Int.reduceAdd, Int.reduceSub, Int.cast_ofNat_Int, reduceCtorEq, Nat.zero_add, Nat.add_zero, Nat.mul_one]) <;> rfl)
   have K2 : KeepT [0, 1, 4, 26] f f1 := by
     have hKf := KeepT.refl [0, 1, 4, 26] f
     exact KeepT.trans (by repeat (first | exact hKf | refine KeepT.upd (by decide) ?_)) (K.sub (by decide))
   have a27 : f1 27 = some (27, I k) := (K 27 (by decide)).trans (by (try simp only [je, ja, Nat.reduceAdd, Nat.reduceSub, Nat.reduceMul, Nat.reduceDiv, Nat.reduceMod, Nat.reducePow, Nat.reduceLT, Nat.reduceLeDiff, Nat.reduceEqDiff, Nat.reduceBEq, Nat.reduceBNe, reduceIte, Int.reduceEq, Int.reduceLT, Int.reduceLE, Int.reduceNeg, Int.reduceToNat, Int.reduceMul, Int.reduceAdd, Int.reduceSub, Int.cast_ofNat_Int, reduceCtorEq, Nat.zero_add, Nat.add_zero, Nat.mul_one]) <;> first | exact h27 | rfl)
   simp only [a27, w1, vn, vo, qX, qV, qY, qW, kO, kP, kA, kB, qU, qT, qS, qM, vw, jv, jV, nilOwn, vI, kH, jT, jw, kC, jL, kU, qA, qZ, q9, va, vf, vg, vd, qt, qu, qw, qx, qy, qB, qC, qD, qE, qF, ve, kG, vb, jn, kD, kK, List.append_assoc, List.drop_zero, List.isEmpty_nil, List.getElem?_cons_zero, List.getElem?_cons_succ, List.set_cons_succ, List.flatMap_nil, List.take_zero, Nat.zero_le, Nat.le_refl, Nat.lt_irrefl, List.nil_append, List.length_append, dlt, dge, dle, jS, jN, kJ, kI, bff, btt, vN, tk0, tk1, st0, st1, kQ, jM, jz, qz, vy, jO, jU, kR, vt, qH, Bool.true_or, Bool.or_true, Bool.false_or, Bool.or_false, bne_self_eq_false, Nat.lt_add_one, Nat.lt_succ_self, kT, jZ, Ts.fill, vF, vL, vz, jP, List.map_nil, List.map_cons, List.all_nil, List.all_cons, vG, kN, qe, kh, qg, qQ, qf, qR, qd, kb, jG, ke, qc, qb, kc, kg, ka, jX, jF, j9, qa, k9, j8, Bool.and_true, Bool.true_and, Bool.false_and, Bool.and_false, Bool.not_false, Bool.not_true, List.take_length, List.filter_nil, List.filter_cons, Bool.false_eq_true, jB, jR, j0, j5, jD, jC, jo, jt, jr, kL, jQ, jd, getAll, stepCall, kM, unI, Opd.get, kV, qP, qL, je, ja, jE, kW, kY, kX, tag, qG, jk, jg, jq, jx, jp, jy, List.length_range, jf, jb, ji, jl, jh, jm, jW, jA, j7, kZ, j6, k8, jc, List.set_cons_zero, vr, rv, bin, vH, kv, jJ, ky, qp, kx, kw, ju, jK, qn, qr, qq, ku, kz, qo, jY, jI, kt, ql, kq, qm, kl, jH, kp, qh, ko, qk, Nat.reduceAdd, Nat.reduceSub, Nat.reduceMul, Nat.reduceDiv, Nat.reduceMod, Nat.reducePow, Nat.reduceLT, Nat.reduceLeDiff, Nat.reduceEqDiff, Nat.reduceBEq, Nat.reduceBNe, reduceIte, Int.reduceEq, Int.reduceLT, Int.reduceLE, Int.reduceNeg, Int.reduceToNat, Int.reduceMul, Int.reduceAdd, Int.reduceSub, Int.cast_ofNat_Int, reduceCtorEq, Nat.zero_add, Nat.add_zero, Nat.mul_one, bft, btf, beq_self_eq_true, true_and, and_true, and_self, if_true, if_false, ite_true, ite_false, c0, c1, not_true_eq_false, not_false_eq_true, Bool.true_eq_false, Option.some.injEq, Prod.mk.injEq, exists_eq_left, List.length_map, List.getElem?_map, Option.map_some, List.cons_append, List.length_cons, List.length_nil, List.append_nil, decide_true, decide_false]
   exact ⟨_, _, _, rfl, (by repeat (first | exact K2 | refine KeepT.upd (by decide) ?_)), (by (try simp only [je, ja, Nat.reduceAdd, Nat.reduceSub, Nat.reduceMul, Nat.reduceDiv, Nat.reduceMod, Nat.reducePow, Nat.reduceLT, Nat.reduceLeDiff, Nat.reduceEqDiff, Nat.reduceBEq, Nat.reduceBNe, reduceIte, Int.reduceEq, Int.reduceLT, Int.reduceLE, Int.reduceNeg, Int.reduceToNat, Int.reduceMul, Int.reduceAdd, Int.reduceSub, Int.cast_ofNat_Int, reduceCtorEq, Nat.zero_add, Nat.add_zero, Nat.mul_one]) <;> rfl)⟩
theorem jei (fs : Fs F) {f0 : Nat -> Option (Nat × IVal)} {wr : List (Nat × Bool)} {σ : List IObj} {R : Option (IExit × St)} {o : Nat} {r : Bool} {e1 e2 : Int} {acts : List Act} (hE : evw F (.loop Qb) ⟨E 98 32 8 [] f0, σ, wr⟩ = R) (hok : ∀ x ∈ acts, x.ok)
   (h1 : f0 1 = some (1, .sl o r (acts.map av))) (h4 : f0 4 = some (4, .bool false)) (h26 : f0 26 = some (26, .agg [I e1, I e2])) (h27 : f0 27 = some (27, I 0)) :
   ∃ x : (Nat -> Option (Nat × IVal)) × List IObj × List (Nat × Bool), R = some (.exit 0, ⟨E 98 32 8 [] (base x.1), x.2.1, x.2.2⟩) /\ KeepT [4] f0 x.1 := by
 subst hE
 refine VX (fun k st => ∃ f σ wr, st = ⟨E 98 32 8 [] (base f), σ, wr⟩ /\ KeepT [0, 1, 4, 26] f0 f /\ f 27 = some (27, I k)) 2 ⟨f0, σ, wr, rfl, KeepT.refl _ _, h27⟩ ?_ ?_
 . rintro k st hk ⟨f, σ, wr, rfl, hK, e27⟩
   obtain ⟨n, hn⟩ : ∃ n, [I e1, I e2][k]? = some (I n) := by
     match k, hk with
     | 0, _ => exact ⟨e1, rfl⟩
     | 1, _ => exact ⟨e2, rfl⟩
   obtain ⟨f', σ', wr', H, K, a27⟩ := jcw (wr := wr) (σ := σ) fs hok hk hn ((hK 1 (by decide)).trans h1) ((hK 4 (by decide)).trans h4) ((hK 26 (by decide)).trans h26) e27
   exact ⟨_, H, f', σ', wr', rfl, hK.trans K, a27⟩
 . rintro st ⟨f, σ, wr, rfl, hK, e27⟩
   have e27 : f 27 = some (27, I 2) := e27
   have d1 : decide ((2 : Int) < 2) = false := rfl
   have hKf := hK.sub (l' := [4]) (by decide)
   rw [vK]
   simp only [Qb, e27, d1, vn, vo, qX, qV, qY, qW, kO, kP, kA, kB, qU, qT, qS, qM, vw, jv, jV, nilOwn, vI, kH, jT, jw, kC, jL, kU, qA, qZ, q9, va, vf, vg, vd, qt, qu, qw, qx, qy, qB, qC, qD, qE, qF, ve, kG, vb, jn, kD, kK, List.append_assoc, List.drop_zero, List.isEmpty_nil, List.getElem?_cons_zero, List.getElem?_cons_succ, List.set_cons_succ, List.flatMap_nil, List.take_zero, Nat.zero_le, Nat.le_refl, Nat.lt_irrefl, List.nil_append, List.length_append, dlt, dge, dle, jS, jN, kJ, kI, bff, btt, vN, tk0, tk1, st0, st1, kQ, jM, jz, qz, vy, jO, jU, kR, vt, qH, Bool.true_or, Bool.or_true, Bool.false_or, Bool.or_false, bne_self_eq_false, Nat.lt_add_one, Nat.lt_succ_self, kT, jZ, Ts.fill, vF, vL, vz, jP, List.map_nil, List.map_cons, List.all_nil, List.all_cons, vG, kN, qe, kh, qg, qQ, qf, qR, qd, kb, jG, ke, qc, qb, kc, kg, ka, jX, jF, j9, qa, k9, j8, Bool.and_true, Bool.true_and, Bool.false_and, Bool.and_false, Bool.not_false, Bool.not_true, List.take_length, List.filter_nil, List.filter_cons, Bool.false_eq_true, jB, jR, j0, j5, jD, jC, jo, jt, jr, kL, jQ, jd, getAll, stepCall, kM, unI, Opd.get, kV, qP, qL, je, ja, jE, kW, kY, kX, tag, qG, jk, jg, jq, jx, jp, jy, List.length_range, jf, jb, ji, jl, jh, jm, jW, jA, j7, kZ, j6, k8, jc, List.set_cons_zero, vr, rv, bin, vH, kv, jJ, ky, qp, kx, kw, ju, jK, qn, qr, qq, ku, kz, qo, jY, jI, kt, ql, kq, qm, kl, jH, kp, qh, ko, qk, Nat.reduceAdd, Nat.reduceSub, Nat.reduceMul, Nat.reduceDiv, Nat.reduceMod, Nat.reducePow, Nat.reduceLT, Nat.reduceLeDiff, Nat.reduceEqDiff, Nat.reduceBEq, Nat.reduceBNe, reduceIte, Int.reduceEq, Int.reduceLT, Int.reduceLE, Int.reduceNeg, Int.reduceToNat, Int.reduceMul, Int.reduceAdd, Int.reduceSub, Int.cast_ofNat_Int, reduceCtorEq, Nat.zero_add, Nat.add_zero, Nat.mul_one, bft, btf, beq_self_eq_true, true_and, and_true, and_self, if_true, if_false, ite_true, ite_false, c0, c1, not_true_eq_false, not_false_eq_true, Bool.true_eq_false, Option.some.injEq, Prod.mk.injEq, exists_eq_left, List.length_map, List.getElem?_map, Option.map_some, List.cons_append, List.length_cons, List.length_nil, List.append_nil, decide_true, decide_false]
   exact ⟨(_, _, _), rfl, (by repeat (first | exact hKf | refine KeepT.upd (by decide) ?_))⟩
/-- SnapPlays is true for every input. -/
theorem jb3 (fs : Fs F) (h3 : F 3 = some ir3) (h17 : ∀ σ, cfw F (.f 17) [] σ = some ⟨false, .bool true, σ, []⟩) {r : Bool} {o : Nat} {every : Int} {acts : List Act} (hok : ∀ x ∈ acts, x.ok) :
   ∃ σ wr, cfw F (.f 3) [I every, .sl o r (acts.map av)] [] = some ⟨false, .bool true, σ, wr⟩ := by
 rw [vp ir3 h3, kT]
 have n9 : ((9 : Int) = 0) = False := eq_false (by omega)
 have f2 : ∀ a b : Int, JG [.int .i64 0, .int .i64 0] [(0, 1, .int .i64 a), (1, 1, .int .i64 b)] = some [I a, I b] := fun _ _ => rfl
 simp only [ir3, n9, f2, List.zip_cons_cons, List.zip_nil_right, vn, vo, qX, qV, qY, qW, kO, kP, kA, kB, qU, qT, qS, qM, vw, jv, jV, nilOwn, vI, kH, jT, jw, kC, jL, kU, qA, qZ, q9, va, vf, vg, vd, qt, qu, qw, qx, qy, qB, qC, qD, qE, qF, ve, kG, vb, jn, kD, kK, List.append_assoc, List.drop_zero, List.isEmpty_nil, List.getElem?_cons_zero, List.getElem?_cons_succ, List.set_cons_succ, List.flatMap_nil, List.take_zero, Nat.zero_le, Nat.le_refl, Nat.lt_irrefl, List.nil_append, List.length_append, dlt, dge, dle, jS, jN, kJ, kI, bff, btt, vN, tk0, tk1, st0, st1, kQ, jM, jz, qz, vy, jO, jU, kR, vt, qH, Bool.true_or, Bool.or_true, Bool.false_or, Bool.or_false, bne_self_eq_false, Nat.lt_add_one, Nat.lt_succ_self, kT, jZ, Ts.fill, vF, vL, vz, jP, List.map_nil, List.map_cons, List.all_nil, List.all_cons, vG, kN, qe, kh, qg, qQ, qf, qR, qd, kb, jG, ke, qc, qb, kc, kg, ka, jX, jF, j9, qa, k9, j8, Bool.and_true, Bool.true_and, Bool.false_and, Bool.and_false, Bool.not_false, Bool.not_true, List.take_length, List.filter_nil, List.filter_cons, Bool.false_eq_true, jB, jR, j0, j5, jD, jC, jo, jt, jr, kL, jQ, jd, getAll, stepCall, kM, unI, Opd.get, kV, qP, qL, je, ja, jE, kW, kY, kX, tag, qG, jk, jg, jq, jx, jp, jy, List.length_range, jf, jb, ji, jl, jh, jm, jW, jA, j7, kZ, j6, k8, jc, List.set_cons_zero, vr, rv, bin, vH, kv, jJ, ky, qp, kx, kw, ju, jK, qn, qr, qq, ku, kz, qo, jY, jI, kt, ql, kq, qm, kl, jH, kp, qh, ko, qk, Nat.reduceAdd, Nat.reduceSub, Nat.reduceMul, Nat.reduceDiv, Nat.reduceMod, Nat.reducePow, Nat.reduceLT, Nat.reduceLeDiff, Nat.reduceEqDiff, Nat.reduceBEq, Nat.reduceBNe, reduceIte, Int.reduceEq, Int.reduceLT, Int.reduceLE, Int.reduceNeg, Int.reduceToNat, Int.reduceMul, Int.reduceAdd, Int.reduceSub, Int.cast_ofNat_Int, reduceCtorEq, Nat.zero_add, Nat.add_zero, Nat.mul_one, bft, btf, beq_self_eq_true, true_and, and_true, and_self, if_true, if_false, ite_true, ite_false, c0, c1, not_true_eq_false, not_false_eq_true, Bool.true_eq_false, Option.some.injEq, Prod.mk.injEq, exists_eq_left, List.length_map, List.getElem?_map, Option.map_some, List.cons_append, List.length_cons, List.length_nil, List.append_nil, decide_true, decide_false]
 generalize hE : evw F (.loop Qb) _ = R
 obtain ⟨⟨f1, σ1, wr1⟩, rfl, K⟩ := jei fs hE hok (by (try simp only [je, ja, Nat.reduceAdd, Nat.reduceSub, Nat.reduceMul, Nat.reduceDiv, Nat.reduceMod, Nat.reducePow, Nat.reduceLT, Nat.reduceLeDiff, Nat.reduceEqDiff, Nat.reduceBEq, Nat.reduceBNe, reduceIte, Int.reduceEq, Int.reduceLT, Int.reduceLE, Int.reduceNeg, Int.reduceToNat, Int.reduceMul, Int.reduceAdd, Int.reduceSub, Int.cast_ofNat_Int, reduceCtorEq, Nat.zero_add, Nat.add_zero, Nat.mul_one]) <;> rfl) (by (try simp only [je, ja, Nat.reduceAdd, Nat.reduceSub, Nat.reduceMul, Nat.reduceDiv, Nat.reduceMod, Nat.reducePow, Nat.reduceLT, Nat.reduceLeDiff, Nat.reduceEqDiff, Nat.reduceBEq, Nat.reduceBNe, reduceIte, Int.reduceEq, Int.reduceLT, Int.reduceLE, Int.reduceNeg, Int.reduceToNat, Int.reduceMul, Int.reduceAdd, Int.reduceSub, Int.cast_ofNat_Int, reduceCtorEq, Nat.zero_add, Nat.add_zero, Nat.mul_one]) <;> rfl) (by (try simp only [je, ja, Nat.reduceAdd, Nat.reduceSub, Nat.reduceMul, Nat.reduceDiv, Nat.reduceMod, Nat.reducePow, Nat.reduceLT, Nat.reduceLeDiff, Nat.reduceEqDiff, Nat.reduceBEq, Nat.reduceBNe, reduceIte, Int.reduceEq, Int.reduceLT, Int.reduceLE, Int.reduceNeg, Int.reduceToNat, Int.reduceMul, Int.reduceAdd, Int.reduceSub, Int.cast_ofNat_Int, reduceCtorEq, Nat.zero_add, Nat.add_zero, Nat.mul_one]) <;> rfl) (by (try simp only [je, ja, Nat.reduceAdd, Nat.reduceSub, Nat.reduceMul, Nat.reduceDiv, Nat.reduceMod, Nat.reducePow, Nat.reduceLT, Nat.reduceLeDiff, Nat.reduceEqDiff, Nat.reduceBEq, Nat.reduceBNe, reduceIte, Int.reduceEq, Int.reduceLT, Int.reduceLE, Int.reduceNeg, Int.reduceToNat, Int.reduceMul, Int.reduceAdd, Int.reduceSub, Int.cast_ofNat_Int, reduceCtorEq, Nat.zero_add, Nat.add_zero, Nat.mul_one]) <;> rfl)
 have a4 : f1 4 = some (4, .bool false) := (K 4 (by decide)).trans (by (try simp only [je, ja, Nat.reduceAdd, Nat.reduceSub, Nat.reduceMul, Nat.reduceDiv, Nat.reduceMod, Nat.reducePow, Nat.reduceLT, Nat.reduceLeDiff, Nat.reduceEqDiff, Nat.reduceBEq, Nat.reduceBNe, reduceIte, Int.reduceEq, Int.reduceLT, Int.reduceLE, Int.reduceNeg, Int.reduceToNat, Int.reduceMul, Int.reduceAdd, Int.reduceSub, Int.cast_ofNat_Int, reduceCtorEq, Nat.zero_add, Nat.add_zero, Nat.mul_one]) <;> rfl)
 have wa : ∀ l : List (Nat × Bool), (l.all fun _ => true) = true := fun l => by simp
 simp only [a4, h17, wa, vn, vo, qX, qV, qY, qW, kO, kP, kA, kB, qU, qT, qS, qM, vw, jv, jV, nilOwn, vI, kH, jT, jw, kC, jL, kU, qA, qZ, q9, va, vf, vg, vd, qt, qu, qw, qx, qy, qB, qC, qD, qE, qF, ve, kG, vb, jn, kD, kK, List.append_assoc, List.drop_zero, List.isEmpty_nil, List.getElem?_cons_zero, List.getElem?_cons_succ, List.set_cons_succ, List.flatMap_nil, List.take_zero, Nat.zero_le, Nat.le_refl, Nat.lt_irrefl, List.nil_append, List.length_append, dlt, dge, dle, jS, jN, kJ, kI, bff, btt, vN, tk0, tk1, st0, st1, kQ, jM, jz, qz, vy, jO, jU, kR, vt, qH, Bool.true_or, Bool.or_true, Bool.false_or, Bool.or_false, bne_self_eq_false, Nat.lt_add_one, Nat.lt_succ_self, kT, jZ, Ts.fill, vF, vL, vz, jP, List.map_nil, List.map_cons, List.all_nil, List.all_cons, vG, kN, qe, kh, qg, qQ, qf, qR, qd, kb, jG, ke, qc, qb, kc, kg, ka, jX, jF, j9, qa, k9, j8, Bool.and_true, Bool.true_and, Bool.false_and, Bool.and_false, Bool.not_false, Bool.not_true, List.take_length, List.filter_nil, List.filter_cons, Bool.false_eq_true, jB, jR, j0, j5, jD, jC, jo, jt, jr, kL, jQ, jd, getAll, stepCall, kM, unI, Opd.get, kV, qP, qL, je, ja, jE, kW, kY, kX, tag, qG, jk, jg, jq, jx, jp, jy, List.length_range, jf, jb, ji, jl, jh, jm, jW, jA, j7, kZ, j6, k8, jc, List.set_cons_zero, vr, rv, bin, vH, kv, jJ, ky, qp, kx, kw, ju, jK, qn, qr, qq, ku, kz, qo, jY, jI, kt, ql, kq, qm, kl, jH, kp, qh, ko, qk, Nat.reduceAdd, Nat.reduceSub, Nat.reduceMul, Nat.reduceDiv, Nat.reduceMod, Nat.reducePow, Nat.reduceLT, Nat.reduceLeDiff, Nat.reduceEqDiff, Nat.reduceBEq, Nat.reduceBNe, reduceIte, Int.reduceEq, Int.reduceLT, Int.reduceLE, Int.reduceNeg, Int.reduceToNat, Int.reduceMul, Int.reduceAdd, Int.reduceSub, Int.cast_ofNat_Int, reduceCtorEq, Nat.zero_add, Nat.add_zero, Nat.mul_one, bft, btf, beq_self_eq_true, true_and, and_true, and_self, if_true, if_false, ite_true, ite_false, c0, c1, not_true_eq_false, not_false_eq_true, Bool.true_eq_false, Option.some.injEq, Prod.mk.injEq, exists_eq_left, List.length_map, List.getElem?_map, Option.map_some, List.cons_append, List.length_cons, List.length_nil, List.append_nil, decide_true, decide_false]
 exact ⟨_, _, rfl⟩
end Go.Idl.Sp
