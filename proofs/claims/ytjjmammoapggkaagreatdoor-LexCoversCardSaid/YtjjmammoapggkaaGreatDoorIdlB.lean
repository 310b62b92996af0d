/- The ideal machine and its evaluators, part 2; no conditions. -/
import Derived.RangeFuncRecord
import Derived.ChangeKeysEq
import Derived.Laws.BytesString
import Derived.Laws.Runes
import Derived.Stop.Asserts
import Derived.Test.YtjjmammoapggkaaGreatDoorIdlA
set_option linter.unusedSectionVars false
set_option linter.unusedVariables false
set_option linter.unusedSimpArgs false
namespace Go.Idl
variable [Globs]
variable {P : Program} {g : Gh} {O : List Nat} {w : World}
theorem qV {α : Type} [DecidableEq α] {L : List (List α)} (h : L.flatten.Nodup) {i j : Nat} {a b : List α} (hi : L[i]? = some a) (hj : L[j]? = some b) (hne : i ≠ j) {x : α} (hx : x ∈ a) : x ∉ b := by
 induction L generalizing i j with
 | nil => simp at hi
 | cons c L ih =>
   simp only [List.flatten_cons, List.nodup_append] at h;obtain ⟨h1, h2, h3⟩ := h;have hmem : ∀ {k : Nat} {d : List α} {y : α}, L[k]? = some d -> y ∈ d -> y ∈ L.flatten := fun hk hy => List.mem_flatten.2 ⟨_, zM hk, hy⟩
   cases i with
   | zero =>
     cases j with
     | zero => exact absurd rfl hne
     | succ j =>
       simp at hi hj; subst hi;exact fun hb => h3 x hx x (hmem hj hb) rfl
   | succ i =>
     cases j with
     | zero =>
       simp at hi hj; subst hj;exact fun hb => h3 x hb x (hmem hi hx) rfl
     | succ j => simp at hi hj; exact ih h2 hi hj (by omega)
theorem vw {α : Type} {L : List (List α)} {i : Nat} {c d : List α} (hi : L[i]? = some c) : ∃ r, L.flatten.Perm (c ++ r) /\ (L.set i d).flatten.Perm (d ++ r) := by
 induction L generalizing i with
 | nil => simp at hi
 | cons e L ih =>
   cases i with
   | zero => simp at hi; subst hi; exact ⟨L.flatten, by simp, by simp⟩
   | succ i =>
     simp at hi;obtain ⟨r, h1, h2⟩ := ih hi;refine ⟨e ++ r, ?_, ?_⟩
     . simp only [List.flatten_cons];refine (h1.append_left e).trans ?_;rw [<- zS, <- zS];exact List.perm_append_comm.append_right r
     . simp only [List.set_cons_succ, List.flatten_cons];refine (h2.append_left e).trans ?_;rw [<- zS, <- zS];exact List.perm_append_comm.append_right r
theorem Grow.of_setRow (g : Gh) (w : World) {O : List Nat} {b : Nat} (hb : b ∈ O) (w' : World) (hw : ∀ k, k ≠ b -> w'.heap[k]? = w.heap[k]?) (hs : w'.heap.size = w.heap.size) (h1 : w'.os = w.os) (h2 : w'.tape = w.tape) (h3 : w'.output = w.output) : Grow O g w O g w' :=
 ⟨by omega, fun k _ hk => ⟨hw k (fun e => hk (e ▸ hb)), rfl, fun _ => rfl⟩, fun _ _ _ h => h, fun _ _ h => h, fun _ h => .inl h, rfl, h1, h2, h3, fun _ => ⟨rP _, fun _ h => h⟩⟩
theorem R.upd {x y : IVal} {v u : Value} {l : ke} {σ : List IObj} {id b : Nat} {ob ob' : IObj} {w' : World} (h : R g O ((x, v) :: l) σ w) (hy : V g y u) (hι : g.ι[id]? = some (.bk b)) (hσ : σ[id]? = some ob) (hlive : ¬ ob.live = false)
   (hw : ∀ k, k ≠ b -> w'.heap[k]? = w.heap[k]?) (hs : w'.heap.size = w.heap.size) (hsp : ∀ c el fz, w.heap[b]? = some (.cells c el fz) -> ∃ c', w'.heap[b]? = some (.cells c' el fz) /\ c'.size = c.size)
   (hob : OBJ g w' b ob') (hown : SubP (kl y u ++ kR w' b ob') (kl x v ++ kR w b ob)) : R g O ((y, u) :: l) (σ.set id ob') w' := by
 have e : ky ((x, v) :: l) = kl x v ++ ky l := by simp [ky]
 have e' : ky ((y, u) :: l) = kl y u ++ ky l := by simp [ky]
 have hbO : b ∈ O := h.sub b (rW _ (kB hι hσ (kv hlive)));have hidl : id < σ.length := jk hσ;have hidι : id < g.ι.length := jk hι;have hS : kY w g.ι σ = (List.zipWith (qk w) g.ι σ).flatten := rfl;have hnS : (List.zipWith (qk w) g.ι σ).flatten.Nodup := (List.nodup_append.1 h.nodup).2.1;have hget : (List.zipWith (qk w) g.ι σ)[id]? = some (kR w b ob) := by simp [tL, hι, hσ, qk]
 -- another object stands in another block
 have hother : ∀ (id' b' : Nat) y, id' ≠ id -> g.ι[id']? = some (.bk b') -> σ[id']? = some y -> y.live = false \/ b' ≠ b := by
   intro id' b' y hne h1 h2
   by_cases hd : y.live = false
   . exact .inl hd
   . refine .inr fun eb => ?_;subst eb;have hg' : (List.zipWith (qk w) g.ι σ)[id']? = some (kR w b' y) := by simp [tL, h1, h2, qk]
     exact qV hnS hg' hget hne (kv hd) (kv hlive)
 have hzip : List.zipWith (qk w') g.ι (σ.set id ob') = (List.zipWith (qk w) g.ι σ).set id (kR w' b ob') := by
   apply List.ext_getElem?;intro j
   by_cases hj : j = id
   . subst hj;rw [rH (by simp; omega)];simp [tL, hι, hidl, qk]
   . rw [rA (by omega)];simp only [tL];rw [rA (by omega)]
     cases h1 : g.ι[j]? with
     | none => rfl
     | some b' =>
       cases h2 : σ[j]? with
       | none => rfl
       | some y =>
         cases b' with
         | un zs => rfl
         | bk b' =>
         rcases hother j b' y hj h1 h2 with hd | hne
         . show some (kR w' b' y) = some (kR w b' y);rw [kW hd, kW hd]
         . show some (kR w' b' y) = some (kR w b' y);rw [qL (hw b' hne)]
 obtain ⟨r, hr1, hr2⟩ := vw (d := kR w' b ob') hget;have hsub : SubP (ky ((y, u) :: l) ++ kY w' g.ι (σ.set id ob')) (ky ((x, v) :: l) ++ kY w g.ι σ) := by
   have e1 : (ky ((y, u) :: l) ++ kY w' g.ι (σ.set id ob')).Perm ((kl y u ++ kR w' b ob') ++ (ky l ++ r)) := by
     simp only [kY]; rw [hzip, e', zS, zS];refine List.Perm.append_left _ ?_;refine (hr2.append_left _).trans ?_;rw [<- zS, <- zS];exact List.perm_append_comm.append_right r
   have e2 : ((kl x v ++ kR w b ob) ++ (ky l ++ r)).Perm (ky ((x, v) :: l) ++ kY w g.ι σ) := by
     rw [e, hS, zS, zS];refine List.Perm.append_left _ ?_;refine List.Perm.trans ?_ (hr1.symm.append_left _);rw [<- zS, <- zS];exact List.perm_append_comm.append_right r
   exact SubP.perm_left e1 (SubP.perm_right e2 (hown.append_right _))
 refine ⟨by simpa using h.len, fun p hp => by rcases List.mem_cons.1 hp with rfl | hp; exact hy; exact h.vals p (by simp [hp]), fun id' b' y h1 h2 => ?_, hsub.nodup h.nodup, fun k hk => h.sub k (hsub.mem hk), fun k hk => by rw [hs]; exact h.lt k hk, fun k o u hm => ?_, fun id' b' y h1 h2 hm => ?_, fun k hk ext top ht => ?_, h.glob, fun k => ?_⟩
 . by_cases hj : id' = id
   . subst hj;rw [hι] at h1; cases h1;rw [rH hidl] at h2; cases h2;exact hob
   . rw [rA (by omega)] at h2
     cases b' with
     | un zs => exact h.objo id' (.un zs) y h1 h2
     | bk b' =>
     rcases hother id' b' y hj h1 h2 with hd | hne
     . exact (h.objs id' b' y h1 h2).of_dead hd (fun _ _ h => h)
     . exact (h.objs id' b' y h1 h2).mono (hw b' hne) (fun _ _ h => h) (fun _ _ _ h => h) rfl (fun _ _ => rfl)
 . have hne : k ≠ b := fun e => by
     subst e;rw [h.apart id k ob hι hσ (kv hlive) o] at hm; cases hm
   rw [vo (hw k hne)]; exact h.claim k o u hm
 . by_cases hj : id' = id
   . subst hj;rw [hι] at h1; cases h1;exact h.apart id' b ob hι hσ (kv hlive)
   . rw [rA (by omega)] at h2
     rcases hother id' b' y hj h1 h2 with hd | hne
     . rw [kW hd] at hm; cases hm
     . rw [qL (hw b' hne)] at hm; exact h.apart id' b' y h1 h2 hm
 . obtain ⟨⟨c, el, fz, q1, q2, q3⟩, q4⟩ := h.spare k hk ext top ht;refine ⟨?_, q4⟩
   by_cases hkb : k = b
   . subst hkb;obtain ⟨c', q5, q6⟩ := hsp c el fz q1;exact ⟨c', el, fz, q5, by omega, q3⟩
   . exact ⟨c, el, fz, by rw [hw k hkb]; exact q1, q2, q3⟩
 . by_cases hkb : k = b
   . subst hkb; exact (h.zs k).resize hsp
   . exact (h.zs k).other (hw k hkb)
theorem Keep.set {σ : List IObj} {id : Nat} {ob : IObj} {rf : Bool} (h : ∀ n, id < n -> (rf = true -> n <= id) -> (∀ o, σ[id]? = some o -> RLO n o) -> RLO n ob) : Keep σ (σ.set id ob) [(id, rf)] := by
 refine ⟨by simp, fun n hn hw ho id' o hid' hg => ?_⟩
 by_cases hj : id' = id
 . subst hj;have hlt : id' < σ.length := by omega
   rw [rH hlt] at hg; cases hg;exact h n hid' (fun hr => hw (id', rf) (by simp) hr) (fun o ho' => ho id' o hid' ho')
 . rw [rA (by omega)] at hg;exact ho id' o hid' hg
theorem Keep.snoc (σ : List IObj) (ob : IObj) : Keep σ (σ ++ [ob]) [] := by
 refine ⟨by simp, fun n hn _ ho id o hid hg => ?_⟩;rw [zL (by omega)] at hg;exact ho id o hid hg
theorem R.appendIn {l : ke} {σ : List IObj} {xs ys : List IVal} {us : List Value} {rf rf' : Bool} {esz cap : Nat} {ad : Addr} {c : Array Value} {el : TypeId} {fz : Nat × Nat} {w' : World}
   (h : R g O ((.sl esz rf xs, .slice (some ad) xs.length cap) :: l) σ w) (h0 : 0 < esz) (hl : ys.length = us.length) (hv : ∀ (i : Nat) y u, ys[i]? = some y -> us[i]? = some u -> V g y u) (hf : ∀ y ∈ ys, vl y)
   (hr : rf' = false -> (∀ x ∈ xs, rf = false) /\ ∀ y ∈ ys, nr2 y = true) (hz : ∀ u ∈ us, u.cells.size = esz) (hroom : xs.length + ys.length <= cap) (hne : ys ≠ []) (hb : w.heap[ad.block]? = some (.cells c el fz))
   (hw : ∀ k, k ≠ ad.block -> w'.heap[k]? = w.heap[k]?) (hs : w'.heap.size = w.heap.size) (hw' : w'.heap[ad.block]? = some (.cells (c.toList.take (ad.off + xs.length * esz) ++ jJ us ++ c.toList.drop (ad.off + xs.length * esz + (jJ us).length)).toArray el fz))
   (hfl : (jJ us).length = ys.length * esz) (h1 : w'.os = w.os) (h2 : w'.tape = w.tape) (h3 : w'.output = w.output) :
   ∃ g', R g' O ((.sl esz rf' (xs ++ ys), .slice (some ad) (xs ++ ys).length cap) :: l) σ w' /\ Grow O g w O g' w' /\ g'.ι = g.ι := by
 have hpos : 0 < ys.length := List.length_pos_iff.2 hne;have hV := h.vals _ (List.mem_cons_self ..);have hownb : ad.block ∈ kl (.sl esz rf xs) (.slice (some ad) xs.length cap) := by
   simp only [kl, yg, qb]; rw [if_neg (by omega)]; simp
 have e : ky ((.sl esz rf xs, .slice (some ad) xs.length cap) :: l) = kl (.sl esz rf xs) (.slice (some ad) xs.length cap) ++ ky l := by simp [ky]
 have hbO : ad.block ∈ O := h.sub _ (by rw [e]; simp [hownb]);have hnl : ad.block ∉ ky l ++ kY w g.ι σ := by
   have hn := h.nodup;rw [e, zS] at hn;exact fun hm => (List.nodup_append.1 hn).2.2 _ hownb _ hm rfl
 simp only at hV
 cases hV with
 | sl _ _ _ vs _ _ esz' hsp hc hl' hv' hf' hr' hz' hcl ho hn =>
 obtain ⟨heq, _, hT⟩ := ho (by omega);subst heq;have hT := hT (by omega);obtain ⟨⟨c', el', fz', hb', hsz, hfz⟩, hnone⟩ := h.spare _ hbO _ _ hT;rw [hb] at hb'; cases hb';have hflx : (jJ vs).length = xs.length * esz := by
   have : ∀ us : List Value, (∀ u ∈ us, u.cells.size = esz) -> (jJ us).length = us.length * esz := by
     intro us hu
     induction us with
     | nil => simp [jJ]
     | cons u us ih =>
       have := ih (fun v hv => hu v (by simp [hv]));simp only [jJ, rO, rF] at this ⊢;rw [this];have := hu u (by simp);simp [this, tH]; omega
   rw [this vs hz', hl']
 have hmul : xs.length * esz + ys.length * esz <= cap * esz := by rw [<- tH]; exact tV _ hroom
 let g' : Gh := { g with M := fun b o => if b = ad.block /\ ad.off + xs.length * esz <= o /\ o < ad.off + xs.length * esz + ys.length * esz then (jJ us)[o - (ad.off + xs.length * esz)]? else g.M b o
                         T := fun b => if b = ad.block then some (ad.off + (xs.length + ys.length) * esz, ad.off + cap * esz) else g.T b }
 have hMm : ∀ b o v, g.M b o = some v -> g'.M b o = some v := by
   intro b o v hm;simp only [g'];rw [if_neg]
   . exact hm
   . rintro ⟨rfl, h5, _⟩;rw [hnone o h5] at hm; cases hm
 have hcells : ∀ k : Nat, (c.toList.take (ad.off + xs.length * esz) ++ jJ us ++ c.toList.drop (ad.off + xs.length * esz + (jJ us).length)).toArray[k]? =
     if ad.off + xs.length * esz <= k /\ k < ad.off + xs.length * esz + ys.length * esz then (jJ us)[k - (ad.off + xs.length * esz)]? else c[k]? := by
   intro k;have hlen : (c.toList.take (ad.off + xs.length * esz)).length = ad.off + xs.length * esz := by simp; omega
   simp only [List.getElem?_toArray]
   by_cases h5 : k < ad.off + xs.length * esz
   . rw [if_neg (by omega), zS, zL (by omega), tD, if_pos h5]; simp
   . by_cases h6 : k < ad.off + xs.length * esz + ys.length * esz
     . rw [if_pos ⟨by omega, h6⟩, zS, zR (by omega), hlen, zL (by omega)]
     . rw [if_neg (by omega), zR (by simp; omega), tA];simp only [rF, hlen, hfl];rw [show ad.off + xs.length * esz + ys.length * esz + (k - (ad.off + xs.length * esz + ys.length * esz)) = k by omega];simp
 have hTo : ∀ b, b ≠ ad.block -> g'.T b = g.T b := fun b hb => by simp [g', hb]
 have hSame : kY w' g.ι σ = kY w g.ι σ := by
   simp only [kY];rw [qX (vZ (w := w) (w' := w') ?_)];intro i b y hbi hyi
   by_cases hd : y.live = false
   . rw [kW hd, kW hd]
   . refine qL (hw b fun eb => hnl ?_) y;subst eb;exact rW _ (kB hbi hyi (kv hd))
 have hVn : V g' (.sl esz rf' (xs ++ ys)) (.slice (some ad) (xs ++ ys).length cap) := by
   refine .sl esz rf' (xs ++ ys) (vs ++ us) ad cap esz hsp (by simp; omega) (by simp [hl', hl]) (fun i x v hx hw => ?_) (fun x hx => ?_) (fun hrf x hx => ?_) (fun v hv => ?_) (fun k cc hk => ?_) (fun _ => ⟨rfl, fun he => absurd (List.append_eq_nil_iff.1 he).2 hne, fun _ => ?_⟩) (fun he => absurd (List.append_eq_nil_iff.1 he).2 hne)
   . have hfl0 : ∀ {x v}, V g x v -> vl x -> V g' x v := fun hxv hfx => hxv.mono (fun _ _ h => h) hMm (by rw [kx hfx]; simp)
     by_cases hi : i < xs.length
     . rw [zL hi] at hx;rw [zL (by omega)] at hw;exact hfl0 (hv' i x v hx hw) (hf' x (zM hx))
     . rw [zR (by omega)] at hx;rw [zR (by omega), <- hl'] at hw;exact hfl0 (hv _ x v hx hw) (hf x (zM hx))
   . rcases List.mem_append.1 hx with hx | hx
     . exact hf' x hx
     . exact hf x hx
   . rcases List.mem_append.1 hx with hx | hx
     . exact hr' ((hr hrf).1 x hx) x hx
     . exact (hr hrf).2 x hx
   . rcases List.mem_append.1 hv with hv | hv
     . exact hz' v hv
     . exact hz v hv
   . have e1 : jJ (vs ++ us) = jJ vs ++ jJ us := by simp [jJ]
     rw [e1] at hk;simp only [g']
     by_cases hi : k < (jJ vs).length
     . rw [zL hi] at hk;rw [if_neg (by omega)];exact hcl k cc hk
     . rw [zR (by omega)] at hk;have := jk hk;rw [if_pos ⟨trivial, by omega, by omega⟩];rw [<- hk]; congr 1; omega
   . simp [g']
 refine ⟨g', ⟨h.len, fun p hp => ?_, fun id b y h4 h5 => ?_, ?_, ?_, fun b hb => by rw [hs]; exact h.lt b hb, fun b o v hm => ?_, fun id b y h4 h5 hm k => ?_, fun b hb ext top ht => ?_, fun k' vs hk' i c hi => hMm _ _ _ (h.glob k' vs hk' i c hi), fun k => ?_⟩, ⟨by omega, fun b hb' hbO' => ⟨hw b (fun eb => hbO' (eb ▸ hbO)), hTo b (fun eb => hbO' (eb ▸ hbO)), fun o => ?_⟩, hMm, fun _ _ h => h, fun _ h => .inl h, rfl, h1, h2, h3, fun _ => ⟨rP _, fun _ h => h⟩⟩, rfl⟩
 . rcases List.mem_cons.1 hp with rfl | hp
   . exact hVn
   . refine (h.vals p (by simp [hp])).mono (fun _ _ h => h) hMm fun b hb => hTo b fun eb => hnl ?_;subst eb;refine rZ _ ?_;simp only [ky, List.mem_flatten, tO];exact ⟨_, ⟨p, hp, rfl⟩, hb⟩
 . cases b with
   | un zs => exact h.objo id (.un zs) y h4 h5
   | bk b =>
   by_cases hd : y.live = false
   . exact (h.objs id b y h4 h5).of_dead hd (fun _ _ h => h)
   . have hne' : b ≠ ad.block := fun eb => hnl (by subst eb; exact rW _ (kB h4 h5 (kv hd)));exact (h.objs id b y h4 h5).mono (hw b hne') (fun _ _ h => h) hMm rfl fun b' hb' => hTo b' fun eb => hnl (by subst eb; exact rW _ (kB h4 h5 hb'))
 . have hsubl : (ky ((.sl esz rf' (xs ++ ys), .slice (some ad) (xs ++ ys).length cap) :: l) ++ kY w' g.ι σ).Sublist (ky ((.sl esz rf xs, .slice (some ad) xs.length cap) :: l) ++ kY w g.ι σ) := by
     rw [hSame, e];have e2 : ky ((.sl esz rf' (xs ++ ys), .slice (some ad) (xs ++ ys).length cap) :: l) = kl (.sl esz rf' (xs ++ ys)) (.slice (some ad) (xs ++ ys).length cap) ++ ky l := by simp [ky]
     rw [e2, zS, zS];refine List.Sublist.append ?_ (.refl _);simp only [kl, yg, qb];rw [if_neg (by omega : ¬ (esz = 0 \/ cap <= xs.length))];split <;> simp
   exact h.nodup.sublist hsubl
 . intro b hb;rw [hSame] at hb
   rcases List.mem_append.1 hb with hb | hb
   . have e2 : ky ((.sl esz rf' (xs ++ ys), .slice (some ad) (xs ++ ys).length cap) :: l) = kl (.sl esz rf' (xs ++ ys)) (.slice (some ad) (xs ++ ys).length cap) ++ ky l := by simp [ky]
     rw [e2] at hb
     rcases List.mem_append.1 hb with hb | hb
     . simp only [kl, yg, qb] at hb;split at hb
       . cases hb
       . simp at hb; subst hb; exact hbO
     . exact h.sub b (by rw [e]; simp [hb])
   . exact h.sub b (rW _ hb)
 . simp only [g'] at hm
   by_cases hbb : b = ad.block
   . subst hbb;have hcell : w'.cell? ⟨ad.block, o, none⟩ = if ad.off + xs.length * esz <= o /\ o < ad.off + xs.length * esz + ys.length * esz then (jJ us)[o - (ad.off + xs.length * esz)]? else c[o]? := by
       simp only [World.cell?, hw'];simpa using hcells o
     rw [hcell]
     by_cases hin : ad.off + xs.length * esz <= o /\ o < ad.off + xs.length * esz + ys.length * esz
     . rw [if_pos ⟨rfl, hin⟩] at hm; rw [if_pos hin]; exact hm
     . rw [if_neg (fun h => hin h.2)] at hm; rw [if_neg hin];have := h.claim _ _ _ hm;simpa [World.cell?, hb] using this
   . rw [if_neg (fun h => hbb h.1)] at hm;rw [vo (hw b hbb)]; exact h.claim b o v hm
 . by_cases hd : y.live = false
   . rw [kW hd] at hm; cases hm
   . have hne' : b ≠ ad.block := fun eb => hnl (by subst eb; exact rW _ (kB h4 h5 (kv hd)));rw [qL (hw b hne')] at hm;simp only [g'];rw [if_neg (fun h => hne' h.1)];exact h.apart id b y h4 h5 hm k
 . by_cases hbb : b = ad.block
   . subst hbb;simp only [g', if_true, zO, zP] at ht;obtain ⟨rfl, rfl⟩ := ht;rw [tH];refine ⟨⟨_, el, fz, hw', ?_, by omega⟩, fun o ho' => ?_⟩
     . simp; omega
     . simp only [g'];rw [if_neg (by omega)];exact hnone o (by omega)
   . rw [hTo b hbb] at ht;obtain ⟨⟨c1, el1, fz1, q1, q2, q3⟩, q4⟩ := h.spare b hb ext top ht;refine ⟨⟨c1, el1, fz1, by rw [hw b hbb]; exact q1, q2, q3⟩, fun o ho' => ?_⟩;simp only [g'];rw [if_neg (fun h => hbb h.1)];exact q4 o ho'
 . by_cases hbb : k = ad.block
   . subst hbb;exact ZS.resize (g := g) (h.zs _) (fun c1 el1 fz1 q1 => by
       rw [hb] at q1; cases q1;refine ⟨_, hw', ?_⟩
       simp; omega)
   . exact ZS.other (g := g) (h.zs k) (hw k hbb)
 . simp only [g'];rw [if_neg];exact fun h => hbO' (h.1 ▸ hbO)
end Go.Idl
namespace Go.Idl
variable [Globs]
variable {P : Program} {o : Oper} {a : Act} {g : Gh} {O : List Nat} {w : World} {s : St} {res : Res} {cf : kt}
theorem kJ (g : Gh) : V g jl undef := .tup [] #[] rfl (by simp) (by simp)
theorem qZ {T : TypeId} {v : Value} : (newVar T v).run P w = .ok ⟨w.heap.size, 0, none⟩ (w.alloc (.cells v.cells T)) := by
 simp [newVar, newRow]
theorem kq (w : World) (c : Array Value) (el : TypeId) (fz : Nat × Nat) : ko (w.alloc (.cells c el fz)) w.heap.size = c.toList := by
 simp only [ko]; rw [jW]
theorem ZB {zs : List IVal} {T : TypeId} {i : TypeInfo} {z : Value} (hop : o.op = .alloc T) (hi : P.info? T = some i) (hz : i.zero = some z) (hc : Jh zs z.cells.toList = true)
   (hs : ja cf (.alloc zs) s = some res) (hl : WT s.ts a.tmps) (hR : R g O (s.ts.roots a.tmps) s.σ w) : SimV P o a g O w s res := by
 simp only [ja, zO] at hs;subst hs;have hrun : (execOp a.eval o).run P w = .ok (.value (.pointer (some ⟨w.heap.size, 0, none⟩))) (w.alloc (.cells z.cells T)) := by
   simp [execOp, hop, Instr.alloc, zeroValue, typeInfo, hi, hz, qZ]
 have hnew := (hR.push (kJ g) rfl).new (obr := .cells z.cells T) (ob := .cells zs) (fun _ => by
     obtain ⟨h1, h2⟩ := qS (g.fresh w.heap.size) hc;exact ⟨z.cells, T, (0, 0), jW w _, .inl rfl, by have := h1; simp at this ⊢; omega, fun i x v hx hv => by
       obtain ⟨q1, _, q3⟩ := h2 i x v hx (by simpa using hv);exact ⟨q1, q3⟩⟩) ⟨[], by
     simp only [kR, kq];rw [flatten_nil];intro c hcm;obtain ⟨i, x, y, h1, h2, rfl⟩ := kh hcm;exact ((qS g hc).2 i x y h1 h2).2.1, by simp⟩
 refine ⟨rfl, _, _, _, hrun, rfl, g.fresh w.heap.size, w.heap.size :: O, [], kK hR _, hnew.push (.ptr _ 0 _ ?_) rfl, hl, rfl, Keep.snoc _ _⟩;simp [Gh.fresh, <- hR.len]
theorem zw {x : IVal} {v : Value} (h : V g x v) (hc : x.cells.all IVal.isCell = true) : (List.zipWith qb x.cells v.cells.toList).flatten = kl x v := by
 cases x with
 | agg xs =>
   obtain ⟨vs, rfl, _⟩ := h.agg_inv;simp [IVal.cells, Value.cells, kl, yg]
 | tup xs => simp [IVal.cells, IVal.isCell] at hc
 | _ =>
   have hi := h.isCell;have hv : v.cells = #[v] := by cases v <;> simp_all [Value.cells, ql, IVal.isCell]
   rw [hv];simp [IVal.cells, kl, yg]
theorem jdl {x : Opd} {r : Operand} {T : TypeId} (hop : o.op = .box T r) (hx : jL x r = true) (hs : ja cf (.box x) s = some res)
   (hl : WT s.ts a.tmps) (hR : R g O (s.ts.roots a.tmps) s.σ w) : SimV P o a g O w s res := by
 simp only [ja] at hs;split at hs
 . rename_i v ts h;split at hs
   . rename_i hc;simp only [zO] at hs;subst hs;obtain ⟨h1, h2⟩ := jI (l := []) hx h hl hR;have hrun : (execOp a.eval o).run P w = .ok (.value (.pointer (some ⟨w.heap.size, 0, none⟩))) (w.alloc (.cells (a.eval r).cells T)) := by
       simp [execOp, hop, Instr.box, qZ]
     have hnew := h1.new (obr := .cells (a.eval r).cells T) (ob := .cells v.cells) (fun hV => by
       obtain ⟨q1, q2⟩ := hV.cells;exact ⟨_, T, (0, 0), jW w _, .inl rfl, Nat.le_of_eq q1, fun i x u hx hu => ⟨q2 i x u hx hu, by have := List.all_eq_true.1 hc x (zM hx); exact this⟩⟩) ⟨kl v (a.eval r), by
       simp only [kR, kq];rw [zw h1.head hc], .refl _⟩
     refine ⟨rfl, _, _, _, hrun, rfl, g.fresh w.heap.size, w.heap.size :: O, [], kK hR _, hnew.push (.ptr _ 0 _ ?_) rfl, h2, rfl, Keep.snoc _ _⟩;simp [Gh.fresh, <- hR.len]
   . cases hs
 . cases hs
theorem ja5 {x : Opd} {r : Operand} {T : TypeId} (hop : o.op = .box T r) (hx : jL x r = true) (hs : ja cf (.boxv x) s = some res)
   (hl : WT s.ts a.tmps) (hR : R g O (s.ts.roots a.tmps) s.σ w) : SimV P o a g O w s res := by
 simp only [ja] at hs;split at hs
 . rename_i v ts h;split at hs
   . rename_i hc;simp only [rv, zO] at hs;subst hs;obtain ⟨h1, h2⟩ := jI (l := []) hx h hl hR;have hrun : (execOp a.eval o).run P w = .ok (.value (.pointer (some ⟨w.heap.size, 0, none⟩))) (w.alloc (.cells (a.eval r).cells T)) := by
       simp [execOp, hop, Instr.box, qZ]
     obtain ⟨q1, q2⟩ := h1.head.cells;obtain ⟨g', hR', hg, hι⟩ := h1.drop.newPv (cs := v.cells.map un1) (vs := (a.eval r).cells) (rf := ext v.cells) (el := T) (by simpa using q1) (fun i y u hy hu => by
         simp only [rJ, rT] at hy;obtain ⟨y', hy', rfl⟩ := hy;exact (q2 i y' u hy' hu).un1) (fun y hy => by
         simp only [tO] at hy;obtain ⟨y', hy', rfl⟩ := hy;exact ⟨yy y', by rw [qz]; exact List.all_eq_true.1 hc y' hy'⟩) (fun hrf y hy => by
         simp only [tO] at hy;obtain ⟨y', hy', rfl⟩ := hy;simp only [ext, Bool.not_eq_false', rD] at hrf;have := hrf y' hy';have hcell := List.all_eq_true.1 hc y' hy';cases y' <;> simp_all [nr2, nr1, nr0, un1, IVal.isCell])
     exact ⟨rfl, _, _, _, hrun, rfl, g', O, [], hg, hR', h2, rfl, Keep.refl _⟩
   . cases hs
 . cases hs
theorem v8 {T : TypeId} {n : Option Nat} {vs : List Value} {b e off : Nat} {cs : List IVal} {z : IVal} (hT : tyN P T n = true) (hl : cs.length <= vs.length) (hv : ∀ (i : Nat) x u, cs[i]? = some x -> vs[i]? = some u -> V g x u)
   (hi : ∀ x ∈ cs, x.isCell = true) (hm : ∀ (j : Nat) v, vs[j]? = some v -> w.cell? ⟨b, e + j, none⟩ = some v) (hz : jA n cs off = some z) :
   ∃ u, (loadVar T ⟨b, e + off, none⟩).run P w = .ok u w /\ V g z u /\ u.cells.toList = (vs.drop off).take (n.getD 1) /\ (n = none -> ql u = true) /\ (n ≠ none -> ∃ us, u = .agg us) := by
 obtain ⟨h1, i, h2, h3⟩ := JT (w := w) hT
 cases n with
 | some n =>
   simp only [jA] at hz;split at hz
   . rename_i hlen;simp only [zO] at hz;subst hz;have hload : (loadCells ⟨b, e + off, none⟩ n).run P w = .ok ((vs.drop off).take n).toArray w := by
       have hlen' : ((vs.drop off).take n).length = n := by simp; omega
       have := run_loadCells_list (P := P) (w := w) ⟨b, e + off, none⟩ ((vs.drop off).take n) (fun j v hj => by
         rw [kA, Nat.add_assoc];refine hm _ v ?_;rw [tD] at hj;split at hj
         . simpa using hj
         . cases hj)
       rw [hlen'] at this;exact this
     refine ⟨.agg ((vs.drop off).take n).toArray, ?_, ?_, by simp [Value.cells], by simp, fun _ => ⟨_, rfl⟩⟩
     . simp [loadVar, h1, kw h2, h3, hload]
     . refine .agg _ _ (by simp; omega) (fun j x u hx hu => ?_) (fun x hx => hi x (tF (r9 hx)));simp only [tD, tA] at hx;split at hx
       . rename_i hj;refine hv _ _ _ hx ?_;simp only [List.getElem?_toArray, tD, tA] at hu;rw [if_pos hj] at hu;exact hu
       . cases hx
   . cases hz
 | none =>
   simp only [jA] at hz;obtain ⟨u, hu⟩ : ∃ u, vs[off]? = some u := ⟨vs[off]'(Nat.lt_of_lt_of_le (List.getElem?_eq_some_iff.1 hz).1 hl), by simp⟩;have hV := hv _ _ _ hz hu;have hcell := hi z (zM hz);have hcu : ql u = true := by rw [<- hV.isCell]; exact hcell
   refine ⟨u, ?_, hV, ?_, fun _ => hcu, fun h => absurd rfl h⟩
   . have := hm off u hu;simp [loadVar, h1, load, Sem.run, this]
   . have e1 : u.cells = #[u] := by cases u <;> simp_all [Value.cells, ql]
     rw [e1];have hlt := jk hu;have e2 : (vs.drop off).take 1 = [u] := by
       rw [List.drop_eq_getElem_cons hlt];have := (List.getElem?_eq_some_iff.1 hu).2;simp [this]
     simpa using e2.symm
theorem v7 : ∀ (ws cs : List IVal) (off : Nat), off + ws.length <= cs.length -> jb cs off ws = cs.take off ++ ws ++ cs.drop (off + ws.length) := by
 intro ws
 induction ws with
 | nil => intro cs off h; simp [jb]
 | cons v ws ih =>
   intro cs off h;simp at h;simp only [jb];rw [ih (cs.set off v) (off + 1) (by simp; omega)];have h1 : (cs.set off v).take (off + 1) = cs.take off ++ [v] := by
     rw [List.take_set, List.take_add_one, List.set_append_right _ _ (by simp; omega)];have : off < cs.length := by omega
     simp [tE, Nat.min_eq_left (Nat.le_of_lt this), rG this]
   rw [h1, List.drop_set_of_lt (by omega)];simp [Nat.add_assoc, Nat.add_comm 1]
theorem ye {f : IVal -> Value -> List Nat} {a b : List IVal} {c d : List Value} (h : a.length = c.length) : List.zipWith f (a ++ b) (c ++ d) = List.zipWith f a c ++ List.zipWith f b d := List.zipWith_append h
theorem Xn {α : Type} (cs : List α) (off n : Nat) : cs = cs.take off ++ (cs.drop off).take n ++ cs.drop (off + n) := by
 rw [zS, show cs.drop (off + n) = (cs.drop off).drop n by rw [List.drop_drop], List.take_append_drop, List.take_append_drop]
theorem JJ {cs ws : List IVal} {c us : List Value} {off : Nat} (hl : cs.length <= c.length) (hw : ws.length = us.length) (h : off + ws.length <= cs.length) :
   ∃ A C, (List.zipWith qb (jb cs off ws) (c.take off ++ us ++ c.drop (off + us.length))).flatten = A ++ (List.zipWith qb ws us).flatten ++ C /\
     (List.zipWith qb cs c).flatten = A ++ (List.zipWith qb ((cs.drop off).take ws.length) ((c.drop off).take us.length)).flatten ++ C := by
 refine ⟨(List.zipWith qb (cs.take off) (c.take off)).flatten, (List.zipWith qb (cs.drop (off + ws.length)) (c.drop (off + us.length))).flatten, ?_, ?_⟩
 . rw [v7 _ _ _ h, ye (by simp [hw]; omega), ye (by simp; omega)];simp
 . have e1 := Xn cs off ws.length;have e2 := Xn c off us.length
   conv => lhs; rw [e1, e2]
   rw [ye (by simp; omega), ye (by simp; omega)];simp
theorem qn {cs ws : List IVal} {off : Nat} (h : off + ws.length <= cs.length) (i : Nat) : (jb cs off ws)[i]? = if off <= i /\ i < off + ws.length then ws[i - off]? else cs[i]? := by
 rw [v7 _ _ _ h];have hl : (cs.take off).length = off := by simp; omega
 by_cases h1 : i < off
 . rw [if_neg (by omega), zS, zL (by omega), tD, if_pos h1]
 . by_cases h2 : i < off + ws.length
   . rw [if_pos ⟨by omega, h2⟩, zS, zR (by omega), hl, zL (by omega)]
   . rw [if_neg (by omega), zR (by simp; omega), tA];simp only [rF, hl]
     congr 1; omega
theorem qo {cs ws : List IVal} {off : Nat} (h : off + ws.length <= cs.length) : (jb cs off ws).length = cs.length := by
 rw [v7 _ _ _ h]; simp; omega
theorem Jk {c us : List Value} {off : Nat} (h : off + us.length <= c.length) (i : Nat) : (c.take off ++ us ++ c.drop (off + us.length))[i]? = if off <= i /\ i < off + us.length then us[i - off]? else c[i]? := by
 have hl : (c.take off).length = off := by simp; omega
 by_cases h1 : i < off
 . rw [if_neg (by omega), zS, zL (by omega), tD, if_pos h1]
 . by_cases h2 : i < off + us.length
   . rw [if_pos ⟨by omega, h2⟩, zS, zR (by omega), hl, zL (by omega)]
   . rw [if_neg (by omega), zR (by simp; omega), tA];simp only [rF, hl]
     congr 1; omega
end Go.Idl
namespace Go.Idl
variable [Globs]
variable {P : Program} {o : Oper} {a : Act} {g : Gh} {O : List Nat} {w : World} {s : St} {res : Res} {cf : kt}
theorem y8 {n : Option Nat} {cs : List IVal} {off : Nat} {z : IVal} (h : jA n cs off = some z) (hi : ∀ x ∈ cs, x.isCell = true) :
   z.cells = (cs.drop off).take (n.getD 1) /\ off + n.getD 1 <= cs.length /\ nt z = true /\ (un2 z).cells = ((cs.drop off).take (n.getD 1)).map un1 /\ z.cells.all IVal.isCell = true := by
 cases n with
 | some n =>
   simp only [jA] at h;split at h
   . rename_i hlen;simp only [zO] at h;subst h;refine ⟨rfl, hlen, rfl, rfl, ?_⟩;simp only [IVal.cells, rD];exact fun x hx => hi x (tF (r9 hx))
   . cases h
 | none =>
   simp only [jA] at h;have hlt := jk h;have hc := hi z (zM h);have e2 : (cs.drop off).take 1 = [z] := by
     rw [List.drop_eq_getElem_cons hlt];have := (List.getElem?_eq_some_iff.1 h).2;simp [this]
   have e1 : z.cells = [z] := by cases z <;> simp_all [IVal.cells, IVal.isCell]
   have e3 : (un2 z).cells = [un1 z] := by cases z <;> simp_all [IVal.cells, IVal.isCell, un2, un1]
   refine ⟨by rw [e1]; exact e2.symm, by simp only [Option.getD_none]; omega, by cases z <;> simp_all [nt, IVal.isCell], ?_, by rw [e1]; simp [hc]⟩;rw [e3];simp only [Option.getD_none];rw [e2]; rfl
theorem KW {cs : List IVal} (h : ∀ c ∈ cs, un1 c = c) (vs : List Value) : (List.zipWith qb cs vs).flatten = [] := by
 apply flatten_nil;intro c hc;obtain ⟨i, x, y, h1, _, rfl⟩ := kh hc;exact kP (h x (zM h1)) y
theorem zX {x : IVal} {v : Value} (h : V g x v) (hc : x.cells.all IVal.isCell = true) : kl x v = (List.zipWith qb x.cells v.cells.toList).flatten := (zw h hc).symm
theorem Jp {n : Nat} {cs ws : List IVal} {off : Nat} (h : off + ws.length <= cs.length) (h1 : RLO n (.cells cs)) (h2 : ∀ x ∈ ws, RL n x) : RLO n (.cells (jb cs off ws)) := by
 intro x hx;rw [v7 _ _ _ h] at hx
 rcases List.mem_append.1 hx with hx | hx
 . rcases List.mem_append.1 hx with hx | hx
   . exact h1 x (r9 hx)
   . exact h2 x hx
 . exact h1 x (tF hx)
theorem j9 {σ : List IObj} {id : Nat} {cs : List IVal} (h : jc σ id = some cs) : σ[id]? = some (.cells cs) := by
 unfold jc at h;split at h
 . simp at h; subst h; assumption
 . cases h
theorem kL (P : Program) (g o : Nat) (t : TypeId) (fz : Nat × Nat) : ∀ (vs : List Value) (i : Nat) (cur : Array Value) (w : World), w.heap[g]? = some (.cells cur t fz) -> NoFz cur fz -> o + i + vs.length <= cur.size -> (∀ v ∈ vs, v.oneCell' = true) ->
   (storeCells ⟨g, o, none⟩ vs i).run P w = .ok () (w.setRow g (cur.toList.take (o + i) ++ vs ++ cur.toList.drop (o + i + vs.length)).toArray)
 | [], i, cur, w, hg, _, _, _ => by
   simp only [storeCells, rM, List.length_nil, Nat.add_zero, List.take_append_drop, Array.toArray_toList];rw [setRow_self w g cur t fz hg];rfl
 | v :: rest, i, cur, w, hg, hfz, hl, h1 => by
   have hi : o + i < cur.size := by simp at hl; omega
   have hadd : (⟨g, o, none⟩ : Addr).add i = ⟨g, o + i, none⟩ := by unfold Addr.add; split <;> simp_all
   have hcell : w.cell? ⟨g, o + i, none⟩ = some cur[o + i] := by simp [World.cell?, hg, hi]
   have hfro : w.frozen? ⟨g, o + i, none⟩ = false := by
     obtain ⟨lo, hi'⟩ := fz;simp only [World.frozen?, hg, Bool.and_eq_false_iff, decide_eq_false_iff_not];have hfz : hi' = 0 \/ cur.size <= lo := hfz;omega
   have hst : (store ((⟨g, o, none⟩ : Addr).add i) v).run P w = .ok () (w.setRow g (cur.setIfInBounds (o + i) v)) := by
     rw [hadd, run_store P w _ v _ (h1 v (by simp)), hcell];simp [hfro, setCell_eq_setRow w g (o + i) cur t fz v hg]
   have ih := kL P g o t fz rest (i + 1) (cur.setIfInBounds (o + i) v) (w.setRow g (cur.setIfInBounds (o + i) v)) (setRow_heap w g cur _ t _ hg) (hfz.of_size (by simp)) (by simp at hl ⊢; omega) (fun x hx => h1 x (by simp [hx]));simp only [storeCells, Sem.run_bind, hst, Result.andThen_ok, ih, setRow_setRow]
   congr 3
   have e := list_seg_step cur.toList (o + i) v rest (by simp at hl ⊢; omega);simpa [Array.toList_setIfInBounds, Nat.add_assoc] using e
theorem R.loadMove {l : ke} {σ : List IObj} {n : Option Nat} {T : TypeId} {id off b : Nat} {cs : List IVal} {z : IVal} (h1 : R g O l σ w) (hι : g.ι[id]? = some (.bk b)) (hσ : σ[id]? = some (.cells cs)) (hT : tyN P T n = true) (hz : jA n cs off = some z) :
   ∃ u, (loadVar T ⟨b, off, none⟩).run P w = .ok u w /\ R g O ((z, u) :: l) (σ.set id (.cells (jb cs off (un2 z).cells))) w /\ Keep σ (σ.set id (.cells (jb cs off (un2 z).cells))) [(id, false)] /\ nt z = true := by
 obtain ⟨c, el, fz, hh, hnf, hsz, hc⟩ := h1.objs id b _ hι hσ;have hvc : ∀ (i : Nat) x u, cs[i]? = some x -> c.toList[i]? = some u -> V g x u := fun i x u hx hu => (hc i x u hx (by simpa using hu)).1;have hic : ∀ x ∈ cs, x.isCell = true := fun x hx => by
   obtain ⟨i, hi⟩ := kc hx;obtain ⟨u, hu⟩ := yj hsz hi;exact (hc i x u hi hu).2
 obtain ⟨u, hrun, hV, hu, _⟩ := v8 (w := w) (b := b) (e := 0) hT (by simpa using hsz) hvc hic (fun j v hj => by simp [World.cell?, hh]; simpa using hj) hz;rw [tS] at hrun;obtain ⟨q1, q2, q3, q4, q5⟩ := y8 hz hic;have hlen : ((un2 z).cells).length = n.getD 1 := by rw [q4]; simp; omega
 have hput : off + ((un2 z).cells).length <= cs.length := by rw [hlen]; exact q2
 have hulen : u.cells.toList.length = n.getD 1 := by rw [hu]; simp; omega
 have hsame : c.toList.take off ++ u.cells.toList ++ c.toList.drop (off + u.cells.toList.length) = c.toList := by
   rw [hulen, hu]; exact (Xn c.toList off (n.getD 1)).symm
 have hOB : OBJ g w b (.cells (jb cs off (un2 z).cells)) := by
   refine ⟨c, el, fz, hh, hnf, by rw [qo hput]; exact hsz, fun i x v hx hv => ?_⟩;rw [qn hput] at hx;split at hx
   . rename_i hi;rw [q4] at hx;simp only [rJ, rT] at hx;obtain ⟨x', hx', rfl⟩ := hx;rw [tD] at hx';split at hx'
     . rw [tA, show off + (i - off) = i by omega] at hx';exact ⟨(hc i x' v hx' hv).1.un1, by rw [qz]; exact (hc i x' v hx' hv).2⟩
     . cases hx'
   . exact hc i x v hx hv
 have hR' := (h1.push (kJ g) rfl).upd (y := z) (u := u) (id := id) (b := b) (ob := .cells cs) (ob' := .cells (jb cs off (un2 z).cells)) (w' := w) hV hι hσ (by simp) (fun _ _ => rfl) rfl (fun c el fz hc => ⟨c, hc, rfl⟩) hOB (by
   simp only [kR, ko, hh];obtain ⟨A, C, e1, e2⟩ := JJ (cs := cs) (ws := (un2 z).cells) (c := c.toList) (us := u.cells.toList) (off := off) (by simpa using hsz) (by rw [hlen, hulen]) hput;rw [hsame] at e1;have e3 : (List.zipWith qb (un2 z).cells u.cells.toList).flatten = [] := KW (fun x hx => by
     rw [q4] at hx; simp only [tO] at hx; obtain ⟨x', _, rfl⟩ := hx; exact yy x') _
   rw [e3, rM] at e1;have e4 : (List.zipWith qb ((cs.drop off).take (un2 z).cells.length) ((c.toList.drop off).take u.cells.toList.length)).flatten = kl z u := by
     rw [zX hV q5, hlen, q1, hulen, <- hu]
   rw [e4] at e2;rw [e1, e2];refine SubP.perm_left ?_ (SubP.refl _);have : (kl z u ++ b :: (A ++ C)).Perm (b :: (kl z u ++ (A ++ C))) := tW;refine this.trans ?_;show (b :: (kl z u ++ (A ++ C))).Perm (kl jl undef ++ b :: (A ++ kl z u ++ C));have e0 : kl jl undef = [] := rfl;rw [e0, tJ];refine List.Perm.cons _ ?_;rw [<- zS, zS A];rw [<- zS];exact List.perm_append_comm.append_right C)
 refine ⟨u, hrun, hR', Keep.set fun m _ _ ho => ?_, q3⟩;refine Jp hput (ho _ hσ) (fun x hx => ?_);rw [q4] at hx; simp only [tO] at hx;obtain ⟨x', hx', rfl⟩ := hx;exact (ho _ hσ x' (tF (r9 hx'))).un1
theorem jbb {mvf : Bool} {n : Option Nat} {x : Opd} {r : Operand} {T : TypeId} (hop : o.op = .load T r) (hx : jL x r = true) (hT : tyN P T n = true) (hs : ja cf (.load mvf n x) s = some res)
   (hl : WT s.ts a.tmps) (hR : R g O (s.ts.roots a.tmps) s.σ w) : SimV P o a g O w s res := by
 simp only [ja] at hs;split at hs
 . rename_i rf cs off ts h;split at hs
   . rename_i z hz;simp only [rv, zO] at hs;subst hs;obtain ⟨h1, h2⟩ := jI (l := []) hx h hl hR;obtain ⟨vs, b, e, hb, hl', hv, hf, hr, hm⟩ := h1.head.pv_inv;obtain ⟨u, hrun, hV, hu, _⟩ := v8 (w := w) hT (Nat.le_of_eq hl') hv (fun x hx => (hf x hx).2) (fun j v hj => h1.claim _ _ _ (hm j v hj)) hz;obtain ⟨q1, q2, q3, q4, q5⟩ := y8 hz (fun x hx => (hf x hx).2);refine SimV.same (v' := u) ?_ (h1.drop.push hV ?_) h2
     . simp [execOp, hop, hb, Instr.loadAt, Instr.sureAddr, hrun]
     . rw [zX hV q5, q1];exact KW (fun c hc => (hf c (tF (r9 hc))).1) _
   . cases hs
 . rename_i id off ts h;split at hs
   . rename_i cs hcs;split at hs
     . rename_i z hz;obtain ⟨h1, h2⟩ := jI (l := []) hx h hl hR;obtain ⟨b, hb, hι⟩ := h1.head.ptr_inv;have hσ := j9 hcs;obtain ⟨c, el, fz, hh, hnf, hsz, hc⟩ := h1.objs id b _ hι hσ;have hvc : ∀ (i : Nat) x u, cs[i]? = some x -> c.toList[i]? = some u -> V g x u := fun i x u hx hu => (hc i x u hx (by simpa using hu)).1;have hic : ∀ x ∈ cs, x.isCell = true := fun x hx => by
         obtain ⟨i, hi⟩ := kc hx;obtain ⟨u, hu⟩ := yj hsz hi;exact (hc i x u hi hu).2
       obtain ⟨u, hrun, hV, hu, _⟩ := v8 (w := w) (b := b) (e := 0) hT (by simpa using hsz) hvc hic (fun j v hj => by simp [World.cell?, hh]; simpa using hj) hz;rw [tS] at hrun;obtain ⟨q1, q2, q3, q4, q5⟩ := y8 hz hic;have hexec : (execOp a.eval o).run P w = .ok (.value u) w := by simp [execOp, hop, hb, Instr.loadAt, Instr.sureAddr, hrun]
       split at hs
       . simp only [zO] at hs;subst hs;have hlen : ((un2 z).cells).length = n.getD 1 := by rw [q4]; simp; omega
         have hput : off + ((un2 z).cells).length <= cs.length := by rw [hlen]; exact q2
         have hulen : u.cells.toList.length = n.getD 1 := by rw [hu]; simp; omega
         have hsame : c.toList.take off ++ u.cells.toList ++ c.toList.drop (off + u.cells.toList.length) = c.toList := by
           rw [hulen, hu]; exact (Xn c.toList off (n.getD 1)).symm
         have hOB : OBJ g w b (.cells (jb cs off (un2 z).cells)) := by
           refine ⟨c, el, fz, hh, hnf, by rw [qo hput]; exact hsz, fun i x v hx hv => ?_⟩;rw [qn hput] at hx;split at hx
           . rename_i hi;rw [q4] at hx;simp only [rJ, rT] at hx;obtain ⟨x', hx', rfl⟩ := hx;rw [tD] at hx';split at hx'
             . rw [tA, show off + (i - off) = i by omega] at hx';exact ⟨(hc i x' v hx' hv).1.un1, by rw [qz]; exact (hc i x' v hx' hv).2⟩
             . cases hx'
           . exact hc i x v hx hv
         have hR' := (h1.drop.push (kJ g) rfl).upd (y := z) (u := u) (id := id) (b := b) (ob := .cells cs) (ob' := .cells (jb cs off (un2 z).cells)) (w' := w) hV hι hσ (by simp) (fun _ _ => rfl) rfl (fun c el fz hc => ⟨c, hc, rfl⟩) hOB (by
           simp only [kR, ko, hh];obtain ⟨A, C, e1, e2⟩ := JJ (cs := cs) (ws := (un2 z).cells) (c := c.toList) (us := u.cells.toList) (off := off) (by simpa using hsz) (by rw [hlen, hulen]) hput;rw [hsame] at e1;have e3 : (List.zipWith qb (un2 z).cells u.cells.toList).flatten = [] := KW (fun x hx => by
             rw [q4] at hx; simp only [tO] at hx; obtain ⟨x', _, rfl⟩ := hx; exact yy x') _
           rw [e3, rM] at e1;have e4 : (List.zipWith qb ((cs.drop off).take (un2 z).cells.length) ((c.toList.drop off).take u.cells.toList.length)).flatten = kl z u := by
             rw [zX hV q5, hlen, q1, hulen, <- hu]
           rw [e4] at e2;rw [e1, e2];refine SubP.perm_left ?_ (SubP.refl _);have : (kl z u ++ b :: (A ++ C)).Perm (b :: (kl z u ++ (A ++ C))) := tW;refine this.trans ?_;show (b :: (kl z u ++ (A ++ C))).Perm (kl jl undef ++ b :: (A ++ kl z u ++ C));have e0 : kl jl undef = [] := rfl;rw [e0, tJ];refine List.Perm.cons _ ?_;rw [<- zS, zS A];rw [<- zS];exact List.perm_append_comm.append_right C)
         refine ⟨rfl, u, w, _, hexec, rfl, g, O, [(id, false)], .refl O g w, hR', h2, rfl, Keep.set fun m _ _ ho => ?_⟩;refine Jp hput (ho _ hσ) (fun x hx => ?_);rw [q4] at hx; simp only [tO] at hx;obtain ⟨x', hx', rfl⟩ := hx;exact (ho _ hσ x' (tF (r9 hx'))).un1
       . simp only [rv, zO] at hs;subst hs;exact SimV.same hexec (h1.drop.push hV.un2 (kx (qd q3) _)) h2
     . cases hs
   . cases hs
 . cases hs
theorem vF {v : Value} (h : ql v = true) : v.oneCell' = true := by cases v <;> simp_all [ql, Value.oneCell']
theorem qg (w : World) (b : Nat) (c : Array Value) : (w.setRow b c).os = w.os /\ (w.setRow b c).tape = w.tape /\ (w.setRow b c).output = w.output /\ (w.setRow b c).heap.size = w.heap.size := by
 simp [World.setRow]
theorem ZG {n : Nat} {x y : Opd} {rx ry : Operand} {T : TypeId} {i : TypeInfo} (hop : o.op = .store T rx ry) (hx : jL x rx = true) (hy : jL y ry = true) (hT : P.info? T = some i) (hn : i.size = n) (hs : ja cf (.store n x y) s = some res)
   (hl : WT s.ts a.tmps) (hR : R g O (s.ts.roots a.tmps) s.σ w) : SimV P o a g O w s res := by
 simp only [ja] at hs;split at hs
 . rename_i id off ts h;split at hs
   . rename_i v ts' h';split at hs
     . rename_i cs hcs;split at hs
       . rename_i hc3;simp only [zO] at hs;subst hs;obtain ⟨hvn, hlen, hcell⟩ := hc3;obtain ⟨h1, h2⟩ := jI (l := []) hx h hl hR;obtain ⟨h3, h4⟩ := jI (l := [(.ptr id off, a.eval rx)]) hy h' h2 h1;obtain ⟨b, hb, hι⟩ := h3.drop.head.ptr_inv;have hσ := j9 hcs;obtain ⟨c, el, fz, hh, hnf, hsz, hc⟩ := h3.objs id b _ hι hσ;have hV := h3.head;obtain ⟨p1, p2⟩ := hV.cells;have hput : off + v.cells.length <= cs.length := by omega
         have hun : (a.eval ry).cells.toList.length = n := by rw [Array.length_toList, <- p1]; exact hvn
         have hput' : off + (a.eval ry).cells.toList.length <= c.toList.length := by rw [hun, Array.length_toList]; omega
         have hones : ∀ u ∈ (a.eval ry).cells.toList, u.oneCell' = true := by
           intro u hu;obtain ⟨j, hj⟩ := kc hu;have hj' : (a.eval ry).cells[j]? = some u := by simpa using hj
           obtain ⟨x, hx⟩ : ∃ x, v.cells[j]? = some x := by
             have := (Array.getElem?_eq_some_iff.1 hj').1;exact ⟨v.cells[j]'(by omega), by simp⟩
           have hVj := p2 j x u hx hj';exact vF (by rw [<- hVj.isCell]; exact List.all_eq_true.1 hcell x (zM hx))
         let row := (c.toList.take off ++ (a.eval ry).cells.toList ++ c.toList.drop (off + (a.eval ry).cells.toList.length)).toArray
         have hst : (storeCells ⟨b, off, none⟩ (a.eval ry).cells.toList).run P w = .ok () (w.setRow b row) := by
           have := kL P b off el fz (a.eval ry).cells.toList 0 c w hh hnf (by simpa using hput') hones;simpa [row] using this
         have hexec : (execOp a.eval o).run P w = .ok .skip (w.setRow b row) := by
           have hne : (a.eval ry).cells.size = i.size := by rw [hn]; simpa using hun
           simp [execOp, hop, hb, Instr.storeAt, Instr.sureAddr, storeVar, kw hT, hne, hst]
         have hrow : (w.setRow b row).heap[b]? = some (.cells row el fz) := setRow_heap w b c row el _ hh;have hOB : OBJ g (w.setRow b row) b (.cells (jb cs off v.cells)) := by
           refine ⟨row, el, fz, hrow, hnf.of_size (by simp [row]; simp at hput'; omega), ?_, fun j x u hxj huj => ?_⟩
           . rw [qo hput]; simp [row]; simp at hput' hun; omega
           . rw [qn hput] at hxj;have huj' : (c.toList.take off ++ (a.eval ry).cells.toList ++ c.toList.drop (off + (a.eval ry).cells.toList.length))[j]? = some u := by simpa [row] using huj
             rw [Jk hput', hun] at huj';rw [hvn] at hxj;split at hxj
             . rename_i hj;rw [if_pos hj] at huj';have huj'' : (a.eval ry).cells[j - off]? = some u := by simpa using huj'
               exact ⟨p2 _ _ _ hxj huj'', List.all_eq_true.1 hcell x (zM hxj)⟩
             . rename_i hj;rw [if_neg hj] at huj';exact hc j x u hxj (by simpa using huj')
         have hf := qg w b row;have hroot : R g O ((v, a.eval ry) :: ts'.roots a.tmps) s.σ w := by
           have := h3.perm (.swap _ _ _);exact this.drop
         have hR' := hroot.upd (y := jl) (u := undef) (id := id) (b := b) (ob := .cells cs) (ob' := .cells (jb cs off v.cells)) (w' := w.setRow b row) (kJ g) hι hσ (by simp) (fun k hk => setRow_other w b k row hk) hf.2.2.2 (fun c' el' fz' hc' => by
           rw [hh] at hc'; cases hc';exact ⟨row, hrow, by simp [row]; simp at hput'; omega⟩) hOB (by
           simp only [kR, ko, hh, hrow];obtain ⟨A, C, e1, e2⟩ := JJ (cs := cs) (ws := v.cells) (c := c.toList) (us := (a.eval ry).cells.toList) (off := off) (by simpa using hsz) (by rw [hun, hvn]) hput;rw [show row.toList = c.toList.take off ++ (a.eval ry).cells.toList ++ c.toList.drop (off + (a.eval ry).cells.toList.length) from rfl, e1, e2, zw hV hcell];show SubP (b :: (A ++ kl v (a.eval ry) ++ C)) (kl v (a.eval ry) ++ b :: (A ++ _ ++ C));refine SubP.perm_right (List.perm_middle.symm) ?_;refine SubP.append_left [b] ?_;refine SubP.perm_left (a := kl v (a.eval ry) ++ (A ++ C)) ?_ ?_
           . rw [<- zS]; exact List.perm_append_comm.append_right C
           . refine SubP.append_left _ (SubP.of_sub ?_);rw [zS];exact List.Sublist.append (.refl _) (List.sublist_append_right _ _))
         refine ⟨rfl, undef, _, _, hexec, rfl, g, O, [(id, !(v.cells.all nr1))], ?_, hR', h4, rfl, Keep.set fun m hid hm ho => ?_⟩
         . exact Grow.of_setRow g w (h1.sub b (rW _ (kB hι hσ (by simp [kR])))) _ (fun k hk => setRow_other w b k row hk) hf.2.2.2 hf.1 hf.2.1 hf.2.2.1
         . refine Jp hput (ho _ hσ) (fun x hx => ?_);obtain ⟨j, hj⟩ := kc hx;obtain ⟨u, hu⟩ := kH p1 hj;have hVx := p2 j x u hj hu
           by_cases hnr : v.cells.all nr1 = true
           . exact hVx.norl m (qa (qY (List.all_eq_true.1 hnr x hx)))
           . exact absurd (hm (by simpa using hnr)) (by omega)
       . cases hs
     . cases hs
   . cases hs
 . cases hs
end Go.Idl
namespace Go.Idl
variable [Globs]
variable {P : Program} {o : Oper} {a : Act} {g : Gh} {O : List Nat} {w : World} {s : St} {res : Res} {cf : kt}
theorem jar : ∀ (vs : List Value) (k off : Nat) (c : Array Value), off + k + vs.length <= c.size ->
   ((vs.zipIdx k).foldl (fun cs p => cs.setIfInBounds (off + p.2) p.1) c).toList = c.toList.take (off + k) ++ vs ++ c.toList.drop (off + k + vs.length) := by
 intro vs
 induction vs with
 | nil => intro k off c h; simp
 | cons v vs ih =>
   intro k off c h;simp at h;simp only [List.zipIdx_cons, List.foldl_cons];rw [ih (k + 1) off _ (by simp; omega)];have hk : off + k < c.toList.length := by simp; omega
   rw [Array.toList_setIfInBounds];have h1 : (c.toList.set (off + k) v).take (off + (k + 1)) = c.toList.take (off + k) ++ [v] := by
     rw [<- Nat.add_assoc, List.take_set, List.take_add_one, List.set_append_right _ _ (by simp; omega)];have hm : min (off + k) c.toList.length = off + k := by omega
     simp only [tE, hm, Nat.sub_self, rG hk];simp
   rw [h1, List.drop_set_of_lt (by omega)];simp [Nat.add_assoc, Nat.add_comm 1]
theorem Qn {v : Value} {off : Nat} {c : Array Value} (h : off + v.cells.size <= c.size) :
   (v.cells.zipIdx.foldl (fun cs (p : Value × Nat) => cs.setIfInBounds (off + p.2) p.1) c).toList = c.toList.take off ++ v.cells.toList ++ c.toList.drop (off + v.cells.toList.length) := by
 have := jar v.cells.toList 0 off c (by simpa using h);simp only [Nat.add_zero] at this;rw [<- this, <- Array.foldl_toList];simp [Array.toList_zipIdx]
theorem jap {place : Nat -> Option (Nat × Nat)} : ∀ {qs : List (Nat × Nat × IVal)} {ps : List (Nat × Value)} {cs cs' : List IVal} {c : Array Value}, qs.length = ps.length ->
   (∀ (j : Nat) q p, qs[j]? = some q -> ps[j]? = some p -> place p.1 = some (q.1, q.2.1) /\ V g q.2.2 p.2 /\ vl q.2.2) -> cs.length = c.size -> (∀ (i : Nat) x v, cs[i]? = some x -> c[i]? = some v -> V g x v /\ x.isCell = true /\ qb x v = []) ->
   yZ cs qs = some cs' -> ∃ c' : Array Value, Instr.fill place c ps = some c' /\ cs'.length = c'.size /\ ∀ (i : Nat) x v, cs'[i]? = some x -> c'[i]? = some v -> V g x v /\ x.isCell = true /\ qb x v = [] := by
 intro qs
 induction qs with
 | nil =>
   intro ps cs cs' c hl _ hc hv hf;cases ps <;> simp at hl;simp [yZ] at hf;subst hf;exact ⟨c, rfl, hc, hv⟩
 | cons q qs ih =>
   intro ps cs cs' c hl hp hc hv hf
   cases ps with
   | nil => simp at hl
   | cons p ps =>
     obtain ⟨off, size, x⟩ := q;obtain ⟨i, v⟩ := p;obtain ⟨h1, h2, h3⟩ := hp 0 _ _ rfl rfl;simp only at h1 h2 h3;simp only [yZ] at hf;split at hf
     . rename_i hcond;obtain ⟨hsz, hlen, hcell⟩ := hcond;obtain ⟨q1, q2⟩ := h2.cells;have hput : off + x.cells.length <= cs.length := by omega
       have hfill : Instr.fill place c ((i, v) :: ps) = Instr.fill place (v.cells.zipIdx.foldl (fun cs (c, j) => cs.setIfInBounds (off + j) c) c) ps := by
         simp only [Instr.fill, h1];rw [if_neg (by simp; omega)]
       rw [hfill];have hto := Qn (v := v) (off := off) (c := c) (by omega);refine ih (by simpa using hl) (fun j q p hq hp' => hp (j + 1) q p (by simpa using hq) (by simpa using hp')) ?_ (fun j y u hy hu => ?_) hf
       . rw [qo hput, <- Array.length_toList];rw [hto]; simp; omega
       . rw [qn hput] at hy;have hu' : (c.toList.take off ++ v.cells.toList ++ c.toList.drop (off + v.cells.toList.length))[j]? = some u := by rw [<- hto]; simpa using hu
         rw [Jk (by simp; omega)] at hu';have e : v.cells.toList.length = x.cells.length := by rw [q1]; simp
         rw [e] at hu';split at hy
         . rename_i hj;rw [if_pos hj] at hu';have hVj := q2 _ _ _ hy (by simpa using hu');have hm := zM hy;exact ⟨hVj, List.all_eq_true.1 hcell y hm, kP (yD h2 h3 y hm).1 u⟩
         . rename_i hj;rw [if_neg hj] at hu';exact hv j y u hy (by simpa using hu')
     . cases hf
theorem Jj {vs : List IVal} {us : List Value} {l : ke} {σ : List IObj} (h : R g O (vs.zip us ++ l) σ w) {i : Nat} {x : IVal} {u : Value} (hx : vs[i]? = some x) (hu : us[i]? = some u) : V g x u :=
 zr (fun p hp => h.vals p (by simp [hp])) hx hu
def y7 (place : Nat -> Option (Nat × Nat)) : List (Nat × Nat × Opd) -> List (Nat × Operand) -> Bool
 | [], [] => true
 | q :: qs, p :: ps => place p.1 == some (q.1, q.2.1) && jL q.2.2 p.2 && y7 place qs ps
 | _, _ => false
theorem QD {place : Nat -> Option (Nat × Nat)} : ∀ {qs : List (Nat × Nat × Opd)} {ps : List (Nat × Operand)}, y7 place qs ps = true -> ka (qs.map (·.2.2)) (ps.map (·.2)) = true /\ qs.length = ps.length /\
   ∀ (j : Nat) q p, qs[j]? = some q -> ps[j]? = some p -> place p.1 = some (q.1, q.2.1) := by
 intro qs
 induction qs with
 | nil => intro ps h; cases ps <;> simp [y7, ka] at h ⊢
 | cons q qs ih =>
   intro ps h
   cases ps with
   | nil => simp [y7] at h
   | cons p ps =>
     simp [y7] at h;obtain ⟨⟨h1, h2⟩, h3⟩ := h;obtain ⟨i1, i2, i3⟩ := ih h3;refine ⟨by simp [ka, h2, i1], by simp [i2], fun j q' p' hq hp => ?_⟩
     cases j with
     | zero => simp at hq hp; subst hq hp; exact h1
     | succ j => simp at hq hp; exact i3 j q' p' hq hp
theorem ZC {zs : List IVal} {parts : List (Nat × Nat × Opd)} {T : TypeId} {rparts : Array (Nat × Operand)} {z : Value} {place : Nat -> Option (Nat × Nat)} (hop : o.op = .build T rparts) (hc : Jh zs z.cells.toList = true)
   (hplace : ∀ (ps : Array (Nat × Value)) cells, Instr.fill place z.cells ps.toList = some cells -> (Instr.build T ps).run P w = .ok (.agg cells) w) (hp : y7 place parts rparts.toList = true)
   (hs : ja cf (.build zs parts) s = some res) (hl : WT s.ts a.tmps) (hR : R g O (s.ts.roots a.tmps) s.σ w) : SimV P o a g O w s res := by
 simp only [ja] at hs;split at hs
 . rename_i vs ts h;split at hs
   case isFalse => cases hs
   rename_i hnt;split at hs
   . rename_i cs hcs;simp only [rv, zO] at hs;subst hs;obtain ⟨p1, p2, p3⟩ := QD hp;obtain ⟨h1, h2, h3⟩ := kD (l := []) p1 h hl hR;obtain ⟨c1, c2⟩ := qS g hc;have hlen := qf h;simp at hlen;obtain ⟨c', f1, f2, f3⟩ := jap (g := g) (place := place) (ps := (rparts.map fun (i, x) => (i, a.eval x)).toList) (c := z.cells) (by simp; simp at h3 p2; omega) (fun j q p hq hp' => by
       simp only [rJ, rT] at hq;obtain ⟨⟨q0, y⟩, hq0, rfl⟩ := hq;simp only [List.getElem?_zip_eq_some] at hq0;simp only [Array.toList_map, rJ, rT] at hp';obtain ⟨⟨k, r⟩, hr, rfl⟩ := hp';have hu : ((rparts.toList.map (·.2)).map a.eval)[j]? = some (a.eval r) := by simp [hr]
       have hV := Jj h1 hq0.2 hu;exact ⟨p3 j q0 (k, r) hq0.1 hr, hV.un2, qd (List.all_eq_true.1 hnt y (zM hq0.2))⟩) (by simpa using c1) (fun i x v hx hv => by
       obtain ⟨a1, a2, a3⟩ := c2 i x v hx (by simpa using hv);exact ⟨a1, a3, a2⟩) hcs
     refine SimV.same (v' := .agg c') ?_ ((R.drops h1).push (.agg cs c' f2 (fun i x v hx hv => (f3 i x v hx hv).1) (fun x hx => by
       obtain ⟨i, hi⟩ := kc hx;obtain ⟨v, hv⟩ := kH f2 hi;exact (f3 i x v hi hv).2.1)) ?_) h2
     . simp only [execOp, hop, Sem.run_bind];rw [hplace _ _ f1]; simp
     . simp only [kl, yg];apply flatten_nil;intro c hcm;obtain ⟨i, x, y, e1, e2, rfl⟩ := kh hcm;exact (f3 i x y e1 (by simpa using e2)).2.2
   . cases hs
 . cases hs
theorem QK {T : TypeId} : (Instr.makeMap T none).run P w = .ok (.map (some w.heap.size)) (w.alloc (.map #[] 0)) := by simp [Instr.makeMap]
theorem ZF {T : TypeId} (hop : o.op = .makeMap T none) (hs : ja cf .mkMap s = some res) (hl : WT s.ts a.tmps) (hR : R g O (s.ts.roots a.tmps) s.σ w) : SimV P o a g O w s res := by
 simp only [ja, zO] at hs;subst hs;have hrun : (execOp a.eval o).run P w = .ok (.value (.map (some w.heap.size))) (w.alloc (.map #[] 0)) := by simp [execOp, hop, QK]
 have hnew := (hR.push (kJ g) rfl).new (obr := .map #[] 0) (ob := .map []) (fun _ => ⟨#[], 0, jW w _, rfl, by simp, StampB.empty 0⟩) ⟨[], by simp [kR], by simp⟩;refine ⟨rfl, _, _, _, hrun, rfl, g.fresh w.heap.size, w.heap.size :: O, [], kK hR _, hnew.push (.map _ _ ?_) rfl, hl, rfl, Keep.snoc _ _⟩;simp [Gh.fresh, <- hR.len]
def Q3 : Nat -> TypeDesc -> Bool
 | 0, .int _ => true
 | 1, .string => true
 | 2, .bool => true
 | _, _ => false
theorem vQ {kk : Nat} {x y : IVal} {u v : Value} {b : Bool} {d : TypeDesc} (h : qh x y = some b) (hx : V g x u) (hy : V g y v) (hk : Jf kk x = true) (hd : Q3 kk d = true) :
   Instr.sameNow d u v = some b := by
 unfold qh at h;split at h
 . rename_i k i k' j;rw [hx.int_inv, hy.int_inv];split at h
   . rename_i hkk;simp only [zO] at h; subst h hkk;unfold Jf at hk;split at hk <;> simp_all;unfold Q3 at hd;split at hd <;> simp_all [Instr.sameNow]
   . cases h
 . rw [hx.bool_inv, hy.bool_inv];simp only [zO] at h; subst h;unfold Jf at hk;split at hk <;> simp_all;unfold Q3 at hd;split at hd <;> simp_all [Instr.sameNow]
 . obtain ⟨t, rfl, rfl⟩ := hx.str_inv;obtain ⟨t', rfl, rfl⟩ := hy.str_inv;simp only [zO] at h; subst h;have hb : (t == t') = (t.data.toList == t'.data.toList) := by rw [beq_toListBytes, vM, vM]
   have hkk : kk = 1 := by unfold Jf at hk; split at hk <;> simp_all
   subst hkk;have hdd : d = .string := by unfold Q3 at hd; split at hd <;> simp_all
   subst hdd;simp only [Instr.sameNow, zO]; exact hb
 . cases h
theorem Kk {kk : Nat} {d : TypeDesc} {k : IVal} {u : Value} (hk : V g k u) (hkk : Jf kk k = true) (hd : Q3 kk d = true) : ∀ {es : List (IVal × IVal)} {mes : List MapEntry} {r : Option IVal} (n : Nat), es.length = mes.length ->
   (∀ (i : Nat) e me, es[i]? = some e -> mes[i]? = some me -> V g e.1 me.key /\ V g e.2 me.val) -> YH k es = some r ->
   ∃ q, Instr.findNow d u mes n = some q /\ (match r with | none => q = none | some x => ∃ j me, q = some (n + j, me.val) /\ mes[j]? = some me /\ V g x me.val /\ ∃ e, es[j]? = some e /\ e.2 = x) := by
 intro es
 induction es with
 | nil =>
   intro mes r n hl _ hf;cases mes <;> simp at hl;simp [YH] at hf; subst hf;exact ⟨none, rfl, rfl⟩
 | cons e es ih =>
   intro mes r n hl hv hf
   cases mes with
   | nil => simp at hl
   | cons me mes =>
     obtain ⟨k', v'⟩ := e;obtain ⟨h1, h2⟩ := hv 0 _ _ rfl rfl;simp only [YH] at hf;split at hf
     . rename_i he;simp at hf; subst hf;have := vQ he hk h1 hkk hd;exact ⟨some (n, me.val), by simp [Instr.findNow, this], 0, me, rfl, rfl, h2, (k', v'), rfl, rfl⟩
     . rename_i he;have := vQ he hk h1 hkk hd;obtain ⟨q, q1, q2⟩ := ih (n + 1) (by simpa using hl) (fun i e me hi hm => hv (i + 1) e me (by simpa using hi) (by simpa using hm)) hf;refine ⟨q, by simp [Instr.findNow, this, q1], ?_⟩
       cases r with
       | none => exact q2
       | some x =>
         obtain ⟨j, me', a1, a2, a3, e', a4, a5⟩ := q2;exact ⟨j + 1, me', by rw [a1]; congr 2; omega, by simpa using a2, a3, e', by simpa using a4, a5⟩
     . cases hf
theorem QJ {kk : Nat} {b : Bool} {n : Nat} {T : TypeId} {d : TypeDesc} {u : Value} {k : IVal} (hT : P.underlying T = some d) (hk : V g k u) (hkk : Jf kk k = true) (hd : Q3 kk d = true) : (Instr.checkKey b (n + 1) T u).run P w = .ok () w := by
 unfold Jf at hkk;split at hkk
 . unfold Q3 at hd; split at hd <;> simp_all;rw [hk.int_inv]; simp [Instr.checkKey, jM hT]
 . unfold Q3 at hd; split at hd <;> simp_all;obtain ⟨t, rfl, _⟩ := hk.str_inv; simp [Instr.checkKey, jM hT]
 . unfold Q3 at hd; split at hd <;> simp_all;rw [hk.bool_inv]; simp [Instr.checkKey, jM hT]
 . cases hkk
theorem qW {kk : Nat} {b : Bool} {T : TypeId} {d : TypeDesc} {u : Value} {k : IVal} (hT : P.underlying T = some d) (hk : V g k u) (hkk : Jf kk k = true) (hd : Q3 kk d = true) : (Instr.checkKey b 10000 T u).run P w = .ok () w := QJ (n := 9999) hT hk hkk hd
theorem vJ {b : Nat} {mes : Array MapEntry} {clock : Nat} (h : w.heap[b]? = some (.map mes clock)) : (getObj b).run P w = .ok (.map mes clock) w := by simp [getObj, Sem.run, h]
theorem XY {kk : Nat} {ok : Bool} {z : IVal} {x y : Opd} {rx ry : Operand} {T K E : TypeId} {d : TypeDesc} {i : TypeInfo} {zv : Value} (hop : o.op = .lookup T rx ry ok) (hx : jL x rx = true) (hy : jL y ry = true) (hT : P.underlying T = some (.map K E)) (hK : P.underlying K = some d)
   (hd : Q3 kk d = true) (hi : P.info? E = some i) (hz : i.zero = some zv) (hzc : cOK z zv = true) (hznt : nt z = true) (hs : ja cf (.lookup kk z ok x y) s = some res)
   (hl : WT s.ts a.tmps) (hR : R g O (s.ts.roots a.tmps) s.σ w) : SimV P o a g O w s res := by
 simp only [ja] at hs;split at hs
 . rename_i id ts h;split at hs
   . rename_i k ts' h';split at hs
     . rename_i es hes;split at hs
       . rename_i hkk;obtain ⟨h1, h2⟩ := jI (l := []) hx h hl hR;obtain ⟨h3, h4⟩ := jI (l := [(.map id, a.eval rx)]) hy h' h2 h1;obtain ⟨b, hb, hι⟩ := h3.drop.head.map_inv;obtain ⟨mes, clock, m1, m2, m3, m4⟩ := h3.objs id b _ hι hes;have hkV := h3.head;have hpair : ∀ (v : IVal) (u : Value) (fb : Bool), V g v u -> kl v u = [] -> nt v = true -> (execOp a.eval o).run P w = .ok (.value (if ok then .tuple #[u, .bool fb] else u)) w -> SimV P o a g O w s ⟨false, if ok then .tup [v, .bool fb] else v, { s with ts := ts' }⟩ := by
           intro v u fb hv ho hnv hrun;refine SimV.same hrun (h3.drop.drop.push ?_ ?_) h4
           . split
             . refine .tup _ _ rfl (fun i x w hx hw => ?_) (fun y hy => by
                 simp at hy
                 rcases hy with rfl | rfl
                 . exact hnv
                 . rfl)
               cases i with
               | zero => simp at hx hw; subst hx hw; exact hv
               | succ i =>
                 cases i with
                 | zero => simp at hx hw; subst hx hw; exact .bool _
                 | succ i => simp at hx
             . exact hv
           . split
             . rw [yq hnv] at ho;show yg v u ++ (yg (.bool fb) (.bool fb) ++ []) = [];rw [ho]; rfl
             . exact ho
         split at hs
         . rename_i v hf;simp only [rv, zO] at hs;subst hs;obtain ⟨q, q1, q2⟩ := Kk hkV hkk hd (mes := mes.toList) 0 (by simpa using m2.symm) (fun i e me he hm => (m3 i e me he (by simpa using hm)).1) hf;obtain ⟨j, me, rfl, q3, q4, e, q5, rfl⟩ := q2;have hfl := (m3 j e me q5 (by simpa using q3)).2.2;refine hpair _ _ true q4 (kx hfl _) hfl.2 ?_;simp [execOp, hop, hb, Instr.lookup, jM hT, vJ m1, qW hK hkV hkk hd, Instr.findKey, jM hK, q1]
         . rename_i hf;simp only [rv, zO] at hs;subst hs;obtain ⟨q, q1, rfl⟩ := Kk hkV hkk hd (mes := mes.toList) 0 (by simpa using m2.symm) (fun i e me he hm => (m3 i e me he (by simpa using hm)).1) hf;obtain ⟨z1, z2⟩ := Z3 g hzc;refine hpair z zv false z1 z2 hznt ?_;simp [execOp, hop, hb, Instr.lookup, jM hT, vJ m1, qW hK hkV hkk hd, Instr.findKey, jM hK, q1, zeroValue, typeInfo, hi, hz]
         . cases hs
       . cases hs
     . cases hs
   . cases hs
 . cases hs
theorem ja9 {x : Opd} {r : Operand} {c : Call} {T K E : TypeId} (hop : o.op = .call c) (hc : c.callee = .builtin .len) (ha : c.args = #[r]) (hta : c.argTypes[0]? = some T) (hx : jL x r = true) (hT : P.underlying T = some (.map K E))
   (hs : ja cf (.lenM x) s = some res) (hl : WT s.ts a.tmps) (hR : R g O (s.ts.roots a.tmps) s.σ w) : SimV P o a g O w s res := by
 simp only [ja] at hs;split at hs
 . rename_i id ts h;split at hs
   . rename_i es hes;simp only [rv, zO] at hs;subst hs;obtain ⟨h1, h2⟩ := jI (l := []) hx h hl hR;obtain ⟨b, hb, hι⟩ := h1.head.map_inv;obtain ⟨mes, clock, m1, m2, m3, m4⟩ := h1.objs id b _ hι hes;refine SimV.same (v' := .int .i64 mes.size) ?_ (h1.drop.push (by rw [m2]; exact .int _ _) rfl) h2;simp [execOp, hop, resolve, hc, ha, invoke, builtin, hb, Builtin.len_, hta, jM hT, goInt, vJ m1]
   . cases hs
 . cases hs
theorem VK {k k' : IVal} {u v : Value} (h : qh k k' = some true) (hx : V g k u) (hy : V g k' v) : Instr.sameBits 10000 v u = true := by
 unfold qh at h;split at h
 . rw [hx.int_inv, hy.int_inv];split at h
   . simp at h; simp_all [Instr.sameBits]
   . cases h
 . rw [hx.bool_inv, hy.bool_inv]; simp at h; simp [Instr.sameBits, h]
 . obtain ⟨t, rfl, rfl⟩ := hx.str_inv;obtain ⟨t', rfl, rfl⟩ := hy.str_inv;simp only [zO] at h;have hb : (t' == t) = true := by rw [beq_toListBytes, vM, vM]; simp at h; simp [h]
   simp only [Instr.sameBits]; exact hb
 . cases h
theorem Zz {kk : Nat} {d : TypeDesc} {k x : IVal} {u v : Value} (hk : V g k u) (hx : V g x v) (hkk : Jf kk k = true) (hd : Q3 kk d = true) (hfx : vl x) : ∀ {es es' : List (IVal × IVal)} {mes : List MapEntry} (n : Nat), es.length = mes.length ->
   (∀ (i : Nat) e me, es[i]? = some e -> mes[i]? = some me -> (V g e.1 me.key /\ V g e.2 me.val) /\ vl e.1 /\ vl e.2) -> jbY k x es = some es' ->
   (∃ j me, Instr.findNow d u mes n = some (some (n + j, me.val)) /\ mes[j]? = some me /\ Instr.sameBits 10000 me.key u = true /\ es'.length = es.length /\
     ∀ (i : Nat) e m, es'[i]? = some e -> (mes.modify j fun e => { e with key := u, val := v })[i]? = some m -> (V g e.1 m.key /\ V g e.2 m.val) /\ vl e.1 /\ vl e.2) \/
   (Instr.findNow d u mes n = some none /\ es' = es ++ [(k, x)]) := by
 have hfk : vl k := by unfold Jf at hkk; split at hkk <;> first | exact ⟨rfl, rfl⟩ | cases hkk
 intro es
 induction es with
 | nil =>
   intro es' mes n hl _ hf;cases mes <;> simp at hl;simp [jbY] at hf; subst hf;exact .inr ⟨rfl, rfl⟩
 | cons e es ih =>
   intro es' mes n hl hv hf
   cases mes with
   | nil => simp at hl
   | cons me mes =>
     obtain ⟨k', v'⟩ := e;obtain ⟨⟨h1, h2⟩, h3, h4⟩ := hv 0 _ _ rfl rfl;simp only [jbY] at hf;split at hf
     . rename_i he;simp at hf; subst hf;have := vQ he hk h1 hkk hd;refine .inl ⟨0, me, by simp [Instr.findNow, this], rfl, VK he hk h1, by simp, fun i e m hi hm => ?_⟩
       cases i with
       | zero => simp at hi hm; subst hi hm; exact ⟨⟨hk, hx⟩, hfk, hfx⟩
       | succ i => simp at hi hm; exact hv (i + 1) e m (by simpa using hi) (by simpa using hm)
     . rename_i he;have hs := vQ he hk h1 hkk hd;split at hf
       . rename_i es'' hse;simp at hf; subst hf
         rcases ih (n + 1) (by simpa using hl) (fun i e me hi hm => hv (i + 1) e me (by simpa using hi) (by simpa using hm)) hse with ⟨j, me', a1, a2, a3, a4, a5⟩ | ⟨a1, a2⟩
         . refine .inl ⟨j + 1, me', ?_, by simpa using a2, a3, by simp [a4], fun i e m hi hm => ?_⟩
           . simp only [Instr.findNow, hs, a1]; congr 3; omega
           . cases i with
             | zero => simp at hi hm; subst hi hm; exact ⟨⟨h1, h2⟩, h3, h4⟩
             | succ i => simp at hi hm; exact a5 i e m hi hm
         . exact .inr ⟨by simp [Instr.findNow, hs, a1], by rw [a2]; rfl⟩
       . cases hf
     . cases hf
theorem Xk {k x : IVal} : ∀ {es es' : List (IVal × IVal)}, jbY k x es = some es' -> ∀ e ∈ es', (∃ e0 ∈ es, e = e0) \/ (e.1 = k /\ e.2 = x) := by
 intro es
 induction es with
 | nil => intro es' h; simp [jbY] at h; subst h; intro e he; simp at he; subst he; exact .inr ⟨rfl, rfl⟩
 | cons e es ih =>
   intro es' h;obtain ⟨k', v'⟩ := e;simp only [jbY] at h;split at h
   . simp at h; subst h;intro e he
     rcases List.mem_cons.1 he with rfl | he
     . exact .inr ⟨rfl, rfl⟩
     . exact .inl ⟨e, by simp [he], rfl⟩
   . split at h
     . rename_i es'' hse;simp at h; subst h;intro e he
       rcases List.mem_cons.1 he with rfl | he
       . exact .inl ⟨_, by simp, rfl⟩
       . rcases ih hse e he with ⟨e0, h0, rfl⟩ | h0
         . exact .inl ⟨e, by simp [h0], rfl⟩
         . exact .inr h0
     . cases h
   . cases h
theorem Kw {b : Nat} {mes mes' : Array MapEntry} {clock clock' : Nat} (h : w.heap[b]? = some (.map mes clock)) : (setObj b (.map mes' clock')).run P w = .ok () { w with heap := w.heap.setIfInBounds b (.map mes' clock') } := by simp [setObj, Sem.run, h]
theorem Kx {kk : Nat} {x y z : Opd} {rx ry rz : Operand} {T K E : TypeId} {d : TypeDesc} (hop : o.op = .mapUpdate T rx ry rz \/ o.op = .insert T rx ry rz) (hx : jL x rx = true) (hy : jL y ry = true) (hz : jL z rz = true) (hT : P.underlying T = some (.map K E)) (hK : P.underlying K = some d)
   (hd : Q3 kk d = true) (hs : ja cf (.mapSet kk x y z) s = some res) (hl : WT s.ts a.tmps) (hR : R g O (s.ts.roots a.tmps) s.σ w) : SimV P o a g O w s res := by
 simp only [ja] at hs;split at hs
 . rename_i id ts h;split at hs
   . rename_i k ts' h';split at hs
     . rename_i v ts'' h'';split at hs
       . rename_i es hes;split at hs
         . rename_i hcond;simp only [zA] at hcond;obtain ⟨hkk, hnt⟩ := hcond;split at hs
           . rename_i es' hse;simp only [zO] at hs;subst hs;obtain ⟨h1, h2⟩ := jI (l := []) hx h hl hR;obtain ⟨h3, h4⟩ := jI (l := [(.map id, a.eval rx)]) hy h' h2 h1;obtain ⟨h5, h6⟩ := jI (l := [(k, a.eval ry), (.map id, a.eval rx)]) hz h'' h4 h3;have hkV := h5.drop.head;have hvV := h5.head;obtain ⟨b, hb, hι⟩ := h5.drop.drop.head.map_inv;obtain ⟨mes, clock, m1, m2, m3, m4⟩ := h5.objs id b _ hι hes;have hfv := qd hnt;have hbO : b ∈ O := h5.sub b (rW _ (kB hι hes (by simp [kR])));have hroot : R g O ((jl, undef) :: ts''.roots a.tmps) s.σ w := h5.drop.drop.drop.push (kJ g) rfl;have hkeep : ∀ es', (∀ e ∈ es', (∃ e0 ∈ es, e = e0) \/ (e.1 = k /\ e.2 = un2 v)) -> Keep s.σ (s.σ.set id (.map es')) [(id, !(nr2 v))] := by
               intro es' hes';refine Keep.set fun m hid hm ho e he => ?_
               rcases hes' e he with ⟨e0, he0, rfl⟩ | ⟨e1, e2⟩
               . exact ho _ hes e he0
               . rw [e1, e2];refine ⟨hkV.norl m (by unfold Jf at hkk; split at hkk <;> first | rfl | cases hkk), ?_⟩
                 by_cases hnr : nr2 v = true
                 . exact (hvV.norl m (qa hnr)).un2
                 . exact absurd (hm (by simpa using hnr)) (by omega)
             have hset : ∀ (mes' : Array MapEntry) (clock' : Nat) (es' : List (IVal × IVal)), mes'.size = es'.length -> (∀ (i : Nat) e me, es'[i]? = some e -> mes'[i]? = some me -> (V g e.1 me.key /\ V g e.2 me.val) /\ vl e.1 /\ vl e.2) -> StampB mes' clock' ->
                 (execOp a.eval o).run P w = .ok .skip { w with heap := w.heap.setIfInBounds b (.map mes' clock') } -> (∀ e ∈ es', (∃ e0 ∈ es, e = e0) \/ (e.1 = k /\ e.2 = un2 v)) ->
                 SimV P o a g O w s ⟨false, jl, { ts := ts'', σ := s.σ.set id (.map es'), wr := (id, !(nr2 v)) :: s.wr }⟩ := by
               intro mes' clock' es' hsz hvals hstb hrun hes';have hbl : b < w.heap.size := h5.lt b hbO;have hnew : ({ w with heap := w.heap.setIfInBounds b (.map mes' clock') } : World).heap[b]? = some (.map mes' clock') := by simp [hbl]
               have hother : ∀ k, k ≠ b -> ({ w with heap := w.heap.setIfInBounds b (.map mes' clock') } : World).heap[k]? = w.heap[k]? := by
                 intro k hk; simp only; rw [Array.getElem?_setIfInBounds_ne (Ne.symm hk)]
               have hR' := hroot.upd (y := jl) (u := undef) (id := id) (b := b) (ob := .map es) (ob' := .map es') (w' := { w with heap := w.heap.setIfInBounds b (.map mes' clock') }) (kJ g) hι hes (by simp) hother (by simp) (fun c el fz hc => by rw [m1] at hc; cases hc)
                 ⟨mes', clock', hnew, hsz, hvals, hstb⟩ (by simp only [kR]; exact SubP.refl _)
               exact ⟨rfl, undef, _, _, hrun, rfl, g, O, [(id, !(nr2 v))], Grow.of_setRow g w hbO _ hother (by simp) rfl rfl rfl, hR', h6, rfl, hkeep es' hes'⟩
             have hop' : ∀ mes' clock', (Instr.mapUpdate T (.map (some b)) (a.eval ry) (a.eval rz)).run P w = .ok () { w with heap := w.heap.setIfInBounds b (.map mes' clock') } -> (execOp a.eval o).run P w = .ok .skip { w with heap := w.heap.setIfInBounds b (.map mes' clock') } := by
               intro mes' clock' hrun
               rcases hop with hop | hop <;> simp [execOp, hop, hb, hrun]
             rcases Zz (d := d) hkV hvV.un2 hkk hd hfv (mes := mes.toList) 0 (by simpa using m2.symm) (fun i e me he hm => m3 i e me he (by simpa using hm)) hse with ⟨j, me, a1, a2, a3, a4, a5⟩ | ⟨a1, a2⟩
             . refine hset (mes.modify j fun e => { e with key := a.eval ry, val := a.eval rz }) clock es' (by simp [a4, m2]) (fun i e m he hm => a5 i e m he ?_) (m4.modify _ _ _) (hop' _ _ ?_) ?_
               . have h0 : (mes.modify j fun e => { e with key := a.eval ry, val := a.eval rz }).toList[i]? = some m := by rw [Array.getElem?_toList]; exact hm
                 rwa [Array.toList_modify] at h0
               . have hj : mes[j]? = some me := by simpa using a2
                 simp [Instr.mapUpdate, jM hT, vJ m1, qW hK hkV hkk hd, Instr.findKey, jM hK, a1, hj, Instr.keyThatStays, a3, Kw m1]
               . exact Xk hse
             . subst a2;refine hset (mes.push { key := a.eval ry, val := a.eval rz, born := clock }) (clock + 1) _ (by simp [m2]) (fun i e m he hm => ?_) (m4.push _ _) (hop' _ _ ?_) (Xk hse)
               . rcases vS he with he' | ⟨he', rfl⟩
                 . have hi := jk he';rw [Array.getElem?_push_lt (by omega)] at hm;exact m3 i e m he' (by rw [<- hm]; simp)
                 . rw [he', <- m2] at hm;simp at hm; subst hm;have hfk : vl k := by unfold Jf at hkk; split at hkk <;> first | exact ⟨rfl, rfl⟩ | cases hkk
                   exact ⟨⟨hkV, hvV.un2⟩, hfk, hfv⟩
               . simp [Instr.mapUpdate, jM hT, vJ m1, qW hK hkV hkk hd, Instr.findKey, jM hK, a1, Kw m1]
           . cases hs
         . cases hs
       . cases hs
     . cases hs
   . cases hs
 . cases hs
end Go.Idl
namespace Go.Idl
variable [Globs]
variable {P : Program} {o : Oper} {a : Act} {g : Gh} {O : List Nat} {w : World} {s : St} {res : Res} {cf : kt}
theorem kC {us : List Value} {esz : Nat} (hu : ∀ u ∈ us, u.cells.size = esz) : (jJ us).length = us.length * esz := by
 induction us with
 | nil => simp [jJ]
 | cons u us ih =>
   have := ih (fun v hv => hu v (by simp [hv]))
   simp only [jJ, rO, rF] at this ⊢
   rw [this]
   have := hu u (by simp)
   simp [this, tH]; omega
theorem jao {size : Nat} : ∀ (us : List Value) (k : Nat) (pre zeros : List Value), (∀ u ∈ us, u.cells.size = size) -> pre.length = k * size -> zeros.length = us.length * size ->
   Instr.fill (fun i => some (i * size, size)) (pre ++ zeros).toArray ((us.zipIdx k).map fun p => (p.2, p.1)) = some (pre ++ jJ us).toArray := by
 intro us
 induction us with
 | nil => intro k pre zeros _ _ hz; simp at hz; subst hz; simp [Instr.fill, jJ]
 | cons u us ih =>
   intro k pre zeros hu hp hz
   have hus := hu u (by simp)
   simp only [List.zipIdx_cons, rR, Instr.fill]
   have hlen : (us.length + 1) * size = size + us.length * size := by rw [tH]; omega
   simp only [tB, hlen] at hz
   rw [if_neg (by simp [hp, hz, hus])]
   have hto := Qn (v := u) (off := k * size) (c := (pre ++ zeros).toArray) (by simp [hp, hz, hus])
   have e : (u.cells.zipIdx.foldl (fun cs (p : Value × Nat) => cs.setIfInBounds (k * size + p.2) p.1) (pre ++ zeros).toArray) = ((pre ++ u.cells.toList) ++ zeros.drop size).toArray := by
     apply Array.toList_inj.1
     rw [hto]
     have e1 : (pre ++ zeros).take (k * size) = pre := by rw [<- hp]; exact List.take_left' rfl
     have e2 : (pre ++ zeros).drop (k * size + u.cells.toList.length) = zeros.drop size := by
       rw [List.drop_append, List.drop_eq_nil_of_le (by simp [hp])]
       simp [hp, hus]
     simp only [e1, e2]
   rw [e, ih (k + 1) (pre ++ u.cells.toList) (zeros.drop size) (fun v hv => hu v (by simp [hv])) (by simp [hp, hus, tH]) (by simp; omega)]
   simp [jJ]
theorem yC {us : List Value} (h : ∀ u ∈ us, u.cells = #[u]) : jJ us = us := by
 induction us with
 | nil => rfl
 | cons u us ih =>
   have := ih fun v hv => h v (by simp [hv])
   simp only [jJ, rO] at this ⊢
   rw [this, h u (by simp)]; rfl
theorem Zu (rs : List Operand) (f : Operand -> Value) : (rs.zipIdx.map fun p => (p.2, f p.1)) = ((rs.map f).zipIdx.map fun p => (p.2, p.1)) := by
 rw [List.zipIdx_map, List.map_map]; rfl
theorem Js {T E : TypeId} {n : Nat} {rs : List Operand} {rparts : Array (Nat × Operand)} {i : TypeInfo} {z : Value} {vs : List IVal} {ts : Ts} (hop : o.op = .buildSlice T n rparts) (hn : n = rs.length) (hp : rparts.toList = rs.zipIdx.map fun p => (p.2, p.1))
   (hT : P.underlying T = some (.slice E)) (hi : P.info? E = some i) (hz : i.zero = some z) (hzs : z.cells.size = i.size) (h0 : 0 < i.size)
   (hc2 : vs.all (fun v => v.cells.length == i.size) = true) (hc4 : vs.length * i.size <= 16777216)
   (h3 : vs.length = rs.length) (h1 : R g O ([] ++ vs.zip (rs.map a.eval) ++ ts.roots a.tmps) s.σ w) :
   vs.length = rs.length /\ (∀ u ∈ rs.map a.eval, u.cells.size = i.size) /\ (execOp a.eval o).run P w = .ok (.value (.slice (some ⟨w.heap.size, 0, none⟩) n n)) (w.alloc (.cells (jJ (rs.map a.eval)).toArray E)) := by
 have hlen : vs.length = rs.length := by simpa using h3
 have hsz : ∀ u ∈ rs.map a.eval, u.cells.size = i.size := by
   intro u hu
   obtain ⟨j, hj⟩ := kc hu
   obtain ⟨v, hv⟩ := ku (l := rs.map a.eval) (m := vs) (by simp [hlen]) hj
   have hV := Jj h1 hv hj
   have := List.all_eq_true.1 hc2 v (zM hv)
   rw [<- hV.cells.1]; simpa using this
 have hrun : (execOp a.eval o).run P w = .ok (.value (.slice (some ⟨w.heap.size, 0, none⟩) n n)) (w.alloc (.cells (jJ (rs.map a.eval)).toArray E)) := by
   have hparts : (rparts.map fun (i, x) => (i, a.eval x)).toList = (((rs.map a.eval).zipIdx).map fun p => (p.2, p.1)) := by
     rw [Array.toList_map, hp, List.map_map, <- Zu]; rfl
   have hzl : ((Array.range (n * i.size)).map (fun k => z.cells[k % z.cells.size]!)).toList.length = (rs.map a.eval).length * i.size := by simp [hn]
   have hfill := jao (size := i.size) (rs.map a.eval) 0 [] ((Array.range (n * i.size)).map (fun k => z.cells[k % z.cells.size]!)).toList hsz (by simp) hzl
   simp only [tJ, Array.toArray_toList] at hfill
   have hle : ¬ (n * i.size > 2 ^ 24) := by rw [hn, <- hlen]; omega
   simp only [execOp, hop, Instr.buildSlice, Sem.run_bind, jM hT, Result.andThen_ok, kw hi]
   rw [if_neg hle]
   by_cases hn0 : n * i.size = 0
   . have hrs : rs = [] := by
       have : rs.length = 0 := by
         rcases Nat.mul_eq_zero.1 hn0 with h | h
         . omega
         . omega
       exact List.length_eq_zero_iff.1 this
     subst hrs
     simp at hn
     subst hn
     have hpe : rparts = #[] := Array.toList_inj.1 (by rw [hp]; rfl)
     subst hpe
     have h00 : Array.map (fun x : Nat => (default : Value)) (Array.range 0) = #[] := Array.eq_empty_of_size_eq_zero (by simp)
     simp [Instr.fill, newRow, jJ, h00]
   . simp only [hn0, if_false, Sem.run_bind, zeroValue, typeInfo, Result.andThen_ok, Sem.run_pure]
     simp only [hi, hz, run_program, Result.andThen_ok, Sem.run_pure, Sem.run_bind]
     rw [hparts, hfill]
     simp [newRow]
 exact ⟨hlen, hsz, hrun⟩
theorem VP {xs : List Opd} {T E : TypeId} {n : Nat} {rs : List Operand} {rparts : Array (Nat × Operand)} {i : TypeInfo} {z : Value} (hop : o.op = .buildSlice T n rparts) (hn : n = rs.length) (hp : rparts.toList = rs.zipIdx.map fun p => (p.2, p.1)) (hx : ka xs rs = true)
   (hT : P.underlying T = some (.slice E)) (hi : P.info? E = some i) (hz : i.zero = some z) (hzs : z.cells.size = i.size) (h0 : 0 < i.size)
   (hs : ja cf (.buildSl i.size xs) s = some res) (hl : WT s.ts a.tmps) (hR : R g O (s.ts.roots a.tmps) s.σ w) : SimV P o a g O w s res := by
 simp only [ja] at hs
 split at hs
 . rename_i vs ts h
   split at hs
   . rename_i hcond
     obtain ⟨hc1, hc2, hc3, hc4⟩ := hcond
     simp only [rv, zO] at hs
     subst hs
     obtain ⟨h1, h2, h3⟩ := kD (l := []) hx h hl hR
     obtain ⟨hlen, hsz, hrun⟩ := Js hop hn hp hT hi hz hzs h0 hc2 hc4 (by simpa using h3) h1
     obtain ⟨g', O', hR', hg, hι⟩ := (R.drops h1).newSlice (xs := vs.map un2) (vs := rs.map a.eval) (esz := i.size) (cap := n) (own := i.size) (rf := ext vs) (c := (jJ (rs.map a.eval)).toArray) (el := E) (fz := (0, 0)) (by simp [hlen]) (fun j x u hx hu => by
         simp only [rJ, rT] at hx
         obtain ⟨x', hx', rfl⟩ := hx
         exact (Jj h1 hx' hu).un2) (fun x hx => by
         simp only [tO] at hx
         obtain ⟨x', hx', rfl⟩ := hx
         exact qd (List.all_eq_true.1 hc3 x' hx')) (fun hrf x hx => by
         simp only [tO] at hx
         obtain ⟨x', hx', rfl⟩ := hx
         simp only [ext, Bool.not_eq_false', rD] at hrf
         have := hrf x' hx'
         cases x' <;> simp_all [nr2, un2, un1, nr1, nr0]
         rename_i cs
         intro c hc
         have := this c hc
         cases c <;> simp_all [nr1, nr0, un1]) hsz (fun k v hk => by simpa using hk) (by simp [hlen, hn]) (by
         have := kC hsz
         simp only [List.size_toArray]; rw [this]; simp [hn]) (.inr rfl) (by simp) (by rw [kC hsz]; simp [hlen]) (fun _ he => by
         have h9 : vs.length = 0 := by rw [List.map_eq_nil_iff.1 he]; rfl
         omega) (fun he => by rw [List.map_eq_nil_iff.1 he]; rfl)
     simp only [List.length_map] at hR'
     have e : n = vs.length := by omega
     rw [<- e] at hR'
     exact ⟨rfl, _, _, _, hrun, rfl, g', O', [], hg, hR', h2, rfl, Keep.refl _⟩
   . cases hs
 . cases hs
theorem YJ {x : IVal} {v : Value} (hV : V g x v) (hx : nt x = true) : ∀ c ∈ (un2 x).cells, un1 c = c /\ c.isCell = true := yD hV.un2 (qd hx)
theorem VO {xs : List Opd} {T E : TypeId} {n : Nat} {rs : List Operand} {rparts : Array (Nat × Operand)} {i : TypeInfo} {z : Value} (hop : o.op = .buildSlice T n rparts) (hn : n = rs.length) (hp : rparts.toList = rs.zipIdx.map fun p => (p.2, p.1)) (hx : ka xs rs = true)
   (hT : P.underlying T = some (.slice E)) (hi : P.info? E = some i) (hz : i.zero = some z) (hzs : z.cells.size = i.size) (h0 : 0 < i.size)
   (hs : ja cf (.buildRs i.size xs) s = some res) (hl : WT s.ts a.tmps) (hR : R g O (s.ts.roots a.tmps) s.σ w) : SimV P o a g O w s res := by
 simp only [ja] at hs
 split at hs
 . rename_i vs ts h
   split at hs
   . rename_i hcond
     obtain ⟨hc1, hc2, hc3, hc4⟩ := hcond
     simp only [zO] at hs
     subst hs
     obtain ⟨h1, h2, h3⟩ := kD (l := []) hx h hl hR
     obtain ⟨hlen, hsz, hrun⟩ := Js hop hn hp hT hi hz hzs h0 hc2 hc4 (by simpa using h3) h1
     have hlV := kC hsz
     have hcl : ∀ (l : List IVal), (∀ v ∈ l, v.cells.length = i.size) -> (l.flatMap fun v => (un2 v).cells).length = l.length * i.size := by
       intro l
       induction l with
       | nil => intro _; simp
       | cons v l ih =>
         intro hv
         have e1 : (un2 v).cells.length = v.cells.length := by cases v <;> simp [un2, un1, IVal.cells]
         simp only [rO, rF, tB, ih (fun u hu => hv u (by simp [hu])), e1, hv v (by simp), tH]
         omega
     have hvl : ∀ v ∈ vs, v.cells.length = i.size := fun v hv => by simpa using List.all_eq_true.1 hc2 v hv
     have hcells : ∀ (j : Nat) x v, (vs.flatMap fun v => (un2 v).cells)[j]? = some x -> (jJ (rs.map a.eval))[j]? = some v -> V g x v /\ qb x v = [] /\ x.isCell = true := by
       intro j x v hxj hvj
       have hj := jk hxj
       rw [hcl vs hvl] at hj
       have hk : j / i.size < vs.length := by rw [Nat.div_lt_iff_lt_mul h0]; exact hj
       have hm : j % i.size < i.size := Nat.mod_lt _ h0
       have hje : j = j / i.size * i.size + j % i.size := by have := Nat.div_add_mod j i.size; rw [Nat.mul_comm] at this; omega
       obtain ⟨y, hy⟩ : ∃ y, vs[j / i.size]? = some y := ⟨_, rG hk⟩
       obtain ⟨u, hu⟩ := ku (l := vs) (m := rs.map a.eval) (by simp [hlen]) hy
       have hV := Jj h1 hy hu
       have hxy : (un2 y).cells[j % i.size]? = some x := by
         have key : ∀ (l : List IVal) (k m : Nat) (y : IVal), (∀ v ∈ l, v.cells.length = i.size) -> l[k]? = some y -> m < i.size -> (l.flatMap fun v => (un2 v).cells)[k * i.size + m]? = (un2 y).cells[m]? := by
           intro l
           induction l with
           | nil => intro k m y _ h; simp at h
           | cons v l ih =>
             intro k m y hv hk hm
             have e1 : (un2 v).cells.length = i.size := by
               have e0 : (un2 v).cells.length = v.cells.length := by cases v <;> simp [un2, un1, IVal.cells]
               rw [e0]; exact hv v (by simp)
             cases k with
             | zero =>
               simp at hk; subst hk
               simp only [rO, Nat.zero_mul, tS]
               rw [zL (by omega)]
             | succ k =>
               simp at hk
               simp only [rO]
               rw [zR (by rw [e1, tH]; omega), e1]
               have : (k + 1) * i.size + m - i.size = k * i.size + m := by rw [tH]; omega
               rw [this]
               exact ih k m y (fun u hu => hv u (by simp [hu])) hk hm
         rw [hje] at hxj
         rw [key vs (j / i.size) (j % i.size) y hvl hy hm] at hxj
         exact hxj
       have hvu : u.cells.toList[j % i.size]? = some v := by
         cases hcu : u.cells.toList[j % i.size]? with
         | none =>
           have h5 := List.getElem?_eq_none_iff.1 hcu
           have h6 := hsz u (zM hu)
           simp at h5; omega
         | some v' =>
           have := Ql hsz hu (by simpa using hcu)
           rw [<- hje, hvj] at this
           exact this.symm
       obtain ⟨q1, q2⟩ := YJ hV (List.all_eq_true.1 hc3 y (zM hy)) x (zM hxy)
       exact ⟨hV.un2.cells.2 _ x v hxy (by simpa using hvu), kP q1 v, q2⟩
     have hroot : R g O (ts.roots a.tmps) s.σ w := R.drops h1
     have hι : ∀ (id b : Nat), g.ι[id]? = some (Blk.bk b) -> (g.fresh w.heap.size).ι[id]? = some (Blk.bk b) := fun (id b : Nat) hb => by simp only [Gh.fresh]; rw [zL (jk hb)]; exact hb
     have hnew := (hroot.push (kJ g) rfl).new (obr := .cells (jJ (rs.map a.eval)).toArray E) (ob := .cells (vs.flatMap fun v => (un2 v).cells)) (fun _ =>
       ⟨_, E, (0, 0), jW w _, .inl rfl, by simp only [List.size_toArray]; rw [hlV, hcl vs hvl]; simp [hlen], fun j x v hxj hvj => by
         have h6 := hcells j x v hxj (by simpa using hvj)
         refine ⟨h6.1.mono hι (fun _ _ _ h => h) (fun b hb => ?_), h6.2.2⟩
         rw [kQ h6.2.2, h6.2.1] at hb; cases hb⟩) ⟨[], by
       simp only [kR, kq]
       rw [flatten_nil]
       intro cc hcm
       obtain ⟨j, x, y, q1, q2, rfl⟩ := kh hcm
       exact (hcells j x y q1 (by simpa using q2)).2.1, by simp⟩
     have e : n = vs.length := by omega
     rw [e] at hrun
     have hnew2 := hnew.setZ (z := vs.length * i.size) (jW w _) (by simp only [List.size_toArray]; rw [kC hsz]; simp [hlen])
     refine ⟨rfl, _, _, _, hrun, rfl, _, w.heap.size :: O, [], (kK hR _).trans (Grow.setZ _ _ _ _ _), hnew2.push (.rs i.size s.σ.length 0 vs.length vs.length w.heap.size ?_ (rP _) (by rw [tS]; exact yu _ _ _)) rfl, h2, rfl, Keep.snoc _ _⟩
     simp [Gh.fresh, Gh.setZ, <- hR.len]
   . cases hs
 . cases hs
def qO (esz n : Nat) (c : List Value) : List Value := (List.range n).map fun i => .agg ((c.drop (i * esz)).take esz).toArray
theorem Qj (esz : Nat) : ∀ (n : Nat) (c : List Value), n * esz <= c.length -> jJ (qO esz n c) = c.take (n * esz) := by
 intro n
 induction n with
 | zero => intro c _; simp [qO, jJ]
 | succ n ih =>
   intro c h
   rw [Nat.succ_mul] at h
   have e : qO esz (n + 1) c = qO esz n c ++ [.agg ((c.drop (n * esz)).take esz).toArray] := by
     simp [qO, List.range_succ]
   have e2 : jJ (qO esz (n + 1) c) = jJ (qO esz n c) ++ (c.drop (n * esz)).take esz := by
     rw [e]; simp [jJ, Value.cells]
   rw [e2, ih c (by omega), Nat.succ_mul, List.take_add]
theorem vP {isS : Bool} {esz : Nat} {y : IVal} {ys : List IVal} {xv : Value} {l : ke} {σ : List IObj} (hR : R g O l σ w) (hV : V g y xv) (h : jh isS esz y σ = some ys) :
   ∃ us : List Value, ys.length = us.length /\ (∀ (i : Nat) x u, ys[i]? = some x -> us[i]? = some u -> V g x u) /\ (∀ x ∈ ys, nt x = true) /\ (∀ u ∈ us, u.cells.size = esz) /\ (Builtin.lenOf xv).run P w = .ok ys.length w /\
     ∀ W : World, W.heap = w.heap -> (Builtin.firstCells esz ys.length xv).run P W = .ok (jJ us).toArray W := by
 unfold jh at h
 split at h
 . rename_i b
   split at h
   . rename_i he
     subst he
     simp only [zO] at h; subst h
     obtain ⟨t, rfl, rfl⟩ := hV.str_inv
     refine ⟨t.data.toList.map fun b => .int .u8 b.toNat, by simp, fun i x u hx hu => ?_, by simp [nt], by simp [Value.cells], by simp [Builtin.lenOf], fun W _ => ?_⟩
     . simp only [rJ, rT] at hx hu
       obtain ⟨c, hc, rfl⟩ := hx
       obtain ⟨c', hc', rfl⟩ := hu
       rw [hc] at hc'; cases hc'
       exact .int _ _
     . simp only [Builtin.firstCells, Sem.run_pure]
       congr 1
       have e1 : (t.extract 0 (t.data.toList.map fun c => IVal.int .u8 c.toNat).length) = t := by
         apply ByteArray.ext; simp
       rw [e1]
       apply Array.toList_inj.1
       show _ = jJ _
       rw [yC (by simp [Value.cells])]
       simp
   . cases h
 . rename_i own rf xs
   split at h
   . rename_i hall
     simp only [zO] at h; subst h
     cases hV with
     | nil => exact ⟨[], rfl, by simp, by simp, by simp, by simp [Builtin.lenOf], fun W _ => by simp [Builtin.firstCells, jJ]⟩
     | sl _ _ _ vs ad cap esz' hs hc hl hv hf hr hz hm ho =>
       have hz' : ∀ v ∈ vs, v.cells.size = esz := by
         intro v hv'
         obtain ⟨j, hj⟩ := kc hv'
         obtain ⟨x, hx⟩ := ku hl.symm hj
         rw [<- (hv j x v hx hj).cells.1]
         simpa using List.all_eq_true.1 hall x (zM hx)
       refine ⟨vs, hl, hv, fun x hx => (hf x hx).2, hz', by simp [Builtin.lenOf], fun W hW => ?_⟩
       refine run_firstCells_some (P := P) W esz xs.length ad xs.length cap (jJ vs) (by rw [kC hz', hl]) (fun j v hj => ?_)
       have hpos : 0 < cap := by
         have h0 := jk hj
         rw [kC hz', <- hl] at h0
         rcases Nat.eq_zero_or_pos xs.length with h1 | h1
         . simp [h1] at h0
         . omega
       have had : ad = ⟨ad.block, ad.off, none⟩ := by have := hs hpos; cases ad; simp at this; simp [this]
       rw [had, kA]
       have := hR.claim _ _ _ (hm j v hj)
       simpa [World.cell?, hW] using this
   . cases h
 . rename_i e id off len
   split at h
   . rename_i he
     obtain ⟨rfl, rfl⟩ := he
     split at h
     . rename_i cs hcs
       split at h
       . rename_i hlen
         simp only [zO] at h; subst h
         obtain ⟨b, cap, rfl, hι, hcap⟩ := hV.rs_inv
         have hσ := j9 hcs
         obtain ⟨c, el, fz, hh, hnf, hsz, hc⟩ := hR.objs id b _ hι hσ
         have hll : ((cs.drop off).take len).length = len := by simp; omega
         have hz' : ∀ u ∈ (c.toList.drop off).take len, u.cells.size = 1 := by
           intro u hu
           obtain ⟨j, hj⟩ := kc hu
           have hjl : j < len := by have := jk hj; simp at this; omega
           have hj' : c[off + j]? = some u := by rw [tD, if_pos hjl, tA] at hj; simpa using hj
           obtain ⟨x, hx⟩ : ∃ x, cs[off + j]? = some x := ⟨cs[off + j]'(by omega), by simp⟩
           have := hc (off + j) x u hx hj'
           have hcu : ql u = true := by rw [<- this.1.isCell]; exact this.2
           cases u <;> simp_all [Value.cells, ql]
         refine ⟨(c.toList.drop off).take len, by simp; omega, fun j x u hx hu => ?_, fun x hx => ?_, hz', by simp [Builtin.lenOf]; omega, fun W hW => ?_⟩
         . simp only [tD, tA] at hx hu
           split at hx
           . rename_i hj
             rw [if_pos hj] at hu
             exact (hc _ x u hx (by simpa using hu)).1
           . cases hx
         . have hx' := tF (r9 hx)
           obtain ⟨j, hj⟩ := kc hx'
           obtain ⟨u, hu⟩ := yj hsz hj
           have := (hc j x u hj hu).2
           cases x <;> simp_all [nt, IVal.isCell]
         . rw [hll]
           refine run_firstCells_some (P := P) W 1 len ⟨b, off, none⟩ len cap _ (by rw [kC hz']; simp; omega) (fun j v hj => ?_)
           have hfe : jJ ((c.toList.drop off).take len) = (c.toList.drop off).take len := yC fun u hu => by
             obtain ⟨j, hj⟩ := kc hu
             have hjl : j < len := by have := jk hj; simp at this; omega
             have hj' : c[off + j]? = some u := by rw [tD, if_pos hjl, tA] at hj; simpa using hj
             obtain ⟨x, hx⟩ : ∃ x, cs[off + j]? = some x := ⟨cs[off + j]'(by omega), by simp⟩
             have := hc (off + j) x u hx hj'
             have hcu : ql u = true := by rw [<- this.1.isCell]; exact this.2
             cases u <;> simp_all [Value.cells, ql]
           rw [hfe, tD] at hj
           split at hj
           . rw [kA]
             simp only [World.cell?, hW, hh]
             rw [tA] at hj
             simpa using hj
           . cases hj
       . cases h
     . cases h
   . split at h
     . rename_i he
       obtain ⟨rfl, he1⟩ := he
       split at h
       . rename_i cs hcs
         split at h
         . rename_i hlen
           simp only [zO] at h; subst h
           obtain ⟨b, cap, rfl, hι, hcap⟩ := hV.rs_inv
           have hσ := j9 hcs
           obtain ⟨c, el, fz, hh, hnf, hsz, hc⟩ := hR.objs id b _ hι hσ
           have hcl : (c.toList.drop off).length = c.size - off := by simp
           have hle : len * e <= (c.toList.drop off).length := by rw [hcl]; omega
           have hch : (zJ e len (cs.drop off)).length = len := by simp [zJ]
           have hb : ∀ i, i < len -> i * e + e <= len * e := fun i hi => by
             have := tV e (show i + 1 <= len from hi)
             rw [Nat.succ_mul] at this; exact this
           have hz' : ∀ u ∈ qO e len (c.toList.drop off), u.cells.size = e := by
             intro u hu
             obtain ⟨i, hi, rfl⟩ := List.mem_map.1 hu
             have h1 := hb i (List.mem_range.1 hi)
             simp only [Value.cells, List.size_toArray, tE, List.length_drop]
             simp only [List.length_drop] at hle
             omega
           refine ⟨qO e len (c.toList.drop off), by simp [zJ, qO], fun j x u hx hu => ?_, fun x hx => ?_, hz', by simp [Builtin.lenOf, zJ], fun W hW => ?_⟩
           . simp only [zJ, qO, rJ, rT] at hx hu
             obtain ⟨i, h1, rfl⟩ := hx
             obtain ⟨i2, h2, rfl⟩ := hu
             rw [h1] at h2; cases h2
             have hi : i < len := List.mem_range.1 (zM h1)
             have hbi := hb i hi
             refine .agg _ _ ?_ (fun k y v hy hv => ?_) (fun y hy => ?_)
             . simp only [List.size_toArray, tE, List.length_drop]
               simp only [List.length_drop] at hle
               omega
             . rw [tD, tA, tA] at hy
               have hv : ((c.toList.drop off).drop (i * e)).take e = ((c.toList.drop off).drop (i * e)).take e -> (((c.toList.drop off).drop (i * e)).take e)[k]? = some v := fun _ => by simpa using hv
               have hv := hv rfl
               rw [tD, tA, tA] at hv
               split at hy
               . rename_i hk
                 rw [if_pos hk] at hv
                 exact (hc _ y v hy (by simpa using hv)).1
               . cases hy
             . have hy' := tF (tF (r9 hy))
               obtain ⟨j, hj⟩ := kc hy'
               obtain ⟨u, hu⟩ := yj hsz hj
               exact (hc j y u hj hu).2
           . obtain ⟨i, _, rfl⟩ := List.mem_map.1 hx; rfl
           . rw [hch]
             refine run_firstCells_some (P := P) W e len ⟨b, off, none⟩ len cap _ (by rw [kC hz']; simp [qO]) (fun j v hj => ?_)
             rw [Qj e len _ hle, tD] at hj
             split at hj
             . rw [kA]
               simp only [World.cell?, hW, hh]
               rw [tA] at hj
               simpa using hj
             . cases hj
         . cases h
       . cases h
     . cases h
 . cases h
theorem jcY (x : IVal) : nr2 (un2 x) = nr2 x := by
 cases x with
 | agg cs =>
   simp only [un2, nr2, List.all_map]
   congr 1
   funext c
   cases c <;> rfl
 | _ => rfl
theorem kT {T U ty E : TypeId} {du : TypeDesc} {i : TypeInfo} {base : Option Addr} {sLen sCap n : Nat} {xv : Value} {news : List Value} {w' : World} (hT : P.underlying T = some (.slice E)) (hU : P.underlying U = some du) (hdu : ∀ k, du ≠ .int k) (hi : P.info? E = some i)
   (hlen : (Builtin.lenOf xv).run P w = .ok n w) (hsrc : (Builtin.firstCells i.size n xv).run P w = .ok news.toArray w) (hroom : sLen + n <= sCap)
   (hst : match base with | some a => (storeCells (a.add (sLen * i.size)) news).run P w = .ok () w' | none => w' = w) :
   (Builtin.append_ #[T, U] ty #[.slice base sLen sCap, xv]).run P w = .ok (.slice base (sLen + n) sCap) w' := by
 have hz : (du matches .int _) = false := by
   cases du <;> simp at hdu ⊢
 cases base with
 | none => subst hst; simp [Builtin.append_, jM hT, jM hU, kw hi, hz, hlen, hsrc, hroom]
 | some a => simp [Builtin.append_, jM hT, jM hU, kw hi, hz, hlen, hsrc, hroom, hst]
theorem k8 {T U ty E : TypeId} {du : TypeDesc} {i : TypeInfo} {z : Value} {base : Option Addr} {sLen sCap n : Nat} {xv : Value} {olds news : List Value} (hT : P.underlying T = some (.slice E)) (hU : P.underlying U = some du) (hdu : ∀ k, du ≠ .int k) (hi : P.info? E = some i) (hz : i.zero = some z)
   (hlen : (Builtin.lenOf xv).run P w = .ok n w) (hsrc : ∀ W : World, W.heap = w.heap -> (Builtin.firstCells i.size n xv).run P W = .ok news.toArray W) (hold : ∀ W : World, W.heap = w.heap -> (Builtin.firstCells i.size sLen (.slice base sLen sCap)).run P W = .ok olds.toArray W)
   (hg : sCap < sLen + n) (h63 : ((sLen + n : Nat) : Int) <= 9223372036854775807) (hfit : Builtin.nextslicecap (sLen + n) sCap * i.bytes <= 281474976710656) :
   (Builtin.append_ #[T, U] ty #[.slice base sLen sCap, xv]).run P w = .ok (.slice (some ⟨w.heap.size, 0, none⟩) (sLen + n) (grownCap w (sLen + n) sCap E))
       (w.drew.alloc (.cells (olds.toArray ++ news.toArray ++ Builtin.zeroCells z.cells (grownCap w (sLen + n) sCap E - (sLen + n))) E)) := by
 have hzz : (du matches .int _) = false := by
   cases du <;> simp at hdu ⊢
 have hn : ¬ (sLen + n <= sCap) := by omega
 have h63' : ¬ (9223372036854775807 < ((sLen : Int) + (n : Int))) := by omega
 have h48' : ¬ (281474976710656 < Builtin.nextslicecap (sLen + n) sCap * i.bytes) := by omega
 have hf := hsrc w.drew rfl
 have hfo := hold w.drew rfl
 simp [Builtin.append_, jM hT, jM hU, sizeOf, typeInfo, zeroValue, hi, hz, hzz, hlen, hn, h63', h48', Question.forced, hf, hfo, newRow, grownCap]
 congr 2
 apply Array.ext'
 simp [zS]
theorem XX {isS : Bool} {x y : Opd} {rx ry : Operand} {c : Call} {T U E : TypeId} {du : TypeDesc} {i : TypeInfo} {z : Value} (hop : o.op = .call c) (hc : c.callee = .builtin .append) (ha : c.args = #[rx, ry]) (hta : c.argTypes = #[T, U]) (hx : jL x rx = true) (hy : jL y ry = true)
   (hT : P.underlying T = some (.slice E)) (hU : P.underlying U = some du) (hdu : ∀ k, du ≠ .int k) (hi : P.info? E = some i) (hz : i.zero = some z) (hzs : z.cells.size = i.size)
   (hs : ja cf (.append false isS i.size i.bytes x y) s = some res) (hl : WT s.ts a.tmps) (hR : R g O (s.ts.roots a.tmps) s.σ w) : SimV P o a g O w s res := by
 simp only [ja] at hs
 split at hs
 . rename_i base ts h
   split at hs
   . rename_i yv ts' h'
     split at hs
     . rename_i ys hys
       obtain ⟨h1, h2⟩ := jI (l := []) hx h hl hR
       obtain ⟨h3, h4⟩ := jI (l := [(base, a.eval rx)]) hy h' h2 h1
       obtain ⟨us, u1, u2, u3, u4, u5, u6⟩ := vP (P := P) h3 h3.head hys
       have hroot0 : R g O ((base, a.eval rx) :: ts'.roots a.tmps) s.σ w := h3.drop
       have hroot0 := hroot0.nilOwn i.size
       generalize nilOwn i.size base = b0 at hs hroot0
       split at hs
       . rename_i own rf xs
         split at hs
         . rename_i hcond
           obtain ⟨hown, h0, hb1, hb2⟩ := hcond
           subst hown
           simp only [r8, if_false, rv, zO] at hs
           subst hs
           have hroot : R g O ((.sl i.size rf xs, a.eval rx) :: ts'.roots a.tmps) s.σ w := hroot0
           have hexec : ∀ r w', (Builtin.append_ #[T, U] o.type #[a.eval rx, a.eval ry]).run P w = .ok r w' -> (execOp a.eval o).run P w = .ok (.value r) w' := by
             intro r w' hr
             simp [execOp, hop, resolve, hc, ha, hta, invoke, builtin, hr]
           have hpt : ∀ (j : Nat) y u, (ys.map un2)[j]? = some y -> us[j]? = some u -> V g y u := by
             intro j y u hy hu
             simp only [rJ, rT] at hy
             obtain ⟨y', hy', rfl⟩ := hy
             exact (u2 j y' u hy' hu).un2
           have hflat : ∀ y ∈ ys.map un2, vl y := by
             intro y hy
             simp only [tO] at hy
             obtain ⟨y', hy', rfl⟩ := hy
             exact qd (u3 y' hy')
           have hnr : (jX rf xs ys) = false -> (∀ x ∈ xs, rf = false) /\ ∀ y ∈ ys.map un2, nr2 y = true := by
             intro hh
             unfold jX at hh
             split at hh
             . rename_i he
               have he : ys = [] := List.isEmpty_iff.1 he
               subst he
               exact ⟨fun _ _ => hh, by simp⟩
             . simp only [Bool.or_eq_false_iff, Bool.and_eq_false_iff, Bool.not_eq_false', rD, List.isEmpty_iff] at hh
               refine ⟨fun x hx => ?_, fun y hy => ?_⟩
               . rcases hh.1 with h9 | h9
                 . rw [h9] at hx; cases hx
                 . exact h9
               . simp only [tO] at hy
                 obtain ⟨y', hy', rfl⟩ := hy
                 rw [jcY]; exact hh.2 y' hy'
           have hnil : xs ++ ys.map un2 = [] -> ys = [] := fun h9 => List.map_eq_nil_iff.1 (List.append_eq_nil_iff.1 h9).2
           have hV := hroot.head
           generalize hrx : a.eval rx = rxv at hV hroot
           have hlenx : ∃ ad cap, rxv = .slice ad xs.length cap /\ xs.length <= cap := by
             cases hV with
             | nil => exact ⟨none, 0, rfl, by simp⟩
             | sl _ _ _ vs ad cap _ _ hc => exact ⟨some ad, cap, rfl, hc⟩
           obtain ⟨ad, cap, rfl, hcap⟩ := hlenx
           by_cases hroom : xs.length + ys.length <= cap
           . by_cases hys0 : ys = []
             . subst hys0
               have hus : us = [] := List.length_eq_zero_iff.1 (by simpa using u1.symm)
               subst hus
               have hrun : (Builtin.append_ #[T, U] o.type #[.slice ad xs.length cap, a.eval ry]).run P w = .ok (.slice ad (xs.length + 0) cap) w := by
                 refine kT hT hU hdu hi u5 (u6 w rfl) hroom ?_
                 cases ad <;> simp [jJ, storeCells]
               refine SimV.same (hexec _ _ (by rw [hrx]; exact hrun)) ?_ h4
               simp only [List.map_nil, rM, Nat.add_zero, jX, List.isEmpty_nil, if_true]
               exact hroot
             . have hpos : 0 < ys.length := List.length_pos_iff.2 hys0
               cases ad with
               | none =>
                 cases hV with
                 | nil => simp at hroom; exact absurd hroom hys0
               | some ad =>
                 have hTb : g.T ad.block = some (ad.off + xs.length * i.size, ad.off + cap * i.size) /\ ad.spot = none := by
                   cases hV with
                   | sl _ _ _ vs _ _ esz' hsp hc' hl' hv' hf' hr' hz' hcl ho hn =>
                     obtain ⟨e1, _, e2⟩ := ho (by omega)
                     subst e1
                     exact ⟨e2 (by omega), hsp (by omega)⟩
                 have hbO : ad.block ∈ O := by
                   refine hroot.sub _ (rZ _ ?_)
                   simp only [ky, rR, List.flatten_cons, List.mem_append]
                   left
                   simp only [kl, yg, qb]
                   rw [if_neg (by omega)]; simp
                 obtain ⟨⟨cc, el, fz, q1, q2, q3⟩, q4⟩ := hroot.spare _ hbO _ _ hTb.1
                 have had : ad = ⟨ad.block, ad.off, none⟩ := by cases ad; simp at hTb; simp [hTb.2]
                 have hflen : (jJ us).length = ys.length * i.size := by rw [kC u4, u1]
                 have hmul : xs.length * i.size + ys.length * i.size <= cap * i.size := by rw [<- tH]; exact tV _ hroom
                 have hones : ∀ v ∈ jJ us, v.oneCell' = true := by
                   intro v hv
                   simp only [jJ, List.mem_flatMap] at hv
                   obtain ⟨u, hu, hvu⟩ := hv
                   obtain ⟨j, hj⟩ := kc hu
                   obtain ⟨y', hy'⟩ := ku u1.symm hj
                   have hVy := u2 j y' u hy' hj
                   obtain ⟨k, hk⟩ := kc hvu
                   have hk' : u.cells[k]? = some v := by simpa using hk
                   obtain ⟨p1, p2⟩ := hVy.un2.cells
                   obtain ⟨x', hx'⟩ : ∃ x', (un2 y').cells[k]? = some x' := by
                     have := (Array.getElem?_eq_some_iff.1 hk').1
                     exact ⟨(un2 y').cells[k]'(by omega), by simp⟩
                   have hcell := (yD hVy.un2 (qd (u3 y' (zM hy'))) x' (zM hx')).2
                   exact vF (by rw [<- (p2 k x' v hx' hk').isCell]; exact hcell)
                 have hst := run_storeCells_atF P ad.block (ad.off + xs.length * i.size) el fz (jJ us) 0 cc w q1 (by simpa using q3) (by simp; omega) hones
                 simp only [Nat.add_zero] at hst
                 have hrun : (Builtin.append_ #[T, U] o.type #[.slice (some ad) xs.length cap, a.eval ry]).run P w = .ok (.slice (some ad) (xs.length + ys.length) cap) _ :=
                   kT hT hU hdu hi u5 (u6 w rfl) hroom (by
                     simp only
                     rw [had, kA]; exact hst)
                 have hf := qg w ad.block (cc.toList.take (ad.off + xs.length * i.size) ++ jJ us ++ cc.toList.drop (ad.off + xs.length * i.size + (jJ us).length)).toArray
                 obtain ⟨g', hR', hg, hι⟩ := hroot.appendIn (ys := ys.map un2) (us := us) (rf' := jX rf xs ys) (c := cc) (el := el) (fz := fz) h0 (by simpa using u1) hpt hflat hnr u4 (by simpa using hroom) (by simpa using hys0) q1
                   (fun k hk => setRow_other w ad.block k _ hk) hf.2.2.2 (setRow_heap w ad.block cc _ el _ q1) (by simpa using hflen) hf.1 hf.2.1 hf.2.2.1
                 have e : (xs ++ ys.map un2).length = xs.length + ys.length := by simp
                 rw [e] at hR'
                 exact ⟨rfl, _, _, _, hexec _ _ (by rw [hrx]; exact hrun), rfl, g', O, [], hg, hR', h4, rfl, Keep.refl _⟩
           . -- it grows
             have hparts : ∃ vs : List Value, xs.length = vs.length /\ (∀ (j : Nat) x v, xs[j]? = some x -> vs[j]? = some v -> V g x v) /\ (∀ x ∈ xs, vl x) /\ (rf = false -> ∀ x ∈ xs, nr2 x = true) /\ (∀ v ∈ vs, v.cells.size = i.size) /\
                 ∀ W : World, W.heap = w.heap -> (Builtin.firstCells i.size xs.length (.slice ad xs.length cap)).run P W = .ok (jJ vs).toArray W := by
               cases hV with
               | nil => exact ⟨[], rfl, by simp, by simp, by simp, by simp, fun W _ => by simp [Builtin.firstCells, jJ]⟩
               | sl _ _ _ vs ad _ esz' hsp hc' hl' hv' hf' hr' hz' hcl ho hn =>
                 obtain ⟨e1, _⟩ := ho (by omega)
                 subst e1
                 refine ⟨vs, hl', hv', hf', hr', hz', fun W hW => ?_⟩
                 refine run_firstCells_some (P := P) W i.size xs.length ad xs.length cap (jJ vs) (by rw [kC hz', hl']) (fun j v hj => ?_)
                 have hpos : 0 < cap := by
                   have h0 := jk hj
                   rw [kC hz', <- hl'] at h0
                   rcases Nat.eq_zero_or_pos xs.length with h1 | h1
                   . simp [h1] at h0
                   . omega
                 have had : ad = ⟨ad.block, ad.off, none⟩ := by have := hsp hpos; cases ad; simp at this; simp [this]
                 rw [had, kA]
                 have := hroot.claim _ _ _ (hcl j v hj)
                 simpa [World.cell?, hW] using this
             obtain ⟨vs, v1, v2, v3, v4, v5, v6⟩ := hparts
             have hneed : (xs.length + ys.length) * i.bytes <= 140737488355328 := by omega
             have hrun := k8 (ty := o.type) hT hU hdu hi hz u5 u6 v6 (by omega : cap < xs.length + ys.length) (by omega) (growslice_fits (by omega) hneed)
             have hge := grownCap_ge w (xs.length + ys.length) cap E
             have hzc : (Builtin.zeroCells z.cells (grownCap w (xs.length + ys.length) cap E - (xs.length + ys.length))).size = (grownCap w (xs.length + ys.length) cap E - (xs.length + ys.length)) * i.size := by
               simp [Builtin.zeroCells, hzs]
             have hR0 : R g O (ts'.roots a.tmps) s.σ w.drew := hroot.drop.world (rP _) (fun _ _ => rfl)
             have hG0 : Grow O g w O g w.drew := ⟨rP _, fun _ _ _ => ⟨rfl, rfl, fun _ => rfl⟩, fun _ _ _ h => h, fun _ _ h => h, fun _ h => .inl h, rfl, rfl, rfl, rfl, fun _ => ⟨rP _, fun _ h => h⟩⟩
             have hflv : jJ (vs ++ us) = jJ vs ++ jJ us := by simp [jJ]
             have hz2 : ∀ v ∈ vs ++ us, v.cells.size = i.size := by
               intro v hv
               rcases List.mem_append.1 hv with hv | hv
               . exact v5 v hv
               . exact u4 v hv
             obtain ⟨g', O', hR', hg, hι⟩ := hR0.newSlice (xs := xs ++ ys.map un2) (vs := vs ++ us) (esz := i.size) (cap := grownCap w (xs.length + ys.length) cap E) (own := i.size) (rf := jX rf xs ys)
               (c := (jJ vs).toArray ++ (jJ us).toArray ++ Builtin.zeroCells z.cells (grownCap w (xs.length + ys.length) cap E - (xs.length + ys.length))) (el := E) (fz := (0, 0)) (by simp [v1, u1]) (fun j x v hx hv => by
                 by_cases hj : j < xs.length
                 . rw [zL hj] at hx
                   rw [zL (by omega)] at hv
                   exact v2 j x v hx hv
                 . rw [zR (by omega)] at hx
                   rw [zR (by omega), <- v1] at hv
                   exact hpt _ x v hx hv) (fun x hx => by
                 rcases List.mem_append.1 hx with hx | hx
                 . exact v3 x hx
                 . exact hflat x hx) (fun hh x hx => by
                 rcases List.mem_append.1 hx with hx | hx
                 . exact v4 ((hnr hh).1 x hx) x hx
                 . exact (hnr hh).2 x hx) hz2 (fun k v hk => by
                 rw [hflv] at hk
                 rw [Array.getElem?_append_left (by simp; have := jk hk; simpa using this)]
                 simpa using hk) (by simpa using hge) (by
                 simp only [Array.size_append, hzc, List.size_toArray, kC v5, kC u4, <- v1, <- u1]
                 rw [<- tH, <- tH]
                 refine tV _ (by omega)) (.inr rfl) (by simp) (by rw [kC hz2]; simp [v1, u1]) (fun _ he => by
                 have h9 := congrArg List.length he
                 simp at h9
                 have h10 : xs.length = 0 := by rw [h9.1]; rfl
                 have h11 : ys.length = 0 := by rw [h9.2]; rfl
                 omega) (fun he => by
                 exfalso
                 have h9 := congrArg List.length he
                 simp at h9
                 have h10 : xs.length = 0 := by rw [h9.1]; rfl
                 have h11 : ys.length = 0 := by rw [h9.2]; rfl
                 omega)
             have e : (xs ++ ys.map un2).length = xs.length + ys.length := by simp
             rw [e] at hR'
             exact ⟨rfl, _, _, _, hexec _ _ (by rw [hrx]; exact hrun), rfl, g', O', [], hG0.trans hg, hR', h4, rfl, Keep.refl _⟩
         . cases hs
       . simp at hs
       . cases hs
     . cases hs
   . cases hs
 . cases hs
end Go.Idl
namespace Go.Idl
variable [Globs]
variable {P : Program} {o : Oper} {a : Act} {g : Gh} {O : List Nat} {w : World} {s : St} {res : Res} {cf : kt}
theorem KY {zs : List IVal} (hz : 0 < zs.length) : ∀ (n k : Nat), k < n * zs.length -> (J1 n zs)[k]? = zs[k % zs.length]? := by
 intro n
 induction n with
 | zero => intro k hk; simp at hk
 | succ n ih =>
   intro k hk;have e : J1 (n + 1) zs = zs ++ J1 n zs := by simp [J1, List.replicate_succ]
   rw [e]
   by_cases h : k < zs.length
   . rw [zL h, Nat.mod_eq_of_lt h]
   . rw [zR (by omega), ih (k - zs.length) (by rw [tH] at hk; omega)]
     congr 1
     exact (Nat.mod_eq_sub_mod (by omega)).symm
theorem yF (n : Nat) (zs : List IVal) : (J1 n zs).length = n * zs.length := by simp [J1]
theorem KE {n : Int} (h0 : 0 <= n) (h : n <= 1099511627776) : IntKind.i64.wrap n = n := by
 have e : n % (18446744073709551616 : Int) = n := Int.emod_eq_of_lt h0 (by omega);show (if (true && decide (n % (18446744073709551616 : Int) ≥ 9223372036854775808)) = true then n % (18446744073709551616 : Int) - 18446744073709551616 else n % (18446744073709551616 : Int)) = n;rw [e, if_neg]
 simp; omega
theorem Ka {T E : TypeId} {i : TypeInfo} {z : Value} {l c : Nat} {k k' : IntKind} (hT : P.underlying T = some (.slice E)) (hi : P.info? E = some i) (hz : i.zero = some z) (hlc : l <= c) (hb : c * i.bytes <= 1099511627776) (hc : c <= 1099511627776) :
   (Instr.makeSlice T (.int k l) (.int k' c)).run P w = .ok (.slice (some ⟨w.heap.size, 0, none⟩) l c) (w.alloc (.cells ((Array.range (c * i.size)).map (fun j => z.cells[j % z.cells.size]!)) E)) := by
 have h1 : IntKind.i64.wrap (l : Int) = l := KE (by omega) (by omega);have h2 : IntKind.i64.wrap (c : Int) = c := KE (by omega) (by omega);have h3 : ¬ ((i.bytes : Int) * (c : Int) > 281474976710656) := by
   have : ((c * i.bytes : Nat) : Int) <= 1099511627776 := by omega
   rw [Int.natCast_mul, Int.mul_comm] at this;omega
 have h4 : (decide ((c : Int) < 0) || decide ((i.bytes : Int) * (c : Int) > 281474976710656) || decide ((l : Int) < 0) || decide ((l : Int) > (c : Int))) = false := by
   simp only [Bool.or_eq_false_iff, decide_eq_false_iff_not];refine ⟨⟨⟨by omega, h3⟩, by omega⟩, by omega⟩
 simp only [Instr.makeSlice, Sem.run_bind, jM hT, Result.andThen_ok, asInt, asIntOf, Sem.run_pure, typeInfo, run_program, hi, h1, h2];simp only [show (2 : Int) ^ 48 = 281474976710656 from rfl] at *;rw [if_neg (by simpa using h4)]
 by_cases hn : c * i.size = 0
 . have h00 : Array.map (fun x : Nat => (default : Value)) (Array.range 0) = #[] := Array.eq_empty_of_size_eq_zero (by simp);have h01 : Array.map (fun j : Nat => z.cells[j % z.cells.size]!) (Array.range 0) = #[] := Array.eq_empty_of_size_eq_zero (by simp);simp [kw hi, hn, newRow, h00, h01]
 . simp [kw hi, hn, newRow, zeroValue, typeInfo, hi, hz]
def Yw (l : List Value) : Value := match l with
 | [c] => c
 | l => .agg l.toArray
def Qd (z : Value) : Value := Yw z.cells.toList
theorem Va : ∀ {l : List Value}, (∀ c, l = [c] -> c.cells = #[c]) -> (Yw l).cells = l.toArray
 | [], _ => rfl
 | [c], h => h c rfl
 | _ :: _ :: _, _ => rfl
theorem jdW {g : Gh} {zs : List IVal} {z : Value} (hc : Jh zs z.cells.toList = true) : V g (Qe zs) (Qd z) := by
 obtain ⟨z1, z2⟩ := qS g hc;have hagg : V g (.agg (zs.map un1)) (.agg z.cells.toList.toArray) := by
   refine .agg _ _ (by simpa using z1) (fun i x v hx hv => ?_) (fun x hx => ?_)
   . simp only [rJ, rT] at hx;obtain ⟨x', hx', rfl⟩ := hx;exact (z2 i x' v hx' (by simpa using hv)).1.un1
   . simp only [tO] at hx;obtain ⟨x', hx', rfl⟩ := hx;obtain ⟨j, hj⟩ := kc hx';obtain ⟨v, hv⟩ := ku z1 hj;rw [qz]; exact (z2 j x' v hj hv).2.2
 cases hzs : zs with
 | nil =>
   rw [hzs] at z1 hagg;have e : z.cells.toList = [] := List.length_eq_zero_iff.1 z1.symm;simp only [Qe, Qd, Yw, e];simpa [e] using hagg
 | cons x xs =>
   cases hxs : xs with
   | nil =>
     rw [hzs, hxs] at z1 z2;obtain ⟨c, e⟩ := List.length_eq_one_iff.1 z1.symm;simp only [Qe, Qd, Yw, e];exact (z2 0 x c rfl (by simp [e])).1.un1
   | cons y ys =>
     rw [hzs, hxs] at z1 hagg
     cases e : z.cells.toList with
     | nil => simp [e] at z1
     | cons c cs =>
       cases e2 : cs with
       | nil => simp [e, e2] at z1
       | cons d ds =>
         simp only [Qe, Qd, Yw, e, e2];simpa [e, e2] using hagg
theorem yX {g : Gh} {zs : List IVal} {z : Value} (hc : Jh zs z.cells.toList = true) : (Qd z).cells = z.cells := by
 obtain ⟨z1, z2⟩ := qS g hc;have := Va (l := z.cells.toList) (fun c e => by
   rw [e] at z1 z2;obtain ⟨x, hx⟩ : ∃ x, zs[0]? = some x := ⟨zs[0]'(by rw [z1]; simp), by simp⟩;have hV := z2 0 x c hx rfl;have h9 := hV.1.isCell;rw [hV.2.2] at h9;cases c <;> first | rfl | (simp [ql] at h9))
 simpa [Qd] using this
theorem Yx {g : Gh} {zs : List IVal} {z : Value} (hc : Jh zs z.cells.toList = true) : vl (Qe zs) := by
 obtain ⟨z1, z2⟩ := qS g hc;have hagg : vl (.agg (zs.map Idl.un1)) := by
   refine ⟨?_, rfl⟩;simp only [un2, List.map_map]
   congr 1
   apply List.map_congr_left;intro x _;exact yy x
 cases zs with
 | nil => exact hagg
 | cons x xs =>
   cases xs with
   | cons y ys => exact hagg
   | nil =>
     obtain ⟨c, e⟩ := List.length_eq_one_iff.1 z1.symm;have := (z2 0 x c rfl (by simp [e])).2.2;have h1 : (Idl.un1 x).isCell = true := by rw [qz]; exact this
     have h2 := yy x;show vl (Idl.un1 x)
     revert h1 h2
     cases Idl.un1 x <;> simp [vl, un2, nt, IVal.isCell]
theorem YI (n : Nat) (v : Value) : jJ (List.replicate n v) = (List.replicate n v.cells.toList).flatten := by
 simp [jJ, List.flatMap]
theorem Qm {α : Type} {l : List α} (hl : 0 < l.length) : ∀ (n k : Nat), k < n * l.length -> (List.replicate n l).flatten[k]? = l[k % l.length]? := by
 intro n
 induction n with
 | zero => intro k hk; simp at hk
 | succ n ih =>
   intro k hk;have e : (List.replicate (n + 1) l).flatten = l ++ (List.replicate n l).flatten := by simp [List.replicate_succ]
   rw [e]
   by_cases h : k < l.length
   . rw [zL h, Nat.mod_eq_of_lt h]
   . rw [zR (by omega), ih (k - l.length) (by rw [tH] at hk; omega)]
     congr 1
     exact (Nat.mod_eq_sub_mod (by omega)).symm
theorem jbd {byref : Bool} {zs : List IVal} {x y : Opd} {rx ry : Operand} {T E : TypeId} {i : TypeInfo} {z : Value} (hop : o.op = .makeSlice T rx ry) (hx : jL x rx = true) (hy : jL y ry = true) (hT : P.underlying T = some (.slice E)) (hi : P.info? E = some i) (hz : i.zero = some z)
   (hc : Jh zs z.cells.toList = true) (hzs : z.cells.size = i.size) (hs : ja cf (.mkSl byref i.size i.bytes zs x y) s = some res) (hl : WT s.ts a.tmps) (hR : R g O (s.ts.roots a.tmps) s.σ w) : SimV P o a g O w s res := by
 simp only [ja] at hs;split at hs
 . rename_i k l ts h;split at hs
   . rename_i k' c ts' h';split at hs
     . rename_i hcond;obtain ⟨c1, c2, c3, c4, c5, c6⟩ := hcond;obtain ⟨h1, h2⟩ := jI (l := []) hx h hl hR;obtain ⟨h3, h4⟩ := jI (l := [(.int k l, a.eval rx)]) hy h' h2 h1;obtain ⟨ln, rfl⟩ := Int.eq_ofNat_of_zero_le c1;obtain ⟨cn, rfl⟩ := Int.eq_ofNat_of_zero_le (Int.le_trans c1 c2);have hb : cn * i.bytes <= 1099511627776 := by
         have h9 := c3;rw [<- Int.natCast_mul] at h9;omega
       have hrun := Ka (P := P) (w := w) (l := ln) (c := cn) (k := k) (k' := k') hT hi hz (by omega) hb (by omega);have hexec : ∀ r w', (Instr.makeSlice T (.int k ln) (.int k' cn)).run P w = .ok r w' -> (execOp a.eval o).run P w = .ok (.value r) w' := by
         intro r w' hr;have e1 := h3.head.int_inv;have e2 := h3.drop.head.int_inv;simp only [execOp, hop, e1, e2];simp [hr]
       obtain ⟨z1, z2⟩ := qS (g.fresh w.heap.size) hc;have hroot : R g O (ts'.roots a.tmps) s.σ w := h3.drop.drop;split at hs
       . simp only [zO] at hs;subst hs;have hcells : ∀ (j : Nat) x v, (J1 cn zs)[j]? = some x -> ((Array.range (cn * i.size)).map (fun j => z.cells[j % z.cells.size]!))[j]? = some v -> V (g.fresh w.heap.size) x v /\ qb x v = [] /\ x.isCell = true := by
           intro j x v hx hv;have hj : j < cn * zs.length := by rw [<- yF]; exact jk hx
           rw [KY (by omega) cn j hj] at hx;simp only [Array.getElem?_map, Array.getElem?_range] at hv;rw [c5] at hj;rw [if_pos hj] at hv;simp only [tU, zO] at hv;have hmod : j % z.cells.size < z.cells.size := Nat.mod_lt _ (by omega);refine z2 (j % zs.length) x v hx ?_;rw [<- hv];have : zs.length = z.cells.size := by omega
           rw [this];simp [getElem!_pos, hmod]
         have hnew := (hroot.push (kJ g) rfl).new (obr := .cells ((Array.range (cn * i.size)).map (fun j => z.cells[j % z.cells.size]!)) E) (ob := .cells (J1 cn zs)) (fun _ =>
           ⟨_, E, (0, 0), jW w _, .inl rfl, by simp [yF, c5], fun j x v hx hv => ⟨(hcells j x v hx hv).1, (hcells j x v hx hv).2.2⟩⟩) ⟨[], by
           simp only [kR, kq];rw [flatten_nil];intro cc hcm;obtain ⟨j, x, y, h1, h2, rfl⟩ := kh hcm;exact (hcells j x y h1 (by rw [<- Array.getElem?_toList]; exact h2)).2.1, by simp⟩
         refine ⟨rfl, _, _, _, hexec _ _ hrun, rfl, _, w.heap.size :: O, [], (kK hR _).trans (Grow.setZ _ _ _ _ _), (hnew.setZ (z := cn * i.size) (jW w _) (by simp)).push (.rs _ _ _ _ _ _ ?_ (by exact_mod_cast c2) (by rw [tS]; exact yu _ _ _)) rfl, h4, rfl, Keep.snoc _ _⟩;simp [Gh.fresh, Gh.setZ, <- hR.len]
       . split at hs
         . rename_i hq;simp only [rv, zO] at hs;subst hs;have hfz : (jJ (List.replicate ln (Qd z))).length = ln * i.size := by
             rw [kC (esz := i.size)]
             . simp
             . intro v hv; rw [List.eq_of_mem_replicate hv, yX (g := g) hc]; exact hzs
           obtain ⟨g', O', hR', hg, hι⟩ := hroot.newSlice (xs := List.replicate ln (Qe zs)) (vs := List.replicate ln (Qd z)) (esz := i.size) (cap := cn) (own := jaF i.size ln cn) (rf := false)
             (c := (Array.range (cn * i.size)).map (fun j => z.cells[j % z.cells.size]!)) (el := E) (fz := (0, 0)) (by simp) (fun j x v hx hv => by
               rw [List.eq_of_mem_replicate (zM hx), List.eq_of_mem_replicate (zM hv)];exact jdW hc) (fun x hx => by rw [List.eq_of_mem_replicate hx]; exact Yx (g := g) hc) (fun _ x hx => by rw [List.eq_of_mem_replicate hx]; exact hq.1)
             (fun v hv => by rw [List.eq_of_mem_replicate hv, yX (g := g) hc]; exact hzs) (fun k v hk => by
               have hk' := jk hk;rw [hfz] at hk';rw [YI, yX (g := g) hc, Qm (by simp [hzs]; omega) ln k (by simpa [hzs] using hk')] at hk;have hk2 : k < cn * i.size := Nat.lt_of_lt_of_le hk' (tV _ (by omega));simp only [Array.getElem?_map, Array.getElem?_range, if_pos hk2, tU];have hmod : k % z.cells.size < z.cells.size := Nat.mod_lt _ (by omega);rw [<- hk];simp [getElem!_pos, hmod]) (by simp; omega) (by simp) (by unfold jaF; split; exact .inl rfl; exact .inr rfl) (by simp) (by simpa using hfz) (fun h0 he => by
               have e0 : ln = 0 := by simpa using he
               by_cases hcn : cn = 0
               . exact hcn
               . exfalso; apply h0; unfold jaF; rw [if_pos]; exact ⟨by omega, by omega⟩)
           simp only [List.length_replicate] at hR';exact ⟨rfl, _, _, _, hexec _ _ hrun, rfl, g', O', [], hg, hR', h4, rfl, Keep.refl _⟩
         . cases hs
     . cases hs
   . cases hs
 . cases hs
end Go.Idl
namespace Go.Idl
variable [Globs]
variable {P : Program} {o : Oper} {a : Act} {g : Gh} {O : List Nat} {w : World} {s : St} {res : Res} {cf : kt}
theorem ve (l l' : ke) : ky (l ++ l') = ky l ++ ky l' := by simp [ky]
theorem R.sub_own {A l : ke} {σ : List IObj} (h : R g O (A ++ l) σ w) : R g (ky A ++ kY w g.ι σ) A σ w := by
 have hn := h.nodup;have hs := h.sub;rw [ve] at hn hs;have hsub : (ky A ++ kY w g.ι σ).Sublist (ky A ++ ky l ++ kY w g.ι σ) := by
   rw [zS]; exact List.Sublist.append (.refl _) (List.sublist_append_right _ _)
 have hO : ∀ b ∈ ky A ++ kY w g.ι σ, b ∈ O := fun b hb => hs b (hsub.mem hb);exact ⟨h.len, fun p hp => h.vals p (by simp [hp]), h.objo, hn.sublist hsub, fun b hb => hb, fun b hb => h.lt b (hO b hb), h.claim, h.apart, fun b hb => h.spare b (hO b hb), h.glob, h.zs⟩
theorem R.frame {A A' l : ke} {σ σ' : List IObj} {g' : Gh} {Oa' : List Nat} {w' : World} (h : R g O (A ++ l) σ w) (hg : Grow (ky A ++ kY w g.ι σ) g w Oa' g' w') (h' : R g' Oa' A' σ' w') :
   ∃ O', R g' O' (A' ++ l) σ' w' /\ Grow O g w O' g' w' := by
 have hn := h.nodup;have hs := h.sub;rw [ve] at hn hs;have hOa : ∀ b ∈ ky A ++ kY w g.ι σ, b ∈ O := fun b hb => hs b (by
   rcases List.mem_append.1 hb with hb | hb
   . simp [hb]
   . simp [hb])
 have hlO : ∀ b ∈ ky l, b ∈ O := fun b hb => hs b (by simp [hb]);have hdis : ∀ b ∈ ky l, b ∉ ky A ++ kY w g.ι σ := by
   intro b hb hm;rw [List.nodup_append] at hn;obtain ⟨h1, h2, h3⟩ := hn;rw [List.nodup_append] at h1
   rcases List.mem_append.1 hm with hm | hm
   . exact h1.2.2 b hm b hb rfl
   . exact h3 b (by simp [hb]) b hm rfl
 have hdis' : ∀ b ∈ ky l, b ∉ Oa' := by
   intro b hb hm
   rcases hg.fresh b hm with h1 | h1
   . exact hdis b hb h1
   . have := h.lt b (hlO b hb); omega
 refine ⟨Oa' ++ O.filter (fun b => decide (b ∉ ky A ++ kY w g.ι σ)), ⟨h'.len, fun p hp => ?_, h'.objo, ?_, fun b hb => ?_, fun b hb => ?_, h'.claim, h'.apart, fun b hb => ?_, h'.glob, h'.zs⟩, ⟨hg.size, fun b hb hO => hg.same b hb (fun hm => hO (hOa b hm)), hg.mono, hg.preo, fun b hb => ?_, hg.code, hg.os, hg.tape, hg.output, hg.zm⟩⟩
 . rcases List.mem_append.1 hp with hp | hp
   . exact h'.vals p hp
   . have hpl : ∀ b ∈ kl p.1 p.2, b ∈ ky l := fun b hb => by
       simp only [ky, List.mem_flatten, tO]; exact ⟨_, ⟨p, hp, rfl⟩, hb⟩
     exact (h.vals p (by simp [hp])).mono hg.pre hg.mono (fun b hb => (hg.same b (h.lt b (hlO b (hpl b hb))) (hdis b (hpl b hb))).2.1) hg.zm.le
 . rw [ve, zS];have h1 := h'.nodup;have h2 : (ky l).Nodup := (List.nodup_append.1 (List.nodup_append.1 hn).1).2.1;have hp : (ky A' ++ (ky l ++ kY w' g'.ι σ')).Perm (ky l ++ (ky A' ++ kY w' g'.ι σ')) := by
     rw [<- zS, <- zS];exact List.perm_append_comm.append_right _
   rw [hp.nodup_iff, List.nodup_append];exact ⟨h2, h1, fun b hb c hc e => hdis' b hb (e ▸ h'.sub c hc)⟩
 . rw [ve] at hb;simp only [List.mem_append] at hb
   rcases hb with (hb | hb) | hb
   . exact rZ _ (h'.sub b (by simp [hb]))
   . refine rW _ (List.mem_filter.2 ⟨hlO b hb, ?_⟩);simpa using hdis b hb
   . exact rZ _ (h'.sub b (by simp [hb]))
 . rcases List.mem_append.1 hb with hb | hb
   . exact h'.lt b hb
   . exact Nat.lt_of_lt_of_le (h.lt b (List.mem_filter.1 hb).1) hg.size
 . rcases List.mem_append.1 hb with hb | hb
   . exact h'.spare b hb
   . obtain ⟨hbO, hbn⟩ := List.mem_filter.1 hb;have hbn' : b ∉ ky A ++ kY w g.ι σ := by simpa using hbn
     obtain ⟨e1, e2, e3⟩ := hg.same b (h.lt b hbO) hbn';intro ext top ht;rw [e2] at ht;obtain ⟨⟨c, el, fz, q1, q2, q3⟩, q4⟩ := h.spare b hbO ext top ht;exact ⟨⟨c, el, fz, by rw [e1]; exact q1, q2, q3⟩, fun o ho => by rw [e3]; exact q4 o ho⟩
 . rcases List.mem_append.1 hb with hb | hb
   . rcases hg.fresh b hb with h1 | h1
     . exact .inl (hOa b h1)
     . exact .inr h1
   . exact .inl (List.mem_filter.1 hb).1
def WF (ρ : Option Nat) : Fence := { Fence.wide with round := ρ }
def XF (pan : Bool) (v : Value) : Ending := if pan then .panicked [{ v, recovered := false }] else .returned v
def vk (P : Program) (f : FuncId) : Prop := ∃ fn, P.funcs[f]? = some fn /\ fn.name ≠ "runtime.NumGoroutine" /\ fn.body ≠ none
def yz (g : Gh) (O : List Nat) (w : World) (σ : List IObj) (out : Out) (e : Ending) (w' : World) : Prop :=
 ∃ g' O' v', e = XF out.pan v' /\ Grow O g w O' g' w' /\ R g' O' [(out.v, v')] out.σ w' /\ Keep σ out.σ out.wr
abbrev Q5 := Nat -> Nat -> Nat -> Code -> ICode -> Prop
def qM (r : Loop) (rargs : Array Value) : Array Value := (r.params.zip rargs).foldl (fun tmps (t, a) => tmps.setIfInBounds t a) r.tmps
structure CallOK (P : Program) (C0 : Q5) (cf : kt) : Prop where
 fn : ∀ f args σ out, cf (.f f) args σ = some out -> vk P f /\
   ∀ g O (rargs : Array Value) w, g.C = C0 -> args.length = rargs.toList.length -> R g O (args.zip rargs.toList) σ w -> CallsIn Fence.wide 0 P f rargs w (yz g O w σ out)
 yl : ∀ id args σ out, cf (.y id) args σ = some out -> ∀ g O (rargs : Array Value) w b, g.C = C0 -> g.ι[id]? = some (Blk.bk b) -> args.length = rargs.toList.length -> R g O (args.zip rargs.toList) σ w ->
   ∃ r : Loop, w.heap[b]? = some (.loop r) /\ rargs.size = r.params.size /\ RoundIn Fence.wide 0 P b r.fn (qM r rargs) r.assign r.body w (yz g O w σ out)
theorem XT {ρ : Option Nat} {n l : Nat} {f : FuncId} {tmps : Array Value} {x y : Code} {R : Ending -> World -> Prop} (h : RoundIn Fence.wide 0 P l f tmps x y w R) : RoundIn (WF ρ) n P l f tmps x y w R :=
 ⟨trivial, fun c cs _ => h.2 c cs (room_wide _)⟩
theorem zI {ρ : Option Nat} {n : Nat} {f : FuncId} {args : Array Value} {R : Ending -> World -> Prop} (h : CallsIn Fence.wide 0 P f args w R) : CallsIn (WF ρ) n P f args w R := by
 cases ρ with
 | none => exact h.more (Nat.zero_le _)
 | some l => exact (h.more (Nat.zero_le _)).inRound l
def OpRes (P : Program) (o : Oper) (a : Act) (g : Gh) (O : List Nat) (w : World) (s : St) (res : Res) : Prop :=
 ∀ (ρ : Option Nat) (n : Nat) (next : Act -> World -> Prop) (Q : Exit -> Act -> World -> Prop),
   (res.pan = false -> ∀ v' w', Post g O w s res.v v' res.s a w' -> next (a.put o.dst v') w') ->
   (res.pan = true -> ∀ v' w', Post g O w s res.v v' res.s a w' -> Q (.panic [{ v := v', recovered := false }]) a w') ->
   o.wpIn (WF ρ) n P a w next Q
theorem OpRes.of_val (h : SimV P o a g O w s res) (hd : ∀ c, o.op ≠ .defer c) : OpRes P o a g O w s res := by
 intro ρ n next Q h1 _;obtain ⟨hp, v', w', nx, hrun, hnx, hpost⟩ := h;refine ⟨fun _ _ => trivial, ?_⟩;rw [Oper.semAt_eq _ _ _ hd, hrun]
 cases nx with
 | value u => simp only [jaL] at hnx; subst hnx; exact h1 hp _ _ hpost
 | skip => simp only [jaL] at hnx; subst hnx; exact h1 hp _ _ hpost
 | _ => exact absurd hnx (by simp [jaL])
theorem zW {f : FuncId} {vs : List IVal} {ts : Ts} {rargs : Array Value} {C0 : Q5} (hcf : CallOK P C0 cf) (hC : g.C = C0) (hd : ∀ c, o.op ≠ .defer c) (hrun : vk P f -> (execOp a.eval o).run P w = .ok (.enter f rargs) w) (hlen : vs.length = rargs.toList.length)
   (hR : R g O (vs.zip rargs.toList ++ ts.roots a.tmps) s.σ w) (hl : WT ts a.tmps) (hs : stepCall cf (.f f) vs ts s = some res) : OpRes P o a g O w s res := by
 intro ρ n next Q h1 h2;unfold stepCall at hs;split at hs
 . rename_i out hout;simp only [zO] at hs;subst hs;obtain ⟨hcall, hc⟩ := hcf.fn f vs s.σ out hout;refine ⟨fun _ _ => trivial, ?_⟩;rw [Oper.semAt_eq _ _ _ hd, hrun hcall, Oper.uponIn_enter];refine ⟨fun h => by simp [WF, Fence.wide] at h, ?_⟩;refine zI ((hc g _ rargs w hC hlen hR.sub_own).mono ?_);rintro e w' ⟨g', O', v', rfl, hg, hR', hk⟩;obtain ⟨O'', hR'', hg''⟩ := hR.frame hg hR';have hpost : Post g O w s out.v v' (jn out s ts).s a w' := ⟨g', O'', out.wr, hg'', by simpa [jn] using hR'', hl, rfl, hk⟩
   cases hpan : out.pan with
   | false =>
     have : XF false v' = .returned v' := rfl;rw [this];exact h1 (by simp [jn, hpan]) _ _ hpost
   | true =>
     have : XF true v' = .panicked [{ v := v', recovered := false }] := rfl;rw [this];exact h2 (by simp [jn, hpan]) _ _ hpost
 . cases hs
theorem Vw {id b : Nat} {vs : List IVal} {ts : Ts} {rargs : Array Value} {C0 : Q5} (hcf : CallOK P C0 cf) (hC : g.C = C0) (hd : ∀ c, o.op ≠ .defer c)
   (hrun : ∀ r : Loop, w.heap[b]? = some (.loop r) -> rargs.size = r.params.size -> (execOp a.eval o).run P w = .ok (.round b r.fn (qM r rargs) r.assign r.body) w) (hι : g.ι[id]? = some (Blk.bk b)) (hlen : vs.length = rargs.toList.length)
   (hR : R g O (vs.zip rargs.toList ++ ts.roots a.tmps) s.σ w) (hl : WT ts a.tmps) (hs : stepCall cf (.y id) vs ts s = some res) : OpRes P o a g O w s res := by
 intro ρ n next Q h1 h2;unfold stepCall at hs;split at hs
 . rename_i out hout;simp only [zO] at hs;subst hs;obtain ⟨r, q1, q2, q3⟩ := hcf.yl id vs s.σ out hout g _ rargs w b hC hι hlen hR.sub_own;refine ⟨fun _ _ => trivial, ?_⟩;rw [Oper.semAt_eq _ _ _ hd, hrun r q1 q2, Oper.uponIn_round];refine ⟨fun h => by simp [WF, Fence.wide] at h, ?_⟩;refine XT (q3.mono ?_);rintro e w' ⟨g', O', v', rfl, hg, hR', hk⟩;obtain ⟨O'', hR'', hg''⟩ := hR.frame hg hR';have hpost : Post g O w s out.v v' (jn out s ts).s a w' := ⟨g', O'', out.wr, hg'', by simpa [jn] using hR'', hl, rfl, hk⟩
   cases hpan : out.pan with
   | false =>
     have : XF false v' = .returned v' := rfl;rw [this];exact h1 (by simp [jn, hpan]) _ _ hpost
   | true =>
     have : XF true v' = .panicked [{ v := v', recovered := false }] := rfl;rw [this];exact h2 (by simp [jn, hpan]) _ _ hpost
 . cases hs
theorem VJ {c : Call} {r : Operand} {b : Nat} {L : Loop} (hop : o.op = .call c) (hc : c.callee = .value r) (hr : a.eval r = .func (.yield b) #[] #[]) (h : w.heap[b]? = some (.loop L)) (hs : (c.args.map a.eval).size = L.params.size) :
   (execOp a.eval o).run P w = .ok (.round b L.fn (qM L (c.args.map a.eval)) L.assign L.body) w := by
 have := run_yield (P := P) (w := w) (args := c.args.map a.eval) h hs;simp [execOp, hop, resolve, hc, hr, Deferred.ofValue, invoke, qM, this]
theorem K0 {f : FuncId} {c : Call} {args : Array Value} {caps firsts : Array Value} (hop : o.op = .call c) {r : Operand} (hc : c.callee = .value r) (hr : a.eval r = .func (.func f) firsts caps) (hf : vk P f) :
   (execOp a.eval o).run P w = .ok (.enter f (firsts ++ c.args.map a.eval ++ caps)) w := by
 obtain ⟨fn, h1, h2, h3⟩ := hf;simp [execOp, hop, resolve, hc, hr, Deferred.ofValue, invoke, callFunc, h1, h2, h3]
theorem Jg {f : FuncId} {c : Call} {xs : List Opd} {C0 : Q5} (hcf : CallOK P C0 cf) (hC : g.C = C0) (hop : o.op = .call c) (hc : c.callee = .value (.func f)) (hx : ka xs c.args.toList = true) (hs : ja cf (.call f xs) s = some res)
   (hl : WT s.ts a.tmps) (hR : R g O (s.ts.roots a.tmps) s.σ w) : OpRes P o a g O w s res := by
 simp only [ja] at hs;split at hs
 . rename_i vs ts h;obtain ⟨h1, h2, h3⟩ := kD (l := []) hx h hl hR;refine zW (rargs := c.args.map a.eval) hcf hC (fun c' h => by rw [hop] at h; cases h) (fun hf => ?_) (by simpa using h3) (by simpa using h1) h2 hs;rw [K0 (args := #[]) hop hc (f := f) (firsts := #[]) (caps := #[]) rfl hf];simp
 . cases hs
theorem Vv {c : Call} {r : Operand} {x : Opd} {xs : List Opd} {C0 : Q5} (hcf : CallOK P C0 cf) (hC : g.C = C0) (hop : o.op = .call c) (hc : c.callee = .value r) (hr : jL x r = true) (hx : ka xs c.args.toList = true) (hs : ja cf (.callv x xs) s = some res)
   (hl : WT s.ts a.tmps) (hR : R g O (s.ts.roots a.tmps) s.σ w) : OpRes P o a g O w s res := by
 simp only [ja] at hs;split at hs
 . rename_i gf us ws ts h;split at hs
   . rename_i vs ts' h';obtain ⟨h1, h2⟩ := jI (l := []) hr h hl hR;obtain ⟨h3, h4, h5⟩ := kD (l := [(.fn (.func gf) us ws, a.eval r)]) hx h' h2 h1;have hV : V g (.fn (.func gf) us ws) (a.eval r) := h3.vals (.fn (.func gf) us ws, a.eval r) (by simp);generalize hrv : a.eval r = rv at hV h3
     cases hV with
     | fn _ _ _ firsts caps hl1 hv1 hf1 hl2 hv2 hf2 =>
     refine zW (rargs := firsts ++ c.args.map a.eval ++ caps) hcf hC (fun c' h => by rw [hop] at h; cases h) (fun hf => K0 (args := #[]) hop hc hrv hf) (by simp at h5 ⊢; omega) ?_ h4 hs;have hz : (us ++ vs ++ ws).zip (firsts ++ c.args.map a.eval ++ caps).toList = us.zip firsts.toList ++ vs.zip (c.args.toList.map a.eval) ++ ws.zip caps.toList := by
       simp only [Array.toList_append, Array.toList_map];rw [List.zip_append (by simp at h5 ⊢; omega), List.zip_append (by simpa using hl1)]
     rw [hz];have hbase : R g O (vs.zip (c.args.toList.map a.eval) ++ ts'.roots a.tmps) s.σ w := by
       have hp : (vs.zip (c.args.toList.map a.eval) ++ ([(IVal.fn (.func gf) us ws, Value.func (.func gf) firsts caps)] ++ ts'.roots a.tmps)).Perm ((IVal.fn (.func gf) us ws, Value.func (.func gf) firsts caps) :: (vs.zip (c.args.toList.map a.eval) ++ ts'.roots a.tmps)) := tW;exact (h3.perm hp).drop
     have hpush : ∀ (l0 : ke) (xs : List IVal) (vs : List Value), xs.length = vs.length -> (∀ (i : Nat) x v, xs[i]? = some x -> vs[i]? = some v -> V g x v) -> (∀ x ∈ xs, vl x) -> R g O l0 s.σ w -> R g O (xs.zip vs ++ l0) s.σ w := by
       intro l0 xs
       induction xs with
       | nil => intro vs _ _ _ h; simpa using h
       | cons x xs ih =>
         intro vs hl hv hf h
         cases vs with
         | nil => simp at hl
         | cons v vs =>
           simp only [tC, tI];exact (ih vs (by simpa using hl) (fun i x v hx hw => hv (i + 1) x v (by simpa using hx) (by simpa using hw)) (fun x hx => hf x (by simp [hx])) h).push (hv 0 x v rfl rfl) (kx (hf x (by simp)) v)
     have h6 := hpush _ ws caps.toList (by simpa using hl2) (fun i x v hx hw => hv2 i x v hx (by simpa using hw)) hf2 hbase;have h7 := hpush _ us firsts.toList (by simpa using hl1) (fun i x v hx hw => hv1 i x v hx (by simpa using hw)) hf1 h6;refine h7.perm ?_;rw [zS, zS];refine List.Perm.append_left _ ?_;rw [<- zS, <- zS];exact List.perm_append_comm.append_right _
   . cases hs
 . rename_i id ts h;split at hs
   . rename_i vs ts' h';obtain ⟨h1, h2⟩ := jI (l := []) hr h hl hR;obtain ⟨h3, h4, h5⟩ := kD (l := [(.yl id, a.eval r)]) hx h' h2 h1;have hV : V g (.yl id) (a.eval r) := h3.vals (.yl id, a.eval r) (by simp);generalize hrv : a.eval r = rv at hV h3
     cases hV with
     | yl _ b hb =>
     have hbase : R g O (vs.zip (c.args.map a.eval).toList ++ ts'.roots a.tmps) s.σ w := by
       have hp : (vs.zip (c.args.toList.map a.eval) ++ ([(IVal.yl id, Value.func (.yield b) #[] #[])] ++ ts'.roots a.tmps)).Perm ((IVal.yl id, Value.func (.yield b) #[] #[]) :: (vs.zip (c.args.toList.map a.eval) ++ ts'.roots a.tmps)) := tW;simpa using (h3.perm hp).drop
     exact Vw (rargs := c.args.map a.eval) hcf hC (fun c' h => by rw [hop] at h; cases h) (fun L q1 q2 => VJ hop hc hrv q1 q2) hb (by simpa using h5) hbase h4 hs
   . cases hs
 . cases hs
theorem Vu {f : FuncId} {c : Call} {xs : List Opd} {C0 : Q5} (hcf : CallOK P C0 cf) (hC : g.C = C0) (hop : o.op = .call c) (hc : c.callee = .value (.func f)) (hx : ka xs c.args.toList = true) (hs : ja cf (.callp f xs) s = some res)
   (hl : WT s.ts a.tmps) (hR : R g O (s.ts.roots a.tmps) s.σ w) : OpRes P o a g O w s res := by
 simp only [ja] at hs;split at hs
 . rename_i vs ts h;split at hs
   . rename_i hnr;split at hs
     . rename_i v σ1 wr1 hout;split at hs
       . rename_i hnv;simp only [rv, zO] at hs;subst hs;obtain ⟨h1, h2, h3⟩ := kD (l := []) hx h hl hR;simp only [tJ] at h1;obtain ⟨hcall, hcc⟩ := hcf.fn f vs [] _ hout;intro ρ n next Q n1 _;refine ⟨fun _ _ => trivial, ?_⟩;rw [Oper.semAt_eq _ _ _ (fun c' h => by rw [hop] at h; cases h), K0 (args := #[]) hop hc (f := f) (firsts := #[]) (caps := #[]) rfl hcall, Oper.uponIn_enter];refine ⟨fun h => by simp [WF, Fence.wide] at h, ?_⟩;have hsub := h1.sub_own;have hnl : ∀ p ∈ vs.zip (c.args.toList.map a.eval), V (g.cut 0) p.1 p.2 := by
           intro p hp;have hm : p.1 ∈ vs := (List.of_mem_zip hp).1;exact (h1.vals p (by simp [hp])).cut 0 ((h1.vals p (by simp [hp])).norl 0 (qa (List.all_eq_true.1 hnr p.1 hm)))
         have hcut : (g.cut 0).ι = [] := by simp [Gh.cut]
         have hOs : kY w (g.cut 0).ι [] = [] := by simp [kY]
         have hRa : R (g.cut 0) (ky (vs.zip (c.args.toList.map a.eval))) (vs.zip (c.args.toList.map a.eval)) [] w := by
           refine ⟨by simp [Gh.cut], hnl, fun id b o h => by rw [hcut] at h; simp at h, ?_, ?_, fun b hb => hsub.lt b (by simp [hb]), h1.claim, fun id b o h => by rw [hcut] at h; simp at h, fun b hb => hsub.spare b (by simp [hb]), h1.glob, h1.zs⟩
           . rw [hOs, rM]; exact (List.nodup_append.1 hsub.nodup).1
           . rw [hOs, rM]; exact fun b hb => hb
         have hlen : vs.length = (c.args.map a.eval).toList.length := by simpa using h3
         have hcall' := hcc (g.cut 0) _ (c.args.map a.eval) w hC hlen (by simpa using hRa);have e : (#[] : Array Value) ++ c.args.map a.eval ++ #[] = c.args.map a.eval := by simp
         rw [e];refine zI (hcall'.mono ?_);rintro e w' ⟨g', O', v', rfl, hg, hR', hk⟩
         -- the caller's own ghost, with what has come to be known
         let g'' : Gh := { ι := g.ι, M := g'.M, T := g'.T, C := g.C, Z := g'.Z, E := g'.E }
         have hV0 : V (g'.cut 0) v v' := (hR'.vals (v, v') (by simp)).cut 0 ((hR'.vals (v, v') (by simp)).norl 0 hnv);have hV : V g'' v v' := by
           refine hV0.mono (fun id b hb => by simp [Gh.cut] at hb) (fun _ _ _ h => h) (fun _ _ => rfl) (fun _ => rP _)
         have hgrow : Grow (ky (vs.zip (c.args.toList.map a.eval)) ++ kY w g.ι s.σ) g w (ky [(v, v')] ++ kY w g.ι s.σ) g'' w' := by
           refine ⟨hg.size, fun b hb hO => hg.same b hb (fun hm => hO (by simp [show b ∈ ky (vs.zip (c.args.toList.map a.eval)) by simpa using hm])), hg.mono, fun _ _ h => h, fun b hb => ?_, rfl, hg.os, hg.tape, hg.output, hg.zm⟩
           rcases List.mem_append.1 hb with hb | hb
           . rcases hg.fresh b (hR'.sub b (by simp [hb])) with h1 | h1
             . exact .inl (by simp at h1 ⊢; exact .inl h1)
             . exact .inr h1
           . exact .inl (by simp [hb])
         have hSlt : ∀ b ∈ kY w g.ι s.σ, b < w.heap.size /\ b ∉ ky (vs.zip (c.args.toList.map a.eval)) := by
           intro b hb;refine ⟨hsub.lt b (by simp [hb]), fun hm => (List.nodup_append.1 hsub.nodup).2.2 b hm b hb rfl⟩
         have hSsame : ∀ b ∈ kY w g.ι s.σ, w'.heap[b]? = w.heap[b]? /\ g'.T b = g.T b /\ ∀ o, g'.M b o = g.M b o := by
           intro b hb;obtain ⟨q1, q2⟩ := hSlt b hb;exact hg.same b q1 (by simpa using q2)
         have hOO : ∀ (id b : Nat) x, g.ι[id]? = some (Blk.bk b) -> s.σ[id]? = some x -> kR w' b x = kR w b x := by
           intro id b x q1 q2
           by_cases hd : x.live = false
           . rw [kW hd, kW hd]
           . exact qL (hSsame b (kB q1 q2 (kv hd))).1 x
         have hS' : kY w' g.ι s.σ = kY w g.ι s.σ := by simp only [kY]; rw [qX (vZ hOO)]
         have hRes : R g'' (ky [(v, v')] ++ kY w g.ι s.σ) [(v, v')] s.σ w' := by
           refine ⟨hsub.len, fun p hp => by simp at hp; subst hp; exact hV, fun id b x q1 q2 => ?_, ?_, fun b hb => by rw [hS'] at hb; exact hb, fun b hb => ?_, hR'.claim, fun id b x q1 q2 hm k => ?_, fun b hb => ?_, hR'.glob, hR'.zs⟩
           . cases b with
             | un zs => exact hsub.objo id (.un zs) x q1 q2
             | bk b =>
             by_cases hd : x.live = false
             . exact (hsub.objs id b x q1 q2).of_dead hd (fun _ _ h => h) hg.zm
             . exact (hsub.objs id b x q1 q2).mono (hSsame b (kB q1 q2 (kv hd))).1 (fun _ _ h => h) hg.mono rfl (fun b' hb' => (hSsame b' (kB q1 q2 hb')).2.1) hg.zm
           . rw [hS', List.nodup_append];refine ⟨(List.nodup_append.1 hR'.nodup).1, (List.nodup_append.1 hsub.nodup).2.1, fun b hb c hc e => ?_⟩;subst e;obtain ⟨q1, q2⟩ := hSlt b hc
             rcases hg.fresh b (hR'.sub b (by simp [hb])) with h1 | h1
             . exact q2 (by simpa using h1)
             . omega
           . rcases List.mem_append.1 hb with hb | hb
             . exact hR'.lt b (hR'.sub b (by simp [hb]))
             . exact Nat.lt_of_lt_of_le (hSlt b hb).1 hg.size
           . rw [hOO id b x q1 q2] at hm;rw [(hSsame b (kB q1 q2 hm)).2.2 k];exact hsub.apart id b x q1 q2 hm k
           . rcases List.mem_append.1 hb with hb | hb
             . exact hR'.spare b (hR'.sub b (by simp [hb]))
             . obtain ⟨e1, e2, e3⟩ := hSsame b hb;intro ext top ht;have ht' : g.T b = some (ext, top) := by rw [<- e2]; exact ht
               obtain ⟨⟨c, el, fz, q1, q2, q3⟩, q4⟩ := hsub.spare b (by simp [hb]) ext top ht';exact ⟨⟨c, el, fz, by rw [e1]; exact q1, q2, q3⟩, fun o ho => by show g'.M b o = none; rw [e3]; exact q4 o ho⟩
         obtain ⟨O'', hR'', hg''⟩ := h1.frame hgrow hRes;exact n1 rfl _ _ ⟨g'', O'', [], hg'', by simpa using hR'', h2, rfl, Keep.refl _⟩
       . cases hs
     . cases hs
   . cases hs
 . cases hs
end Go.Idl
namespace Go.Idl
variable [Globs]
variable {P : Program} {g : Gh} {w : World}
def jeo (P : Program) (fl : TypeId -> Option (List Nat)) : Nat -> List Field -> Option (List Nat)
 | _, [] => some []
 | off, f :: fs => if f.name != "_" && f.offset == off then match fl f.type, P.info? f.type with
   | some ks, some i => if ks.length == i.size then match jeo P fl (off + i.size) fs with
     | some r => some (ks ++ r)
     | none => none
     else none
   | _, _ => none
   else none
def yN (P : Program) : Nat -> TypeId -> Option (List Nat)
 | 0, _ => none
 | d + 1, T => match P.underlying T, P.info? T with
   | some .bool, some i => if i.size == 1 then some [2] else none
   | some (.int _), some i => if i.size == 1 then some [0] else none
   | some .string, some i => if i.size == 1 then some [1] else none
   | some (.array n E), some i => match yN P d E, P.info? E with
     | some ks, some e => if ks.length == e.size && i.size == n * e.size then some (List.replicate n ks).flatten else none
     | _, _ => none
   | some (.struct fs), some i => match jeo P (yN P d) 0 fs.toList with
     | some ks => if ks.length == i.size && !P.stoodInHeld T then some ks else none
     | none => none
   | _, _ => none
def pnT (P : Program) (T : TypeId) : Option Nat :=
 match P.underlying T with
 | some (.struct _) => (P.info? T).map (·.size)
 | some (.array _ _) => (P.info? T).map (·.size)
 | _ => none
def QO : Option Nat -> IVal -> Prop
 | some n, z => ∃ cs, z = .agg cs /\ cs.length = n
 | none, z => z.isCell = true
theorem JV {n : Option Nat} {cs : List IVal} {off : Nat} {z : IVal} (hi : ∀ x ∈ cs, x.isCell = true) (h : jA n cs off = some z) : QO n z := by
 cases n with
 | some n =>
   simp only [jA] at h
   split at h
   . simp only [zO] at h; subst h; exact ⟨_, rfl, by simp; omega⟩
   . cases h
 | none => exact hi z (zM h)
theorem Qi {d : Nat} {T : TypeId} {ks : List Nat} (h : yN P d T = some ks) : tyN P T (pnT P T) = true /\ ∃ i, P.info? T = some i /\ i.size = (pnT P T).getD 1 /\ ks.length = i.size := by
 cases d with
 | zero => simp [yN] at h
 | succ d =>
   simp only [yN] at h
   split at h
   . rename_i h1 h2; split at h <;> simp at h; subst h; rename_i h3; simp only [beq_iff_eq] at h3; simp [tyN, pnT, h1, h2, h3]
   . rename_i h1 h2; split at h <;> simp at h; subst h; rename_i h3; simp only [beq_iff_eq] at h3; simp [tyN, pnT, h1, h2, h3]
   . rename_i h1 h2; split at h <;> simp at h; subst h; rename_i h3; simp only [beq_iff_eq] at h3; simp [tyN, pnT, h1, h2, h3]
   . rename_i n E i h1 h2
     split at h
     . split at h <;> simp at h; subst h; rename_i h3
       simp only [zA, beq_iff_eq] at h3
       simp [tyN, pnT, h1, h2, h3]
     . cases h
   . rename_i h1 h2
     split at h
     . split at h <;> simp at h; subst h; rename_i h3
       simp only [zA, beq_iff_eq] at h3
       simp [tyN, pnT, h1, h2, h3.1]
     . cases h
   . cases h
theorem KC {n : Option Nat} {cs : List IVal} {off : Nat} (h : off + n.getD 1 <= cs.length) : ∃ z, jA n cs off = some z := by
 cases n with
 | some n => simp only [jA]; rw [if_pos (by simpa using h)]; exact ⟨_, rfl⟩
 | none => simp only [jA]; simp at h; exact ⟨cs[off], by rw [rG]⟩
theorem jch : ∀ {ks ls : List Nat} {a b c d : List IVal}, a.length = ks.length -> c.length = ks.length -> eqK (ks ++ ls) (a ++ b) (c ++ d) = match eqK ks a c with
   | some true => eqK ls b d
   | some false => some false
   | none => none := by
 intro ks
 induction ks with
 | nil => intro ls a b c d h h'; cases a <;> simp at h; cases c <;> simp at h'; simp [eqK]
 | cons k ks ih =>
   intro ls a b c d h h'
   cases a with
   | nil => simp at h
   | cons x a =>
   cases c with
   | nil => simp at h'
   | cons y c =>
     simp only [tI, eqK]
     split
     . cases qh x y with
       | none => rfl
       | some r => cases r with
         | false => rfl
         | true => exact ih (by simpa using h) (by simpa using h')
     . rfl
theorem jag {ks ls : List Nat} {xs ys : List IVal} {off : Nat} {r : Bool} (h1 : off + ks.length <= xs.length) (h2 : off + ks.length <= ys.length) (h : eqK (ks ++ ls) (xs.drop off) (ys.drop off) = some r) :
   ∃ r1, eqK ks ((xs.drop off).take ks.length) ((ys.drop off).take ks.length) = some r1 /\ ((r1 = false /\ r = false) \/ (r1 = true /\ eqK ls (xs.drop (off + ks.length)) (ys.drop (off + ks.length)) = some r)) := by
 have e1 : xs.drop off = (xs.drop off).take ks.length ++ xs.drop (off + ks.length) := by rw [<- List.drop_drop]; exact (List.take_append_drop _ _).symm
 have e2 : ys.drop off = (ys.drop off).take ks.length ++ ys.drop (off + ks.length) := by rw [<- List.drop_drop]; exact (List.take_append_drop _ _).symm
 rw [e1, e2, jch (by simp; omega) (by simp; omega)] at h
 split at h
 . rename_i q; exact ⟨true, q, .inr ⟨rfl, h⟩⟩
 . rename_i q; simp at h; exact ⟨false, q, .inl ⟨rfl, h⟩⟩
 . cases h
def EqP (P : Program) (g : Gh) (d : Nat) (T : TypeId) (ks : List Nat) : Prop := ∀ (w : World) (z1 z2 : IVal) (u1 u2 : Value) (r : Bool), V g z1 u1 -> V g z2 u2 -> QO (pnT P T) z1 -> QO (pnT P T) z2 -> eqK ks z1.cells z2.cells = some r ->
 (Op.equalIn d T u1 u2).run P w = .ok r w
theorem yO {n : Option Nat} {cs : List IVal} {off : Nat} {z : IVal} (hi : ∀ x ∈ cs, x.isCell = true) (h : jA n cs off = some z) : z.cells = (cs.drop off).take (n.getD 1) := by
 cases n with
 | some n =>
   simp only [jA] at h
   split at h
   . simp only [zO] at h; subst h; rfl
   . cases h
 | none =>
   simp only [jA] at h
   have hc := hi z (zM h)
   have e1 : z.cells = [z] := by cases z <;> simp_all [IVal.cells, IVal.isCell]
   have hlt := jk h
   rw [e1, List.drop_eq_getElem_cons hlt]
   have := (List.getElem?_eq_some_iff.1 h).2
   simp [this]
structure AggV (g : Gh) (xs : List IVal) (us : Array Value) : Prop where
 len : xs.length = us.size
 vals : ∀ (i : Nat) x u, xs[i]? = some x -> us[i]? = some u -> V g x u
 cell : ∀ x ∈ xs, x.isCell = true
theorem jbu {d D : Nat} {T : TypeId} {ks ls : List Nat} {xs ys : List IVal} {us vs : Array Value} {off : Nat} {r : Bool} (w : World) (hu : AggV g xs us) (hv : AggV g ys vs) (hT : yN P d T = some ks) (IH : EqP P g D T ks) (h1 : off + ks.length <= xs.length) (h2 : off + ks.length <= ys.length)
   (he : eqK (ks ++ ls) (xs.drop off) (ys.drop off) = some r) : ∃ a b r1, (part T us off).run P w = .ok a w /\ (part T vs off).run P w = .ok b w /\ (Op.equalIn D T a b).run P w = .ok r1 w /\
     ((r1 = false /\ r = false) \/ (r1 = true /\ eqK ls (xs.drop (off + ks.length)) (ys.drop (off + ks.length)) = some r)) := by
 obtain ⟨ht, j, hj, hsz, hkl⟩ := Qi hT
 obtain ⟨z1, hz1⟩ := KC (n := pnT P T) (cs := xs) (off := off) (by rw [<- hsz, <- hkl]; exact h1)
 obtain ⟨z2, hz2⟩ := KC (n := pnT P T) (cs := ys) (off := off) (by rw [<- hsz, <- hkl]; exact h2)
 obtain ⟨a, ha, hVa, -⟩ := zx (P := P) (w := w) ht hu.len hu.vals hu.cell hz1
 obtain ⟨b, hb, hVb, -⟩ := zx (P := P) (w := w) ht hv.len hv.vals hv.cell hz2
 obtain ⟨r1, hr1, hr2⟩ := jag h1 h2 he
 exact ⟨a, b, r1, ha, hb, IH w z1 z2 a b r1 hVa hVb (JV hu.cell hz1) (JV hv.cell hz2) (by rw [yO hu.cell hz1, yO hv.cell hz2, <- hsz, <- hkl]; exact hr1), hr2⟩
theorem YA {xs ys : List IVal} {r : Bool} (h : eqK [] xs ys = some r) : r = true := by
 cases xs <;> cases ys <;> simp [eqK] at h; exact h
theorem YB {d D : Nat} {xs ys : List IVal} {us vs : Array Value} (hu : AggV g xs us) (hv : AggV g ys vs) (IH : ∀ T ks, yN P d T = some ks -> EqP P g D T ks) : ∀ (fs : List Field) (off : Nat) (ks : List Nat) (r : Bool) (w : World), jeo P (yN P d) off fs = some ks -> off + ks.length <= xs.length -> off + ks.length <= ys.length ->
   eqK ks (xs.drop off) (ys.drop off) = some r -> (Op.eqFields D us vs fs).run P w = .ok r w := by
 intro fs
 induction fs with
 | nil =>
   intro off ks r w hl h1 h2 he
   simp [jeo] at hl
   subst hl
   rw [YA he]
   simp [Op.eqFields]
 | cons f fs ih =>
   intro off ks r w hl h1 h2 he
   simp only [jeo] at hl
   split at hl
   . rename_i hc
     simp only [zA, bne_iff_ne, beq_iff_eq] at hc
     obtain ⟨c1, c2⟩ := hc
     split at hl
     . rename_i kf i hk hi
       split at hl
       . rename_i hsz
         simp only [beq_iff_eq] at hsz
         split at hl
         . rename_i kr hr
           simp only [zO] at hl
           subst hl
           simp only [rF] at h1 h2
           obtain ⟨a, b, r1, ha, hb, hq, hr2⟩ := jbu w hu hv hk (IH _ _ hk) (by omega) (by omega) he
           simp only [Op.eqFields]
           rw [if_pos c1, c2]
           simp only [Sem.run_bind, ha, hb, hq, Result.andThen_ok]
           rcases hr2 with ⟨rfl, rfl⟩ | ⟨rfl, hr2⟩
           . simp
           . simp only [Bool.not_true, r8, if_false]
             exact ih (off + i.size) kr r w hr (by omega) (by omega) (by rw [<- hsz]; exact hr2)
         . cases hl
       . cases hl
     . cases hl
   . cases hl
theorem jah {d D : Nat} {E : TypeId} {ks : List Nat} {xs ys : List IVal} {us vs : Array Value} (hu : AggV g xs us) (hv : AggV g ys vs) (hE : yN P d E = some ks) (IH : EqP P g D E ks) : ∀ (m k : Nat) (r : Bool) (w : World), (k + m) * ks.length <= xs.length -> (k + m) * ks.length <= ys.length ->
   eqK (List.replicate m ks).flatten (xs.drop (k * ks.length)) (ys.drop (k * ks.length)) = some r -> (Op.eqItems D E ks.length us vs (List.range' k m)).run P w = .ok r w := by
 intro m
 induction m with
 | zero =>
   intro k r w h1 h2 he
   simp only [List.replicate_zero, List.flatten_nil] at he
   rw [YA he]
   simp [Op.eqItems]
 | succ m ih =>
   intro k r w h1 h2 he
   have hx : k * ks.length + ks.length <= xs.length := by
     refine Nat.le_trans ?_ h1
     rw [show k + (m + 1) = (k + 1) + m by omega, tH, tH]; omega
   have hy : k * ks.length + ks.length <= ys.length := by
     refine Nat.le_trans ?_ h2
     rw [show k + (m + 1) = (k + 1) + m by omega, tH, tH]; omega
   simp only [List.replicate_succ, List.flatten_cons] at he
   obtain ⟨a, b, r1, ha, hb, hq, hr2⟩ := jbu w hu hv hE IH hx hy he
   simp only [List.range'_succ, Op.eqItems]
   simp only [Sem.run_bind, ha, hb, hq, Result.andThen_ok]
   rcases hr2 with ⟨rfl, rfl⟩ | ⟨rfl, hr2⟩
   . simp
   . simp only [Bool.not_true, r8, if_false]
     refine ih (k + 1) r w (by rw [show k + 1 + m = k + (m + 1) by omega]; exact h1) (by rw [show k + 1 + m = k + (m + 1) by omega]; exact h2) ?_
     rw [tH, Nat.one_mul]; exact hr2
def Vj : TypeDesc -> Nat -> Bool
 | .int _, 0 => true
 | .string, 1 => true
 | .bool, 2 => true
 | _, _ => false
theorem Vc {d : Nat} {T : TypeId} {kd : TypeDesc} {k : Nat} {z1 z2 : IVal} {u1 u2 : Value} {r : Bool} (hT : P.underlying T = some kd) (hk : Vj kd k = true) (hV1 : V g z1 u1) (hV2 : V g z2 u2) (hkk : Jf k z1 = true) (he : qh z1 z2 = some r) : (Op.equalIn (d + 1) T u1 u2).run P w = .ok r w := by
 unfold qh at he
 split at he
 . rename_i k1 a k2 b
   split at he
   . rename_i hkk2
     subst hkk2
     simp at he; subst he
     rw [hV1.int_inv, hV2.int_inv]
     have : k = 0 := by unfold Jf at hkk; split at hkk <;> simp_all
     subst this
     cases kd <;> simp [Vj] at hk
     exact run_equalIn_int w d T _ _ _ _ hT
   . cases he
 . simp at he; subst he
   rw [hV1.bool_inv, hV2.bool_inv]
   have : k = 2 := by unfold Jf at hkk; split at hkk <;> simp_all
   subst this
   cases kd <;> simp [Vj] at hk
   exact run_equalIn_bool w d T _ _ hT
 . simp at he; subst he
   obtain ⟨t1, rfl, e1⟩ := hV1.str_inv
   obtain ⟨t2, rfl, e2⟩ := hV2.str_inv
   have : k = 1 := by unfold Jf at hkk; split at hkk <;> simp_all
   subst this
   cases kd <;> simp [Vj] at hk
   rw [run_equalIn_string w d T _ _ hT, ByteArray.toList_eq, ByteArray.toList_eq, e1, e2]
 . cases he
theorem jci : ∀ (d : Nat) (T : TypeId) (ks : List Nat), yN P d T = some ks -> ∀ D, d <= D -> EqP P g D T ks := by
 intro d
 induction d with
 | zero => intro T ks h; simp [yN] at h
 | succ d ih =>
   intro T ks h D0 hD w z1 z2 u1 u2 r hV1 hV2 s1 s2 he
   obtain ⟨D, rfl⟩ : ∃ D, D0 = D + 1 := ⟨D0 - 1, by omega⟩
   simp only [yN] at h
   have cell : ∀ kd k, P.underlying T = some kd -> Vj kd k = true -> pnT P T = none -> eqK [k] z1.cells z2.cells = some r -> (Op.equalIn (D + 1) T u1 u2).run P w = .ok r w := by
     intro kd k hT hk hp he
     rw [hp] at s1 s2
     have e1 : z1.cells = [z1] := by cases z1 <;> simp_all [IVal.cells, IVal.isCell, QO]
     have e2 : z2.cells = [z2] := by cases z2 <;> simp_all [IVal.cells, IVal.isCell, QO]
     rw [e1, e2] at he
     simp only [eqK] at he
     split at he
     . rename_i hkk
       split at he
       . rename_i q; simp at he; subst he; exact Vc hT hk hV1 hV2 hkk q
       . rename_i q; simp at he; subst he; exact Vc hT hk hV1 hV2 hkk q
       . cases he
     . cases he
   split at h
   . rename_i h1 h2; split at h <;> simp at h; subst h; exact cell _ 2 h1 rfl (by simp [pnT, h1]) he
   . rename_i h1 h2; split at h <;> simp at h; subst h; exact cell _ 0 h1 rfl (by simp [pnT, h1]) he
   . rename_i h1 h2; split at h <;> simp at h; subst h; exact cell _ 1 h1 rfl (by simp [pnT, h1]) he
   . rename_i n E i h1 h2
     split at h
     . rename_i kE e hk hi
       split at h <;> simp at h
       rename_i h3
       subst h
       simp only [zA, beq_iff_eq] at h3
       obtain ⟨h3, h4⟩ := h3
       have hp : pnT P T = some i.size := by simp [pnT, h1, h2]
       rw [hp] at s1 s2
       obtain ⟨xs, rfl, l1⟩ := s1
       obtain ⟨ys, rfl, l2⟩ := s2
       obtain ⟨us, rfl, a1, a2, a3⟩ := hV1.agg_inv
       obtain ⟨vs, rfl, b1, b2, b3⟩ := hV2.agg_inv
       rw [run_equalIn_array w D us vs h1 hi]
       have hc : P.cellsOf E = kE.length := by rw [h3]; simp [Program.cellsOf, hi]
       rw [hc, List.range_eq_range']
       refine jah ⟨a1, a2, a3⟩ ⟨b1, b2, b3⟩ hk (ih E kE hk D (by omega)) n 0 r w ?_ ?_ (by simpa [IVal.cells] using he)
       . rw [l1, h4, h3]; simp
       . rw [l2, h4, h3]; simp
     . cases h
   . rename_i fs i h1 h2
     split at h
     . rename_i kF hk
       split at h <;> simp at h
       rename_i h3
       subst h
       simp only [zA, beq_iff_eq, tT] at h3
       obtain ⟨h3, h4⟩ := h3
       have hp : pnT P T = some i.size := by simp [pnT, h1, h2]
       rw [hp] at s1 s2
       obtain ⟨xs, rfl, l1⟩ := s1
       obtain ⟨ys, rfl, l2⟩ := s2
       obtain ⟨us, rfl, a1, a2, a3⟩ := hV1.agg_inv
       obtain ⟨vs, rfl, b1, b2, b3⟩ := hV2.agg_inv
       have hF : P.fieldsOf T = fs := by simp [Program.fieldsOf, h1]
       rw [run_equalIn_struct w D T us vs (by rw [hF]; exact h1) h4, hF]
       exact YB ⟨a1, a2, a3⟩ ⟨b1, b2, b3⟩ (fun T ks h => ih T ks h D (by omega)) fs.toList 0 kF r w hk (by omega) (by omega) (by simpa [IVal.cells] using he)
     . cases h
   . cases h
end Go.Idl
namespace Go.Idl
variable [Globs]
variable {P : Program} {o : Oper} {a : Act} {g : Gh} {O : List Nat} {w : World} {s : St} {res : Res} {cf : kt}
def q9 (P : Program) (o : Oper) (a : Act) (k : PurK) (rs : List Operand) : Prop :=
 ∀ (g : Gh) (w : World) (vs : List IVal) (v : IVal), vs.length = rs.length -> (∀ (i : Nat) x r, vs[i]? = some x -> rs[i]? = some r -> V g x (a.eval r)) -> (∀ b o c, g.M b o = some c -> w.cell? ⟨b, o, none⟩ = some c) -> jS k vs = some v ->
   ∃ u, (execOp a.eval o).run P w = .ok (.value u) w /\ V g v u /\ kl v u = []
theorem qq {k : PurK} {xs : List Opd} {rs : List Operand} (hx : ka xs rs = true) (hp : q9 P o a k rs) (hs : ja cf (.pur k xs) s = some res)
   (hl : WT s.ts a.tmps) (hR : R g O (s.ts.roots a.tmps) s.σ w) : SimV P o a g O w s res := by
 simp only [ja] at hs
 split at hs
 . rename_i vs ts h
   split at hs
   . rename_i v hv
     simp only [rv, zO] at hs
     subst hs
     obtain ⟨h1, h2, h3⟩ := kD (l := []) hx h hl hR
     simp only [List.length_map] at h3
     obtain ⟨u, hu, hV, ho⟩ := hp g w vs v h3 (fun i x r hx hr => h1.vals (x, a.eval r) (rZ _ (zM (i := i) (by simp [List.getElem?_zip_eq_some, hx, hr])))) h1.claim hv
     exact SimV.same hu ((R.drops h1).push hV ho) h2
   . cases hs
 . cases hs
def Ji (neg : Bool) : BinOp := if neg then .neq else .eql
theorem jdi {neg : Bool} {T : TypeId} {us vs : Array Value} {r : Bool} (h : (Op.equalIn 10000 T (.agg us) (.agg vs)).run P w = .ok r w) : (binOp (Ji neg) T (.agg us) (.agg vs)).run P w = .ok (.bool (r != neg)) w := by
 cases neg
 . simp only [Ji, r8, if_false]; rw [run_eql_struct, h]; cases r <;> rfl
 . simp only [Ji, if_true]; rw [run_neq_struct, h]; cases r <;> rfl
theorem jaw {α : Type} {vs : List α} (h : vs.length = 1) : ∃ x, vs = [x] := by
 rcases vs with _ | ⟨x, _ | ⟨y, vs⟩⟩ <;> simp at h
 exact ⟨x, rfl⟩
theorem jfH {α : Type} {vs : List α} (h : vs.length = 2) : ∃ x y, vs = [x, y] := by
 rcases vs with _ | ⟨x, _ | ⟨y, _ | ⟨z, vs⟩⟩⟩ <;> simp at h
 exact ⟨x, y, rfl⟩
theorem jc4 {neg : Bool} {ks : List Nat} {T T' : TypeId} {rx ry : Operand} (hop : o.op = .binOp (Ji neg) T rx ry T') (hT : yN P 1000 T = some ks) (hag : (pnT P T).isSome = true) (hg : P.eqGuardType P.depth T = false) :
   q9 P o a (.eqa neg ks) [rx, ry] := by
 intro g w vs v hl hV hm hv
 obtain ⟨x, y, rfl⟩ := jfH hl
 cases x <;> cases y <;> simp only [jS] at hv <;> try (cases hv; done)
 rename_i xs ys
 split at hv
 . rename_i hlen
   split at hv
   . rename_i r hr
     simp only [zO] at hv
     subst hv
     have hx := hV 0 _ rx rfl rfl
     have hy := hV 1 _ ry rfl rfl
     obtain ⟨us, e1, a1, a2, a3⟩ := hx.agg_inv
     obtain ⟨vs, e2, b1, b2, b3⟩ := hy.agg_inv
     obtain ⟨n, hn⟩ := Option.isSome_iff_exists.1 hag
     obtain ⟨-, i, -, hi2, hi3⟩ := Qi hT
     rw [hn] at hi2
     simp only [Option.getD_some] at hi2
     have hq := jci 1000 T ks hT 10000 (by omega) w (.agg xs) (.agg ys) (a.eval rx) (a.eval ry) r hx hy (by rw [hn]; exact ⟨xs, rfl, by omega⟩) (by rw [hn]; exact ⟨ys, rfl, by omega⟩) (by simpa [IVal.cells] using hr)
     rw [e1, e2] at hq
     refine ⟨.bool (r != neg), ?_, .bool _, rfl⟩
     have hb := jdi (neg := neg) hq
     have hgd := run_eqGuard_agg (P := P) w (Ji neg) T rx ry us vs hg
     simp [execOp, hop, e1, e2, hgd, hb]
   . cases hv
 . cases hv
theorem yx : ∀ {xs : List IVal} {l : List UInt8}, vB xs = some l -> ∃ ns : List Int, xs = ns.map (.int .u8) /\ l = ns.map fun n => UInt8.ofNat n.toNat := by
 intro xs
 induction xs with
 | nil => intro l h; simp [vB] at h; exact ⟨[], rfl, h⟩
 | cons x xs ih =>
   intro l h
   unfold vB at h
   split at h
   . cases ‹_ = []›
   . rename_i n ys e
     cases e
     split at h
     . rename_i l' h'
       simp only [zO] at h
       obtain ⟨ns, rfl, rfl⟩ := ih h'
       exact ⟨n :: ns, rfl, h.symm⟩
     . cases h
   . cases h
theorem Kl (ns : List Int) : ∀ (b : ByteArray), (ns.foldl (fun r n => r.push (UInt8.ofNat n.toNat)) b).data.toList = b.data.toList ++ ns.map fun n => UInt8.ofNat n.toNat := by
 induction ns with
 | nil => intro b; simp
 | cons n ns ih => intro b; simp only [List.foldl_cons, rR]; rw [ih]; simp [ByteArray.push]
theorem ZW {xs : List IVal} {vs : List Value} {ns : List Int} (hx : xs = ns.map (.int .u8)) (hl : xs.length = vs.length) (hv : ∀ (i : Nat) x v, xs[i]? = some x -> vs[i]? = some v -> V g x v) : vs = ns.map (.int .u8) := by
 apply List.ext_getElem?
 intro i
 subst hx
 simp only [List.length_map] at hl
 by_cases hi : i < ns.length
 . have h1 : (ns.map (IVal.int .u8))[i]? = some (.int .u8 ns[i]) := by simp [hi]
   have h2 : vs[i]? = some (vs[i]'(by omega)) := by simp
   have := (hv i _ _ h1 h2).int_inv
   rw [h2, this]
   simp [hi]
 . rw [rV (by omega), rV (by simp; omega)]
theorem jaV {S T e : TypeId} {r : Operand} (hop : o.op = .convert S T r) (hS : P.underlying S = some (.slice e)) (he : P.underlying e = some (.int .u8)) (hT : P.underlying T = some .string) : q9 P o a .text [r] := by
 intro g w vs v hl hV hm hv
 obtain ⟨x, rfl⟩ := jaw hl
 cases x <;> simp only [jS] at hv <;> try (cases hv; done)
 rename_i own rf xs
 split at hv
 . rename_i l hb
   simp only [zO] at hv
   subst hv
   obtain ⟨ns, hns, rfl⟩ := yx hb
   have hx := hV 0 _ r rfl rfl
   have key : ∀ t : ByteArray, (execOp a.eval o).run P w = .ok (.value (.string t)) w -> t.data.toList = ns.map (fun n => UInt8.ofNat n.toNat) -> ∃ u, (execOp a.eval o).run P w = .ok (.value u) w /\ V g (.str (ns.map fun n => UInt8.ofNat n.toNat)) u /\ kl (.str (ns.map fun n => UInt8.ofNat n.toNat)) u = [] := by
     intro t h1 h2
     refine ⟨_, h1, ?_, rfl⟩
     rw [<- h2]; exact .str t
   generalize hu : a.eval r = u at hx
   cases hx with
   | nil =>
     have : ns = [] := by cases ns <;> simp at hns ⊢
     subst this
     refine key .empty ?_ rfl
     have := run_convert_bytes_string (P := P) w S T e none 0 0 hS he hT
     simp [execOp, hop, hu, this, Conv.bytesToString]
   | sl _ _ _ vs ad cap esz hs' hc hl' hv' hf hr hz hcl ho =>
     have hvs := ZW hns hl' hv'
     have hfl : jJ vs = vs := by rw [hvs]; clear hvs hns hb hv' hl' key hl; induction ns with
       | nil => rfl
       | cons n ns ih => simp only [jJ, rR, rO] at ih ⊢; rw [ih]; rfl
     refine key (ns.foldl (fun r n => r.push (UInt8.ofNat n.toNat)) ByteArray.empty) ?_ (by rw [Kl]; rfl)
     have hload : (loadCells ad xs.length).run P w = .ok (ns.map (Value.int .u8)).toArray w := by
       have hlen : xs.length = (ns.map (Value.int .u8)).length := by rw [hns]; simp
       rw [hlen]
       refine run_loadCells_list (P := P) (w := w) ad (ns.map (Value.int .u8)) (fun j c hj => ?_)
       have had : 0 < cap := by have := jk hj; simp at this; rw [hns] at hc; simp at hc; omega
       have hsp := hs' had
       have hadd : ad.add j = ⟨ad.block, ad.off + j, none⟩ := by
         cases ad; simp at hsp; subst hsp; exact kA _ _ _
       rw [hadd]
       refine hm _ _ _ (hcl j c ?_)
       rw [hfl, hvs]; exact hj
     have h1 := run_convert_bytes_string (P := P) w S T e (some ad) xs.length cap hS he hT
     have h2 := run_bytesToString (P := P) w ad xs.length cap ns hload
     simp [execOp, hop, hu, h1, h2]
 . cases hv
theorem jaU {S T : TypeId} {r : Operand} (hop : o.op = .convert S T r) (hS : (P.underlying S).isSome = true) (hT : P.underlying T = some .string) : q9 P o a .rune [r] := by
 intro g w vs v hl hV hm hv
 obtain ⟨x, rfl⟩ := jaw hl
 cases x <;> simp only [jS] at hv <;> try (cases hv; done)
 rename_i k n
 split at hv
 . rename_i hn
   simp only [zO] at hv
   subst hv
   have hx := (hV 0 _ r rfl rfl).int_inv
   have he : Utf8.encode n = ⟨#[UInt8.ofNat n.toNat]⟩ := by
     have hv : Utf8.valid n = true := by simp [Utf8.valid]; omega
     have hc : n.toNat < 0x80 := by omega
     simp [Utf8.encode, hv, hc]
   refine ⟨.string (Utf8.encode n), ?_, ?_, rfl⟩
   . simp [execOp, hop, hx, run_convert_int_string (P := P) w S T k n hS hT]
   . rw [he]; exact .str (g := g) ⟨#[UInt8.ofNat n.toNat]⟩
 . simp only [zO] at hv
   subst hv
   have hx := (hV 0 _ r rfl rfl).int_inv
   refine ⟨.string (Utf8.encode n), ?_, .str (g := g) (Utf8.encode n), rfl⟩
   simp [execOp, hop, hx, run_convert_int_string (P := P) w S T k n hS hT]
theorem jgc {ok : Bool} {x : IVal} {v : Value} (hV : V g x v) (hf : vl x) : V g (KD ok x) (if ok then .tuple #[v, .bool true] else v) /\ kl (KD ok x) (if ok then .tuple #[v, .bool true] else v) = [] := by
 cases ok
 . exact ⟨hV, kx hf v⟩
 . simp only [KD, if_true]
   refine ⟨.tup _ _ rfl (fun i y u hy hu => ?_) (fun y hy => ?_), ?_⟩
   . rcases i with _ | _ | i <;> simp at hy hu
     . subst hy hu; exact hV
     . subst hy hu; exact .bool true
   . simp at hy; rcases hy with rfl | rfl
     . exact hf.2
     . rfl
   . have : yg x v = [] := by rw [<- yq hf.2]; exact kx hf v
     show (yg x v ++ []) = []
     rw [this]; rfl
theorem jds {x : IVal} {v : Value} (hV : V g x v) (hn : nt x = true) (ho : kl x v = []) : V g (.tup [x, .bool false]) (.tuple #[v, .bool false]) /\ kl (.tup [x, .bool false]) (.tuple #[v, .bool false]) = [] := by
 refine ⟨.tup _ _ rfl (fun i y u hy hu => ?_) (fun y hy => ?_), ?_⟩
 . rcases i with _ | _ | i <;> simp at hy hu
   . subst hy hu; exact hV
   . subst hy hu; exact .bool false
 . simp at hy; rcases hy with rfl | rfl
   . exact hn
   . rfl
 . rw [yq hn] at ho
   show (yg x v ++ []) = []
   rw [ho]; rfl
theorem V.nilI_inv {v : Value} (h : V g (.prim .nilIface) v) : v = .nilIface := by cases h; rfl
theorem jdb {r : Operand} {xT A : TypeId} {ok : Bool} {z : IVal} {d : TypeDesc} {i : TypeInfo} {zv : Value} (hop : o.op = .typeAssert r xT A ok) (hA : P.underlying A = some d) (hd : ∀ ms, d ≠ .interface ms) (hi : P.info? A = some i) (hz : i.zero = some zv) (hc : cOK z zv = true) : q9 P o a (.tyC A ok z) [r] := by
 intro g w vs v hl hV hm hv
 obtain ⟨x, rfl⟩ := jaw hl
 have hzero : (zeroValue A).run P w = .ok zv w := by simp [zeroValue, typeInfo, hi, hz]
 have hno : ∀ (x : Value), (∀ t u, x = .iface t u -> t ≠ A) -> (x = .nilIface \/ ∃ t u, x = .iface t u) -> (Instr.typeAssert x xT A true).run P w = .ok (.tuple #[zv, .bool false]) w := by
   intro x h1 h2
   rcases h2 with rfl | ⟨t, u, rfl⟩
   . cases d <;> simp [Instr.typeAssert, jM hA, hzero]
   . have := h1 t u rfl
     cases d <;> simp [Instr.typeAssert, jM hA, hzero, this] <;> exact absurd rfl (hd _)
 cases x <;> simp only [jS] at hv <;> try (cases hv; done)
 . rename_i pv
   cases pv <;> simp only at hv <;> try (cases hv; done)
   split at hv
   . rename_i hc2
     simp only [zA] at hc2
     obtain ⟨rfl, hn⟩ := hc2
     simp only [zO] at hv
     subst hv
     have hx := (hV 0 _ r rfl rfl).nilI_inv
     obtain ⟨z1, z2⟩ := Z3 g hc
     obtain ⟨k1, k2⟩ := jds z1 hn z2
     refine ⟨_, ?_, k1, k2⟩
     simp [execOp, hop, hx, hno .nilIface (fun _ _ h => by cases h) (.inl rfl)]
   . cases hv
 . rename_i t x
   obtain ⟨u, hu, hVu, hf⟩ := (hV 0 _ r rfl rfl).iface_inv
   split at hv
   . rename_i ht
     subst ht
     simp only [zO] at hv
     subst hv
     obtain ⟨k1, k2⟩ := jgc (ok := ok) hVu hf
     refine ⟨_, ?_, k1, k2⟩
     have : (Instr.typeAssert (.iface t u) xT t ok).run P w = .ok (if ok then .tuple #[u, .bool true] else u) w := by
       cases d <;> cases ok <;> simp [Instr.typeAssert, jM hA] <;> exact absurd rfl (hd _)
     simp [execOp, hop, hu, this]
   . rename_i ht
     split at hv
     . rename_i hc2
       simp only [zA] at hc2
       obtain ⟨rfl, hn⟩ := hc2
       simp only [zO] at hv
       subst hv
       obtain ⟨z1, z2⟩ := Z3 g hc
       obtain ⟨k1, k2⟩ := jds z1 hn z2
       refine ⟨_, ?_, k1, k2⟩
       simp [execOp, hop, hu, hno (.iface t u) (fun t' u' h => by cases h; exact ht) (.inr ⟨_, _, rfl⟩)]
     . cases hv
theorem jdc {r : Operand} {xT A : TypeId} {ok : Bool} {yes no : List TypeId} {want : Array (String × TypeId)} {j : TypeInfo} (hop : o.op = .typeAssert r xT A ok) (hA : P.underlying A = some (.interface want)) (hj : P.info? A = some j) (hz : j.zero = some .nilIface)
   (hy : ∀ t ∈ yes, ∃ i, P.info? t = some i /\ lacking want i.methods = []) (hn : ∀ t ∈ no, ∃ i, P.info? t = some i /\ lacking want i.methods ≠ []) : q9 P o a (.tyI yes no ok) [r] := by
 intro g w vs v hl hV hm hv
 obtain ⟨x, rfl⟩ := jaw hl
 have hzero : (zeroValue A).run P w = .ok .nilIface w := by simp [zeroValue, typeInfo, hj, hz]
 obtain ⟨k1, k2⟩ := jds (g := g) (x := zG) (v := .nilIface) (.prim _ rfl) rfl rfl
 cases x <;> simp only [jS] at hv <;> try (cases hv; done)
 . rename_i pv
   cases pv <;> simp only at hv <;> try (cases hv; done)
   split at hv
   . rename_i hok
     subst hok
     simp only [zO] at hv
     subst hv
     have hx := (hV 0 _ r rfl rfl).nilI_inv
     refine ⟨_, ?_, k1, k2⟩
     simp [execOp, hop, hx, Instr.typeAssert, jM hA, hzero]
   . cases hv
 . rename_i t x
   have hxx := hV 0 _ r rfl rfl
   obtain ⟨u, hu, hVu, hf⟩ := hxx.iface_inv
   split at hv
   . rename_i ht
     simp only [List.contains_iff_mem] at ht
     simp only [zO] at hv
     subst hv
     obtain ⟨i, hi, hla⟩ := hy t ht
     have hfl : vl (.iface t x) := ⟨rfl, rfl⟩
     rw [hu] at hxx
     obtain ⟨k1, k2⟩ := jgc (ok := ok) hxx hfl
     refine ⟨_, ?_, k1, k2⟩
     have : (Instr.typeAssert (.iface t u) xT A ok).run P w = .ok (if ok then .tuple #[.iface t u, .bool true] else .iface t u) w := by
       cases ok <;> simp [Instr.typeAssert, jM hA, typeInfo, hi, missingMethod_none hla]
     simp [execOp, hop, hu, this]
   . split at hv
     . rename_i hc2
       simp only [zA, List.contains_iff_mem] at hc2
       obtain ⟨rfl, ht⟩ := hc2
       simp only [zO] at hv
       subst hv
       obtain ⟨i, hi, hla⟩ := hn t ht
       refine ⟨_, ?_, k1, k2⟩
       simp [execOp, hop, hu, run_typeAssert_lacks (P := P) (w := w) (v := u) (xT := xT) hA hi hj hz hla]
     . cases hv
theorem jda {T E : TypeId} {i : TypeInfo} {n : Nat} {r : Operand} (hop : o.op = .slice T r none none none) (hT : P.underlying T = some (.array n E)) (hE : P.info? E = some i) (h1 : i.size = 1) : q9 P o a (.slA n) [r] := by
 intro g w vs v hl hV hm hv
 obtain ⟨x, rfl⟩ := jaw hl
 cases x
 case pv rf cs off =>
   simp only [jS] at hv
   split at hv
   . rename_i hc
     obtain ⟨hn0, hc⟩ := hc
     simp only [zO] at hv
     subst hv
     have hx := hV 0 _ r rfl rfl
     have key : ∃ ad : Addr, a.eval r = .pointer (some ad) /\ ad.spot = none /\ V g (.sl 0 rf ((cs.drop off).take n)) (.slice (some ad) ((cs.drop off).take n).length n) := by
       generalize a.eval r = u at hx
       cases hx with
       | pv _ _ _ us ad hs ho hl hvv hf hr hcl =>
         refine ⟨ad, rfl, hs, ?_⟩
         have hcell : ∀ u ∈ (us.drop off).take n, u.cells = #[u] := by
           intro u hu
           have hu := tF (r9 hu)
           obtain ⟨j, hj⟩ := List.getElem?_of_mem hu
           have hjl : j < cs.length := by
             rcases Nat.lt_or_ge j us.length with h | h
             . omega
             . rw [rV h] at hj; cases hj
           have hxj := rG hjl
           have hi := (hf _ (zM hxj)).2
           have := hvv j _ _ hxj hj
           rw [this.isCell] at hi
           cases u <;> simp_all [Value.cells, ql]
         refine .sl 0 rf _ ((us.drop off).take n) ad n 1 (fun _ => hs) (by rw [tE]; omega) (by simp [hl]) (fun j x v hx hv => ?_) (fun x hx => ?_) (fun hrf x hx => ?_) (fun u hu => by rw [hcell u hu]; rfl) ?_ (fun h => absurd rfl h) (fun h => ?_)
         . have hj : j < n := by
             rcases Nat.lt_or_ge j n with h | h
             . exact h
             . rw [rV (by rw [tE]; omega)] at hx; cases hx
           rw [List.getElem?_take_of_lt hj, tA] at hx hv
           exact hvv _ _ _ hx hv
         . have h2 := hf x (tF (r9 hx))
           refine ⟨?_, ?_⟩
           . obtain ⟨e1, e2⟩ := h2; cases x <;> simp_all [un2, IVal.isCell]
           . obtain ⟨e1, e2⟩ := h2; cases x <;> simp_all [nt, IVal.isCell]
         . have h2 := hr hrf x (tF (r9 hx))
           have h3 := (hf x (tF (r9 hx))).2
           cases x <;> simp_all [nr2, IVal.isCell]
         . intro k c hk
           rw [yC hcell] at hk
           have hj : k < n := by
             rcases Nat.lt_or_ge k n with h | h
             . exact h
             . rw [rV (by rw [tE]; omega)] at hk; cases hk
           rw [List.getElem?_take_of_lt hj, tA] at hk
           have := hcl _ _ hk
           have e : ad.off - off + (off + k) = ad.off + k := by omega
           rwa [e] at this
         . exfalso
           have := congrArg List.length h
           rw [tE, List.length_drop] at this
           simp at this; omega
     obtain ⟨ad, hu, hs, hVs⟩ := key
     have hlen : ((cs.drop off).take n).length = n := by rw [tE, List.length_drop]; omega
     rw [hlen] at hVs
     refine ⟨_, ?_, hVs, by simp [kl, yg, qb]⟩
     have ha0 : ad.add 0 = ad := by simp [Addr.add]
     have hne : n ≠ 0 := by omega
     simp [execOp, hop, hu, Instr.sliceAt, jM hT, Instr.sureAddr, Instr.sliceBounds, kw hE, hne, ha0]
   . cases hv
 all_goals (simp only [jS] at hv; cases hv)
theorem jaR {c : Call} {T E : TypeId} {r : Operand} (hop : o.op = .call c) (hc : c.callee = .builtin .cap) (ha : c.args.toList = [r]) (hta : c.argTypes[0]? = some T) (hT : P.underlying T = some (.slice E)) : q9 P o a .cap0 [r] := by
 intro g w vs v hl hV hm hv
 obtain ⟨x, rfl⟩ := jaw hl
 have ha' : c.args = #[r] := by rw [<- Array.toList_inj, ha]
 cases x
 case sl own rf xs =>
   cases rf
   . simp only [jS] at hv; cases hv
   cases xs with
   | cons y ys => simp only [jS] at hv; cases hv
   | nil =>
     simp only [jS, zO] at hv
     subst hv
     have hx := hV 0 _ r rfl rfl
     have hb : a.eval r = .slice none 0 0 := by
       generalize a.eval r = u at hx
       cases hx with
       | nil => rfl
       | sl _ _ _ _ _ _ _ _ _ _ _ _ _ _ _ _ hn => exact absurd (hn rfl) (by simp)
     refine ⟨.int .i64 0, ?_, .int _ _, rfl⟩
     simp [execOp, hop, resolve, hc, ha', invoke, builtin, hb, Builtin.cap_, hta, jM hT, goInt]
 all_goals (simp only [jS] at hv; cases hv)
theorem XR {neg : Bool} {T E : TypeId} {ra rb r : Operand} {T' : TypeId} (hop : o.op = .binOp (Ji neg) T ra rb T') (hT : P.underlying T = some (.slice E)) (hn : (ra = r /\ rb = .const (.slice none 0 0)) \/ (rb = r /\ ra = .const (.slice none 0 0))) : q9 P o a (.isnilS neg) [r] := by
 intro g w vs v hl hV hm hv
 obtain ⟨x, rfl⟩ := jaw hl
 have key : (∃ ad n c, a.eval r = .slice (some ad) n c) -> v = .bool neg -> ∃ u, (execOp a.eval o).run P w = .ok (.value u) w /\ V g v u /\ kl v u = [] := by
   rintro ⟨ad, n, c, hr⟩ rfl
   refine ⟨.bool neg, ?_, .bool _, rfl⟩
   have hg : ∀ (x y : Value) op, (x = .slice (some ad) n c \/ x = .slice none 0 0) -> (y = .slice (some ad) n c \/ y = .slice none 0 0) -> (eqGuard op T ra rb x y).run P w = .ok () w := by
     intro x y op h1 h2
     unfold eqGuard
     rcases h1 with rfl | rfl <;> rcases h2 with rfl | rfl <;> split <;> simp
   have he : ∀ d : Nat, (Op.equalIn (d + 1) T (.slice (some ad) n c) (.slice none 0 0)).run P w = .ok false w /\ (Op.equalIn (d + 1) T (.slice none 0 0) (.slice (some ad) n c)).run P w = .ok false w := fun d => by
     constructor <;> simp [Op.equalIn, jM hT]
   obtain ⟨e1, e2⟩ := he 9999
   have hc : a.eval (.const (.slice none 0 0)) = .slice none 0 0 := rfl
   rcases hn with ⟨rfl, rfl⟩ | ⟨rfl, rfl⟩
   . have hb : (binOp (Ji neg) T (.slice (some ad) n c) (.slice none 0 0)).run P w = .ok (.bool neg) w := by
       cases neg <;> simp [Ji, binOp, Op.equal, Op.maxDepth, e1]
     simp [execOp, hop, hr, hc, hg _ _ _ (.inl rfl) (.inr rfl), hb]
   . have hb : (binOp (Ji neg) T (.slice none 0 0) (.slice (some ad) n c)).run P w = .ok (.bool neg) w := by
       cases neg <;> simp [Ji, binOp, Op.equal, Op.maxDepth, e2]
     simp [execOp, hop, hr, hc, hg _ _ _ (.inr rfl) (.inl rfl), hb]
 have key2 : a.eval r = .slice none 0 0 -> v = .bool (!neg) -> ∃ u, (execOp a.eval o).run P w = .ok (.value u) w /\ V g v u /\ kl v u = [] := by
   rintro hr rfl
   refine ⟨.bool (!neg), ?_, .bool _, rfl⟩
   have hg : ∀ op, (eqGuard op T ra rb (.slice none 0 0) (.slice none 0 0)).run P w = .ok () w := by
     intro op
     unfold eqGuard
     split <;> simp
   have he : ∀ d : Nat, (Op.equalIn (d + 1) T (.slice none 0 0) (.slice none 0 0)).run P w = .ok true w := fun d => by simp [Op.equalIn, jM hT]
   have e1 := he 9999
   have hc : a.eval (.const (.slice none 0 0)) = .slice none 0 0 := rfl
   have hb : (binOp (Ji neg) T (.slice none 0 0) (.slice none 0 0)).run P w = .ok (.bool (!neg)) w := by
     cases neg <;> simp [Ji, binOp, Op.equal, Op.maxDepth, e1]
   rcases hn with ⟨rfl, rfl⟩ | ⟨rfl, rfl⟩ <;> simp [execOp, hop, hr, hc, hg, hb]
 have hx := hV 0 _ r rfl rfl
 cases x <;> simp only [jS] at hv <;> try (cases hv; done)
 . rename_i own rf xs
   cases xs with
   | nil =>
     simp only [zO] at hv
     generalize hu : a.eval r = u at hx
     cases hx with
     | nil => exact key2 hu (by rw [<- hv]; cases neg <;> rfl)
     | sl _ _ _ vs ad cap _ _ _ _ _ _ _ _ _ _ hnn => exact key ⟨_, _, _, hu⟩ (by rw [<- hv, hnn rfl]; cases neg <;> rfl)
   | cons y ys =>
     simp only [zO] at hv
     refine key ?_ hv.symm
     generalize a.eval r = u at hx
     cases hx with
     | sl => exact ⟨_, _, _, rfl⟩
 . simp only [zO] at hv
   obtain ⟨b, cap, hb, -⟩ := hx.rs_inv
   exact key ⟨_, _, _, hb⟩ hv.symm
def Zf (P : Program) (t : TypeId) (n : String) : Bool := match P.info? t, P.underlying t with
 | some i, some _ => (match i.methods.find? (fun m => m.name == n) with
   | some m => m.path.toList.isEmpty && m.func.isSome
   | none => false)
 | _, _ => false
theorem jc8 {n : String} {r : Operand} {rs qs : Array Operand} (hop : o.op = .makeFunc (.method n) rs qs) (hr : rs.toList = [r]) (hq : qs.toList = []) : q9 P o a (.mkM n) [r] := by
 intro g w vs v hl hV hm hv
 obtain ⟨x, rfl⟩ := jaw hl
 simp only [jS] at hv
 split at hv
 . rename_i hn
   simp only [zO] at hv
   subst hv
   have hx := hV 0 _ r rfl rfl
   have e1 : rs = #[r] := Array.toList_inj.1 (by simpa using hr)
   have e2 : qs = #[] := Array.toList_inj.1 (by simpa using hq)
   refine ⟨.func (.method n) #[a.eval r] #[], ?_, ?_, by simp [kl, yg, qb]⟩
   . simp [execOp, hop, Instr.makeFunc, e1, e2]
   . refine .fn _ _ _ _ _ (by simp) (fun i y u hy hu => ?_) (fun y hy => ?_) (by simp) (fun i y u hy hu => by simp at hy) (fun y hy => by simp at hy)
     . cases i with
       | zero =>
         simp at hy hu
         subst hy hu
         exact hx.un2
       | succ i => simp at hy
     . simp at hy
       subst hy
       exact qd hn
 . cases hv
theorem QM {t : TypeId} {n : String} {v : Value} {f : Nat} (h : Zf P t n = true) (hv : v ≠ .pointer none) (hf : 0 < f) : (nilAhead f t v n).run P w = .ok (some false) w := by
 unfold Zf at h
 split at h
 . rename_i hi hu
   split at h
   . rename_i hm
     simp only [zA] at h
     obtain ⟨h1, h2⟩ := h
     have h1 := List.isEmpty_iff.1 h1
     obtain ⟨q, hq⟩ := Option.isSome_iff_exists.1 h2
     obtain ⟨q1, q2⟩ := q
     cases f with
     | zero => omega
     | succ f =>
       simp only [nilAhead, typeInfo, Sem.run_bind, run_program, hi, Result.andThen_ok, Sem.run_pure, hm, h1, followBlind, hq]
       cases q2 with
       | true => simp [hq]
       | false =>
         simp only [hq, jM hu, Sem.run_bind, Result.andThen_ok]
         split
         . rename_i h9
           simp only [zO] at h9
           exact absurd h9 hv
         . simp
         . rename_i h9; cases h9
         . simp
   . cases h
 . cases h
theorem jaT {ts : List TypeId} {n : String} {r : Operand} (hop : o.op = .nilCheck r) (hts : ∀ t ∈ ts, Zf P t n = true) : q9 P o a (.nilM ts n) [r] := by
 intro g w vs v hl hV hm hv
 obtain ⟨x, rfl⟩ := jaw hl
 have hx := hV 0 _ r rfl rfl
 simp only [jS] at hv
 unfold jeH at hv
 split at hv
 . rename_i n' t wv
   split at hv
   . rename_i hc
     obtain ⟨rfl, hc, hw⟩ := hc
     simp only [zO] at hv
     subst hv
     have hform : ∃ q, q ≠ Value.pointer none /\ a.eval r = .func (.method n) #[.iface t q] #[] := by
       generalize a.eval r = u at hx
       cases hx with
       | fn _ _ _ vs us hl1 hv1 hf1 hl2 hv2 hf2 =>
         have e2 : us = #[] := Array.eq_empty_of_size_eq_zero (by simpa using hl2.symm)
         obtain ⟨u, hu⟩ : ∃ u, vs = #[u] := by
           have : vs.size = 1 := by simpa using hl1.symm
           exact Array.size_eq_one_iff.1 this
         subst e2 hu
         have h0 := hv1 0 _ u rfl rfl
         obtain ⟨q, rfl, hq, _⟩ := h0.iface_inv
         refine ⟨_, ?_, rfl⟩
         rintro rfl
         cases hq <;> simp [jbO] at hw
     obtain ⟨q, hqn, hform⟩ := hform
     refine ⟨a.eval r, ?_, hx, by simp [kl, yg, qb]⟩
     have hrun := QM (P := P) (w := w) (v := q) (f := P.types.size + Made.depth) (hts t (by simpa using hc)) hqn (by simp [Made.depth])
     simp only [execOp, hop, hform]
     simp [hrun]
   . cases hv
 . cases hv
theorem jc6 {neg : Bool} {T e : TypeId} {i : TypeInfo} {rx ry : Operand} {T' : TypeId} (hop : o.op = .binOp (Ji neg) T rx ry T') (hT : P.underlying T = some (.pointer e)) (hi : P.info? e = some i) (hz : i.size ≠ 0) : q9 P o a (.eqp neg) [rx, ry] := by
 intro g w vs v hl hV hm hv
 obtain ⟨x, y, rfl⟩ := jfH hl
 have hxx := hV 0 _ rx rfl rfl
 have hyy := hV 1 _ ry rfl rfl
 cases x <;> cases y <;> simp only [jS] at hv <;> try (cases hv; done)
 split at hv
 . rename_i h
   obtain ⟨rfl, rfl⟩ := h
   simp only [zO] at hv
   obtain ⟨b, hb, i1⟩ := hxx.ptr_inv
   obtain ⟨b', hb', i2⟩ := hyy.ptr_inv
   rw [i1] at i2
   cases i2
   subst hv
   refine ⟨.bool (true != neg), ?_, .bool _, rfl⟩
   have hd : ∀ (d : Nat) (A : Addr), (Op.equalIn (d + 1) T (.pointer (some A)) (.pointer (some A))).run P w = .ok true w := fun d A => by simp [Op.equalIn, jM hT, kw hi, hz, sameAddr]
   have hgb : ∀ A : Addr, (eqGuard (Ji neg) T rx ry (.pointer (some A)) (.pointer (some A))).run P w = .ok () w /\ (binOp (Ji neg) T (.pointer (some A)) (.pointer (some A))).run P w = .ok (.bool (true != neg)) w := fun A => by
     refine ⟨by unfold eqGuard; split <;> simp, ?_⟩
     cases neg <;> simp [Ji, binOp, Op.equal, Op.maxDepth, hd 9999]
   simp [execOp, hop, hb, hb', hgb]
 . cases hv
theorem jc5 {neg : Bool} {ks : List (TypeId × Nat)} {T : TypeId} {ms : Array (String × TypeId)} {rx ry : Operand} {T' : TypeId} (hop : o.op = .binOp (Ji neg) T rx ry T') (hT : P.underlying T = some (.interface ms))
   (hk : ∀ p ∈ ks, ∃ i d, P.info? p.1 = some i /\ i.comparable = true /\ P.underlying p.1 = some d /\ Vj d p.2 = true) : q9 P o a (.eqi neg ks) [rx, ry] := by
 intro g w vs v hl hV hm hv
 obtain ⟨x, y, rfl⟩ := jfH hl
 have key : ∀ (r : Bool) (ux uy : Value), a.eval rx = ux -> a.eval ry = uy -> (Op.equalIn 10000 T ux uy).run P w = .ok r w -> ((∃ t u, ux = .iface t u /\ ((∃ t' u', uy = .iface t' u') \/ uy = .nilIface)) \/ (ux = .nilIface /\ ∃ t u, uy = .iface t u)) -> v = .bool (r != neg) -> ∃ u, (execOp a.eval o).run P w = .ok (.value u) w /\ V g v u /\ kl v u = [] := by
   rintro r ux uy ex ey hr h1 rfl
   refine ⟨.bool (r != neg), ?_, .bool _, rfl⟩
   have hgb : (eqGuard (Ji neg) T rx ry ux uy).run P w = .ok () w /\ (binOp (Ji neg) T ux uy).run P w = .ok (.bool (r != neg)) w := by
     rcases h1 with ⟨t, u, rfl, ⟨t', u', rfl⟩ | rfl⟩ | ⟨rfl, t, u, rfl⟩ <;> refine ⟨by unfold eqGuard; split <;> simp, ?_⟩ <;> cases neg <;> cases r <;> simp [Ji, binOp, Op.equal, Op.maxDepth, hr]
   simp [execOp, hop, ex, ey, hgb.1, hgb.2]
 have hxx := hV 0 _ rx rfl rfl
 have hyy := hV 1 _ ry rfl rfl
 cases x <;> cases y <;> simp only [jS] at hv <;> try (cases hv; done)
 . rename_i pv t y
   cases pv <;> simp only at hv <;> try (cases hv; done)
   simp only [zO] at hv
   obtain ⟨u, hu, -⟩ := hyy.iface_inv
   refine key false _ _ hxx.nilI_inv hu ?_ (.inr ⟨rfl, _, _, rfl⟩) (by rw [<- hv]; cases neg <;> rfl)
   have hd : ∀ d : Nat, (Op.equalIn (d + 1) T (.nilIface) (.iface t u)).run P w = .ok false w /\ (Op.equalIn (d + 1) T (.iface t u) (.nilIface)).run P w = .ok false w := fun d => by constructor <;> simp [Op.equalIn, jM hT]
   exact (hd 9999).1
 . rename_i t x pv
   cases pv <;> simp only at hv <;> try (cases hv; done)
   simp only [zO] at hv
   obtain ⟨u, hu, -⟩ := hxx.iface_inv
   refine key false _ _ hu hyy.nilI_inv ?_ (.inl ⟨_, _, rfl, .inr rfl⟩) (by rw [<- hv]; cases neg <;> rfl)
   have hd : ∀ d : Nat, (Op.equalIn (d + 1) T (.nilIface) (.iface t u)).run P w = .ok false w /\ (Op.equalIn (d + 1) T (.iface t u) (.nilIface)).run P w = .ok false w := fun d => by constructor <;> simp [Op.equalIn, jM hT]
   exact (hd 9999).2
 . rename_i t x t' y
   obtain ⟨u, hu, hVu, hfu⟩ := hxx.iface_inv
   obtain ⟨u', hu', hVu', hfu'⟩ := hyy.iface_inv
   split at hv
   . rename_i ht
     subst ht
     split at hv
     . rename_i t1 k hf
       split at hv
       . rename_i hkk
         split at hv
         . rename_i r hr
           simp only [zO] at hv
           have hmem := List.mem_of_find?_eq_some hf
           have hpt := List.find?_some hf
           simp only [beq_iff_eq] at hpt
           subst hpt
           obtain ⟨i, d, k1, k2, k3, k4⟩ := hk _ hmem
           refine key r _ _ hu hu' ?_ (.inl ⟨_, _, rfl, .inl ⟨_, _, rfl⟩⟩) hv.symm
           have hc := Vc (d := 9998) (w := w) k3 k4 hVu hVu' hkk hr
           have hd : ∀ d : Nat, (Op.equalIn (d + 1) T (.iface t1 u) (.iface t1 u')).run P w = (Op.equalIn d t1 u u').run P w := by
             intro d
             conv => lhs; unfold Op.equalIn
             simp [jM hT, typeInfo, k1, k2]
           exact (hd 9999).trans hc
         . cases hv
       . cases hv
     . cases hv
   . rename_i ht
     simp only [zO] at hv
     refine key false _ _ hu hu' ?_ (.inl ⟨_, _, rfl, .inl ⟨_, _, rfl⟩⟩) (by rw [<- hv]; cases neg <;> rfl)
     have hd : ∀ d : Nat, (Op.equalIn (d + 1) T (.iface t u) (.iface t' u')).run P w = .ok false w := fun d => by simp [Op.equalIn, jM hT, ht]
     exact hd 9999
end Go.Idl
