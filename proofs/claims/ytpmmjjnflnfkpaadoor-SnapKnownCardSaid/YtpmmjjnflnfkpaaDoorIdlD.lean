/- The ideal machine and its evaluators, part 4; no conditions. -/
import Derived.Laws.IdiomStrings
import Derived.Laws.Tables
import Derived.LoopNIn
import Derived.Test.YtpmmjjnflnfkpaaDoorIdlC
set_option linter.unusedSectionVars false
set_option linter.unusedVariables false
set_option linter.unusedSimpArgs false
namespace Go.Idl
variable [Globs]
variable {P : Program} {o : Oper} {a : Act} {g : Gh} {O : List Nat} {w : World} {s : St} {res : Res} {cf : CallF}
theorem cells_all : ∀ {ys : List IVal} {us : List Value}, ys.length = us.length -> (∀ (j : Nat) y u, ys[j]? = some y -> us[j]? = some u -> V g y u) -> (∀ y ∈ ys, nt y = true) ->
   (ys.flatMap fun v => (un2 v).cells).length = (flatV us).length /\ ∀ (j : Nat) x v, (ys.flatMap fun v => (un2 v).cells)[j]? = some x -> (flatV us)[j]? = some v -> V g x v /\ un1 x = x /\ x.isCell = true := by
 intro ys
 induction ys with
 | nil => intro us h _ _; have : us = [] := List.length_eq_zero_iff.1 h.symm; subst this; simp [flatV]
 | cons y ys ih =>
   intro us h hv hn
   cases us with
   | nil => simp at h
   | cons u us =>
     have hV := hv 0 y u rfl rfl
     obtain ⟨h1, h2⟩ := ih (us := us) (by simpa using h) (fun j y u hy hu => hv (j + 1) y u (by simpa using hy) (by simpa using hu)) (fun y hy => hn y (by simp [hy]))
     have e : flatV (u :: us) = u.cells.toList ++ flatV us := by simp [flatV]
     obtain ⟨c1, c2⟩ := hV.un2.cells
     have hfl := flat_of hV (hn y (by simp))
     have el : (un2 y).cells.length = u.cells.toList.length := by simpa using c1
     simp only [List.flatMap_cons]
     rw [e]
     refine ⟨by simp only [List.length_append, h1, el], fun j x v hx hv' => ?_⟩
     by_cases hj : j < (un2 y).cells.length
     . rw [List.getElem?_append_left hj] at hx
       rw [List.getElem?_append_left (by omega)] at hv'
       obtain ⟨q1, q2⟩ := hfl x (List.mem_of_getElem? hx)
       exact ⟨c2 j x v hx (by simpa using hv'), q1, q2⟩
     . rw [List.getElem?_append_right (by omega)] at hx
       rw [List.getElem?_append_right (by omega), <- el] at hv'
       exact h2 _ x v hx hv'
theorem ones_all {ys : List IVal} {us : List Value} (hl : ys.length = us.length) (hv : ∀ (j : Nat) y u, ys[j]? = some y -> us[j]? = some u -> V g y u) (hn : ∀ y ∈ ys, nt y = true) : ∀ v ∈ flatV us, v.oneCell' = true := by
 obtain ⟨h1, h2⟩ := cells_all hl hv hn
 intro v hv'
 obtain ⟨j, hj⟩ := mem_idx hv'
 obtain ⟨x, hx⟩ := get_of_len h1.symm hj
 obtain ⟨q1, _, q3⟩ := h2 j x v hx hj
 exact oneCell_of (by rw [<- q1.isCell]; exact q3)
theorem own1_take {A : List IVal} {c : List Value} (n : Nat) : (List.zipWith own1 (A.take n) (c.take n)).flatten.Sublist (List.zipWith own1 A c).flatten := by
 rw [<- List.take_zipWith]
 generalize List.zipWith own1 A c = l
 have : l.flatten = (l.take n).flatten ++ (l.drop n).flatten := by rw [<- List.flatten_append, List.take_append_drop]
 rw [this]; exact List.sublist_append_left _ _
theorem own_snoc {A B : List IVal} {C D : List Value} (hl : A.length = C.length) (hB : ∀ (j : Nat) x v, B[j]? = some x -> D[j]? = some v -> own1 x v = []) : (List.zipWith own1 (A ++ B) (C ++ D)).flatten = (List.zipWith own1 A C).flatten := by
 rw [List.zipWith_append hl, List.flatten_append]
 rw [show (List.zipWith own1 B D).flatten = [] from flatten_nil (fun x hx => by
   obtain ⟨j, y, v, h1, h2, rfl⟩ := mem_zipWith hx
   exact hB j y v h1 h2)]
 simp
theorem sim_appendR {isS : Bool} {x y : Opd} {rx ry : Operand} {c : Call} {T U E : TypeId} {du : TypeDesc} {i : TypeInfo} {z : Value} (hop : o.op = .call c) (hc : c.callee = .builtin .append) (ha : c.args = #[rx, ry]) (hta : c.argTypes = #[T, U]) (hx : opdOK x rx = true) (hy : opdOK y ry = true)
   (hT : P.underlying T = some (.slice E)) (hU : P.underlying U = some du) (hdu : ∀ k, du ≠ .int k) (hi : P.info? E = some i) (hz : i.zero = some z) (hzs : z.cells.size = i.size)
   (hs : stepOp cf (.append true isS i.size i.bytes x y) s = some res) (hl : WT s.ts a.tmps) (hR : R g O (s.ts.roots a.tmps) s.σ w) : SimV P o a g O w s res := by
 simp only [stepOp] at hs
 split at hs
 . rename_i base ts h
   split at hs
   . rename_i yv ts' h'
     split at hs
     . rename_i ys hys
       have hexec : ∀ r w', (Builtin.append_ #[T, U] o.type #[a.eval rx, a.eval ry]).run P w = .ok r w' -> (execOp a.eval o).run P w = .ok (.value r) w' := by
         intro r w' hr
         simp [execOp, hop, resolve, hc, ha, hta, invoke, builtin, hr]
       obtain ⟨h1, h2⟩ := get_sim (l := []) hx h hl hR
       obtain ⟨h3, h4⟩ := get_sim (l := [(base, a.eval rx)]) hy h' h2 h1
       obtain ⟨us, u1, u2, u3, u4, u5, u6⟩ := elemsOf_sim (P := P) h3 h3.head hys
       obtain ⟨k1, k2⟩ := cells_all u1 u2 u3
       have hflen : (flatV us).length = ys.length * i.size := by rw [flatV_len u4, u1]
       have hroot : R g O ((base, a.eval rx) :: ts'.roots a.tmps) s.σ w := h3.drop
       have hV := hroot.head
       generalize hrx : a.eval rx = rxv at hV hroot
       split at hs
       . rename_i own rf xs
         split at hs
         . rename_i hcond
           obtain ⟨hown, h0, hb1, hb2⟩ := hcond
           subst hown
           simp only [if_true] at hs
           split at hs
           . rename_i hxs
             have hxs : xs = [] := List.length_eq_zero_iff.1 hxs
             subst hxs
             have hlenx : ∃ ad, rxv = .slice ad 0 0 := by
               cases hV with
               | nil => exact ⟨none, rfl⟩
               | sl _ _ _ vs ad cap _ _ hc' hl' hv' hf' hr' hz' hcl ho hn =>
                 have := (ho (by omega)).2.1 rfl
                 subst this
                 exact ⟨some ad, rfl⟩
             obtain ⟨ad, rfl⟩ := hlenx
             split at hs
             . rename_i hys0
               have hys0 : ys = [] := List.length_eq_zero_iff.1 hys0
               subst hys0
               simp only [rv, Option.some.injEq] at hs
               subst hs
               have hus : us = [] := List.length_eq_zero_iff.1 (by simpa using u1.symm)
               subst hus
               have hrun : (Builtin.append_ #[T, U] o.type #[.slice ad 0 0, a.eval ry]).run P w = .ok (.slice ad (0 + 0) 0) w := by
                 refine run_append_room' hT hU hdu hi u5 (u6 w rfl) (by simp) ?_
                 cases ad <;> simp [flatV, storeCells]
               exact SimV.same (hexec _ _ (by rw [hrx]; exact hrun)) hroot h4
             . rename_i hys0
               simp only [Option.some.injEq] at hs
               subst hs
               have hneed : (0 + ys.length) * i.bytes <= 140737488355328 := by simp only [List.length_nil] at hb1; omega
               have hrun := run_append_grow' (ty := o.type) (base := ad) (sLen := 0) (sCap := 0) (olds := []) hT hU hdu hi hz u5 u6 (fun W _ => by
                 cases ad with
                 | none => simp [Builtin.firstCells]
                 | some ad => exact run_firstCells_some (P := P) W i.size 0 ad 0 0 [] (by simp) (by simp)) (by omega) (by simp only [List.length_nil] at hb2; omega) (growslice_fits (by omega) hneed)
               have hge := grownCap_ge w (0 + ys.length) 0 E
               generalize hcapd : grownCap w (0 + ys.length) 0 E = cap' at hrun hge
               simp only [Nat.zero_add] at hrun hge
               have hzc : (Builtin.zeroCells z.cells (cap' - ys.length)).size = (cap' - ys.length) * i.size := by
                 simp [Builtin.zeroCells, hzs]
               have hR0 : R g O ((.sl i.size rf [], .slice ad 0 0) :: ts'.roots a.tmps) s.σ w.drew := hroot.world (Nat.le_refl _) (fun _ _ => rfl)
               have hG0 : Grow O g w O g w.drew := ⟨Nat.le_refl _, fun _ _ _ => ⟨rfl, rfl, fun _ => rfl⟩, fun _ _ _ h => h, fun _ _ h => h, fun _ h => .inl h, rfl, rfl, rfl, rfl, fun _ => Nat.le_refl _⟩
               have hcs : (([] : List Value).toArray ++ (flatV us).toArray ++ Builtin.zeroCells z.cells (cap' - ys.length)).size = cap' * i.size := by
                 simp only [Array.size_append, hzc, List.size_toArray, hflen, List.length_nil, Nat.zero_add]
                 rw [<- Nat.add_mul]; congr 1; omega
               have hget : ∀ (j : Nat) v, (([] : List Value).toArray ++ (flatV us).toArray ++ Builtin.zeroCells z.cells (cap' - ys.length))[j]? = some v -> j < ys.length * i.size -> (flatV us)[j]? = some v := by
                 intro j v hj hlt
                 rw [Array.getElem?_append_left (by simp [hflen]; exact hlt)] at hj
                 simpa using hj
               have hι : ∀ id b, g.ι[id]? = some b -> (g.fresh w.heap.size).ι[id]? = some b := fun id b hb => by simp only [Gh.fresh]; rw [List.getElem?_append_left (lt_of_get hb)]; exact hb
               have hcl : ∀ (j : Nat) x v, (ys.flatMap fun v => (un2 v).cells)[j]? = some x -> (([] : List Value).toArray ++ (flatV us).toArray ++ Builtin.zeroCells z.cells (cap' - ys.length))[j]? = some v -> V g x v /\ un1 x = x /\ x.isCell = true := by
                 intro j x v hxj hvj
                 have := lt_of_get hxj
                 rw [k1, hflen] at this
                 exact k2 j x v hxj (hget j v hvj this)
               have hnew := hR0.new (obr := .cells (([] : List Value).toArray ++ (flatV us).toArray ++ Builtin.zeroCells z.cells (cap' - ys.length)) E) (ob := .cells (ys.flatMap fun v => (un2 v).cells)) (fun _ =>
                 ⟨_, E, alloc_new _ _, by rw [k1, hflen, hcs]; exact Nat.mul_le_mul_right _ (by omega), fun j x v hxj hvj => by
                   obtain ⟨q1, q2, q3⟩ := hcl j x v hxj hvj
                   exact ⟨q1.mono hι (fun _ _ _ h => h) (by rw [own3_cell q3, own1_flat q2]; simp), q3⟩⟩) ⟨[], by
                 simp only [ownO]
                 rw [flatten_nil]
                 intro cc hcm
                 obtain ⟨j, x, y, q1, q2, rfl⟩ := mem_zipWith hcm
                 have hb : blockCells (w.drew.alloc (.cells (([] : List Value).toArray ++ (flatV us).toArray ++ Builtin.zeroCells z.cells (cap' - ys.length)) E)) w.drew.heap.size = _ := blockCells_new ..
                 rw [hb] at q2
                 exact own1_flat (hcl j x y q1 (by rw [<- Array.getElem?_toList]; exact q2)).2.1 _, by simp⟩
               refine ⟨rfl, _, _, _, hexec _ _ (by rw [hrx]; exact hrun), rfl, _, w.heap.size :: O, [], hG0.trans ((growFresh hR0 _).trans (Grow.setZ _ _ _ _ _)), (hnew.setZ (z := cap' * i.size) (alloc_new _ _) (by rw [hcs]; exact Nat.le_refl _)).push (.rs _ _ _ _ _ _ ?_ (by omega) (by rw [Nat.zero_add]; exact setZ_ge _ _ _)) rfl, h4, rfl, Keep.snoc _ _⟩
               simp [Gh.fresh, Gh.setZ, <- hR.len]
           . cases hs
         . cases hs
       . rename_i e id off len
         split at hs
         . rename_i hcond
           obtain ⟨-, he, ho, h0, hb1, hb2⟩ := hcond
           subst he ho
           split at hs
           . rename_i cs hcs
             split at hs
             . rename_i hlen
               simp only [Option.some.injEq] at hs
               subst hs
               obtain ⟨b, cap, rfl, hι, hcap, hz0⟩ := hV.rs_inv'
               have hσ := loadCell_some hcs
               obtain ⟨c, el, hh, hsz, hc'⟩ := hroot.objs id b _ hι hσ
               have hA : (cs.take (len * i.size)).length = len * i.size := by simp; omega
               have hC : (c.toList.take (len * i.size)).length = len * i.size := by simp; omega
               have hVA : ∀ (j : Nat) x v, (cs.take (len * i.size))[j]? = some x -> (c.toList.take (len * i.size))[j]? = some v -> V g x v /\ x.isCell = true := by
                 intro j x v hx hv
                 have hj := lt_of_get hx
                 rw [hA] at hj
                 rw [List.getElem?_take, if_pos hj] at hx hv
                 exact hc' j x v hx (by simpa using hv)
               have hy : V g (.agg (cs.take (len * i.size))) (.agg (c.toList.take (len * i.size)).toArray) := by
                 refine .agg _ _ (by simp only [List.size_toArray]; rw [hA, hC]) (fun j x v hx hv => (hVA j x v hx (by simpa using hv)).1) (fun x hx => ?_)
                 obtain ⟨j, hj⟩ := mem_idx hx
                 obtain ⟨v, hv⟩ := get_of_len (hA.trans hC.symm) hj
                 exact (hVA j x v hj hv).2
               have hoy : own3 (.agg (cs.take (len * i.size))) (.agg (c.toList.take (len * i.size)).toArray) = (List.zipWith own1 (cs.take (len * i.size)) (c.toList.take (len * i.size))).flatten := rfl
               have hob : ownO w b (.cells cs) = b :: (List.zipWith own1 cs c.toList).flatten := by simp [ownO, blockCells, hh]
               have hsub := own1_take (A := cs) (c := c.toList) (len * i.size)
               have hlive : IObj.cells cs ≠ .dead := by simp
               have hnd : (ownO w b (.cells cs)).Nodup := by
                 have h5 := (List.nodup_append.1 hroot.nodup).2.1
                 refine h5.sublist (List.sublist_flatten_of_mem ?_)
                 refine List.mem_of_getElem? (i := id) ?_
                 simp [List.getElem?_zipWith, hι, hσ]
               have hbA : b ∉ (List.zipWith own1 (cs.take (len * i.size)) (c.toList.take (len * i.size))).flatten := by
                 rw [hob, List.nodup_cons] at hnd
                 exact fun hm => hnd.1 (hsub.mem hm)
               have hyo : SubP (own3 (.agg (cs.take (len * i.size))) (.agg (c.toList.take (len * i.size)).toArray)) (own3 (.rs i.size id 0 len) (.slice (some ⟨b, 0, none⟩) len cap) ++ ownO w b (.cells cs)) := by
                 rw [hoy, hob]
                 exact .of_sub ((hsub.trans (List.sublist_cons_self _ _)).trans (List.sublist_append_right _ _))
               have hBget : ∀ {F : List Value} (j : Nat) x v, (cs.take (len * i.size) ++ ys.flatMap fun v => (un2 v).cells)[j]? = some x -> (c.toList.take (len * i.size) ++ (flatV us ++ F))[j]? = some v ->
                   ((cs.take (len * i.size))[j]? = some x /\ (c.toList.take (len * i.size))[j]? = some v) \/ (V g x v /\ un1 x = x /\ x.isCell = true) := by
                 intro F j x v hx hv
                 by_cases hj : j < len * i.size
                 . rw [List.getElem?_append_left (by omega)] at hx hv
                   exact .inl ⟨hx, hv⟩
                 . rw [List.getElem?_append_right (by omega), hA] at hx
                   rw [List.getElem?_append_right (by omega), hC] at hv
                   have := lt_of_get hx
                   rw [List.getElem?_append_left (by omega)] at hv
                   exact .inr (k2 _ x v hx hv)
               have hownB : ∀ {F : List Value}, (List.zipWith own1 (cs.take (len * i.size) ++ ys.flatMap fun v => (un2 v).cells) (c.toList.take (len * i.size) ++ (flatV us ++ F))).flatten = (List.zipWith own1 (cs.take (len * i.size)) (c.toList.take (len * i.size))).flatten := by
                 intro F
                 refine own_snoc (hA.trans hC.symm) (fun j x v hx hv => ?_)
                 have := lt_of_get hx
                 rw [List.getElem?_append_left (by omega)] at hv
                 exact own1_flat (k2 j x v hx hv).2.1 v
               have hlenN : (cs.take (len * i.size) ++ ys.flatMap fun v => (un2 v).cells).length = (len + ys.length) * i.size := by
                 rw [List.length_append, hA, k1, hflen, Nat.add_mul]
               have hkeep : Keep s.σ (s.σ.set id .dead ++ [.cells (cs.take (len * i.size) ++ ys.flatMap fun v => (un2 v).cells)]) [(id, false)] :=
                 (Keep.set (ob := .dead) (rf := false) (fun n _ _ _ => (trivial : True))).trans (Keep.snoc _ _)
               by_cases hroom : len + ys.length <= cap
               . have hcapc : cap * i.size <= c.size := by
                   rcases Nat.eq_zero_or_pos (cap * i.size) with h9 | h9
                   . omega
                   . obtain ⟨c2, el2, fz2, q1, q2⟩ := hroot.zs b (by omega)
                     rw [hh] at q1; cases q1; omega
                 have hmul : len * i.size + ys.length * i.size <= cap * i.size := by rw [<- Nat.add_mul]; exact Nat.mul_le_mul_right _ hroom
                 have hst := run_storeCells_atF P b (0 + len * i.size) el (0, 0) (flatV us) 0 c w hh (by simp) (by omega) (ones_all u1 u2 u3)
                 have hrun : (Builtin.append_ #[T, U] o.type #[.slice (some ⟨b, 0, none⟩) len cap, a.eval ry]).run P w = .ok (.slice (some ⟨b, 0, none⟩) (len + ys.length) cap) _ :=
                   run_append_room' hT hU hdu hi u5 (u6 w rfl) hroom (by
                     simp only
                     rw [addr_add]; exact hst)
                 simp only [Nat.add_zero, Nat.zero_add, List.append_assoc] at hrun
                 generalize hcc : (c.toList.take (len * i.size) ++ (flatV us ++ c.toList.drop (len * i.size + (flatV us).length))).toArray = c2 at hrun
                 have hc2 : c2.toList = c.toList.take (len * i.size) ++ (flatV us ++ c.toList.drop (len * i.size + (flatV us).length)) := by rw [<- hcc]
                 have hc2s : c2.size = c.size := by rw [<- hcc]; simp; omega
                 have hf := setRow_fields w b c2
                 have hrow := setRow_heap w b c c2 el _ hh
                 obtain ⟨O', hR', hg⟩ := hroot.renew (ob' := .cells (cs.take (len * i.size) ++ ys.flatMap fun v => (un2 v).cells)) hι hσ hlive (fun k hk => setRow_other w b k c2 hk) hf.2.2.2 (fun c0 el0 fz0 h9 => by
                     rw [hh] at h9; cases h9; exact ⟨c2, el, hrow, hc2s⟩) hy hyo (by rw [hoy]; exact hbA) ⟨c2, el, hrow, by rw [hlenN, hc2s, Nat.add_mul]; omega, fun j x v hx hv => by
                       have hv' : c2.toList[j]? = some v := by simpa using hv
                       rw [hc2] at hv'
                       rcases hBget j x v hx hv' with ⟨q1, q2⟩ | ⟨q1, q2, q3⟩
                       . obtain ⟨p1, p2⟩ := hVA j x v q1 q2
                         refine ⟨p1.mono (fun id' b' hb' => by simp only [Gh.renew]; rw [List.getElem?_append_left (lt_of_get hb')]; exact hb') (fun _ _ _ h => h) (fun b' hb' => ?_), p2⟩
                         have : b' ≠ b := fun e => hbA (by
                           subst e
                           rw [own3_cell p2] at hb'
                           exact mem_flatten_zip (f := own1) q1 q2 hb')
                         simp [Gh.renew, this]
                       . exact ⟨q1.mono (fun id' b' hb' => by simp only [Gh.renew]; rw [List.getElem?_append_left (lt_of_get hb')]; exact hb') (fun _ _ _ h => h) (by rw [own3_cell q3, own1_flat q2]; simp), q3⟩⟩
                     ⟨_, by simp only [ownO, blockCells, hrow]; rw [hc2], by rw [hownB, hoy]; exact .refl _⟩ hf.1 hf.2.1 hf.2.2.1
                 refine ⟨rfl, _, _, _, hexec _ _ (by rw [hrx]; exact hrun), rfl, _, O', [(id, false)], hg, hR'.push (.rs _ _ _ _ _ _ ?_ hroom hz0) rfl, h4, rfl, hkeep⟩
                 simp [Gh.renew, <- hR.len]
               . have hneed : (len + ys.length) * i.bytes <= 140737488355328 := by omega
                 have hold : ∀ W : World, W.heap = w.heap -> (Builtin.firstCells i.size len (.slice (some ⟨b, 0, none⟩) len cap)).run P W = .ok (c.toList.take (len * i.size)).toArray W := by
                   intro W hW
                   refine run_firstCells_some (P := P) W i.size len ⟨b, 0, none⟩ len cap _ hC (fun j v hj => ?_)
                   have hjl := lt_of_get hj
                   rw [hC] at hjl
                   rw [List.getElem?_take, if_pos hjl] at hj
                   rw [addr_add]
                   simp only [World.cell?, hW, hh, Nat.zero_add]
                   simpa using hj
                 have hrun := run_append_grow' (ty := o.type) hT hU hdu hi hz u5 u6 hold (by omega : cap < len + ys.length) (by omega) (growslice_fits (by omega) hneed)
                 have hge := grownCap_ge w (len + ys.length) cap E
                 generalize hcapd : grownCap w (len + ys.length) cap E = cap' at hrun hge
                 have hzc : (Builtin.zeroCells z.cells (cap' - (len + ys.length))).size = (cap' - (len + ys.length)) * i.size := by
                   simp [Builtin.zeroCells, hzs]
                 have hdead := hroot.upd (ob' := .dead) (w' := w) hy hι hσ hlive (fun _ _ => rfl) rfl (fun c0 el0 fz0 h9 => ⟨c0, el0, h9, rfl⟩) trivial (by simp only [ownO, List.append_nil]; exact hyo)
                 have hR0 := hdead.world (w' := w.drew) (Nat.le_refl _) (fun _ _ => rfl)
                 have hG0 : Grow O g w O g w.drew := ⟨Nat.le_refl _, fun _ _ _ => ⟨rfl, rfl, fun _ => rfl⟩, fun _ _ _ h => h, fun _ _ h => h, fun _ h => .inl h, rfl, rfl, rfl, rfl, fun _ => Nat.le_refl _⟩
                 generalize hcc : (c.toList.take (len * i.size)).toArray ++ (flatV us).toArray ++ Builtin.zeroCells z.cells (cap' - (len + ys.length)) = c2 at hrun
                 have hc2 : c2.toList = c.toList.take (len * i.size) ++ (flatV us ++ (Builtin.zeroCells z.cells (cap' - (len + ys.length))).toList) := by rw [<- hcc]; simp
                 have hc2s : c2.size = cap' * i.size := by
                   have : c2.size = c2.toList.length := by simp
                   rw [this, hc2, List.length_append, List.length_append, hC, hflen]
                   have e9 : (Builtin.zeroCells z.cells (cap' - (len + ys.length))).toList.length = (cap' - (len + ys.length)) * i.size := by simpa using hzc
                   rw [e9, <- Nat.add_mul, <- Nat.add_mul]
                   congr 1; omega
                 have hnew := hR0.new (obr := .cells c2 E) (ob := .cells (cs.take (len * i.size) ++ ys.flatMap fun v => (un2 v).cells)) (fun hVf =>
                   ⟨c2, E, alloc_new _ _, by rw [hlenN, hc2s]; exact Nat.mul_le_mul_right _ hge, fun j x v hx hv => by
                     have hv' : c2.toList[j]? = some v := by simpa using hv
                     rw [hc2] at hv'
                     rcases hBget j x v hx hv' with ⟨q1, q2⟩ | ⟨q1, q2, q3⟩
                     . cases hVf with
                       | agg _ _ hl' hv'' hi' => exact ⟨hv'' j x v q1 (by simpa using q2), hi' x (List.mem_of_getElem? q1)⟩
                     . exact ⟨q1.mono (fun id' b' hb' => by simp only [Gh.fresh]; rw [List.getElem?_append_left (lt_of_get hb')]; exact hb') (fun _ _ _ h => h) (by rw [own3_cell q3, own1_flat q2]; simp), q3⟩⟩)
                   ⟨_, by
                     simp only [ownO]
                     have hb : blockCells (w.drew.alloc (.cells c2 E)) w.drew.heap.size = c2.toList := blockCells_new ..
                     rw [hb, hc2], by rw [hownB, hoy]; exact .refl _⟩
                 refine ⟨rfl, _, _, _, hexec _ _ (by rw [hrx]; exact hrun), rfl, _, w.heap.size :: O, [(id, false)], hG0.trans ((growFresh hR0 _).trans (Grow.setZ _ _ _ _ _)), (hnew.setZ (z := cap' * i.size) (alloc_new _ _) (by rw [hc2s]; exact Nat.le_refl _)).push (.rs _ _ _ _ _ _ ?_ hge (by rw [Nat.zero_add]; exact setZ_ge _ _ _)) rfl, h4, rfl, hkeep⟩
                 simp [Gh.fresh, Gh.setZ, <- hR.len]
             . cases hs
           . cases hs
         . cases hs
       . cases hs
     . cases hs
   . cases hs
 . cases hs
theorem sim_appendB {br isS : Bool} {x y : Opd} {rx ry : Operand} {c : Call} {T U E : TypeId} {du : TypeDesc} {i : TypeInfo} {z : Value} (hop : o.op = .call c) (hc : c.callee = .builtin .append) (ha : c.args = #[rx, ry]) (hta : c.argTypes = #[T, U]) (hx : opdOK x rx = true) (hy : opdOK y ry = true)
   (hT : P.underlying T = some (.slice E)) (hU : P.underlying U = some du) (hdu : ∀ k, du ≠ .int k) (hi : P.info? E = some i) (hz : i.zero = some z) (hzs : z.cells.size = i.size)
   (hs : stepOp cf (.append br isS i.size i.bytes x y) s = some res) (hl : WT s.ts a.tmps) (hR : R g O (s.ts.roots a.tmps) s.σ w) : SimV P o a g O w s res := by
 cases br with
 | false => exact sim_append hop hc ha hta hx hy hT hU hdu hi hz hzs hs hl hR
 | true => exact sim_appendR hop hc ha hta hx hy hT hU hdu hi hz hzs hs hl hR
theorem sim_convBytes {x : Opd} {r : Operand} {S T e : TypeId} (hop : o.op = .convert S T r) (hx : opdOK x r = true) (hS : P.underlying S = some .string) (hT : P.underlying T = some (.slice e)) (he : P.underlying e = some (.int .u8))
   (hs : stepOp cf (.conv .bytes x) s = some res) (hl : WT s.ts a.tmps) (hR : R g O (s.ts.roots a.tmps) s.σ w) : SimV P o a g O w s res := by
 simp only [stepOp] at hs
 split at hs
 . rename_i av ts h
   cases av with
   | str b =>
     simp only [rv, Option.some.injEq] at hs
     subst hs
     obtain ⟨h1, h2⟩ := get_sim (l := []) hx h hl hR
     obtain ⟨t, hu, ht⟩ := h1.head.str_inv
     have hrun := run_bytes_of_string (P := P) w S T e t hS hT he
     have hge := grownCap_ge w t.size 0 e
     have hR0 : R g O (ts.roots a.tmps) s.σ w.drew := h1.drop.world (Nat.le_refl _) (fun _ _ => rfl)
     have hG0 : Grow O g w O g w.drew := ⟨Nat.le_refl _, fun _ _ _ => ⟨rfl, rfl, fun _ => rfl⟩, fun _ _ _ h => h, fun _ _ h => h, fun _ h => .inl h, rfl, rfl, rfl, rfl, fun _ => Nat.le_refl _⟩
     have hlen : b.length = t.size := by rw [<- ht]; simp
     have hfl : flatV (t.data.toList.map fun b => Value.int .u8 b.toNat) = t.data.toList.map fun b => Value.int .u8 b.toNat := flatV_self (by simp [Value.cells])
     obtain ⟨g', O', hR', hg, hι⟩ := hR0.newSlice (xs := b.map fun c => .int .u8 c.toNat) (vs := t.data.toList.map fun b => .int .u8 b.toNat) (esz := 1) (cap := grownCap w t.size 0 e) (own := 0) (rf := false)
       (c := bytesRow t (grownCap w t.size 0 e)) (el := e) (fz := ((bytesRow t (grownCap w t.size 0 e)).size, (bytesRow t (grownCap w t.size 0 e)).size + 1)) (by rw [<- ht]; simp) (fun j x v hx hv => by
         rw [<- ht] at hx
         simp only [List.getElem?_map, Option.map_eq_some_iff] at hx hv
         obtain ⟨c, hc, rfl⟩ := hx
         obtain ⟨c', hc', rfl⟩ := hv
         rw [hc] at hc'; cases hc'
         exact .int _ _) (fun x hx => by
         simp only [List.mem_map] at hx
         obtain ⟨c, _, rfl⟩ := hx
         exact ⟨rfl, rfl⟩) (fun _ x hx => by
         simp only [List.mem_map] at hx
         obtain ⟨c, _, rfl⟩ := hx
         rfl) (fun v hv => by
         simp only [List.mem_map] at hv
         obtain ⟨c, _, rfl⟩ := hv
         rfl) (fun k v hk => by
         rw [hfl] at hk
         simp only [List.getElem?_map, Option.map_eq_some_iff] at hk
         obtain ⟨c, hc, rfl⟩ := hk
         have hkl : k < t.data.size := by have := lt_of_get hc; simpa using this
         rw [bytesRow_at t _ k hkl]
         have : t.data[k] = c := Option.some.inj ((Array.getElem?_eq_getElem hkl).symm.trans (by simpa using hc))
         rw [this]) (by simpa [hlen] using hge) (by
         have : t.data.size = t.size := rfl
         simp [bytesRow, this]; omega) (.inl rfl) (by simp) (by rw [hfl, <- ht]; simp)
     have e1 : (b.map fun c => IVal.int .u8 c.toNat).length = t.size := by simpa using hlen
     rw [e1] at hR'
     have hexec : ∀ r w', (convert S T (.string t)).run P w = .ok r w' -> (execOp a.eval o).run P w = .ok (.value r) w' := by
       intro r w' hr
       simp only [execOp, hop, hu]
       simp only [Sem.run_bind, hr, Result.andThen_ok, Sem.run_pure]
     exact ⟨rfl, _, _, _, hexec _ _ hrun, rfl, g', O', [], hG0.trans hg, hR', h2, rfl, Keep.refl _⟩
   | _ => simp at hs
 . cases hs
theorem sim_clear {zs : List IVal} {x : Opd} {rx : Operand} {c : Call} {T E : TypeId} {i : TypeInfo} {z : Value} (hop : o.op = .call c) (hc : c.callee = .builtin .clear) (ha : c.args = #[rx]) (hta : c.argTypes[0]? = some T) (hx : opdOK x rx = true)
   (hT : P.underlying T = some (.slice E)) (hi : P.info? E = some i) (hz : i.zero = some z) (hzc : cOKs zs z.cells.toList = true) (hzs : z.cells.size = i.size)
   (hs : stepOp cf (.clear zs x) s = some res) (hl : WT s.ts a.tmps) (hR : R g O (s.ts.roots a.tmps) s.σ w) : SimV P o a g O w s res := by
 have hexec : ∀ r w', (Builtin.clear_ c.argTypes o.type #[a.eval rx]).run P w = .ok r w' -> (execOp a.eval o).run P w = .ok (.value r) w' := by
   intro r w' hr
   simp [execOp, hop, resolve, hc, ha, invoke, builtin, hr]
 simp only [stepOp] at hs
 split at hs
 . rename_i e id off len ts h
   split at hs
   . rename_i cs hcs
     split at hs
     . rename_i hcond
       obtain ⟨he, h0, hle⟩ := hcond
       simp only [Option.some.injEq] at hs
       subst hs
       obtain ⟨h1, h2⟩ := get_sim (l := []) hx h hl hR
       obtain ⟨b, cap, hu, hι, hcap⟩ := h1.head.rs_inv
       have hσ := loadCell_some hcs
       obtain ⟨cc, el, hh, hsz, hcl⟩ := h1.objs id b _ hι hσ
       obtain ⟨z1, z2⟩ := cOKs_V g hzc
       have hzl : zs.length = z.cells.size := by simpa using z1
       have hrl : (repl len zs).length = len * e := by rw [repl_len, <- he]
       have hzsz : (Builtin.zeroCells z.cells len).toList.length = len * e := by
         simp [Builtin.zeroCells, he, hzl]
       have hpt : ∀ (k : Nat) x v, (repl len zs)[k]? = some x -> (Builtin.zeroCells z.cells len).toList[k]? = some v -> V g x v /\ own1 x v = [] /\ x.isCell = true := by
         intro k x v hxk hvk
         have hk := lt_of_get hxk
         rw [repl_len] at hk
         rw [repl_get (by omega) len k hk] at hxk
         have hv' : (Builtin.zeroCells z.cells len)[k]? = some v := by simpa using hvk
         have hk2 : k < len * z.cells.size := by rw [<- hzl]; exact hk
         simp only [Builtin.zeroCells, Array.getElem?_map, Array.getElem?_range, if_pos hk2, Option.map_some, Option.some.injEq] at hv'
         have hmod : k % z.cells.size < z.cells.size := Nat.mod_lt _ (by omega)
         refine z2 (k % zs.length) x v hxk ?_
         rw [<- hv', hzl]
         simp [getElem!_pos, hmod]
       have hput : off + (repl len zs).length <= cs.length := by omega
       have hput' : off + (Builtin.zeroCells z.cells len).toList.length <= cc.toList.length := by rw [hzsz]; simp; omega
       have hones : ∀ u ∈ (Builtin.zeroCells z.cells len).toList, u.oneCell' = true := by
         intro u hu'
         obtain ⟨j, hj⟩ := mem_idx hu'
         obtain ⟨x, hx'⟩ := get_of_len (hzsz.trans hrl.symm) hj
         obtain ⟨q1, _, q3⟩ := hpt j x u hx' hj
         exact oneCell_of (by rw [<- q1.isCell]; exact q3)
       let row := (cc.toList.take off ++ (Builtin.zeroCells z.cells len).toList ++ cc.toList.drop (off + (Builtin.zeroCells z.cells len).toList.length)).toArray
       have hst : (storeCells ⟨b, off, none⟩ (Builtin.zeroCells z.cells len).toList).run P w = .ok () (w.setRow b row) := by
         have := run_storeCells_atF P b off el (0, 0) (Builtin.zeroCells z.cells len).toList 0 cc w hh (by simp) (by simpa using hput') hones
         simpa [row] using this
       have hrun : (Builtin.clear_ c.argTypes o.type #[a.eval rx]).run P w = .ok (.tuple #[]) (w.setRow b row) := by
         rw [hu]
         by_cases hl0 : len = 0
         . subst hl0
           have he0 : (Builtin.zeroCells z.cells 0).toList = [] := by simp [Builtin.zeroCells]
           rw [he0] at hst
           have hws : w.setRow b row = w := by
             have : (storeCells ⟨b, off, none⟩ []).run P w = .ok () w := by simp [storeCells]
             have h9 := this.symm.trans hst
             injection h9 with _ h10
             exact h10.symm
           rw [hws]
           simp [Builtin.clear_, hta, run_und hT]
         . cases len with
           | zero => exact absurd rfl hl0
           | succ n => simp [Builtin.clear_, hta, run_und hT, zeroValue, typeInfo, hi, hz, hst]
       have hrow : (w.setRow b row).heap[b]? = some (.cells row el (0, 0)) := setRow_heap w b cc row el _ hh
       have hOB : OBJ g (w.setRow b row) b (.cells (putCells cs off (repl len zs))) := by
         refine ⟨row, el, hrow, ?_, fun j x u hxj huj => ?_⟩
         . rw [putCells_len hput]; simp [row]; simp at hput'; omega
         . rw [putCells_get hput] at hxj
           have huj' : (cc.toList.take off ++ (Builtin.zeroCells z.cells len).toList ++ cc.toList.drop (off + (Builtin.zeroCells z.cells len).toList.length))[j]? = some u := by simpa [row] using huj
           rw [putR_get hput', hzsz, <- hrl] at huj'
           split at hxj
           . rename_i hj
             rw [if_pos hj] at huj'
             obtain ⟨q1, _, q3⟩ := hpt _ x u hxj huj'
             exact ⟨q1, q3⟩
           . rename_i hj
             rw [if_neg hj] at huj'
             exact hcl j x u hxj (by simpa using huj')
       have hf := setRow_fields w b row
       have hR' := h1.upd (y := undefI) (u := undef) (id := id) (b := b) (ob := .cells cs) (ob' := .cells (putCells cs off (repl len zs))) (w' := w.setRow b row) (undef_V g) hι hσ (by simp) (fun k hk => setRow_other w b k row hk) hf.2.2.2 (fun c' el' fz' hc' => by
         rw [hh] at hc'; cases hc'
         exact ⟨row, el, hrow, by simp [row]; simp at hput'; omega⟩) hOB (by
         simp only [ownO, blockCells, hh, hrow]
         obtain ⟨A, C, e1, e2⟩ := own_put (cs := cs) (ws := repl len zs) (c := cc.toList) (us := (Builtin.zeroCells z.cells len).toList) (off := off) (by simpa using hsz) (by rw [hzsz, hrl]) hput
         have emid : (List.zipWith own1 (repl len zs) (Builtin.zeroCells z.cells len).toList).flatten = [] := flatten_nil (fun x hx => by
           obtain ⟨j, y, v, q1, q2, rfl⟩ := mem_zipWith hx
           exact (hpt j y v q1 q2).2.1)
         rw [show row.toList = cc.toList.take off ++ (Builtin.zeroCells z.cells len).toList ++ cc.toList.drop (off + (Builtin.zeroCells z.cells len).toList.length) from rfl, e1, e2, emid]
         refine SubP.of_sub ?_
         show List.Sublist (b :: (A ++ [] ++ C)) (own3 (.rs e id off len) (a.eval rx) ++ (b :: (A ++ _ ++ C)))
         refine List.Sublist.trans ?_ (List.sublist_append_right _ _)
         refine List.Sublist.cons_cons _ ?_
         refine List.Sublist.append ?_ (.refl _)
         rw [List.append_nil]; exact List.sublist_append_left _ _)
       refine ⟨rfl, undef, _, _, hexec _ _ hrun, rfl, g, O, [(id, !(zs.all nr1))], ?_, hR', h2, rfl, Keep.set fun m hid hm ho => ?_⟩
       . exact Grow.of_setRow g w (h1.sub b (List.mem_append_right _ (ownS_mem hι hσ (by simp [ownO])))) _ (fun k hk => setRow_other w b k row hk) hf.2.2.2 hf.1 hf.2.1 hf.2.2.1
       . refine RLO_put hput (ho _ hσ) (fun x hx => ?_)
         have hxz : x ∈ zs := by
           simp only [repl, List.mem_flatten] at hx
           obtain ⟨l, hl', hxl⟩ := hx
           rw [List.eq_of_mem_replicate hl'] at hxl; exact hxl
         obtain ⟨j, hj⟩ := mem_idx hxz
         obtain ⟨u, hu'⟩ := get_of_len z1 hj
         have hVx := (z2 j x u hj hu').1
         by_cases hnr : zs.all nr1 = true
         . exact hVx.norl m (nr3_of_nr2 (nr2_of_nr1 (List.all_eq_true.1 hnr x hxz)))
         . exact absurd (hm (by simpa using hnr)) (by omega)
     . cases hs
   . cases hs
 . rename_i own r ts h
   simp only [rv, Option.some.injEq] at hs
   subst hs
   obtain ⟨h1, h2⟩ := get_sim (l := []) hx h hl hR
   have hV := h1.head
   have hrun : (Builtin.clear_ c.argTypes o.type #[a.eval rx]).run P w = .ok (.tuple #[]) w := by
     generalize a.eval rx = u at hV
     cases hV with
     | nil => simp [Builtin.clear_, hta, run_und hT]
     | sl _ _ _ vs ad cap _ _ hc' hl' => simp [Builtin.clear_, hta, run_und hT]
   exact SimV.same (hexec _ _ hrun) (h1.swap (fun _ => undef_V g) (by simp [undefI, undef, own3])) h2
 . cases hs
end Go.Idl
namespace Go.Idl
variable [Globs]
variable {P : Program}
def infoZ (P : Program) (T : TypeId) : Option (TypeInfo × Value) :=
 match P.info? T with
 | some i => match i.zero with
   | some z => some (i, z)
   | none => none
 | none => none
theorem infoZ_spec {T : TypeId} {i : TypeInfo} {z : Value} (h : infoZ P T = some (i, z)) : P.info? T = some i /\ i.zero = some z := by
 unfold infoZ at h
 split at h
 . split at h
   . simp at h; obtain ⟨rfl, rfl⟩ := h; exact ⟨by assumption, by assumption⟩
   . cases h
 . cases h
def buildInfo (P : Program) (T : TypeId) : Option (Array Value × (Nat -> Option (Nat × Nat))) :=
 match P.info? T, P.underlying T with
 | some it, some (.array _ e) =>
   match it.zero, P.info? e with
   | some z, some ie => some (z.cells, fun i => some (i * ie.size, ie.size))
   | _, _ => none
 | some it, some (.struct fields) =>
   match it.zero, fields.toList.mapM (fun f => (P.info? f.type).map fun i => (f.offset, i.size)) with
   | some z, some places => some (z.cells, fun i => places.toArray[i]?)
   | _, _ => none
 | _, _ => none
theorem buildInfo_spec {T : TypeId} {zc : Array Value} {place : Nat -> Option (Nat × Nat)} (h : buildInfo P T = some (zc, place)) (w : World) (ps : Array (Nat × Value)) (cells : Array Value) (hf : Instr.fill place zc ps.toList = some cells) :
   (Instr.build T ps).run P w = .ok (.agg cells) w := by
 refine run_build w T ps cells ?_
 unfold buildInfo at h
 unfold Program.built
 split at h
 . rename_i h1 h2
   split at h
   . rename_i h3 h4
     simp at h; obtain ⟨rfl, rfl⟩ := h
     simp only [h1, h2, h3, h4]; exact hf
   . cases h
 . rename_i h1 h2
   split at h
   . rename_i h3 h4
     simp only [Option.some.injEq, Prod.mk.injEq] at h; obtain ⟨rfl, rfl⟩ := h
     simp only [h1, h2, h3, h4]; exact hf
   . cases h
 . cases h
def nilOK (P : Program) (T : TypeId) (k : Nat) : Bool :=
 match P.underlying T with
 | some d => nilTy k d && decide (k <= 3)
 | none => false
def isNilConst (k : Nat) : Operand -> Bool
 | .const (.pointer none) => k == 0
 | .const .nilIface => k == 1
 | .const .nilFunc => k == 2
 | .const (.map none) => k == 3
 | _ => false
theorem isNilConst_spec {k : Nat} {r : Operand} (h : isNilConst k r = true) : r = .const (nilOf k) := by
 unfold isNilConst at h
 split at h <;> simp at h <;> subst h <;> rfl
def elemInfo (P : Program) (T : TypeId) : Option (TypeId × TypeInfo) :=
 match P.underlying T with
 | some (.slice E) => match P.info? E with
   | some i => some (E, i)
   | none => none
 | _ => none
theorem elemInfo_spec {T E : TypeId} {i : TypeInfo} (h : elemInfo P T = some (E, i)) : P.underlying T = some (.slice E) /\ P.info? E = some i := by
 unfold elemInfo at h
 split at h
 . split at h
   . simp at h; obtain ⟨rfl, rfl⟩ := h; exact ⟨by assumption, by assumption⟩
   . cases h
 . cases h
def sizeIs (P : Program) (T : TypeId) (n : Nat) : Bool :=
 match P.info? T with
 | some i => i.size == n
 | none => false
def isInt (d : TypeDesc) : Bool := match d with | .int _ => true | _ => false
def mfn (P : Program) (t : TypeId) (name : String) : Option FuncId := match P.info? t with
 | some i => match i.methods.find? (fun m => m.name == name) with
   | some m => m.func.map (·.1)
   | none => none
 | none => none
def callOK (P : Program) (c : Call) : IOp -> Bool
 | .inv tab x xs => (match c.callee with | .invoke r name => opdOK x r && tab.all fun p => recvOK P p.1 name p.2.1 p.2.2 | _ => false) && opdsOK xs c.args.toList
 | .vOf G tab x => (match c.callee, c.args.toList with | .value (.func f), [r] => isVOf P f G tab && opdOK x r | _, _ => false)
 | .vSet G tab x y => (match c.callee, c.args.toList with | .value (.func f), [rx, ry] => isVSet P f G tab && (opdOK x rx && opdOK y ry) | _, _ => false)
 | .call f xs => (match c.callee with | .value (.func f') => f == f' | _ => false) && opdsOK xs c.args.toList
 | .callp f xs => (match c.callee with | .value (.func f') => f == f' | _ => false) && opdsOK xs c.args.toList
 | .callv x xs => (match c.callee with | .value r => opdOK x r | _ => false) && opdsOK xs c.args.toList
 | .lenS x => (match c.callee, c.args.toList, c.argTypes[0]? with | .builtin .len, [r], some T => opdOK x r && (match P.underlying T with | some .string => true | _ => false) | _, _, _ => false)
 | .lenL x => (match c.callee, c.args.toList, c.argTypes[0]? with | .builtin .len, [r], some T => opdOK x r && (match P.underlying T with | some (.slice _) => true | _ => false) | _, _, _ => false)
 | .lenM x => (match c.callee, c.args.toList, c.argTypes[0]? with | .builtin .len, [r], some T => opdOK x r && (match P.underlying T with | some (.map _ _) => true | _ => false) | _, _, _ => false)
 | .clear zs x => (match c.callee, c.args.toList, c.argTypes[0]? with | .builtin .clear, [r], some T => opdOK x r && (match elemInfo P T with | some (E, _) => (match infoZ P E with | some (i, z) => z.cells.size == i.size && cOKs zs z.cells.toList | none => false) | none => false) | _, _, _ => false)
 | .minmax mx [x, y] => (match c.callee, c.args.toList with | .builtin b, [rx, ry] => b == (if mx then .max else .min) && opdOK x rx && opdOK y ry | _, _ => false)
 | .append _ _ esz bytes x y => (match c.callee, c.args.toList, c.argTypes.toList with
     | .builtin .append, [rx, ry], [T, U] => opdOK x rx && opdOK y ry && (match elemInfo P T, P.underlying U with
       | some (E, i), some du => !(isInt du) && i.size == esz && i.bytes == bytes && (match infoZ P E with | some (_, z) => z.cells.size == esz | none => false)
       | _, _ => false)
     | _, _, _ => false)
 | _ => false
def hasAll (P : Program) (want : Array (String × TypeId)) (t : TypeId) (b : Bool) : Bool :=
 match P.info? t with
 | some i => (lacking want i.methods).isEmpty == b
 | none => false
def nilSide (ra rb : Operand) : Option Operand :=
 match ra, rb with
 | _, .const (.slice none 0 0) => some ra
 | .const (.slice none 0 0), _ => some rb
 | _, _ => none
def purOK (P : Program) : Op -> PurK -> List Opd -> Bool
 | .call c, .ext k, xs => (match c.callee with | .value (.func f) => isExt P f k | _ => false) && opdsOK xs c.args.toList
 | .call c, .invX tab, xs => (match c.callee with
   | .invoke r name => (tab.all fun p => match mfn P p.1 name with | some f => recvOK P p.1 name f p.2.2 && isExt P f p.2.1 | none => false) && opdsOK xs (r :: c.args.toList)
   | _ => false)
 | .binOp op T ra rb _, .eqa neg ks, xs => op == eqOp neg && (flatT P 1000 T == some ks && ((pnT P T).isSome && (!P.eqGuardType P.depth T && opdsOK xs [ra, rb])))
 | .binOp op T ra rb _, .isnilS neg, xs => op == eqOp neg && ((match P.underlying T with | some (.slice _) => true | _ => false) && (match nilSide ra rb with | some r => opdsOK xs [r] | none => false))
 | .binOp op T ra rb _, .eqi neg ks, xs => op == eqOp neg && ((match P.underlying T with | some (.interface _) => true | _ => false) && ((ks.all fun p => match P.info? p.1, P.underlying p.1 with | some i, some d => i.comparable && kindT d p.2 | _, _ => false) && opdsOK xs [ra, rb]))
 | .convert S T r, .text, xs => (match P.underlying S with | some (.slice e) => (match P.underlying e with | some (.int .u8) => true | _ => false) | _ => false) && ((match P.underlying T with | some .string => true | _ => false) && opdsOK xs [r])
 | .makeFunc f rs qs, .mkM n, xs => (match f, rs.toList, qs.toList with | .method n', [r], [] => n == n' && opdsOK xs [r] | _, _, _ => false)
 | .nilCheck r, .nilM ts n, xs => (ts.all fun t => nilMT P t n) && opdsOK xs [r]
 | .convert S T r, .rune, xs => (P.underlying S).isSome && ((match P.underlying T with | some .string => true | _ => false) && opdsOK xs [r])
 | .typeAssert r _ A ok, .tyC t ok' z, xs => A == t && (ok == ok' && ((match P.underlying A with | some (.interface _) => false | some _ => true | none => false) && ((match infoZ P A with | some (_, zv) => cOK z zv | none => false) && opdsOK xs [r])))
 | .typeAssert r _ A ok, .tyI yes no ok', xs => ok == ok' && ((match P.underlying A with | some (.interface want) => yes.all (fun t => hasAll P want t true) && no.all (fun t => hasAll P want t false) | _ => false) && ((match infoZ P A with | some (_, .nilIface) => true | _ => false) && opdsOK xs [r]))
 | _, _, _ => false
def opOK (P : Program) : Op -> IOp -> Bool
 | op, .pur k xs => purOK P op k xs
 | .move r, .mv x => opdOK x r
 | .assign r, .mv x => opdOK x r
 | .pick rc ra rb, .pick c a b => opdOK c rc && opdOK a ra && opdOK b rb
 | .alloc T, .alloc zs => (match infoZ P T with | some (_, z) => cOKs zs z.cells.toList | none => false)
 | .box _ r, .box x => opdOK x r
 | .box _ r, .boxv x => opdOK x r
 | .build T rp, .build zs parts => (match buildInfo P T with | some (zc, place) => cOKs zs zc.toList && partsOK place parts rp.toList | none => false)
 | .buildSlice T n rp, .buildSl esz xs => (match elemInfo P T with
     | some (E, i) => i.size == esz && decide (0 < esz) && n == rp.size && (rp.toList.map (·.1) == List.range rp.size) && opdsOK xs (rp.toList.map (·.2)) && (match infoZ P E with | some (_, z) => z.cells.size == esz | none => false)
     | none => false)
 | .buildSlice T n rp, .buildRs esz xs => (match elemInfo P T with
     | some (E, i) => i.size == esz && decide (0 < esz) && n == rp.size && (rp.toList.map (·.1) == List.range rp.size) && opdsOK xs (rp.toList.map (·.2)) && (match infoZ P E with | some (_, z) => z.cells.size == esz | none => false)
     | none => false)
 | .load T r, .load _ n x => opdOK x r && tyN P T n
 | .store T rx ry, .store n x y => opdOK x rx && opdOK y ry && sizeIs P T n
 | .nilCheck r, .nilCheck x => opdOK x r
 | .binOp op _ rx ry _, .bin op' x y => op == op' && opdOK x rx && opdOK y ry
 | .binOp op T rx ry _, .eqb neg x y => op == (if neg then .neq else .eql) && opdOK x rx && opdOK y ry && (match P.underlying T with | some .bool => true | _ => false)
 | .binOp op T ra rb _, .isnil neg k x => op == (if neg then .neq else .eql) && nilOK P T k && ((isNilConst k rb && opdOK x ra) || (isNilConst k ra && opdOK x rb))
 | .unOp op _ r, .un op' x => op == op' && opdOK x r
 | .convert S T r, .conv (.int k) x => opdOK x r && (P.underlying S).isSome && (match P.underlying T with | some (.int k') => k == k' | _ => false)
 | .convert S T r, .conv .same x => opdOK x r && (match P.underlying S, P.underlying T with | some .string, some .string => true | _, _ => false)
 | .convert S T r, .conv .bytes x => opdOK x r && (match P.underlying S, P.underlying T with | some .string, some (.slice e) => (match P.underlying e with | some (.int .u8) => true | _ => false) | _, _ => false)
 | .makeInterface T r, .mkIface T' x => T == T' && opdOK x r && (match P.underlying T with | some (.interface _) => false | some _ => true | none => false)
 | .makeFunc f rs qs, .mkFn f' xs ys => f == f' && opdsOK xs rs.toList && opdsOK ys qs.toList
 | .makeMap _ none, .mkMap => true
 | .makeSlice T rx ry, .mkSl _ esz bytes zs x y => opdOK x rx && opdOK y ry && (match elemInfo P T with
     | some (E, i) => i.size == esz && i.bytes == bytes && (match infoZ P E with | some (_, z) => z.cells.size == esz && cOKs zs z.cells.toList | none => false)
     | none => false)
 | .slice T r lo hi none, .sliceS x l h => opdOK x r && optOK l lo && optOK h hi && (match P.underlying T with | some .string => true | _ => false)
 | .slice T r lo hi mx, .sliceL esz x l h m => opdOK x r && optOK l lo && optOK h hi && optOK m mx && (m.isNone || h.isSome) && (match elemInfo P T with | some (_, i) => i.size == esz | none => false)
 | .fieldAddr T r k, .fieldAddr off x => opdOK x r && (match P.underlying T with | some (.struct fs) => (match fs[k]? with | some f => f.offset == off && (match P.info? f.type with | some i => i.size != 0 | none => false) | none => false) | _ => false)
 | .field T r k, .field off n x => opdOK x r && (match P.underlying T with | some (.struct fs) => (match fs[k]? with | some f => f.offset == off && tyN P f.type n | none => false) | _ => false)
 | .indexAddr T rx ry, .idxAddr esz x y => opdOK x rx && opdOK y ry && (match elemInfo P T with | some (_, i) => i.size == esz | none => false)
 | .indexAddr T rx ry, .idxAddrA len esz x y => opdOK x rx && opdOK y ry && (match P.underlying T with | some (.array n E) => n == len && sizeIs P E esz | _ => false)
 | .index T rx ry, .idxS x y => opdOK x rx && opdOK y ry && (match P.underlying T with | some .string => true | _ => false)
 | .index T rx ry, .idxA len esz n x y => opdOK x rx && opdOK y ry && (match P.underlying T with | some (.array m E) => m == len && sizeIs P E esz && tyN P E n | _ => false)
 | .lookup T rx ry ok, .lookup kk z ok' x y => ok == ok' && opdOK x rx && opdOK y ry && nt z && (match P.underlying T with | some (.map K E) => (match P.underlying K, infoZ P E with | some d, some (_, zv) => keyD kk d && cOK z zv | _, _ => false) | _ => false)
 | .mapUpdate T rx ry rz, .mapSet kk x y z => opdOK x rx && opdOK y ry && opdOK z rz && (match P.underlying T with | some (.map K _) => (match P.underlying K with | some d => keyD kk d | none => false) | _ => false)
 | .insert T rx ry rz, .mapSet kk x y z => opdOK x rx && opdOK y ry && opdOK z rz && (match P.underlying T with | some (.map K _) => (match P.underlying K with | some d => keyD kk d | none => false) | _ => false)
 | .extract r i, .extract x j => i == j && opdOK x r
 | .call c, io => callOK P c io
 | _, _ => false
end Go.Idl
namespace Go.Idl
variable [Globs]
variable {P : Program} {o : Oper} {a : Act} {g : Gh} {O : List Nat} {w : World} {s : St} {res : Res} {cf : CallF}
theorem toList_one {α : Type} {xs : Array α} {r : α} (h : xs.toList = [r]) : xs = #[r] := Array.toList_inj.1 (by simpa using h)
theorem toList_two {α : Type} {xs : Array α} {r q : α} (h : xs.toList = [r, q]) : xs = #[r, q] := Array.toList_inj.1 (by simpa using h)
theorem sizeIs_spec {T : TypeId} {n : Nat} (h : sizeIs P T n = true) : ∃ i, P.info? T = some i /\ i.size = n := by
 unfold sizeIs at h
 split at h
 . exact ⟨_, by assumption, by simpa using h⟩
 . cases h
theorem callOK_res {c : Call} {io : IOp} {C0 : CRel} (hcf : CallOK P C0 cf) (hC : g.C = C0) (hop : o.op = .call c) (h : callOK P c io = true) (hs : stepOp cf io s = some res)
   (hl : WT s.ts a.tmps) (hR : R g O (s.ts.roots a.tmps) s.σ w) : OpRes P o a g O w s res := by
 have hd : ∀ c', o.op ≠ .defer c' := fun c' h => by rw [hop] at h; cases h
 unfold callOK at h
 split at h
 . simp only [Bool.and_eq_true] at h
   obtain ⟨h1, h2⟩ := h
   split at h1
   . rename_i hc
     simp only [Bool.and_eq_true, List.all_eq_true] at h1
     exact opRes_inv hcf hC hop hc h1.1 h2 h1.2 hs hl hR
   . cases h1
 . split at h
   . rename_i h1 h2
     simp only [Bool.and_eq_true] at h
     exact .of_val (sim_vOf hop h1 (toList_one h2) h.1 h.2 hs hl hR) hd
   . cases h
 . split at h
   . rename_i h1 h2
     simp only [Bool.and_eq_true] at h
     exact .of_val (sim_vSet hop h1 (toList_two h2) h.1 h.2.1 h.2.2 hs hl hR) hd
   . cases h
 . simp only [Bool.and_eq_true] at h
   obtain ⟨h1, h2⟩ := h
   split at h1
   . rename_i hc
     have := eq_of_beq h1
     subst this
     exact opRes_callStatic hcf hC hop hc h2 hs hl hR
   . cases h1
 . simp only [Bool.and_eq_true] at h
   obtain ⟨h1, h2⟩ := h
   split at h1
   . rename_i hc
     have := eq_of_beq h1
     subst this
     exact opRes_callp hcf hC hop hc h2 hs hl hR
   . cases h1
 . simp only [Bool.and_eq_true] at h
   obtain ⟨h1, h2⟩ := h
   split at h1
   . rename_i hc
     exact opRes_callv hcf hC hop hc h1 h2 hs hl hR
   . cases h1
 . split at h
   . rename_i h1 h2 h3
     simp only [Bool.and_eq_true] at h
     obtain ⟨h4, h5⟩ := h
     split at h5
     . rename_i hT; exact .of_val (sim_lenS hop h1 (toList_one h2) h3 h4 hT hs hl hR) hd
     . cases h5
   . cases h
 . split at h
   . rename_i h1 h2 h3
     simp only [Bool.and_eq_true] at h
     obtain ⟨h4, h5⟩ := h
     split at h5
     . rename_i hT; exact .of_val (sim_lenL hop h1 (toList_one h2) h3 h4 hT hs hl hR) hd
     . cases h5
   . cases h
 . split at h
   . rename_i h1 h2 h3
     simp only [Bool.and_eq_true] at h
     obtain ⟨h4, h5⟩ := h
     split at h5
     . rename_i hT; exact .of_val (sim_lenM hop h1 (toList_one h2) h3 h4 hT hs hl hR) hd
     . cases h5
   . cases h
 . split at h
   . rename_i h1 h2 h3
     simp only [Bool.and_eq_true] at h
     obtain ⟨h4, h5⟩ := h
     split at h5
     . rename_i he
       obtain ⟨e1, e2⟩ := elemInfo_spec he
       split at h5
       . rename_i hz
         obtain ⟨z1, z2⟩ := infoZ_spec hz
         simp only [Bool.and_eq_true] at h5
         exact .of_val (sim_clear hop h1 (toList_one h2) h3 h4 e1 z1 z2 h5.2 (by simpa using h5.1) hs hl hR) hd
       . cases h5
     . cases h5
   . cases h
 . split at h
   . rename_i h1 h2
     simp only [Bool.and_eq_true] at h
     obtain ⟨⟨h3, h4⟩, h5⟩ := h
     have := eq_of_beq h3
     subst this
     exact .of_val (sim_minmax hop h1 (toList_two h2) h4 h5 hs hl hR) hd
   . cases h
 . split at h
   . rename_i h1 h2 h3
     simp only [Bool.and_eq_true] at h
     obtain ⟨⟨h4, h5⟩, h6⟩ := h
     split at h6
     . rename_i he hu
       obtain ⟨e1, e2⟩ := elemInfo_spec he
       simp only [Bool.and_eq_true, Bool.not_eq_true'] at h6
       obtain ⟨⟨⟨h7, h8⟩, h9⟩, h10⟩ := h6
       have q1 := eq_of_beq h8
       have q2 := eq_of_beq h9
       subst q1 q2
       split at h10
       . rename_i hz
         obtain ⟨z1, z2⟩ := infoZ_spec hz
         rw [e2] at z1; cases z1
         refine .of_val (sim_appendB hop h1 (toList_two h2) (toList_two h3) h4 h5 e1 hu (fun k hk => ?_) e2 z2 (by simpa using h10) hs hl hR) hd
         subst hk; simp [isInt] at h7
       . cases h10
     . cases h6
   . cases h
 . cases h
theorem parts_range : ∀ (l : List (Nat × Operand)) (k : Nat), l.map (·.1) = List.range' k l.length -> l = ((l.map (·.2)).zipIdx k).map fun p => (p.2, p.1) := by
 intro l
 induction l with
 | nil => intro k _; rfl
 | cons p l ih =>
   intro k h
   simp only [List.map_cons, List.length_cons, List.range'_succ, List.cons.injEq] at h
   simp only [List.map_cons, List.zipIdx_cons]
   rw [<- ih (k + 1) h.2, <- h.1]
theorem nilSide_spec {ra rb r : Operand} (h : nilSide ra rb = some r) : (ra = r /\ rb = .const (.slice none 0 0)) \/ (rb = r /\ ra = .const (.slice none 0 0)) := by
 unfold nilSide at h
 split at h
 . simp at h; exact .inl ⟨h, rfl⟩
 . simp at h; exact .inr ⟨h, rfl⟩
 . cases h
theorem hasAll_spec {want : Array (String × TypeId)} {t : TypeId} {b : Bool} (h : hasAll P want t b = true) : ∃ i, P.info? t = some i /\ ((lacking want i.methods).isEmpty = b) := by
 unfold hasAll at h
 split at h
 . exact ⟨_, by assumption, by simpa using h⟩
 . cases h
theorem pur_res {k : PurK} {xs : List Opd} (h : purOK P o.op k xs = true) (hs : stepOp cf (.pur k xs) s = some res) (hl : WT s.ts a.tmps) (hR : R g O (s.ts.roots a.tmps) s.σ w) : OpRes P o a g O w s res := by
 unfold purOK at h
 split at h
 . rename_i hop
   simp only [Bool.and_eq_true] at h
   obtain ⟨h1, h2⟩ := h
   split at h1
   . rename_i hc; exact .of_val (sim_pur h2 (pur_ext hop hc h1) hs hl hR) (fun c h => by rw [hop] at h; cases h)
   . cases h1
 . rename_i hop
   split at h
   . rename_i hc
     simp only [Bool.and_eq_true, List.all_eq_true] at h
     obtain ⟨h1, h2⟩ := h
     refine .of_val (sim_pur h2 (pur_invX hop hc fun p hp => ?_) hs hl hR) (fun c h => by rw [hop] at h; cases h)
     have := h1 p hp
     split at this
     . rename_i f _
       simp only [Bool.and_eq_true] at this
       exact ⟨f, this⟩
     . cases this
   . cases h
 . rename_i hop
   simp only [Bool.and_eq_true, Bool.not_eq_true'] at h
   obtain ⟨h1, h2, h3, h4, h5⟩ := h
   rw [eq_of_beq h1] at hop
   exact .of_val (sim_pur h5 (pur_eqa hop (eq_of_beq h2) h3 h4) hs hl hR) (fun c h => by rw [hop] at h; cases h)
 . rename_i hop
   simp only [Bool.and_eq_true] at h
   obtain ⟨h1, h2, h3⟩ := h
   rw [eq_of_beq h1] at hop
   split at h2
   . rename_i hT
     split at h3
     . rename_i hn; exact .of_val (sim_pur h3 (pur_isnilS hop hT (nilSide_spec hn)) hs hl hR) (fun c h => by rw [hop] at h; cases h)
     . cases h3
   . cases h2
 . rename_i hop
   simp only [Bool.and_eq_true, List.all_eq_true] at h
   obtain ⟨h1, h2, h3, h4⟩ := h
   rw [eq_of_beq h1] at hop
   split at h2
   . rename_i hT
     refine .of_val (sim_pur h4 (pur_eqi hop hT fun p hp => ?_) hs hl hR) (fun c h => by rw [hop] at h; cases h)
     have := h3 p hp
     split at this
     . rename_i i d hi hd
       simp only [Bool.and_eq_true] at this
       exact ⟨i, d, hi, this.1, hd, this.2⟩
     . cases this
   . cases h2
 . rename_i hop
   simp only [Bool.and_eq_true] at h
   obtain ⟨h1, h2, h3⟩ := h
   split at h1
   . rename_i hS
     split at h1
     . rename_i he
       split at h2
       . rename_i hT; exact .of_val (sim_pur h3 (pur_text hop hS he hT) hs hl hR) (fun c h => by rw [hop] at h; cases h)
       . cases h2
     . cases h1
   . cases h1
 . rename_i hop
   split at h
   . rename_i hr hq
     simp only [Bool.and_eq_true] at h
     have e1 := eq_of_beq h.1
     subst e1
     exact .of_val (sim_pur h.2 (pur_mkM hop hr hq) hs hl hR) (fun c h => by rw [hop] at h; cases h)
   . cases h
 . rename_i hop
   simp only [Bool.and_eq_true, List.all_eq_true] at h
   exact .of_val (sim_pur h.2 (pur_nilM hop h.1) hs hl hR) (fun c h => by rw [hop] at h; cases h)
 . rename_i hop
   simp only [Bool.and_eq_true] at h
   obtain ⟨h1, h2, h3⟩ := h
   split at h2
   . rename_i hT; exact .of_val (sim_pur h3 (pur_rune hop h1 hT) hs hl hR) (fun c h => by rw [hop] at h; cases h)
   . cases h2
 . rename_i hop
   simp only [Bool.and_eq_true] at h
   obtain ⟨h1, h2, h3, h4, h5⟩ := h
   have e1 := eq_of_beq h1
   have e2 := eq_of_beq h2
   subst e1 e2
   split at h4
   . rename_i hz
     obtain ⟨z1, z2⟩ := infoZ_spec hz
     split at h3
     . cases h3
     . rename_i d hne hA; exact .of_val (sim_pur h5 (pur_tyC hop hA (fun ms e => hne ms (by rw [e])) z1 z2 h4) hs hl hR) (fun c h => by rw [hop] at h; cases h)
     . cases h3
   . cases h4
 . rename_i hop
   simp only [Bool.and_eq_true] at h
   obtain ⟨h2, h3, h4, h5⟩ := h
   have e2 := eq_of_beq h2
   subst e2
   split at h4
   . rename_i hz
     obtain ⟨z1, z2⟩ := infoZ_spec hz
     split at h3
     . rename_i want hA
       simp only [Bool.and_eq_true, List.all_eq_true] at h3
       refine .of_val (sim_pur h5 (pur_tyI hop hA z1 z2 (fun t ht => ?_) (fun t ht => ?_)) hs hl hR) (fun c h => by rw [hop] at h; cases h)
       . obtain ⟨i, hi, hb⟩ := hasAll_spec (h3.1 t ht); exact ⟨i, hi, List.isEmpty_iff.1 hb⟩
       . obtain ⟨i, hi, hb⟩ := hasAll_spec (h3.2 t ht); exact ⟨i, hi, fun e => by rw [e] at hb; cases hb⟩
     . cases h3
   . cases h4
 . cases h
theorem op_res {io : IOp} {C0 : CRel} (hcf : CallOK P C0 cf) (hC : g.C = C0) (h : opOK P o.op io = true) (hs : stepOp cf io s = some res) (hl : WT s.ts a.tmps) (hR : R g O (s.ts.roots a.tmps) s.σ w) : OpRes P o a g O w s res := by
 unfold opOK at h
 split at h
 . exact pur_res h hs hl hR
 . rename_i hop; exact .of_val (sim_mv (.inl hop) h hs hl hR) (fun c h => by rw [hop] at h; cases h)
 . rename_i hop; exact .of_val (sim_mv (.inr hop) h hs hl hR) (fun c h => by rw [hop] at h; cases h)
 . rename_i hop
   simp only [Bool.and_eq_true] at h
   exact .of_val (sim_pick hop h.1.1 h.1.2 h.2 hs hl hR) (fun c h => by rw [hop] at h; cases h)
 . rename_i hop
   split at h
   . rename_i hz
     obtain ⟨z1, z2⟩ := infoZ_spec hz
     exact .of_val (sim_alloc hop z1 z2 h hs hl hR) (fun c h => by rw [hop] at h; cases h)
   . cases h
 . rename_i hop; exact .of_val (sim_box hop h hs hl hR) (fun c h => by rw [hop] at h; cases h)
 . rename_i hop; exact .of_val (sim_boxv hop h hs hl hR) (fun c h => by rw [hop] at h; cases h)
 . rename_i hop
   split at h
   . rename_i zc place hb
     simp only [Bool.and_eq_true] at h
     exact .of_val (sim_build (z := .agg zc) hop h.1 (fun ps cells hf => buildInfo_spec hb w ps cells hf) h.2 hs hl hR) (fun c h => by rw [hop] at h; cases h)
   . cases h
 . rename_i hop
   split at h
   . rename_i he
     obtain ⟨e1, e2⟩ := elemInfo_spec he
     simp only [Bool.and_eq_true] at h
     obtain ⟨⟨⟨⟨⟨h1, h2⟩, h3⟩, h4⟩, h5⟩, h6⟩ := h
     have q1 := eq_of_beq h1
     subst q1
     split at h6
     . rename_i hz
       obtain ⟨z1, z2⟩ := infoZ_spec hz
       rw [e2] at z1; cases z1
       refine .of_val (sim_buildSl hop (by rw [eq_of_beq h3]; simp) ?_ h5 e1 e2 z2 (by simpa using h6) (by simpa using h2) hs hl hR) (fun c h => by rw [hop] at h; cases h)
       have h4' := eq_of_beq h4
       refine parts_range _ 0 ?_
       rw [h4', List.range_eq_range']; simp
     . cases h6
   . cases h
 . rename_i hop
   split at h
   . rename_i he
     obtain ⟨e1, e2⟩ := elemInfo_spec he
     simp only [Bool.and_eq_true] at h
     obtain ⟨⟨⟨⟨⟨h1, h2⟩, h3⟩, h4⟩, h5⟩, h6⟩ := h
     have q1 := eq_of_beq h1
     subst q1
     split at h6
     . rename_i hz
       obtain ⟨z1, z2⟩ := infoZ_spec hz
       rw [e2] at z1; cases z1
       refine .of_val (sim_buildRs hop (by rw [eq_of_beq h3]; simp) ?_ h5 e1 e2 z2 (by simpa using h6) (by simpa using h2) hs hl hR) (fun c h => by rw [hop] at h; cases h)
       have h4' := eq_of_beq h4
       refine parts_range _ 0 ?_
       rw [h4', List.range_eq_range']; simp
     . cases h6
   . cases h
 . rename_i hop
   simp only [Bool.and_eq_true] at h
   exact .of_val (sim_load hop h.1 h.2 hs hl hR) (fun c h => by rw [hop] at h; cases h)
 . rename_i hop
   simp only [Bool.and_eq_true] at h
   obtain ⟨i, i1, i2⟩ := sizeIs_spec h.2
   exact .of_val (sim_store hop h.1.1 h.1.2 i1 i2 hs hl hR) (fun c h => by rw [hop] at h; cases h)
 . rename_i hop; exact .of_val (sim_nilCheck hop h hs hl hR) (fun c h => by rw [hop] at h; cases h)
 . rename_i hop
   simp only [Bool.and_eq_true] at h
   have q1 := eq_of_beq h.1.1
   subst q1
   exact .of_val (sim_bin hop h.1.2 h.2 hs hl hR) (fun c h => by rw [hop] at h; cases h)
 . rename_i hop
   simp only [Bool.and_eq_true] at h
   obtain ⟨⟨⟨h1, h2⟩, h3⟩, h4⟩ := h
   have q1 := eq_of_beq h1
   subst q1
   split at h4
   . rename_i hT; exact .of_val (sim_eqb hop h2 h3 hT hs hl hR) (fun c h => by rw [hop] at h; cases h)
   . cases h4
 . rename_i hop
   simp only [Bool.and_eq_true, Bool.or_eq_true] at h
   obtain ⟨⟨h1, h2⟩, h3⟩ := h
   have q1 := eq_of_beq h1
   subst q1
   unfold nilOK at h2
   split at h2
   . rename_i d hT
     simp only [Bool.and_eq_true, decide_eq_true_eq] at h2
     rcases h3 with ⟨h3, h4⟩ | ⟨h3, h4⟩
     . exact .of_val (sim_isnil hop (.inl ⟨rfl, isNilConst_spec h3⟩) h4 hT h2.1 hs hl hR) (fun c h => by rw [hop] at h; cases h)
     . exact .of_val (sim_isnil hop (.inr ⟨isNilConst_spec h3, rfl⟩) h4 hT h2.1 hs hl hR) (fun c h => by rw [hop] at h; cases h)
   . cases h2
 . rename_i hop
   simp only [Bool.and_eq_true] at h
   have q1 := eq_of_beq h.1
   subst q1
   exact .of_val (sim_un hop h.2 hs hl hR) (fun c h => by rw [hop] at h; cases h)
 . rename_i hop
   simp only [Bool.and_eq_true] at h
   obtain ⟨⟨h1, h2⟩, h3⟩ := h
   obtain ⟨ds, hds⟩ := Option.isSome_iff_exists.1 h2
   split at h3
   . rename_i hT
     have q1 := eq_of_beq h3
     subst q1
     exact .of_val (sim_convInt hop h1 hds hT hs hl hR) (fun c h => by rw [hop] at h; cases h)
   . cases h3
 . rename_i hop
   simp only [Bool.and_eq_true] at h
   obtain ⟨h1, h3⟩ := h
   split at h3
   . rename_i hS hT; exact .of_val (sim_convSame hop h1 hS hT hs hl hR) (fun c h => by rw [hop] at h; cases h)
   . cases h3
 . rename_i hop
   simp only [Bool.and_eq_true] at h
   obtain ⟨h1, h3⟩ := h
   split at h3
   . rename_i hS hT
     split at h3
     . rename_i he
       exact .of_val (sim_convBytes hop h1 hS hT he hs hl hR) (fun c h => by rw [hop] at h; cases h)
     . cases h3
   . cases h3
 . rename_i hop
   simp only [Bool.and_eq_true] at h
   obtain ⟨⟨h1, h2⟩, h3⟩ := h
   have q1 := eq_of_beq h1
   subst q1
   split at h3
   . cases h3
   . rename_i d hne hT; exact .of_val (sim_mkIface hop h2 hT (fun ms e => hne ms (by rw [e])) hs hl hR) (fun c h => by rw [hop] at h; cases h)
   . cases h3
 . rename_i hop
   simp only [Bool.and_eq_true] at h
   obtain ⟨⟨h1, h2⟩, h3⟩ := h
   have q1 := eq_of_beq h1
   subst q1
   exact .of_val (sim_mkFn hop h2 h3 hs hl hR) (fun c h => by rw [hop] at h; cases h)
 . rename_i hop; exact .of_val (sim_mkMap hop hs hl hR) (fun c h => by rw [hop] at h; cases h)
 . rename_i hop
   simp only [Bool.and_eq_true] at h
   obtain ⟨⟨h1, h2⟩, h3⟩ := h
   split at h3
   . rename_i he
     obtain ⟨e1, e2⟩ := elemInfo_spec he
     simp only [Bool.and_eq_true] at h3
     obtain ⟨⟨h4, h5⟩, h6⟩ := h3
     have q1 := eq_of_beq h4
     have q2 := eq_of_beq h5
     subst q1 q2
     split at h6
     . rename_i hz
       obtain ⟨z1, z2⟩ := infoZ_spec hz
       rw [e2] at z1; cases z1
       simp only [Bool.and_eq_true] at h6
       exact .of_val (sim_mkSl hop h1 h2 e1 e2 z2 h6.2 (by simpa using h6.1) hs hl hR) (fun c h => by rw [hop] at h; cases h)
     . cases h6
   . cases h3
 . rename_i hop
   simp only [Bool.and_eq_true] at h
   obtain ⟨⟨⟨h1, h2⟩, h3⟩, h4⟩ := h
   split at h4
   . rename_i hT; exact .of_val (sim_sliceS hop h1 h2 h3 hT hs hl hR) (fun c h => by rw [hop] at h; cases h)
   . cases h4
 . rename_i hop
   simp only [Bool.and_eq_true] at h
   obtain ⟨⟨⟨⟨⟨h1, h2⟩, h3⟩, h4⟩, h5⟩, h6⟩ := h
   split at h6
   . rename_i he
     obtain ⟨e1, e2⟩ := elemInfo_spec he
     have q1 := eq_of_beq h6
     subst q1
     refine .of_val (sim_sliceL hop h1 h2 h3 h4 ?_ e1 e2 hs hl hR) (fun c h => by rw [hop] at h; cases h)
     simp only [Bool.or_eq_true] at h5
     rcases h5 with h5 | h5
     . left; simpa using h5
     . right; intro e; rw [e] at h5; simp at h5
   . cases h6
 . rename_i hop
   simp only [Bool.and_eq_true] at h
   obtain ⟨h1, h2⟩ := h
   split at h2
   . rename_i hT
     split at h2
     . rename_i hf
       simp only [Bool.and_eq_true] at h2
       obtain ⟨h3, h4⟩ := h2
       have q1 := eq_of_beq h3
       subst q1
       split at h4
       . rename_i hi; exact .of_val (sim_fieldAddr hop h1 hT hf hi (by simpa using h4) hs hl hR) (fun c h => by rw [hop] at h; cases h)
       . cases h4
     . cases h2
   . cases h2
 . rename_i hop
   simp only [Bool.and_eq_true] at h
   obtain ⟨h1, h2⟩ := h
   split at h2
   . rename_i hT
     split at h2
     . rename_i hf
       simp only [Bool.and_eq_true] at h2
       obtain ⟨h3, h4⟩ := h2
       have q1 := eq_of_beq h3
       subst q1
       exact .of_val (sim_field hop h1 hT hf h4 hs hl hR) (fun c h => by rw [hop] at h; cases h)
     . cases h2
   . cases h2
 . rename_i hop
   simp only [Bool.and_eq_true] at h
   obtain ⟨⟨h1, h2⟩, h3⟩ := h
   split at h3
   . rename_i he
     obtain ⟨e1, e2⟩ := elemInfo_spec he
     have q1 := eq_of_beq h3
     subst q1
     exact .of_val (sim_idxAddr hop h1 h2 e1 e2 hs hl hR) (fun c h => by rw [hop] at h; cases h)
   . cases h3
 . rename_i hop
   simp only [Bool.and_eq_true] at h
   obtain ⟨⟨h1, h2⟩, h3⟩ := h
   split at h3
   . rename_i hT
     simp only [Bool.and_eq_true] at h3
     obtain ⟨h4, h5⟩ := h3
     have q1 := eq_of_beq h4
     subst q1
     obtain ⟨i, i1, i2⟩ := sizeIs_spec h5
     subst i2
     exact .of_val (sim_idxAddrA hop h1 h2 hT i1 hs hl hR) (fun c h => by rw [hop] at h; cases h)
   . cases h3
 . rename_i hop
   simp only [Bool.and_eq_true] at h
   obtain ⟨⟨h1, h2⟩, h3⟩ := h
   split at h3
   . rename_i hT; exact .of_val (sim_idxS hop h1 h2 hT hs hl hR) (fun c h => by rw [hop] at h; cases h)
   . cases h3
 . rename_i hop
   simp only [Bool.and_eq_true] at h
   obtain ⟨⟨h1, h2⟩, h3⟩ := h
   split at h3
   . rename_i hT
     simp only [Bool.and_eq_true] at h3
     obtain ⟨⟨h4, h5⟩, h6⟩ := h3
     have q1 := eq_of_beq h4
     subst q1
     obtain ⟨i, i1, i2⟩ := sizeIs_spec h5
     subst i2
     exact .of_val (sim_idxA hop h1 h2 hT i1 h6 hs hl hR) (fun c h => by rw [hop] at h; cases h)
   . cases h3
 . rename_i hop
   simp only [Bool.and_eq_true] at h
   obtain ⟨⟨⟨⟨h1, h2⟩, h3⟩, h4⟩, h5⟩ := h
   have q1 := eq_of_beq h1
   subst q1
   split at h5
   . rename_i hT
     split at h5
     . rename_i hK hz
       obtain ⟨z1, z2⟩ := infoZ_spec hz
       simp only [Bool.and_eq_true] at h5
       exact .of_val (sim_lookup hop h2 h3 hT hK h5.1 z1 z2 h5.2 h4 hs hl hR) (fun c h => by rw [hop] at h; cases h)
     . cases h5
   . cases h5
 . rename_i hop
   simp only [Bool.and_eq_true] at h
   obtain ⟨⟨⟨h1, h2⟩, h3⟩, h4⟩ := h
   split at h4
   . rename_i hT
     split at h4
     . rename_i hK; exact .of_val (sim_mapSet (.inl hop) h1 h2 h3 hT hK h4 hs hl hR) (fun c h => by rw [hop] at h; cases h)
     . cases h4
   . cases h4
 . rename_i hop
   simp only [Bool.and_eq_true] at h
   obtain ⟨⟨⟨h1, h2⟩, h3⟩, h4⟩ := h
   split at h4
   . rename_i hT
     split at h4
     . rename_i hK; exact .of_val (sim_mapSet (.inr hop) h1 h2 h3 hT hK h4 hs hl hR) (fun c h => by rw [hop] at h; cases h)
     . cases h4
   . cases h4
 . rename_i hop
   simp only [Bool.and_eq_true] at h
   have q1 := eq_of_beq h.1
   subst q1
   exact .of_val (sim_extract hop h.2 hs hl hR) (fun c h => by rw [hop] at h; cases h)
 . rename_i hop _; exact callOK_res hcf hC hop h hs hl hR
 . cases h
end Go.Idl
namespace Go.Idl
variable [Globs]
variable {C0 : CRel} {P : Program} {a : Act} {g : Gh} {O : List Nat} {w : World} {s : St} {cf : CallF}
structure Shape where
 n : Nat
 nv : Nat
 m : Nat
def Shape.slot (z : Shape) (j : Nat) : Nat := bif Nat.blt j z.nv then j else z.nv + (j - z.nv) % z.m
def SameSh (ts ts' : Ts) : Prop := ts'.nv = ts.nv /\ ts'.m = ts.m /\ ts'.ds = ts.ds
theorem SameSh.refl (ts : Ts) : SameSh ts ts := ⟨rfl, rfl, rfl⟩
theorem SameSh.trans {a b c : Ts} (h : SameSh a b) (k : SameSh b c) : SameSh a c := ⟨k.1.trans h.1, k.2.1.trans h.2.1, k.2.2.trans h.2.2⟩
theorem SameSh.get {x : Opd} {ts ts' : Ts} {v : IVal} (h : x.get ts = some (v, ts')) : SameSh ts ts' := by
 cases x <;> simp only [Opd.get] at h
 . split at h <;> simp at h; obtain ⟨-, rfl⟩ := h; exact .refl _
 . split at h <;> simp at h; obtain ⟨-, rfl⟩ := h; exact ⟨rfl, rfl, rfl⟩
 . simp at h; obtain ⟨-, rfl⟩ := h; exact .refl _
theorem SameSh.getAll {xs : List Opd} : ∀ {ts ts' : Ts} {vs : List IVal}, Idl.getAll xs ts = some (vs, ts') -> SameSh ts ts' := by
 induction xs with
 | nil => intro ts ts' vs h; simp [Idl.getAll] at h; rw [h.2]; exact .refl _
 | cons x xs ih =>
   intro ts ts' vs h
   simp only [Idl.getAll] at h
   split at h
   . rename_i h1
     split at h
     . rename_i h2
       simp only [Option.some.injEq, Prod.mk.injEq] at h
       obtain ⟨-, rfl⟩ := h
       exact (SameSh.get h1).trans (ih h2)
     . cases h
   . cases h
theorem SameSh.fill : ∀ {vs : List IVal} {ts : Ts} {j : Nat}, SameSh ts (ts.fill j vs) := by
 intro vs
 induction vs with
 | nil => intro ts j; exact .refl _
 | cons v vs ih => intro ts j; exact SameSh.trans ⟨rfl, rfl, rfl⟩ ih
theorem SameSh.put {ts : Ts} {d : Option Nat} {v : IVal} : SameSh ts (putT ts d v) := by cases d <;> exact ⟨rfl, rfl, rfl⟩
theorem SameSh.stepCall {f : Cal} {vs : List IVal} {ts : Ts} {r : Res} (h : Idl.stepCall cf f vs ts s = some r) : r.s.ts = ts := by
 unfold Idl.stepCall at h
 split at h
 . simp only [Option.some.injEq] at h; subst h; rfl
 . cases h
theorem SameSh.step {o : IOp} {r : Res} (h : stepOp cf o s = some r) : SameSh s.ts r.s.ts := by
 cases o <;> simp only [stepOp, rv] at h
 case call f xs =>
   split at h
   . rename_i h1; rw [SameSh.stepCall h]; exact .getAll h1
   . cases h
 case callv f xs =>
   split at h
   . rename_i h0
     split at h
     . rename_i h1; rw [SameSh.stepCall h]; exact (SameSh.get h0).trans (.getAll h1)
     . cases h
   . rename_i h0
     split at h
     . rename_i h1; rw [SameSh.stepCall h]; exact (SameSh.get h0).trans (.getAll h1)
     . cases h
   . cases h
 case inv tab x xs =>
   repeat' split at h
   all_goals first | (cases h; done) | (rw [SameSh.stepCall h]; exact (SameSh.get (by assumption)).trans (.getAll (by assumption)))
 case extract x i =>
   split at h
   . rename_i h0
     split at h
     . split at h
       . simp only [Option.some.injEq] at h; subst h; exact (SameSh.get h0).trans ⟨rfl, rfl, rfl⟩
       . simp only [Option.some.injEq] at h; subst h; exact SameSh.get h0
     . cases h
   . cases h
 all_goals
   repeat' split at h
   all_goals first | (cases h; done) | (simp only [Option.some.injEq] at h; subst h; simp only; first | exact .refl _ | exact SameSh.get (by assumption) | exact SameSh.getAll (by assumption) | exact SameSh.trans (SameSh.get (by assumption)) (SameSh.get (by assumption)) | exact SameSh.trans (SameSh.getAll (by assumption)) (SameSh.getAll (by assumption)) | exact SameSh.trans (SameSh.get (by assumption)) (SameSh.trans (SameSh.get (by assumption)) (SameSh.get (by assumption))) | exact SameSh.trans (SameSh.get (by assumption)) ⟨rfl, rfl, rfl⟩)
def DefsR (g : Gh) (ds : List Nat) (defers : List Deferred) : Prop :=
 defers.length = ds.length /\ ∀ (i : Nat) id d, ds[i]? = some id -> defers[i]? = some d -> ∃ b, g.ι[id]? = some b /\ d = { target := .collected b, args := #[] }
theorem DefsR.mono {g g' : Gh} {ds : List Nat} {defers : List Deferred} (h : DefsR g ds defers) (hι : ∀ (id b : Nat), g.ι[id]? = some b -> g'.ι[id]? = some b) : DefsR g' ds defers :=
 ⟨h.1, fun i id d h1 h2 => let ⟨b, q1, q2⟩ := h.2 i id d h1 h2; ⟨b, hι _ _ q1, q2⟩⟩
theorem DefsR.nil (g : Gh) : DefsR g [] [] := ⟨rfl, fun i id d h => by simp at h⟩
structure Stand (C0 : CRel) (N : Shape) (g : Gh) (O : List Nat) (s : St) (a : Act) (w : World) : Prop where
 rel : R g O (s.ts.roots a.tmps) s.σ w
 len : WT s.ts a.tmps
 defs : DefsR g s.ts.ds a.defers
 size : N.n <= a.tmps.size
 sh : s.ts.nv = N.nv /\ s.ts.m = N.m
 code : g.C = C0
structure Goes (g : Gh) (O : List Nat) (s : St) (w : World) (g' : Gh) (O' : List Nat) (s' : St) (w' : World) : Prop where
 grow : Grow O g w O' g' w'
 keep : ∃ wn, s'.wr = wn ++ s.wr /\ Keep s.σ s'.σ wn
theorem Goes.refl (g : Gh) (O : List Nat) (s : St) (w : World) : Goes g O s w g O s w := ⟨.refl O g w, ⟨[], rfl, .refl _⟩⟩
theorem Goes.trans {g1 g2 g3 : Gh} {O1 O2 O3 : List Nat} {s1 s2 s3 : St} {w1 w2 w3 : World} (h : Goes g1 O1 s1 w1 g2 O2 s2 w2) (k : Goes g2 O2 s2 w2 g3 O3 s3 w3) : Goes g1 O1 s1 w1 g3 O3 s3 w3 := by
 obtain ⟨wn, h1, h2⟩ := h.keep
 obtain ⟨wn', k1, k2⟩ := k.keep
 exact ⟨h.grow.trans k.grow, ⟨wn' ++ wn, by rw [k1, h1, List.append_assoc], h2.trans k2⟩⟩
def exitOf : IExit -> Option Exit
 | .normal => some .normal
 | .exit id => some (.exit id)
 | .goto l => some (.goto l)
 | .ret => some .ret
 | .panic _ => none
def After (C0 : CRel) (N : Shape) (g : Gh) (O : List Nat) (s : St) (w : World) (x : IExit) (s' : St) (Q : Exit -> Act -> World -> Prop) : Prop :=
 (∀ e g' O' a' w', exitOf x = some e -> Goes g O s w g' O' s' w' -> Stand C0 N g' O' s' a' w' -> Q e a' w') /\
 (∀ v g' O' a' w' v', x = .panic v -> Goes g O s w g' O' s' w' -> R g' O' ((v, v') :: s'.ts.roots a'.tmps) s'.σ w' -> DefsR g' s'.ts.ds a'.defers -> Q (.panic [{ v := v', recovered := false }]) a' w')
theorem After.of_goes {N : Shape} {g1 : Gh} {O1 : List Nat} {s1 : St} {w1 : World} {x : IExit} {s' : St} {Q : Exit -> Act -> World -> Prop} (h : After C0 N g O s w x s' Q) (hg : Goes g O s w g1 O1 s1 w1) : After C0 N g1 O1 s1 w1 x s' Q :=
 ⟨fun e g' O' a' w' he k st => h.1 e g' O' a' w' he (hg.trans k) st, fun v g' O' a' w' v' he k r d => h.2 v g' O' a' w' v' he (hg.trans k) r d⟩
def guardOK (ops : Array Oper) : Option (Nat × Bool) -> Option (Nat × Bool) -> Bool
 | none, none => true
 | some (j, b), some (t, b') => b == b' && (match ops[j]? with | some o => o.dst == some t | none => false)
 | _, _ => false
def operOK (P : Program) (ops : Array Oper) (o : Oper) (io : IOper) : Bool := opOK P o.op io.op && o.dst == io.dst && guardOK ops o.guard io.guard
def opersOK (P : Program) (ops : Array Oper) : List Oper -> List IOper -> Bool
 | [], [] => true
 | o :: os, io :: ios => operOK P ops o io && opersOK P ops os ios
 | _, _ => false
theorem V.bool_iff {x : IVal} {v : Value} (h : V g x v) (b : Bool) : v = .bool b ↔ x = .bool b := by
 cases h with
 | prim v hp => cases v <;> simp [okPrim] at hp ⊢
 | _ => simp
theorem wanted_sim {N : Shape} {ops : Array Oper} {o : Oper} {io : IOper} {bw : Bool} (h : guardOK ops o.guard io.guard = true) (hs : Stand C0 N g O s a w) (hw : wantedI io.guard s.ts = some bw) : Region.wanted o (yielded ops a.tmps) = bw := by
 unfold guardOK at h
 unfold wantedI at hw
 unfold Region.wanted
 split at h
 . rename_i h1 h2; rw [h2] at hw; simp at hw; simp [h1, hw]
 . rename_i j b t b' h1 h2
   simp only [Bool.and_eq_true] at h
   obtain ⟨h3, h4⟩ := h
   have := eq_of_beq h3
   subst this
   rw [h1]
   rw [h2] at hw
   simp only at hw ⊢
   split at h4
   . rename_i og hog
     have hdst : og.dst = some t := eq_of_beq h4
     simp only [yielded, hog, Option.bind_some, hdst]
     cases ht : s.ts.get? t with
     | none => simp [ht] at hw
     | some x =>
       rw [ht] at hw
       obtain ⟨rest, hp, -⟩ := Ts.roots_get a.tmps ht
       have hV : V g x (a.tmps.getD t undef) := hs.rel.vals (x, a.tmps.getD t undef) (hp.mem_iff.2 (by simp))
       have hlt := (hs.len _ _ (Ts.get?_spec ht)).2
       have hget : a.tmps[t]? = some (a.tmps.getD t undef) := by simp [hlt]
       rw [hget]
       generalize a.tmps.getD t undef = v at hV
       cases v with
       | bool b0 =>
         have := (hV.bool_iff b0).1 rfl
         subst this
         simp only [Option.some.injEq] at hw
         subst hw
         cases b0 <;> cases b <;> rfl
       | _ =>
         cases x with
         | bool b0 => have := (hV.bool_iff b0).2 rfl; cases this
         | _ => simp at hw; subst hw; cases b <;> rfl
   . cases h4
 . cases h
theorem put_stand {N : Shape} {d : Option Nat} {x : IVal} {v : Value} (hR : R g O ((x, v) :: s.ts.roots a.tmps) s.σ w) (hl : WT s.ts a.tmps) (hd : DefsR g s.ts.ds a.defers) (hN : N.n <= a.tmps.size) (hz : s.ts.nv = N.nv /\ s.ts.m = N.m) (hC : g.C = C0) (hlt : ∀ t, d = some t -> t < N.n) :
   Stand C0 N g O { s with ts := putT s.ts d x } (a.put d v) w := by
 cases d with
 | none => exact ⟨hR.drop, hl, hd, hN, hz, hC⟩
 | some t =>
   have ht : t < a.tmps.size := Nat.lt_of_lt_of_le (hlt t rfl) hN
   have hW := hl.set ht x
   refine ⟨?_, fun k p hp => by have := hW k p hp; simpa [Act.put, putT] using this, hd, by simpa [Act.put] using hN, hz, hC⟩
   obtain ⟨rest, ev, h1, h2⟩ := Ts.roots_put hl ht x v
   simp only [putT, Act.put]
   have h3 := hR.perm (h1.cons _)
   cases hb : s.ts.t.has (s.ts.slot t) with
   | true =>
     rw [hb] at h2
     refine R.perm (R.drops (l := ev) (h3.perm ?_)) (h2.symm)
     simpa using (List.perm_middle (a := (x, v)) (l₁ := ev) (l₂ := rest)).symm
   | false =>
     rw [hb] at h2
     exact R.perm (R.drops (l := ev) h3.drop) (by simpa using h2.symm)
def dstsOK (n : Nat) (ios : List IOper) : Bool := ios.all fun io => match io.dst with | some d => decide (d < n) | none => true
theorem ops_sim {ρ : Option Nat} {n : Nat} {N : Shape} {ops : Array Oper} {Q : Exit -> Act -> World -> Prop} (hcf : CallOK P C0 cf) : ∀ {ios : List IOper} {os pre : List Oper} {g : Gh} {O : List Nat} {s s' : St} {a : Act} {w : World} {x : IExit}, ops.toList = pre ++ os -> opersOK P ops os ios = true ->
   dstsOK N.n ios = true -> runOps cf ios s = some (x, s') -> Stand C0 N g O s a w -> After C0 N g O s w x s' Q -> wpOpsIn (WF ρ) n P ops Q (List.range' pre.length os.length) a w := by
 intro ios
 induction ios with
 | nil =>
   intro os pre g O s s' a w x hops hok hds hrun hst haft
   cases os <;> simp [opersOK] at hok
   simp [runOps] at hrun
   obtain ⟨rfl, rfl⟩ := hrun
   exact haft.1 _ g O a w rfl (.refl _ _ _ _) hst
 | cons io ios ih =>
   intro os pre g O s s' a w x hops hok hds hrun hst haft
   cases os with
   | nil => simp [opersOK] at hok
   | cons o os =>
     simp only [opersOK, Bool.and_eq_true, operOK] at hok
     obtain ⟨⟨⟨hop, hdst⟩, hgd⟩, hrest⟩ := hok
     have hdst := eq_of_beq hdst
     obtain ⟨iod, iop, iog⟩ := io
     simp only at hop hdst hgd
     subst hdst
     simp only [dstsOK, List.all_cons, Bool.and_eq_true] at hds
     have hd0 : ∀ t, o.dst = some t -> t < N.n := by
       intro t ht
       have := hds.1
       rw [ht] at this
       simpa using this
     have hget : ops[pre.length]? = some o := by
       rw [<- Array.getElem?_toList, hops]; simp
     simp only [List.length_cons, List.range'_succ, wpOpsIn, hget]
     have hnext : ops.toList = (pre ++ [o]) ++ os := by rw [hops]; simp
     have hlenp : (pre ++ [o]).length = pre.length + 1 := by simp
     simp only [runOps] at hrun
     split at hrun
     . rename_i hwi
       rw [if_pos (wanted_sim (o := o) (io := ⟨o.dst, iop, iog⟩) hgd hst hwi)]
       split at hrun
       . rename_i v s1 hstep
         refine op_res hcf hst.code hop hstep hst.len hst.rel ρ n _ Q (fun _ v' w' hp => ?_) (fun h => by cases h)
         obtain ⟨g1, O1, wn, hg, hR, hl, hwr, hk⟩ := hp
         have hst1 := put_stand (d := o.dst) (s := s1) hR hl (by rw [(SameSh.step hstep).2.2]; exact hst.defs.mono hg.pre) hst.size ⟨(SameSh.step hstep).1.trans hst.sh.1, (SameSh.step hstep).2.1.trans hst.sh.2⟩ (hg.code.trans hst.code) hd0
         rw [<- hlenp]
         exact ih hnext hrest hds.2 hrun hst1 (haft.of_goes ⟨hg, ⟨wn, hwr, hk⟩⟩)
       . rename_i v s1 hstep
         refine op_res hcf hst.code hop hstep hst.len hst.rel ρ n _ Q (fun h => by cases h) (fun _ v' w' hp => ?_)
         obtain ⟨g1, O1, wn, hg, hR, hl, hwr, hk⟩ := hp
         simp only [Option.some.injEq, Prod.mk.injEq] at hrun
         obtain ⟨rfl, rfl⟩ := hrun
         exact haft.2 v g1 O1 a w' v' rfl ⟨hg, ⟨wn, hwr, hk⟩⟩ hR (by rw [(SameSh.step hstep).2.2]; exact hst.defs.mono hg.pre)
       . cases hrun
     . rename_i hwi
       rw [if_neg (by rw [wanted_sim (o := o) (io := ⟨o.dst, iop, iog⟩) hgd hst hwi]; simp)]
       refine ⟨fun _ _ => trivial, ?_⟩
       have hR : R g O ((undefI, undef) :: s.ts.roots a.tmps) s.σ w := hst.rel.push (undef_V g) rfl
       have hst1 := put_stand (d := o.dst) (s := s) hR hst.len hst.defs hst.size hst.sh hst.code hd0
       rw [<- hlenp]
       exact ih hnext hrest hds.2 hrun hst1 (haft.of_goes ⟨.refl O g w, ⟨[], rfl, .refl _⟩⟩)
     . cases hrun
end Go.Idl
namespace Go.Idl
variable [Globs]
variable {P : Program} {a : Act} {g : Gh} {O : List Nat} {w : World} {s : St} {cf : CallF}
def resOK (P : Program) : ResultVar -> RV -> Bool
 | .tmp t, .t i => t == i
 | .cell t T, .cell i n => t == i && tyN P T n
 | _, _ => false
def ressOK (P : Program) : List ResultVar -> List RV -> Bool
 | [], [] => true
 | r :: rs, v :: vs => resOK P r v && ressOK P rs vs
 | _, _ => false
def resM (tmps : Array Value) (rs : List ResultVar) : Sem (List Value) := rs.mapM fun r => match r with
 | .tmp t => pure (tmps.getD t undef)
 | .cell a t => do loadVar t (<- asAddr (tmps.getD a undef))
theorem resM_nil {tmps : Array Value} : resM tmps [] = pure [] := by simp [resM]
theorem resM_tmp {tmps : Array Value} {t : Nat} {rs : List ResultVar} : (resM tmps (.tmp t :: rs)).run P w = ((resM tmps rs).run P w).andThen fun us w' => .ok (tmps.getD t undef :: us) w' := by
 simp only [resM, List.mapM_cons, Sem.run_bind, Sem.run_pure, Result.andThen_ok]
theorem resM_cell {tmps : Array Value} {t : Nat} {T : TypeId} {rs : List ResultVar} {ad : Addr} (h : tmps.getD t undef = .pointer (some ad)) {u : Value} {w' : World} (hl : (loadVar T ad).run P w = .ok u w') :
   (resM tmps (.cell t T :: rs)).run P w = ((resM tmps rs).run P w').andThen fun us w' => .ok (u :: us) w' := by
 simp only [resM, List.mapM_cons, Sem.run_bind, h, asAddr, Sem.run_pure, Result.andThen_ok, hl]
theorem results_sim {tmps : Array Value} : ∀ {vs : List RV} {rs : List ResultVar} {l : Roots} {s s' : St} {g : Gh} {O : List Nat} {w : World} {xs : List IVal}, ressOK P rs vs = true -> readRes vs s = some (xs, s') -> WT s.ts tmps ->
   R g O (l ++ s.ts.roots tmps) s.σ w ->
   ∃ us : List Value, (resM tmps rs).run P w = .ok us w /\ xs.length = us.length /\ WT s'.ts tmps /\
     R g O (xs.zip us ++ (l ++ s'.ts.roots tmps)) s'.σ w /\ ∃ wn, s'.wr = wn ++ s.wr /\ Keep s.σ s'.σ wn /\ wn.all (fun p => !p.2) = true := by
 intro vs
 induction vs with
 | nil =>
   intro rs l s s' g O w xs hok hrd hl hR
   cases rs <;> simp [ressOK] at hok
   simp [readRes] at hrd
   obtain ⟨rfl, rfl⟩ := hrd
   exact ⟨[], by simp [resM_nil, Sem.run_pure], rfl, hl, by simpa using hR, [], rfl, .refl _, rfl⟩
 | cons v vs ih =>
   intro rs l s s' g O w xs hok hrd hl hR
   cases rs with
   | nil => simp [ressOK] at hok
   | cons r rs =>
     simp only [ressOK, Bool.and_eq_true] at hok
     cases v with
     | t i =>
       simp only [readRes] at hrd
       split at hrd
       . rename_i x hx
         split at hrd
         . rename_i ys s1 hrest
           simp only [Option.some.injEq, Prod.mk.injEq] at hrd
           obtain ⟨rfl, rfl⟩ := hrd
           have hr : r = .tmp i := by cases r <;> simp [resOK] at hok; rw [hok.1]
           subst hr
           have hm := get_sim (a := ⟨tmps, []⟩) (x := .m i) (r := .tmp i) (ts' := s.ts.set i (un3 x)) (v := x) (by simp [opdOK]) (by simp [Opd.get, hx]) hl hR
           obtain ⟨us, h1, h2, h3, h4, wn, h5, h6, h7⟩ := ih (s := { s with ts := s.ts.set i (un3 x) }) (l := (x, (⟨tmps, []⟩ : Act).eval (.tmp i)) :: l) hok.2 hrest hm.2 (by simpa using hm.1)
           refine ⟨tmps.getD i undef :: us, ?_, by simp [h2], h3, ?_, wn, h5, h6, h7⟩
           . rw [resM_tmp, h1, Result.andThen_ok]
           . refine h4.perm ?_
             simp only [List.zip_cons_cons, List.cons_append, Act.eval]
             exact List.perm_middle
         . cases hrd
       . cases hrd
     | cell i n =>
       simp only [readRes] at hrd
       split at hrd
       . rename_i id off hx
         split at hrd
         . rename_i cs hcs
           split at hrd
           . rename_i z hz
             split at hrd
             . rename_i ys s1 hrest
               simp only [Option.some.injEq, Prod.mk.injEq] at hrd
               obtain ⟨rfl, rfl⟩ := hrd
               obtain ⟨T, hr, hT⟩ : ∃ T, r = .cell i T /\ tyN P T n = true := by
                 cases r with
                 | tmp t => simp [resOK] at hok
                 | cell t T => simp only [resOK, Bool.and_eq_true] at hok; exact ⟨T, by rw [eq_of_beq hok.1.1], hok.1.2⟩
               subst hr
               obtain ⟨rest0, hp0, -⟩ := Ts.roots_get tmps hx
               have hV0 : V g (.ptr id off) (tmps.getD i undef) := hR.vals (.ptr id off, tmps.getD i undef) (List.mem_append_right _ (hp0.mem_iff.2 (by simp)))
               obtain ⟨b, hget, hι⟩ := hV0.ptr_inv
               obtain ⟨u, hrun, hR', hk, _⟩ := hR.loadMove hι (loadCell_some hcs) hT hz
               obtain ⟨us, h1, h2, h3, h4, wn, h5, h6, h7⟩ := ih (s := { s with σ := s.σ.set id (.cells (putCells cs off (un2 z).cells)), wr := (id, false) :: s.wr }) (l := (z, u) :: l) hok.2 hrest hl (by simpa using hR')
               refine ⟨u :: us, ?_, by simp [h2], h3, ?_, wn ++ [(id, false)], by rw [h5]; simp, hk.trans h6, by simp [h7]⟩
               . rw [resM_cell hget hrun, h1, Result.andThen_ok]
               . refine h4.perm ?_
                 simp only [List.zip_cons_cons, List.cons_append]
                 exact List.perm_middle
             . cases hrd
           . cases hrd
         . cases hrd
       . cases hrd
theorem R.merge {xs : List IVal} {us : List Value} {l : Roots} {σ : List IObj} (h : R g O (xs.zip us ++ l) σ w) (hl : xs.length = us.length) (hnt : ∀ x ∈ xs, nt x = true) :
   R g O ((tupV xs, if hh : us.toArray.size = 1 then us.toArray[0] else .tuple us.toArray) :: l) σ w := by
 have hlist : xs.length = 1 \/ xs.length ≠ 1 := by omega
 rcases hlist with h1 | h1
 . obtain ⟨x, rfl⟩ := List.length_eq_one_iff.1 h1
   obtain ⟨u, rfl⟩ := List.length_eq_one_iff.1 (hl ▸ h1)
   simpa [tupV] using h
 . have e : tupV xs = .tup xs := by
     cases xs with
     | nil => rfl
     | cons x xs => cases xs with
       | nil => simp at h1
       | cons y ys => rfl
   rw [e, dif_neg (by simp; omega)]
   have hV : V g (.tup xs) (.tuple us.toArray) := .tup xs us.toArray (by simpa using hl) (fun i x v hx hv => nt_of_get (vs := us) (fun p hp => h.vals p (by simp [hp])) hx (by simpa using hv)) hnt
   have hown : own3 (.tup xs) (.tuple us.toArray) = ownL (xs.zip us) := by
     simp only [own3, ownL]
     congr 1
     apply List.ext_getElem?
     intro i
     simp only [List.getElem?_zipWith, List.getElem?_map, List.zip]
     cases hx : xs[i]? with
     | none => simp
     | some x => cases hu : us[i]? with
       | none => simp [hu]
       | some u => simp [hu]; exact (own3_nt (hnt x (List.mem_of_getElem? hx)) u).symm
   have e1 : ownL ((.tup xs, .tuple us.toArray) :: l) = ownL (xs.zip us ++ l) := by rw [ownL_append, <- hown]; simp [ownL]
   refine ⟨h.len, fun p hp => ?_, h.objs, by rw [e1]; exact h.nodup, by rw [e1]; exact h.sub, h.lt, h.claim, h.apart, h.spare, h.glob, h.zs⟩
   rcases List.mem_cons.1 hp with rfl | hp
   . exact hV
   . exact h.vals p (by simp [hp])
theorem OBJ.cut {b n : Nat} {x : IObj} (h : OBJ g w b x) (hr : RLO n x) : OBJ (g.cut n) w b x := by
 cases x with
 | cells cs =>
   obtain ⟨c, el, h1, h2, h3⟩ := h
   exact ⟨c, el, h1, h2, fun i x v hx hv => ⟨(h3 i x v hx hv).1.cut n (hr x (List.mem_of_getElem? hx)), (h3 i x v hx hv).2⟩⟩
 | map es =>
   obtain ⟨mes, clock, h1, h2, h3⟩ := h
   refine ⟨mes, clock, h1, h2, fun i e me he hm => ?_⟩
   obtain ⟨⟨q1, q2⟩, q3⟩ := h3 i e me he hm
   have := hr e (List.mem_of_getElem? he)
   exact ⟨⟨q1.cut n this.1, q2.cut n this.2⟩, q3⟩
 | loop L =>
   obtain ⟨r, h1, h2⟩ := h
   exact ⟨r, h1, h2.st, h2.ps, h2.pend, h2.wt, h2.ds, fun p hp => ⟨(h2.vals p hp).1.cut n (hr p hp), (h2.vals p hp).2⟩, h2.code⟩
 | defr => exact h
 | dead => trivial
theorem OBJ.rlo {b : Nat} {x : IObj} (h : OBJ g w b x) : RLO g.ι.length x := by
 cases x with
 | cells cs =>
   obtain ⟨c, el, h1, h2, h3⟩ := h
   intro x hx
   obtain ⟨i, hi⟩ := mem_idx hx
   obtain ⟨v, hv⟩ := get_of_le h2 hi
   exact (h3 i x v hi hv).1.rl
 | map es =>
   obtain ⟨mes, clock, h1, h2, h3⟩ := h
   intro e he
   obtain ⟨i, hi⟩ := mem_idx he
   obtain ⟨me, hm⟩ := get_of_size h2.symm hi
   obtain ⟨⟨q1, q2⟩, _⟩ := h3 i e me hi hm
   exact ⟨q1.rl, q2.rl⟩
 | loop L =>
   obtain ⟨r, h1, h2⟩ := h
   exact fun p hp => (h2.vals p hp).1.rl
 | defr => trivial
 | dead => trivial
theorem finish_sim {l : Roots} {σ : List IObj} {g' : Gh} {O' : List Nat} {w' : World} {s' : St} {v : IVal} {v' : Value} {pan : Bool} (h : R g O l σ w) (hg : Grow O g w O' g' w') (hR : R g' O' [(v, v')] s'.σ w') (hk : Keep σ s'.σ s'.wr) :
   ∃ g'', Grow O g w O' g'' w' /\ R g'' O' [((finish σ.length pan v s').v, v')] (finish σ.length pan v s').σ w' /\ Keep σ (finish σ.length pan v s').σ (finish σ.length pan v s').wr /\ (finish σ.length pan v s').pan = pan := by
 have hkf : ∀ σ2 : List IObj, Keep σ σ2 s'.wr -> Keep σ σ2 (s'.wr.filter fun p => decide (p.1 < σ.length)) := by
   intro σ2 hk2
   refine ⟨hk2.1, fun n hn hw ho => hk2.2 n hn (fun p hp hp2 => ?_) ho⟩
   by_cases hlt : p.1 < σ.length
   . exact hw p (List.mem_filter.2 ⟨hp, by simpa using hlt⟩) hp2
   . omega
 unfold finish
 split
 . rename_i hcond
   simp only [Bool.and_eq_true, List.all_eq_true] at hcond
   obtain ⟨hnr, hwr⟩ := hcond
   have hlow : ∀ id o, id < σ.length -> s'.σ[id]? = some o -> RLO σ.length o := by
     refine hk.2 σ.length (Nat.le_refl _) (fun p hp hp2 => ?_) (fun id o hid ho => ?_)
     . have := hwr p hp
       simp only [Bool.or_eq_true, Bool.not_eq_true', decide_eq_true_eq] at this
       rcases this with h1 | h1
       . rw [h1] at hp2; cases hp2
       . exact h1
     . have hid' : id < g.ι.length := by rw [h.len]; exact hid
       have := (h.objs id (g.ι[id]) o (by simp [hid']) ho).rlo
       rw [h.len] at this; exact this
   have hι : (g'.cut σ.length).ι = g'.ι.take σ.length := rfl
   have hSsub : (ownS w' (g'.ι.take σ.length) (s'.σ.take σ.length)).Sublist (ownS w' g'.ι s'.σ) := by
     simp only [ownS]
     rw [<- List.take_zipWith]
     exact sub_flatten (List.take_sublist _ _)
   have hsub : (ownL [(v, v')] ++ ownS w' (g'.ι.take σ.length) (s'.σ.take σ.length)).Sublist (ownL [(v, v')] ++ ownS w' g'.ι s'.σ) := List.Sublist.append (.refl _) hSsub
   have hget : ∀ {α : Type} {l : List α} {id : Nat} {x : α}, (l.take σ.length)[id]? = some x -> l[id]? = some x /\ id < σ.length := by
     intro α l id x hx
     rw [List.getElem?_take] at hx
     split at hx
     . exact ⟨hx, by assumption⟩
     . cases hx
   refine ⟨g'.cut σ.length, ⟨hg.size, hg.same, hg.mono, fun id b hb => ?_, hg.fresh, hg.code, hg.os, hg.tape, hg.output, hg.zm⟩, ⟨?_, fun p hp => ?_, fun id b o h1 h2 => ?_, hR.nodup.sublist hsub, fun b hb => hR.sub b (hsub.mem hb), hR.lt, hR.claim, fun id b o h1 h2 => hR.apart id b o (hget h1).1 (hget h2).1, hR.spare, hR.glob, hR.zs⟩, ?_, rfl⟩
   . rw [hι, List.getElem?_take, if_pos (by rw [<- h.len]; exact lt_of_get hb)]
     exact hg.pre id b hb
   . simp [Gh.cut, hR.len]
   . simp only [List.mem_singleton] at hp
     subst hp
     exact (hR.vals (v, v') (by simp)).cut _ ((hR.vals (v, v') (by simp)).norl _ hnr)
   . obtain ⟨q1, q2⟩ := hget h1
     obtain ⟨q3, _⟩ := hget h2
     exact (hR.objs id b o q1 q3).cut (hlow id o q2 q3)
   . refine hkf _ ⟨by have := hk.1; simp only [List.length_take]; omega, fun n hn hw ho id o hid hgo => ?_⟩
     exact hk.2 n hn hw ho id o hid (hget hgo).1
 . exact ⟨g', hg, hR, hkf _ hk, rfl⟩
theorem R.putObj {l : Roots} {σ : List IObj} {id b : Nat} {ob ob' : IObj} {x : Obj} (h : R g O l σ w) (hι : g.ι[id]? = some b) (hσ : σ[id]? = some ob) (hlive : ob ≠ .dead) (hb : b < w.heap.size) (hnc : ∀ c el fz, w.heap[b]? ≠ some (.cells c el fz))
   (hob : OBJ g (w.putObj b x) b ob') (ho : ownO (w.putObj b x) b ob' = [b] \/ ownO (w.putObj b x) b ob' = []) (ho' : ownO w b ob = [b]) :
   R g O l (σ.set id ob') (w.putObj b x) /\ Grow O g w O g (w.putObj b x) := by
 have hs : (w.putObj b x).heap.size = w.heap.size := by simp
 have hw : ∀ k, k ≠ b -> (w.putObj b x).heap[k]? = w.heap[k]? := fun k hk => World.putObj_heap_other hk
 have hbO : b ∈ O := h.sub b (List.mem_append_right _ (ownS_mem hι hσ (by rw [ho']; simp)))
 refine ⟨?_, Grow.of_setRow g w hbO _ hw hs rfl rfl rfl⟩
 have h1 := h.push (undef_V g) rfl
 have h2 := h1.upd (y := undefI) (u := undef) (id := id) (b := b) (ob := ob) (ob' := ob') (w' := w.putObj b x) (undef_V g) hι hσ hlive hw hs (fun c el fz hc => absurd hc (hnc c el fz)) hob (by
   rw [ho']
   have e0 : own3 undefI undef = [] := rfl
   rw [e0, List.nil_append, List.nil_append]
   rcases ho with ho | ho
   . rw [ho]; exact SubP.refl _
   . rw [ho]; exact SubP.of_sub (by simp))
 exact h2.drop
theorem shut_sim {gfn : Func} {tmps : Array Value} {Rp : Ending -> World -> Prop} {F : Fence} {n : Nat} {l : Roots} : ∀ (ds : List Nat) (σ σ' : List IObj) (defers : List Deferred) (w : World), shut σ ds = some σ' -> DefsR g ds defers -> R g O l σ w ->
   (∀ w', R g O l σ' w' -> Grow O g w O g w' -> LeavesIn F n P gfn tmps Rp [] .returning w') -> LeavesInM F n P gfn tmps Rp defers .returning w := by
 intro ds
 induction ds with
 | nil =>
   intro σ σ' defers w hs hd hR hk
   have : defers = [] := List.eq_nil_of_length_eq_zero (by simpa using hd.1)
   subst this
   simp [shut] at hs
   subst hs
   exact hk w hR (.refl _ _ _)
 | cons id ds ih =>
   intro σ σ' defers w hs hd hR hk
   cases defers with
   | nil => have := hd.1; simp at this
   | cons d defers =>
     obtain ⟨b, hι, rfl⟩ := hd.2 0 id d rfl rfl
     simp only [shut] at hs
     split at hs
     . rename_i hσ
       have hob : w.heap[b]? = some (.deferred (some [])) := hR.objs id b _ hι hσ
       have hlt : b < w.heap.size := (Array.getElem?_eq_some_iff.1 hob).1
       obtain ⟨hR', hG⟩ := hR.putObj (ob' := .dead) (x := .deferred none) hι hσ (by simp) hlt (by rw [hob]; simp) trivial (.inr rfl) rfl
       refine ⟨by simp, .inl ⟨b, _, rfl, run_takeDeferred hob, ?_⟩⟩
       exact ih _ σ' defers _ hs ⟨by have := hd.1; simp at this; exact this, fun i id' d' h1 h2 => hd.2 (i + 1) id' d' (by simpa using h1) (by simpa using h2)⟩ hR' (fun w' k1 k2 => hk w' k1 (hG.trans k2))
     . cases hs
theorem shut_keep : ∀ (ds : List Nat) (σ σ' : List IObj), shut σ ds = some σ' -> Keep σ σ' (ds.map fun id => (id, false)) := by
 intro ds
 induction ds with
 | nil => intro σ σ' h; simp [shut] at h; subst h; exact .refl _
 | cons id ds ih =>
   intro σ σ' h
   simp only [shut] at h
   split at h
   . have h1 := ih _ _ h
     have h2 : Keep σ (σ.set id .dead) [(id, false)] := Keep.set fun n _ _ _ => trivial
     have h3 := h2.trans h1
     refine ⟨h3.1, fun n hn hw ho => h3.2 n hn (fun p hp hp2 => hw p ?_ hp2) ho⟩
     simp only [List.mem_append, List.mem_singleton, List.map_cons, List.mem_cons] at hp ⊢
     rcases hp with hp | hp
     . exact .inr hp
     . exact .inl (by simpa using hp)
   . cases h
end Go.Idl
namespace Go.Idl
variable [Globs]
def plain : Opd -> Bool
 | .m _ => false
 | _ => true
def plainO : Option Opd -> Bool
 | some x => plain x
 | none => true
theorem plain_get {x : Opd} (h : plain x = true) {ts ts' : Ts} {v : IVal} (hg : x.get ts = some (v, ts')) : ts' = ts := by
 cases x <;> simp [plain] at h <;> simp [Opd.get] at hg
 . split at hg
   . simp at hg; exact hg.2.symm
   . cases hg
 . exact hg.2.symm
theorem getAll_cons {x : Opd} {xs : List Opd} {ts ts' : Ts} {vs : List IVal} : getAll (x :: xs) ts = some (vs, ts') ↔ ∃ v t1 ws, x.get ts = some (v, t1) /\ getAll xs t1 = some (ws, ts') /\ vs = v :: ws := by
 simp only [getAll]
 constructor
 . intro h
   split at h
   . rename_i v t1 hx
     split at h
     . rename_i ws t2 hxs
       simp at h
       obtain ⟨rfl, rfl⟩ := h
       exact ⟨v, t1, ws, hx, hxs, rfl⟩
     . cases h
   . cases h
 . rintro ⟨v, t1, ws, h1, h2, rfl⟩
   simp [h1, h2]
theorem getAll_nil {ts ts' : Ts} {vs : List IVal} : getAll [] ts = some (vs, ts') ↔ vs = [] /\ ts' = ts := by
 simp only [getAll, Option.some.injEq, Prod.mk.injEq]
 exact ⟨fun h => ⟨h.1.symm, h.2.symm⟩, fun h => ⟨h.1.symm, h.2.symm⟩⟩
theorem getAll_append {xs ys : List Opd} : ∀ {ts ts' : Ts} {vs : List IVal}, getAll (xs ++ ys) ts = some (vs, ts') ↔ ∃ v1 t1 v2, getAll xs ts = some (v1, t1) /\ getAll ys t1 = some (v2, ts') /\ vs = v1 ++ v2 := by
 induction xs with
 | nil =>
   intro ts ts' vs
   simp only [List.nil_append, getAll_nil]
   constructor
   . intro h; exact ⟨[], ts, vs, ⟨rfl, rfl⟩, h, rfl⟩
   . rintro ⟨_, _, v2, ⟨rfl, rfl⟩, h, rfl⟩; exact h
 | cons x xs ih =>
   intro ts ts' vs
   simp only [List.cons_append, getAll_cons, ih]
   constructor
   . rintro ⟨v, t1, _, h1, ⟨v1, t2, v2, h2, h3, rfl⟩, rfl⟩; exact ⟨v :: v1, t2, v2, ⟨v, t1, v1, h1, h2, rfl⟩, h3, rfl⟩
   . rintro ⟨_, t2, v2, ⟨v, t1, v1, h1, h2, rfl⟩, h3, rfl⟩; exact ⟨v, t1, _, h1, ⟨v1, t2, v2, h2, h3, rfl⟩, rfl⟩
def drawable : IOp -> Bool
 | .pick _ a b => plain a && plain b
 | .sliceS _ lo hi => plainO lo && plainO hi
 | .sliceL _ _ lo hi mx => plainO lo && (plainO hi && plainO mx)
 | .extract x _ => plain x
 | .panic _ => false
 | .clear _ _ => false
 | _ => true
theorem optInt_dep {lo : Option Opd} (hp : plainO lo = true) {ts ts2 t1 t2 : Ts} {vs : List IVal} {d : Nat} (h1 : getAll lo.toList ts = some (vs, t1)) (h2 : getAll lo.toList ts2 = some (vs, t2)) :
   t1 = ts /\ t2 = ts2 /\ optInt lo ts2 d = optInt lo ts d := by
 cases lo with
 | none =>
   simp only [Option.toList, getAll_nil] at h1 h2
   exact ⟨h1.2, h2.2, rfl⟩
 | some x =>
   simp only [Option.toList, getAll_cons, getAll_nil] at h1 h2
   obtain ⟨v, t, ws, a1, ⟨rfl, rfl⟩, rfl⟩ := h1
   obtain ⟨v', t', ws', b1, ⟨rfl, rfl⟩, e⟩ := h2
   simp at e
   subst e
   have := plain_get hp a1
   have := plain_get hp b1
   subst t1 t2
   refine ⟨rfl, rfl, ?_⟩
   simp only [optInt, a1, b1]
   cases v <;> rfl
theorem stepOp_dep {cf : CallF} {o : IOp} (hd : drawable o = true) {s : St} {ts2 t1 t2 : Ts} {vs : List IVal} {r : Res}
   (h1 : getAll (opdsOf o) s.ts = some (vs, t1)) (h2 : getAll (opdsOf o) ts2 = some (vs, t2)) (hs : stepOp cf o s = some r) :
   r.s.ts = t1 /\ stepOp cf o { s with ts := ts2 } = some { r with s := { r.s with ts := t2 } } := by
 cases o
 case panic => simp [drawable] at hd
 case clear => simp [drawable] at hd
 case pur k xs =>
   simp only [opdsOf] at h1 h2
   simp only [stepOp, h1, h2, rv] at hs ⊢
   split at hs
   . rename_i hp; simp only [Option.some.injEq] at hs; subst hs; simp [hp]
   . cases hs
 case mv x =>
   simp only [opdsOf, getAll_cons, getAll_nil] at h1 h2
   obtain ⟨v, t, ws, a1, ⟨rfl, rfl⟩, rfl⟩ := h1
   obtain ⟨v', t', ws', b1, ⟨rfl, rfl⟩, e⟩ := h2
   simp only [List.cons.injEq] at e
   obtain ⟨rfl, -⟩ := e
   simp only [stepOp, a1, b1, rv, markW] at hs ⊢
   repeat' split at hs
   all_goals first | (cases hs; done) | (simp only [Option.some.injEq] at hs; subst hs; simp_all; done) | (simp only [Option.some.injEq] at hs; subst hs; simp_all; obtain ⟨rfl, rfl⟩ := a2; simp_all; done)
 case box x =>
   simp only [opdsOf, getAll_cons, getAll_nil] at h1 h2
   obtain ⟨v, t, ws, a1, ⟨rfl, rfl⟩, rfl⟩ := h1
   obtain ⟨v', t', ws', b1, ⟨rfl, rfl⟩, e⟩ := h2
   simp only [List.cons.injEq] at e
   obtain ⟨rfl, -⟩ := e
   simp only [stepOp, a1, b1, rv, markW] at hs ⊢
   repeat' split at hs
   all_goals first | (cases hs; done) | (simp only [Option.some.injEq] at hs; subst hs; simp_all; done) | (simp only [Option.some.injEq] at hs; subst hs; simp_all; obtain ⟨rfl, rfl⟩ := a2; simp_all; done)
 case vOf G tab x =>
   simp only [opdsOf, getAll_cons, getAll_nil] at h1 h2
   obtain ⟨v, t, ws, a1, ⟨rfl, rfl⟩, rfl⟩ := h1
   obtain ⟨v', t', ws', b1, ⟨rfl, rfl⟩, e⟩ := h2
   simp only [List.cons.injEq] at e
   obtain ⟨rfl, -⟩ := e
   simp only [stepOp, a1, b1, rv, markW] at hs ⊢
   repeat' split at hs
   all_goals first | (cases hs; done) | (simp only [Option.some.injEq] at hs; subst hs; simp_all; done) | (simp only [Option.some.injEq] at hs; subst hs; simp_all; obtain ⟨rfl, rfl⟩ := a2; simp_all; done)
 case boxv x =>
   simp only [opdsOf, getAll_cons, getAll_nil] at h1 h2
   obtain ⟨v, t, ws, a1, ⟨rfl, rfl⟩, rfl⟩ := h1
   obtain ⟨v', t', ws', b1, ⟨rfl, rfl⟩, e⟩ := h2
   simp only [List.cons.injEq] at e
   obtain ⟨rfl, -⟩ := e
   simp only [stepOp, a1, b1, rv, markW] at hs ⊢
   repeat' split at hs
   all_goals first | (cases hs; done) | (simp only [Option.some.injEq] at hs; subst hs; simp_all; done) | (simp only [Option.some.injEq] at hs; subst hs; simp_all; obtain ⟨rfl, rfl⟩ := a2; simp_all; done)
 case load mvf n x =>
   simp only [opdsOf, getAll_cons, getAll_nil] at h1 h2
   obtain ⟨v, t, ws, a1, ⟨rfl, rfl⟩, rfl⟩ := h1
   obtain ⟨v', t', ws', b1, ⟨rfl, rfl⟩, e⟩ := h2
   simp only [List.cons.injEq] at e
   obtain ⟨rfl, -⟩ := e
   simp only [stepOp, a1, b1, rv, markW] at hs ⊢
   repeat' split at hs
   all_goals first | (cases hs; done) | (simp only [Option.some.injEq] at hs; subst hs; simp_all; done) | (simp only [Option.some.injEq] at hs; subst hs; simp_all; obtain ⟨rfl, rfl⟩ := a2; simp_all; done)
 case nilCheck x =>
   simp only [opdsOf, getAll_cons, getAll_nil] at h1 h2
   obtain ⟨v, t, ws, a1, ⟨rfl, rfl⟩, rfl⟩ := h1
   obtain ⟨v', t', ws', b1, ⟨rfl, rfl⟩, e⟩ := h2
   simp only [List.cons.injEq] at e
   obtain ⟨rfl, -⟩ := e
   simp only [stepOp, a1, b1, rv, markW] at hs ⊢
   repeat' split at hs
   all_goals first | (cases hs; done) | (simp only [Option.some.injEq] at hs; subst hs; simp_all; done) | (simp only [Option.some.injEq] at hs; subst hs; simp_all; obtain ⟨rfl, rfl⟩ := a2; simp_all; done)
 case isnil neg k x =>
   simp only [opdsOf, getAll_cons, getAll_nil] at h1 h2
   obtain ⟨v, t, ws, a1, ⟨rfl, rfl⟩, rfl⟩ := h1
   obtain ⟨v', t', ws', b1, ⟨rfl, rfl⟩, e⟩ := h2
   simp only [List.cons.injEq] at e
   obtain ⟨rfl, -⟩ := e
   simp only [stepOp, a1, b1, rv, markW] at hs ⊢
   repeat' split at hs
   all_goals first | (cases hs; done) | (simp only [Option.some.injEq] at hs; subst hs; simp_all; done) | (simp only [Option.some.injEq] at hs; subst hs; simp_all; obtain ⟨rfl, rfl⟩ := a2; simp_all; done)
 case un op x =>
   simp only [opdsOf, getAll_cons, getAll_nil] at h1 h2
   obtain ⟨v, t, ws, a1, ⟨rfl, rfl⟩, rfl⟩ := h1
   obtain ⟨v', t', ws', b1, ⟨rfl, rfl⟩, e⟩ := h2
   simp only [List.cons.injEq] at e
   obtain ⟨rfl, -⟩ := e
   simp only [stepOp, a1, b1, rv, markW] at hs ⊢
   repeat' split at hs
   all_goals first | (cases hs; done) | (simp only [Option.some.injEq] at hs; subst hs; simp_all; done) | (simp only [Option.some.injEq] at hs; subst hs; simp_all; obtain ⟨rfl, rfl⟩ := a2; simp_all; done)
 case conv c x =>
   simp only [opdsOf, getAll_cons, getAll_nil] at h1 h2
   obtain ⟨v, t, ws, a1, ⟨rfl, rfl⟩, rfl⟩ := h1
   obtain ⟨v', t', ws', b1, ⟨rfl, rfl⟩, e⟩ := h2
   simp only [List.cons.injEq] at e
   obtain ⟨rfl, -⟩ := e
   simp only [stepOp, a1, b1, rv, markW] at hs ⊢
   repeat' split at hs
   all_goals first | (cases hs; done) | (simp only [Option.some.injEq] at hs; subst hs; simp_all; done) | (simp only [Option.some.injEq] at hs; subst hs; simp_all; obtain ⟨rfl, rfl⟩ := a2; simp_all; done)
 case mkIface ty x =>
   simp only [opdsOf, getAll_cons, getAll_nil] at h1 h2
   obtain ⟨v, t, ws, a1, ⟨rfl, rfl⟩, rfl⟩ := h1
   obtain ⟨v', t', ws', b1, ⟨rfl, rfl⟩, e⟩ := h2
   simp only [List.cons.injEq] at e
   obtain ⟨rfl, -⟩ := e
   simp only [stepOp, a1, b1, rv, markW] at hs ⊢
   repeat' split at hs
   all_goals first | (cases hs; done) | (simp only [Option.some.injEq] at hs; subst hs; simp_all; done) | (simp only [Option.some.injEq] at hs; subst hs; simp_all; obtain ⟨rfl, rfl⟩ := a2; simp_all; done)
 case fieldAddr o x =>
   simp only [opdsOf, getAll_cons, getAll_nil] at h1 h2
   obtain ⟨v, t, ws, a1, ⟨rfl, rfl⟩, rfl⟩ := h1
   obtain ⟨v', t', ws', b1, ⟨rfl, rfl⟩, e⟩ := h2
   simp only [List.cons.injEq] at e
   obtain ⟨rfl, -⟩ := e
   simp only [stepOp, a1, b1, rv, markW] at hs ⊢
   repeat' split at hs
   all_goals first | (cases hs; done) | (simp only [Option.some.injEq] at hs; subst hs; simp_all; done) | (simp only [Option.some.injEq] at hs; subst hs; simp_all; obtain ⟨rfl, rfl⟩ := a2; simp_all; done)
 case field o n x =>
   simp only [opdsOf, getAll_cons, getAll_nil] at h1 h2
   obtain ⟨v, t, ws, a1, ⟨rfl, rfl⟩, rfl⟩ := h1
   obtain ⟨v', t', ws', b1, ⟨rfl, rfl⟩, e⟩ := h2
   simp only [List.cons.injEq] at e
   obtain ⟨rfl, -⟩ := e
   simp only [stepOp, a1, b1, rv, markW] at hs ⊢
   repeat' split at hs
   all_goals first | (cases hs; done) | (simp only [Option.some.injEq] at hs; subst hs; simp_all; done) | (simp only [Option.some.injEq] at hs; subst hs; simp_all; obtain ⟨rfl, rfl⟩ := a2; simp_all; done)
 case lenS x =>
   simp only [opdsOf, getAll_cons, getAll_nil] at h1 h2
   obtain ⟨v, t, ws, a1, ⟨rfl, rfl⟩, rfl⟩ := h1
   obtain ⟨v', t', ws', b1, ⟨rfl, rfl⟩, e⟩ := h2
   simp only [List.cons.injEq] at e
   obtain ⟨rfl, -⟩ := e
   simp only [stepOp, a1, b1, rv, markW] at hs ⊢
   repeat' split at hs
   all_goals first | (cases hs; done) | (simp only [Option.some.injEq] at hs; subst hs; simp_all; done) | (simp only [Option.some.injEq] at hs; subst hs; simp_all; obtain ⟨rfl, rfl⟩ := a2; simp_all; done)
 case lenL x =>
   simp only [opdsOf, getAll_cons, getAll_nil] at h1 h2
   obtain ⟨v, t, ws, a1, ⟨rfl, rfl⟩, rfl⟩ := h1
   obtain ⟨v', t', ws', b1, ⟨rfl, rfl⟩, e⟩ := h2
   simp only [List.cons.injEq] at e
   obtain ⟨rfl, -⟩ := e
   simp only [stepOp, a1, b1, rv, markW] at hs ⊢
   repeat' split at hs
   all_goals first | (cases hs; done) | (simp only [Option.some.injEq] at hs; subst hs; simp_all; done) | (simp only [Option.some.injEq] at hs; subst hs; simp_all; obtain ⟨rfl, rfl⟩ := a2; simp_all; done)
 case lenM x =>
   simp only [opdsOf, getAll_cons, getAll_nil] at h1 h2
   obtain ⟨v, t, ws, a1, ⟨rfl, rfl⟩, rfl⟩ := h1
   obtain ⟨v', t', ws', b1, ⟨rfl, rfl⟩, e⟩ := h2
   simp only [List.cons.injEq] at e
   obtain ⟨rfl, -⟩ := e
   simp only [stepOp, a1, b1, rv, markW] at hs ⊢
   repeat' split at hs
   all_goals first | (cases hs; done) | (simp only [Option.some.injEq] at hs; subst hs; simp_all; done) | (simp only [Option.some.injEq] at hs; subst hs; simp_all; obtain ⟨rfl, rfl⟩ := a2; simp_all; done)
 case vSet G tab x y =>
   simp only [opdsOf, getAll_cons, getAll_nil] at h1 h2
   obtain ⟨v, t, ws, a1, ⟨v2, t3, ws2, a2, ⟨rfl, rfl⟩, rfl⟩, rfl⟩ := h1
   obtain ⟨v', t', ws', b1, ⟨v2', t3', ws2', b2, ⟨rfl, rfl⟩, rfl⟩, e⟩ := h2
   simp only [List.cons.injEq] at e
   obtain ⟨rfl, rfl, -⟩ := e
   simp only [stepOp, a1, b1, markW] at hs ⊢
   split at hs
   . rename_i e1
     simp only [Option.some.injEq, Prod.mk.injEq] at e1
     obtain ⟨rfl, rfl⟩ := e1
     simp only [a2, b2] at hs ⊢
     split at hs
     . rename_i e2
       simp only [Option.some.injEq, Prod.mk.injEq] at e2
       obtain ⟨rfl, rfl⟩ := e2
       split at hs
       . rename_i q1 q2
         simp only [q1, q2] at hs ⊢
         split at hs
         . rename_i q3
           rw [if_pos q3]
           split at hs
           . rename_i q4
             split at hs
             . rename_i q5
               rw [if_pos q5]
               simp only [Option.some.injEq] at hs; subst hs; exact ⟨rfl, rfl⟩
             . cases hs
           . cases hs
         . cases hs
       . cases hs
     . cases hs
   . cases hs
 case store n x y =>
   simp only [opdsOf, getAll_cons, getAll_nil] at h1 h2
   obtain ⟨v, t, ws, a1, ⟨v2, t3, ws2, a2, ⟨rfl, rfl⟩, rfl⟩, rfl⟩ := h1
   obtain ⟨v', t', ws', b1, ⟨v2', t3', ws2', b2, ⟨rfl, rfl⟩, rfl⟩, e⟩ := h2
   simp only [List.cons.injEq] at e
   obtain ⟨rfl, rfl, -⟩ := e
   simp only [stepOp, a1, b1, a2, b2, rv, markW] at hs ⊢
   repeat' split at hs
   all_goals first | (cases hs; done) | (simp only [Option.some.injEq] at hs; subst hs; simp_all; done) | (simp only [Option.some.injEq] at hs; subst hs; simp_all; obtain ⟨rfl, rfl⟩ := a2; simp_all; done)
 case bin op x y =>
   simp only [opdsOf, getAll_cons, getAll_nil] at h1 h2
   obtain ⟨v, t, ws, a1, ⟨v2, t3, ws2, a2, ⟨rfl, rfl⟩, rfl⟩, rfl⟩ := h1
   obtain ⟨v', t', ws', b1, ⟨v2', t3', ws2', b2, ⟨rfl, rfl⟩, rfl⟩, e⟩ := h2
   simp only [List.cons.injEq] at e
   obtain ⟨rfl, rfl, -⟩ := e
   simp only [stepOp, a1, b1, a2, b2, rv, markW] at hs ⊢
   repeat' split at hs
   all_goals first | (cases hs; done) | (simp only [Option.some.injEq] at hs; subst hs; simp_all; done) | (simp only [Option.some.injEq] at hs; subst hs; simp_all; obtain ⟨rfl, rfl⟩ := a2; simp_all; done)
 case eqa neg x y =>
   simp only [opdsOf, getAll_cons, getAll_nil] at h1 h2
   obtain ⟨v, t, ws, a1, ⟨v2, t3, ws2, a2, ⟨rfl, rfl⟩, rfl⟩, rfl⟩ := h1
   obtain ⟨v', t', ws', b1, ⟨v2', t3', ws2', b2, ⟨rfl, rfl⟩, rfl⟩, e⟩ := h2
   simp only [List.cons.injEq] at e
   obtain ⟨rfl, rfl, -⟩ := e
   simp only [stepOp, a1, b1, a2, b2, rv, markW] at hs ⊢
   repeat' split at hs
   all_goals first | (cases hs; done) | (simp only [Option.some.injEq] at hs; subst hs; simp_all; done) | (simp only [Option.some.injEq] at hs; subst hs; simp_all; obtain ⟨rfl, rfl⟩ := a2; simp_all; done)
 case eqb neg x y =>
   simp only [opdsOf, getAll_cons, getAll_nil] at h1 h2
   obtain ⟨v, t, ws, a1, ⟨v2, t3, ws2, a2, ⟨rfl, rfl⟩, rfl⟩, rfl⟩ := h1
   obtain ⟨v', t', ws', b1, ⟨v2', t3', ws2', b2, ⟨rfl, rfl⟩, rfl⟩, e⟩ := h2
   simp only [List.cons.injEq] at e
   obtain ⟨rfl, rfl, -⟩ := e
   simp only [stepOp, a1, b1, a2, b2, rv, markW] at hs ⊢
   repeat' split at hs
   all_goals first | (cases hs; done) | (simp only [Option.some.injEq] at hs; subst hs; simp_all; done) | (simp only [Option.some.injEq] at hs; subst hs; simp_all; obtain ⟨rfl, rfl⟩ := a2; simp_all; done)
 case mkSl br esz bytes zs x y =>
   simp only [opdsOf, getAll_cons, getAll_nil] at h1 h2
   obtain ⟨v, t, ws, a1, ⟨v2, t3, ws2, a2, ⟨rfl, rfl⟩, rfl⟩, rfl⟩ := h1
   obtain ⟨v', t', ws', b1, ⟨v2', t3', ws2', b2, ⟨rfl, rfl⟩, rfl⟩, e⟩ := h2
   simp only [List.cons.injEq] at e
   obtain ⟨rfl, rfl, -⟩ := e
   simp only [stepOp, a1, b1, a2, b2, rv, markW] at hs ⊢
   repeat' split at hs
   all_goals first | (cases hs; done) | (simp only [Option.some.injEq] at hs; subst hs; simp_all; done) | (simp only [Option.some.injEq] at hs; subst hs; simp_all; obtain ⟨rfl, rfl⟩ := a2; simp_all; done)
 case idxAddr esz x y =>
   simp only [opdsOf, getAll_cons, getAll_nil] at h1 h2
   obtain ⟨v, t, ws, a1, ⟨v2, t3, ws2, a2, ⟨rfl, rfl⟩, rfl⟩, rfl⟩ := h1
   obtain ⟨v', t', ws', b1, ⟨v2', t3', ws2', b2, ⟨rfl, rfl⟩, rfl⟩, e⟩ := h2
   simp only [List.cons.injEq] at e
   obtain ⟨rfl, rfl, -⟩ := e
   simp only [stepOp, a1, b1, a2, b2, rv, markW] at hs ⊢
   repeat' split at hs
   all_goals first | (cases hs; done) | (simp only [Option.some.injEq] at hs; subst hs; simp_all; done) | (simp only [Option.some.injEq] at hs; subst hs; simp_all; obtain ⟨rfl, rfl⟩ := a2; simp_all; done)
 case idxAddrA len esz x y =>
   simp only [opdsOf, getAll_cons, getAll_nil] at h1 h2
   obtain ⟨v, t, ws, a1, ⟨v2, t3, ws2, a2, ⟨rfl, rfl⟩, rfl⟩, rfl⟩ := h1
   obtain ⟨v', t', ws', b1, ⟨v2', t3', ws2', b2, ⟨rfl, rfl⟩, rfl⟩, e⟩ := h2
   simp only [List.cons.injEq] at e
   obtain ⟨rfl, rfl, -⟩ := e
   simp only [stepOp, a1, b1, a2, b2, rv, markW] at hs ⊢
   repeat' split at hs
   all_goals first | (cases hs; done) | (simp only [Option.some.injEq] at hs; subst hs; simp_all; done) | (simp only [Option.some.injEq] at hs; subst hs; simp_all; obtain ⟨rfl, rfl⟩ := a2; simp_all; done)
 case idxS x y =>
   simp only [opdsOf, getAll_cons, getAll_nil] at h1 h2
   obtain ⟨v, t, ws, a1, ⟨v2, t3, ws2, a2, ⟨rfl, rfl⟩, rfl⟩, rfl⟩ := h1
   obtain ⟨v', t', ws', b1, ⟨v2', t3', ws2', b2, ⟨rfl, rfl⟩, rfl⟩, e⟩ := h2
   simp only [List.cons.injEq] at e
   obtain ⟨rfl, rfl, -⟩ := e
   simp only [stepOp, a1, b1, a2, b2, rv, markW] at hs ⊢
   repeat' split at hs
   all_goals first | (cases hs; done) | (simp only [Option.some.injEq] at hs; subst hs; simp_all; done) | (simp only [Option.some.injEq] at hs; subst hs; simp_all; obtain ⟨rfl, rfl⟩ := a2; simp_all; done)
 case idxA len esz n x y =>
   simp only [opdsOf, getAll_cons, getAll_nil] at h1 h2
   obtain ⟨v, t, ws, a1, ⟨v2, t3, ws2, a2, ⟨rfl, rfl⟩, rfl⟩, rfl⟩ := h1
   obtain ⟨v', t', ws', b1, ⟨v2', t3', ws2', b2, ⟨rfl, rfl⟩, rfl⟩, e⟩ := h2
   simp only [List.cons.injEq] at e
   obtain ⟨rfl, rfl, -⟩ := e
   simp only [stepOp, a1, b1, a2, b2, rv, markW] at hs ⊢
   repeat' split at hs
   all_goals first | (cases hs; done) | (simp only [Option.some.injEq] at hs; subst hs; simp_all; done) | (simp only [Option.some.injEq] at hs; subst hs; simp_all; obtain ⟨rfl, rfl⟩ := a2; simp_all; done)
 case lookup kk z ok x y =>
   simp only [opdsOf, getAll_cons, getAll_nil] at h1 h2
   obtain ⟨v, t, ws, a1, ⟨v2, t3, ws2, a2, ⟨rfl, rfl⟩, rfl⟩, rfl⟩ := h1
   obtain ⟨v', t', ws', b1, ⟨v2', t3', ws2', b2, ⟨rfl, rfl⟩, rfl⟩, e⟩ := h2
   simp only [List.cons.injEq] at e
   obtain ⟨rfl, rfl, -⟩ := e
   simp only [stepOp, a1, b1, a2, b2, rv, markW] at hs ⊢
   repeat' split at hs
   all_goals first | (cases hs; done) | (simp only [Option.some.injEq] at hs; subst hs; simp_all; done) | (simp only [Option.some.injEq] at hs; subst hs; simp_all; obtain ⟨rfl, rfl⟩ := a2; simp_all; done)
 case append br str esz bytes x y =>
   simp only [opdsOf, getAll_cons, getAll_nil] at h1 h2
   obtain ⟨v, t, ws, a1, ⟨v2, t3, ws2, a2, ⟨rfl, rfl⟩, rfl⟩, rfl⟩ := h1
   obtain ⟨v', t', ws', b1, ⟨v2', t3', ws2', b2, ⟨rfl, rfl⟩, rfl⟩, e⟩ := h2
   simp only [List.cons.injEq] at e
   obtain ⟨rfl, rfl, -⟩ := e
   simp only [stepOp, a1, b1, a2, b2, rv, markW] at hs ⊢
   repeat' split at hs
   all_goals first | (cases hs; done) | (simp only [Option.some.injEq] at hs; subst hs; simp_all; done) | (simp only [Option.some.injEq] at hs; subst hs; simp_all; obtain ⟨rfl, rfl⟩ := a2; simp_all; done)
 case copy str esz x y =>
   simp only [opdsOf, getAll_cons, getAll_nil] at h1 h2
   obtain ⟨v, t, ws, a1, ⟨v2, t3, ws2, a2, ⟨rfl, rfl⟩, rfl⟩, rfl⟩ := h1
   obtain ⟨v', t', ws', b1, ⟨v2', t3', ws2', b2, ⟨rfl, rfl⟩, rfl⟩, e⟩ := h2
   simp only [List.cons.injEq] at e
   obtain ⟨rfl, rfl, -⟩ := e
   cases v <;> simp [stepOp, a1, b1, a2, b2, rv, markW] at hs ⊢
   split at hs
   . split at hs
     . rename_i hc
       obtain ⟨rfl, hc2⟩ := hc
       simp only [Option.some.injEq] at hs; subst hs; simp_all
     . cases hs
   . cases hs
 case mapSet kk x y z =>
   simp only [opdsOf, getAll_cons, getAll_nil] at h1 h2
   obtain ⟨v, t, ws, a1, ⟨v2, t3, ws2, a2, ⟨v3, t4, ws3, a3, ⟨rfl, rfl⟩, rfl⟩, rfl⟩, rfl⟩ := h1
   obtain ⟨v', t', ws', b1, ⟨v2', t3', ws2', b2, ⟨v3', t4', ws3', b3, ⟨rfl, rfl⟩, rfl⟩, rfl⟩, e⟩ := h2
   simp only [List.cons.injEq] at e
   obtain ⟨rfl, rfl, rfl, -⟩ := e
   cases v <;> simp [stepOp, a1, b1, a2, b2, a3, b3, rv] at hs ⊢
   split at hs
   . split at hs
     . split at hs
       . simp only [Option.some.injEq] at hs; subst hs; simp_all
       . cases hs
     . cases hs
   . cases hs
 case build zs parts =>
   simp only [opdsOf] at h1 h2
   simp only [stepOp, h1, h2, rv, stepCall, addOut] at hs ⊢
   repeat' split at hs
   all_goals first | (cases hs; done) | (simp only [Option.some.injEq] at hs; subst hs; simp_all; done) | (simp only [Option.some.injEq] at hs; subst hs; simp_all; obtain ⟨rfl, rfl⟩ := a2; simp_all; done)
 case buildSl esz xs =>
   simp only [opdsOf] at h1 h2
   simp only [stepOp, h1, h2, rv, stepCall, addOut] at hs ⊢
   repeat' split at hs
   all_goals first | (cases hs; done) | (simp only [Option.some.injEq] at hs; subst hs; simp_all; done) | (simp only [Option.some.injEq] at hs; subst hs; simp_all; obtain ⟨rfl, rfl⟩ := a2; simp_all; done)
 case buildRs esz xs =>
   simp only [opdsOf] at h1 h2
   simp only [stepOp, h1, h2, rv, stepCall, addOut] at hs ⊢
   repeat' split at hs
   all_goals first | (cases hs; done) | (simp only [Option.some.injEq] at hs; subst hs; simp_all; done) | (simp only [Option.some.injEq] at hs; subst hs; simp_all; obtain ⟨rfl, rfl⟩ := a2; simp_all; done)
 case minmax mx xs =>
   simp only [opdsOf] at h1 h2
   revert h1 h2 hs
   rcases vs with _ | ⟨v, _ | ⟨v2, _ | ⟨v3, vs⟩⟩⟩ <;> intro h1 h2 hs
   . simp [stepOp, h1] at hs
   . simp [stepOp, h1] at hs
   . cases v <;> cases v2 <;> simp [stepOp, h1, h2, rv] at hs ⊢
     obtain ⟨hk, hs⟩ := hs
     subst hs
     simp [hk]
   . simp [stepOp, h1] at hs
 case call f xs =>
   simp only [opdsOf] at h1 h2
   simp only [stepOp, h1, h2, rv, stepCall, addOut] at hs ⊢
   repeat' split at hs
   all_goals first | (cases hs; done) | (simp only [Option.some.injEq] at hs; subst hs; simp_all; done) | (simp only [Option.some.injEq] at hs; subst hs; simp_all; obtain ⟨rfl, rfl⟩ := a2; simp_all; done)
 case callp f xs =>
   simp only [opdsOf] at h1 h2
   simp only [stepOp, h1, h2, rv, stepCall, addOut] at hs ⊢
   repeat' split at hs
   all_goals first | (cases hs; done) | (simp only [Option.some.injEq] at hs; subst hs; simp_all; done) | (simp only [Option.some.injEq] at hs; subst hs; simp_all; obtain ⟨rfl, rfl⟩ := a2; simp_all; done)
 case alloc zs =>
   simp only [opdsOf, getAll_nil] at h1 h2
   simp only [stepOp, Option.some.injEq] at hs ⊢
   subst hs
   simp [h1.2, h2.2]
 case mkMap =>
   simp only [opdsOf, getAll_nil] at h1 h2
   simp only [stepOp, Option.some.injEq] at hs ⊢
   subst hs
   simp [h1.2, h2.2]
 case extract x i =>
   simp only [opdsOf, getAll_cons, getAll_nil] at h1 h2
   obtain ⟨v, t, ws, a1, ⟨rfl, rfl⟩, rfl⟩ := h1
   obtain ⟨v', t', ws', b1, ⟨rfl, rfl⟩, e⟩ := h2
   simp only [List.cons.injEq] at e
   obtain ⟨rfl, -⟩ := e
   simp only [drawable] at hd
   cases v <;> simp [stepOp, a1, b1, rv] at hs ⊢
   split at hs
   . cases x <;> simp [plain] at hd hs ⊢ <;> (subst hs; simp_all)
   . cases hs
 case pick c x y =>
   simp only [opdsOf, getAll_cons, getAll_nil] at h1 h2
   obtain ⟨v, t, ws, a1, ⟨v2, t3, ws2, a2, ⟨v3, t4, ws3, a3, ⟨rfl, rfl⟩, rfl⟩, rfl⟩, rfl⟩ := h1
   obtain ⟨v', t', ws', b1, ⟨v2', t3', ws2', b2, ⟨v3', t4', ws3', b3, ⟨rfl, rfl⟩, rfl⟩, rfl⟩, e⟩ := h2
   simp only [List.cons.injEq] at e
   obtain ⟨rfl, rfl, rfl, -⟩ := e
   simp only [drawable, Bool.and_eq_true] at hd
   have p1 := plain_get hd.1 a2
   have p2 := plain_get hd.1 b2
   subst p1 p2
   have p1 := plain_get hd.2 a3
   have p2 := plain_get hd.2 b3
   subst p1 p2
   cases v with
   | bool b => cases b <;> simp [stepOp, a1, b1, a2, b2, a3, b3, rv] at hs ⊢ <;> (subst hs; simp)
   | _ => simp [stepOp, a1] at hs
 case mkFn f xs ys =>
   simp only [opdsOf, getAll_append] at h1 h2
   obtain ⟨v1, u1, v2, a1, a2, rfl⟩ := h1
   obtain ⟨v1', u1', v2', b1, b2, e⟩ := h2
   have hl : v1.length = v1'.length := by rw [getAll_len a1, getAll_len b1]
   obtain ⟨rfl, rfl⟩ := List.append_inj e hl
   simp only [stepOp, a1, b1, a2, b2, rv] at hs ⊢
   split at hs
   . rename_i hc
     simp only [Option.some.injEq] at hs
     subst hs
     simp [hc]
   . cases hs
 case inv tab x xs =>
   simp only [opdsOf, getAll_cons] at h1 h2
   obtain ⟨v, t, ws, a1, a2, rfl⟩ := h1
   obtain ⟨v', t', ws', b1, b2, e⟩ := h2
   simp only [List.cons.injEq] at e
   obtain ⟨rfl, rfl⟩ := e
   simp only [stepOp, a1, b1, stepCall, addOut] at hs ⊢
   repeat' split at hs
   all_goals first | (cases hs; done) | (simp only [Option.some.injEq] at hs; subst hs; simp_all; done)
 case callv f xs =>
   simp only [opdsOf, getAll_cons] at h1 h2
   obtain ⟨v, t, ws, a1, a2, rfl⟩ := h1
   obtain ⟨v', t', ws', b1, b2, e⟩ := h2
   simp only [List.cons.injEq] at e
   obtain ⟨rfl, rfl⟩ := e
   cases v with
   | fn gf us vs =>
     cases gf <;> simp [stepOp, a1, b1, a2, b2, stepCall, addOut] at hs ⊢
     split at hs
     . rename_i hc
       simp only [Option.some.injEq] at hs
       subst hs
       simp [hc]
     . cases hs
   | yl id =>
     simp [stepOp, a1, b1, a2, b2, stepCall, addOut] at hs ⊢
     split at hs
     . rename_i hc
       simp only [Option.some.injEq] at hs
       subst hs
       simp [hc]
     . cases hs
   | _ => simp [stepOp, a1] at hs
 case sliceS x lo hi =>
   simp only [opdsOf, getAll_cons, getAll_append] at h1 h2
   obtain ⟨v, t, ws, a1, ⟨w1, t3, w2, a2, a3, rfl⟩, rfl⟩ := h1
   obtain ⟨v', t', ws', b1, ⟨w1', t3', w2', b2, b3, rfl⟩, e⟩ := h2
   simp only [List.cons.injEq] at e
   obtain ⟨rfl, e⟩ := e
   obtain ⟨rfl, rfl⟩ := List.append_inj e (by rw [getAll_len a2, getAll_len b2])
   simp only [drawable, Bool.and_eq_true] at hd
   cases v with
   | str b =>
     obtain ⟨rfl, rfl, q1⟩ := optInt_dep (d := 0) hd.1 a2 b2
     obtain ⟨rfl, rfl, q2⟩ := optInt_dep (d := b.length) hd.2 a3 b3
     simp only [stepOp, a1, b1, rv, q1, q2] at hs ⊢
     split at hs
     . split at hs
       . simp only [Option.some.injEq] at hs; subst hs; simp_all
       . cases hs
     . cases hs
   | _ => simp [stepOp, a1] at hs
 case sliceL esz x lo hi mx =>
   simp only [opdsOf, getAll_cons, getAll_append] at h1 h2
   obtain ⟨v, t, ws, a1, ⟨w1, t3, _, a2, ⟨w2, t4, w3, a3, a4, rfl⟩, rfl⟩, rfl⟩ := h1
   obtain ⟨v', t', ws', b1, ⟨w1', t3', _, b2, ⟨w2', t4', w3', b3, b4, rfl⟩, rfl⟩, e⟩ := h2
   simp only [List.cons.injEq] at e
   obtain ⟨rfl, e⟩ := e
   obtain ⟨rfl, e2⟩ := List.append_inj e (by rw [getAll_len a2, getAll_len b2])
   obtain ⟨rfl, rfl⟩ := List.append_inj e2 (by rw [getAll_len a3, getAll_len b3])
   simp only [drawable, Bool.and_eq_true] at hd
   cases v with
   | sl own r xs =>
     obtain ⟨rfl, rfl, q1⟩ := optInt_dep (d := 0) hd.1 a2 b2
     obtain ⟨rfl, rfl, q2⟩ := optInt_dep (d := xs.length) hd.2.1 a3 b3
     obtain ⟨rfl, rfl, q3⟩ := optInt_dep (d := xs.length) hd.2.2 a4 b4
     simp only [stepOp, a1, b1, rv, q1, q2, q3] at hs ⊢
     repeat' split at hs
     all_goals first | (cases hs; done) | (simp only [Option.some.injEq] at hs; subst hs; simp_all; done)
   | rs e id off len =>
     obtain ⟨rfl, rfl, q1⟩ := optInt_dep (d := 0) hd.1 a2 b2
     obtain ⟨rfl, rfl, q2⟩ := optInt_dep (d := len) hd.2.1 a3 b3
     obtain ⟨rfl, rfl, q3⟩ := optInt_dep (d := len) hd.2.2 a4 b4
     simp only [stepOp, a1, b1, rv, q1, q2] at hs ⊢
     repeat' split at hs
     all_goals first | (cases hs; done) | (simp only [Option.some.injEq] at hs; subst hs; simp_all; done)
   | _ => simp [stepOp, a1] at hs
end Go.Idl
