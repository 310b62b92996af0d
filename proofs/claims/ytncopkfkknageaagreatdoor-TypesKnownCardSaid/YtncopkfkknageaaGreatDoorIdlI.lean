/- The ideal machine and its evaluators, part 9; no conditions. -/
import Derived.Test.YtncopkfkknageaaGreatDoorIdlH
set_option linter.unusedSectionVars false
set_option linter.unusedVariables false
set_option linter.unusedSimpArgs false
namespace Go.Idl
noncomputable section
set_option maxHeartbeats 40000
abbrev KH := U -> H -> Ans
def Hp0 (o : IOp) (f : H -> KH -> Ans) : Prop := ∀ h K ts σ wr, HR h σ wr -> f h K = true -> ∃ r h' σ' wr', (∀ cf, ja cf o ⟨ts, σ, wr⟩ = some ⟨false, toI r, ⟨ts, σ', wr'⟩⟩) /\ HR h' σ' wr' /\ h'.tr = h.tr /\ K r h' = true
def Hp1 (o : IOp) (f : U -> H -> KH -> Ans) : Prop := ∀ u h K ts ts' σ wr, HR h σ wr -> f u h K = true -> getAll (je o) ts = some ([toI u], ts') -> ∃ r h' σ' wr', (∀ cf, ja cf o ⟨ts, σ, wr⟩ = some ⟨false, toI r, ⟨ts', σ', wr'⟩⟩) /\ HR h' σ' wr' /\ h'.tr = h.tr /\ K r h' = true
def Hp2 (o : IOp) (f : U -> U -> H -> KH -> Ans) : Prop := ∀ u v h K ts ts' σ wr, HR h σ wr -> f u v h K = true -> getAll (je o) ts = some ([toI u, toI v], ts') -> ∃ r h' σ' wr', (∀ cf, ja cf o ⟨ts, σ, wr⟩ = some ⟨false, toI r, ⟨ts', σ', wr'⟩⟩) /\ HR h' σ' wr' /\ h'.tr = h.tr /\ K r h' = true
def HpL (o : IOp) (f : U -> H -> KH -> Ans) : Prop := ∀ u h K ts ts' σ wr, HR h σ wr -> f u h K = true -> getAll (je o) ts = some (toL u, ts') -> ∃ r h' σ' wr', (∀ cf, ja cf o ⟨ts, σ, wr⟩ = some ⟨false, toI r, ⟨ts', σ', wr'⟩⟩) /\ HR h' σ' wr' /\ h'.tr = h.tr /\ K r h' = true
def jlj (zs : List IVal) : U := @Bool.rec (fun _ => U) (.o 2 zs.length 0 0 0 (jht zs 0 .nl)) (.o 1 0 0 0 0 (KE zs)) (Nat.blt zs.length 9)
theorem jiQ (zs : List IVal) : ObR (jlj zs) (.cells zs) := by
 unfold jlj;rw [vy];split
 . show IObj.cells zs = .cells (toL (KE zs)); rw [qY]
 . show IObj.cells zs = .cells (lst (toT (jht zs 0 .nl)).g 0 zs.length)
   congr 1
   apply List.ext_getElem?;intro i
   by_cases hi : i < zs.length
   . rw [jX _ _ _ _ hi, Nat.zero_add, ZJ zs 0 .nl i, if_pos (by omega)];simp [hi]
   . rw [List.getElem?_eq_none (by omega), List.getElem?_eq_none (by rw [jh]; omega)]
def jg4 (ob : U) (h : H) (K : KH) : Ans := yS ob h fun id h' => K (.o 1 id 0 0 0 .nl) h'
theorem jco (zs : List IVal) : Hp0 (.alloc zs) (jg4 (jlj zs)) := by
 intro h K ts σ wr hr hk;obtain ⟨h', h1, h2, h3⟩ := kp hr hk (jiQ zs);exact ⟨_, h', _, _, fun cf => by simp only [ja]; rfl, h1, h2, h3⟩
def jhl (h : H) (K : KH) : Ans := yS (.o 3 0 0 0 0 .nl) h fun id h' => K (.o 3 id 0 0 0 .nl) h'
theorem jdE : Hp0 .mkMap jhl := by
 intro h K ts σ wr hr hk;obtain ⟨h', h1, h2, h3⟩ := kp hr hk (o := .map []) rfl;exact ⟨_, h', _, _, fun cf => by simp only [ja]; rfl, h1, h2, h3⟩
def jnu (u : U) (h : H) (K : KH) : Ans := yZ u fun l => tst (yU yn l) (yS (.o 1 0 0 0 0 l) h fun id h' => K (.o 1 id 0 0 0 .nl) h')
theorem jhU (x : Opd) : Hp1 (.box x) jnu := by
 intro u h K ts ts' σ wr hr hk hg;have hx := jY hg;obtain ⟨l, h1, h2⟩ := kT hk;obtain ⟨h3, h4⟩ := jb h2;obtain ⟨h', h5, h6, h7⟩ := kp hr h4 (o := .cells (toL l)) rfl;have h3 := qe (fun {x} hx => vf hx) h3;rw [h1] at h3 h5;exact ⟨_, h', _, _, fun cf => by simp only [ja, hx]; rw [if_pos h3]; rfl, h5, h6, h7⟩
def jii (l : U) : U -> Nat -> (U -> Nat -> Ans) -> Ans := @U.rec (fun _ => U -> Nat -> (U -> Nat -> Ans) -> Ans) (fun _ _ _ _ _ => false) (fun _ _ _ _ => false) (fun _ _ _ _ _ => false) (fun _ _ _ _ _ _ _ _ _ _ => false) (fun t j K => K t j)
 (fun v _ _ ih t j K => yZ (QH v) fun cs => JX cs t j fun t' => fN (Nat.add j (J2 cs)) fun j' => ih t' j' K) (fun _ _ _ _ _ _ _ _ _ => false) (fun _ _ _ _ => false) (fun _ _ _ _ _ _ _ _ _ _ => false) l
theorem K8 : ∀ {vs t : U} {off : Nat} {K : U -> Ans}, JX vs t off K = true -> ∃ t', (∀ k, gat t' k = if off <= k /\ k < off + (toL vs).length then (toL vs).getD (k - off) ju else gat t k) /\ K t' = true := by
 intro vs
 induction vs with
 | nl => intro t off K h; exact ⟨t, fun k => by rw [if_neg (by rw [qc]; simp only [List.length_nil]; omega)], h⟩
 | cn v vs _ ih =>
   intro t off K h;have h : jcg v t off (fun t' => JX vs t' (Nat.succ off) K) = true := h;rw [Ji] at h;obtain ⟨t', h1, h2⟩ := ih h;refine ⟨t', fun k => ?_, h2⟩;rw [h1, Jb, jn, List.length_cons]
   by_cases e : k = off
   . subst e; rw [if_neg (by omega), if_pos rfl, if_pos (by omega), Nat.sub_self]; rfl
   . rw [if_neg e]
     by_cases e2 : off.succ <= k /\ k < off.succ + (toL vs).length
     . rw [if_pos e2, if_pos (by omega)];have e3 : k - off = (k - off.succ) + 1 := by omega
       rw [e3]; rfl
     . rw [if_neg e2, if_neg (by omega)]
 | _ => intro t off K h; cases h
theorem jbv : ∀ {l t : U} {j : Nat} {K : U -> Nat -> Ans}, jii l t j K = true -> ∃ t' n, lst (toT t').g 0 n = lst (toT t).g 0 j ++ (toL l).flatMap (fun v => (un2 v).cells) /\ K t' n = true := by
 intro l
 induction l with
 | nl => intro t j K h; exact ⟨t, j, by simp [qc], h⟩
 | cn v vs _ ih =>
   intro t j K h;obtain ⟨cs, h1, h2⟩ := kT (show yZ (QH v) (fun cs => JX cs t j fun t' => fN (Nat.add j (J2 cs)) fun j' => jii vs t' j' K) = true from h);obtain ⟨t1, h3, h4⟩ := K8 h2;rw [jw, Kt, kq] at h4;obtain ⟨t', n, h5, h6⟩ := ih h4;refine ⟨t', n, ?_, h6⟩;rw [h5, jn, List.flatMap_cons, <- zS, <- kX v, <- h1]
   congr 1
   apply List.ext_getElem?;intro i
   by_cases h7 : i < j
   . rw [zL (by rw [jh]; exact h7), jX _ _ _ _ (by omega), jX _ _ _ _ h7, h3, if_neg (by omega)]
   . rw [zR (by rw [jh]; omega), jh]
     by_cases h8 : i < j + (toL cs).length
     . rw [jX _ _ _ _ h8, h3, if_pos (by omega)];have e : i - j < (toL cs).length := by omega
       simp [e]
     . rw [List.getElem?_eq_none (by rw [jh]; omega), List.getElem?_eq_none (by omega)]
 | _ => intro t j K h; cases h
def VQ (esz : Nat) (l : U) (h : H) (K : KH) : Ans := fN (J2 l) fun n => tst (Nat.ble n 65536) (tst (yU (sliceLF.elC esz) l) (tst (yU ntU l) (tst (Nat.ble (Nat.mul n esz) 16777216)
 (jii l .nl 0 fun t c => yS (.o 2 c 0 0 0 t) h fun id h' => K (.o 2 esz id 0 n .nl) h'))))
theorem Za (esz : Nat) (xs : List Opd) : HpL (.buildRs esz xs) (VQ esz) := by
 intro u h K ts ts' σ wr hr hk hg;unfold VQ at hk;rw [jw] at hk;obtain ⟨h1, kq1⟩ := jb hk;obtain ⟨h2, kq2⟩ := jb kq1;obtain ⟨h3, kq3⟩ := jb kq2;obtain ⟨h4, kq4⟩ := jb kq3;obtain ⟨t, c, h5, h6⟩ := jbv kq4;obtain ⟨h', h7, h8, h9⟩ := kp hr h6 (o := .cells (lst (toT t).g 0 c)) rfl;have h1 := ble_iff.1 h1;have h4 := ble_iff.1 h4;rw [jeU] at h4;rw [kq] at h1 h4 h9;have h2 := jcV h2;have h3 := qe (fun {x} hx => Kh hx) h3;have hg' : getAll xs ts = some (toL u, ts') := hg;rw [h5] at h7;refine ⟨_, h', _, _, fun cf => ?_, h7, h8, h9⟩;simp only [ja, hg'];rw [if_pos ⟨h1, h2, h3, h4⟩];simp [lst, JO]
def ji8 (z : U) (n : Nat) : U -> Nat -> (U -> Nat -> Ans) -> Ans := @Nat.rec (fun _ => U -> Nat -> (U -> Nat -> Ans) -> Ans) (fun t j K => K t j)
 (fun _ ih t j K => JX z t j fun t' => fN (Nat.add j (J2 z)) fun j' => ih t' j' K) n
theorem jbM {z : U} : ∀ {n : Nat} {t : U} {j : Nat} {K : U -> Nat -> Ans}, ji8 z n t j K = true -> ∃ t' m, lst (toT t').g 0 m = lst (toT t).g 0 j ++ JI n (toL z) /\ K t' m = true := by
 intro n
 induction n with
 | zero => intro t j K h; exact ⟨t, j, by simp [JI], h⟩
 | succ n ih =>
   intro t j K h;obtain ⟨t1, h3, h4⟩ := K8 (show JX z t j (fun t' => fN (Nat.add j (J2 z)) fun j' => ji8 z n t' j' K) = true from h);rw [jw, Kt, kq] at h4;obtain ⟨t', m, h5, h6⟩ := ih h4;refine ⟨t', m, ?_, h6⟩;have e0 : JI (n + 1) (toL z) = toL z ++ JI n (toL z) := by simp [JI, List.replicate_succ]
   rw [h5, e0, <- zS]
   congr 1
   apply List.ext_getElem?;intro i
   by_cases h7 : i < j
   . rw [zL (by rw [jh]; exact h7), jX _ _ _ _ (by omega), jX _ _ _ _ h7, h3, if_neg (by omega)]
   . rw [zR (by rw [jh]; omega), jh]
     by_cases h8 : i < j + (toL z).length
     . rw [jX _ _ _ _ h8, h3, if_pos (by omega)];have e : i - j < (toL z).length := by omega
       simp [e]
     . rw [List.getElem?_eq_none (by rw [jh]; omega), List.getElem?_eq_none (by omega)]
def ji7 (e : U) (n : Nat) : U -> Nat -> (U -> Ans) -> Ans := @Nat.rec (fun _ => U -> Nat -> (U -> Ans) -> Ans) (fun t _ K => K t) (fun _ ih t j K => jcg e t j fun t' => ih t' (Nat.succ j) K) n
theorem jbL {e : U} : ∀ {n : Nat} {t : U} {j : Nat} {K : U -> Ans}, ji7 e n t j K = true -> ∃ t', lst (toT t').g 0 (j + n) = lst (toT t).g 0 j ++ List.replicate n (toI e) /\ K t' = true := by
 intro n
 induction n with
 | zero => intro t j K h; exact ⟨t, by simp, h⟩
 | succ n ih =>
   intro t j K h;have h : jcg e t j (fun t' => ji7 e n t' (Nat.succ j) K) = true := h;rw [Ji] at h;obtain ⟨t', h1, h2⟩ := ih h;refine ⟨t', ?_, h2⟩;have e1 : j + (n + 1) = j.succ + n := by omega
   rw [e1, h1, List.replicate_succ, <- List.singleton_append, <- zS]
   congr 1
   apply List.ext_getElem?;intro i
   by_cases h7 : i < j
   . rw [zL (by rw [jh]; exact h7), jX _ _ _ _ (by omega), jX _ _ _ _ h7, Jb, if_neg (by omega)]
   . rw [zR (by rw [jh]; omega), jh]
     by_cases h8 : i = j
     . subst h8;rw [jX _ _ _ _ (by omega), Jb, if_pos (by omega)]; simp
     . rw [List.getElem?_eq_none (by rw [jh]; omega), List.getElem?_eq_none (by simp; omega)]
def jdF (esz l c : Nat) : Nat := @Bool.rec (fun _ => Nat) esz (@Bool.rec (fun _ => Nat) 0 esz (Nat.beq c 0)) (Nat.beq l 0)
theorem jdG (esz l c : Nat) : jdF esz l c = jbD esz (l : Int) (c : Int) := by
 unfold jdF jbD
 cases h1 : Nat.beq l 0 with
 | false => rw [if_neg (fun h => zE h1 (by omega))]
 | true =>
   have h1 := zN h1
   cases h2 : Nat.beq c 0 with
   | true => have h2 := zN h2; rw [if_neg (fun h => h.2 (by omega))]
   | false => have h2 := zE h2; rw [if_pos ⟨by omega, by omega⟩]
def jkH (byref : Bool) (esz bytes : Nat) (z ez : U) (u v : U) (h : H) (K : KH) : Ans := uI u fun _ n => uI v fun _ m => tst (Nat.ble 18446744073709551616 n) (tst (Nat.ble n m) (fN (Nat.sub n 18446744073709551616) fun l => fN (Nat.sub m 18446744073709551616) fun c =>
 tst (Nat.ble (Nat.mul c bytes) 1099511627776) (tst (Nat.ble c 1099511627776) (tst (Nat.beq (J2 z) esz) (tst (Nat.blt 0 esz)
   (@Bool.rec (fun _ => Ans) (tst (jce ez) (tst (Nat.ble l 65536) (fN (jdF esz l c) fun w => ji7 ez l .nl 0 fun t => K (.o 16 w 0 0 l t) h))) (ji8 z c .nl 0 fun t q => yS (.o 2 q 0 0 0 t) h fun id h' => K (.o 2 esz id 0 l .nl) h') byref))))))
theorem jfV (byref : Bool) (esz bytes : Nat) (zs : List IVal) (x y : Opd) : Hp2 (.mkSl byref esz bytes zs x y) (jkH byref esz bytes (KE zs) (rep (Q2 zs))) := by
 intro u v h K ts ts' σ wr hr hk hg;obtain ⟨t1, hx, hy⟩ := qE hg;obtain ⟨k, n, rfl, kq1⟩ := ka hk;obtain ⟨k', m, rfl, g1⟩ := ka kq1;obtain ⟨h1, g1⟩ := jb g1;obtain ⟨h2, g1⟩ := jb g1;rw [jw, jw] at g1;obtain ⟨h3, g1⟩ := jb g1;obtain ⟨h4, g1⟩ := jb g1;obtain ⟨h5, g1⟩ := jb g1;obtain ⟨h6, g1⟩ := jb g1;have h1 := ble_iff.1 h1;have h2 := ble_iff.1 h2;have h3 := ble_iff.1 h3;have h4 := ble_iff.1 h4;have h5 := zN h5;have h6 := jO h6;rw [Vu] at h3 h4;rw [jeU] at h3;rw [kq, qY] at h5;rw [vw] at hx hy;have e1 : (0 : Int) <= (n : Int) - 18446744073709551616 := by omega
 have e2 : (n : Int) - 18446744073709551616 <= (m : Int) - 18446744073709551616 := by omega
 have e4 : (m : Int) - 18446744073709551616 = ((m - 18446744073709551616 : Nat) : Int) := by omega
 have e3 : ((m : Int) - 18446744073709551616) * bytes <= 1099511627776 := by
   rw [e4];generalize m - 18446744073709551616 = c at h3;have := Int.ofNat_le.2 h3;rw [Int.natCast_mul] at this;exact this
 have e5 : (m : Int) - 18446744073709551616 <= 1099511627776 := by omega
 have e6 : ((n : Int) - 18446744073709551616).toNat = n - 18446744073709551616 := by omega
 have e7 : ((m : Int) - 18446744073709551616).toNat = m - 18446744073709551616 := by omega
 rcases jf g1 with ⟨hb, g2⟩ | ⟨hb, g2⟩
 . subst hb;obtain ⟨t, q, h7, h8⟩ := jbM g2;obtain ⟨h', h9, h10, h11⟩ := kp hr h8 (o := .cells (lst (toT t).g 0 q)) rfl;have e8 : lst (toT U.nl).g 0 0 = [] := rfl;rw [h7, qY, e8, List.nil_append, Vu] at h9;rw [Vu] at h11;refine ⟨_, h', _, _, fun cf => ?_, h9, h10, h11⟩;simp only [ja, hx, hy];rw [if_pos ⟨e1, e2, e3, e5, h5, h6⟩, if_pos trivial, e6, e7, JO]
 . subst hb;obtain ⟨h7, g2⟩ := jb g2;obtain ⟨h8, g2⟩ := jb g2;rw [jw] at g2;obtain ⟨t, h9, h10⟩ := jbL g2;have h8 := ble_iff.1 h8;rw [y8, yQ] at h7;rw [Vu] at h8 h9 h10;rw [Vu, jdG] at h10;refine ⟨_, h, σ, wr, fun cf => ?_, hr, rfl, h10⟩;simp only [ja, hx, hy];rw [if_pos ⟨e1, e2, e3, e5, h5, h6⟩];simp only [Bool.false_eq_true, if_false];have e8 : lst (toT U.nl).g 0 0 = [] := rfl;rw [Nat.zero_add, e8, List.nil_append, yQ] at h9;rw [if_pos ⟨h7, by omega⟩, kP, h9, e6];have e9 : (n : Int) - 18446744073709551616 = ((n - 18446744073709551616 : Nat) : Int) := by omega
   rw [e9, e4];rfl
theorem kl {σ : List IObj} {id : Nat} {cs : List IVal} (h : σ[id]? = some (.cells cs)) : jr σ id = some cs := by unfold jr; rw [h]
def jfu (y : U) (n : Nat) : Nat -> U -> Nat -> (U -> Nat -> Ans) -> Ans := @Nat.rec (fun _ => Nat -> U -> Nat -> (U -> Nat -> Ans) -> Ans) (fun _ t j K => K t j)
 (fun _ ih i t j K => yZ (QH (atR y i)) fun cs => JX cs t j fun t' => fN (Nat.add j (J2 cs)) fun j' => ih (Nat.succ i) t' j' K) n
theorem Vm {y : U} : ∀ {n i : Nat} {t : U} {j : Nat} {K : U -> Nat -> Ans}, jfu y n i t j K = true -> ∃ t' m, lst (toT t').g 0 m = lst (toT t).g 0 j ++ (lst (toT y).g i n).flatMap (fun v => (un2 v).cells) /\ K t' m = true := by
 intro n
 induction n with
 | zero => intro i t j K h; exact ⟨t, j, by simp [lst], h⟩
 | succ n ih =>
   intro i t j K h;obtain ⟨cs, h1, h2⟩ := kT (show yZ (QH (atR y i)) (fun cs => JX cs t j fun t' => fN (Nat.add j (J2 cs)) fun j' => jfu y n (Nat.succ i) t' j' K) = true from h);obtain ⟨t1, h3, h4⟩ := K8 h2;rw [jw, Kt, kq] at h4;obtain ⟨t', m, h5, h6⟩ := ih h4;refine ⟨t', m, ?_, h6⟩;rw [h5, V8, List.flatMap_cons, <- zS];have e0 : (un2 (gat y i)).cells = toL cs := by rw [h1, kX, yW, VO]
   rw [e0]
   congr 1
   apply List.ext_getElem?;intro q
   by_cases h7 : q < j
   . rw [zL (by rw [jh]; exact h7), jX _ _ _ _ (by omega), jX _ _ _ _ h7, h3, if_neg (by omega)]
   . rw [zR (by rw [jh]; omega), jh]
     by_cases h8 : q < j + (toL cs).length
     . rw [jX _ _ _ _ h8, h3, if_pos (by omega)];have e : q - j < (toL cs).length := by omega
       simp [e]
     . rw [List.getElem?_eq_none (by rw [jh]; omega), List.getElem?_eq_none (by omega)]
theorem jfO (f : Nat -> Nat -> IVal) (c n q : Nat) (h : n <= q) : (lst f c q).take n = lst f c n := by
 have := Qi f c q 0 n (Nat.zero_le _) h;simpa using this
def jjZ (esz bytes : Nat) (u v : U) (h : H) (K : KH) : Ans := uO (jli esz u) fun t a b c d x => uO v fun t' _ _ c' d' y => tst (Nat.beq t' 16) (tst (Nat.blt 0 esz) (tst (Nat.beq a esz) (fN (Nat.add d d') fun n =>
 tst (Nat.ble (Nat.mul n bytes) 1099511627776) (tst (Nat.ble n 1099511627776) (tst (sliceLF.eszOK esz y c' d')
   (@Bool.rec (fun _ => Ans)
     (tst (Nat.beq t 16) (tst (Nat.beq d 0) (@Bool.rec (fun _ => Ans) (jfu y d' c' .nl 0 fun z m => yS (.o 2 m 0 0 0 z) h fun id h' => K (.o 2 esz id 0 d' .nl) h') (K (.o 16 esz b c 0 x) h) (Nat.beq d' 0))))
     (tst (Nat.beq c 0) (vz b h fun ob => uO ob fun w q _ _ _ tr => tst (Nat.beq w 2) (fN (Nat.mul d esz) fun j => tst (Nat.ble j q) (jfu y d' c' tr j fun z m =>
       vb b (.o 9 0 0 0 0 .nl) false h fun h1 => yS (.o 2 m 0 0 0 z) h1 fun id h' => K (.o 2 esz id 0 n .nl) h')))) (Nat.beq t 2)))))))
theorem je5 (esz bytes : Nat) (sv x : Opd) : Hp2 (.append true false esz bytes sv x) (jjZ esz bytes) := by
 intro u v h K ts ts' σ wr hr hk hg;obtain ⟨t1, hx, hy⟩ := qE hg;obtain ⟨t, a, b, c, d, x', hu, k1⟩ := jq hk;obtain ⟨t', a', b', c', d', y, rfl, k2⟩ := jq k1;clear hk k1;obtain ⟨h1, k3⟩ := jb k2;obtain ⟨h2, k4⟩ := jb k3;obtain ⟨h3, k5⟩ := jb k4;rw [jw] at k5;obtain ⟨h4, k6⟩ := jb k5;obtain ⟨h5, k7⟩ := jb k6;obtain ⟨h6, k8⟩ := jb k7;clear k2 k3 k4 k5 k6 k7;have := zN h1; subst this;have := zN h3; subst this;have h2' := jO h2;have h4' := ble_iff.1 h4;have h5' := ble_iff.1 h5;rw [jeU, Kt] at h4';rw [Kt] at h5';have h6' := jar h6;rw [kP] at hy
 rcases jf k8 with ⟨h7, k9⟩ | ⟨_, k9⟩
 . clear k8;have := zN h7; subst this;obtain ⟨h8, k10⟩ := jb k9;clear k9;have := zN h8; subst this;obtain ⟨ob, o, h9, h10, k11⟩ := jR hr k10;clear k10;obtain ⟨w, q, _, _, _, tr, rfl, k12⟩ := jq k11;clear k11;obtain ⟨h11, k13⟩ := jb k12;clear k12;have := zN h11; subst this;rw [jw, jeU] at k13;obtain ⟨h12, k14⟩ := jb k13;have h12' := ble_iff.1 h12;obtain ⟨z, m, h13, k15⟩ := Vm k14;obtain ⟨hh1, r1, r2, r3, k16⟩ := ke hr k15 (o := .dead) rfl;obtain ⟨hh2, r4, r5, k17⟩ := kp r1 k16 (o := .cells (lst (toT z).g 0 m)) rfl;have ho : o = .cells (lst (toT tr).g 0 q) := h10.o;subst ho;have hb : nilOwn a (toI u) = _ := (Xb a u).symm.trans (by rw [hu, JO]);rw [h13] at r4;rw [Kt, List.length_set] at k17;refine ⟨_, hh2, _, _, fun cf => ?_, r4, r5.trans r3, k17⟩;simp only [ja, hx, hy, hb, qh, if_pos h6', jh, kl h9];rw [if_pos ⟨trivial, trivial, trivial, h2', h4', h5'⟩, if_pos h12', jfO _ _ _ _ h12', JO]
 . clear k8;obtain ⟨h7, k10⟩ := jb k9;clear k9;have := zN h7; subst this;obtain ⟨h8, k11⟩ := jb k10;clear k10;have := zN h8; subst this;have hb : nilOwn a (toI u) = _ := (Xb a u).symm.trans (by rw [hu, kP]);rw [Nat.zero_add] at h4' h5';have e0 : lst (toT x').g c 0 = [] := rfl;rw [e0] at hb
   rcases jf k11 with ⟨h9, k12⟩ | ⟨h9, k12⟩
   . clear k11;have h9 := zN h9;subst h9;refine ⟨_, h, σ, wr, fun cf => ?_, hr, rfl, k12⟩;simp only [ja, hx, hy, hb, qh, if_pos h6', jh, List.length_nil, Nat.zero_add, rv, if_true];rw [if_pos ⟨trivial, h2', h4', h5'⟩, kP, e0]
   . have h9 := zE h9;obtain ⟨z, m, h13, k13⟩ := Vm k12;obtain ⟨hh2, r4, r5, k14⟩ := kp hr k13 (o := .cells (lst (toT z).g 0 m)) rfl;have e8 : lst (toT U.nl).g 0 0 = [] := rfl;rw [h13, e8, List.nil_append] at r4;refine ⟨_, hh2, _, _, fun cf => ?_, r4, r5, k14⟩;simp only [ja, hx, hy, hb, qh, if_pos h6', jh, List.length_nil, Nat.zero_add, if_true];rw [if_pos ⟨trivial, h2', h4', h5'⟩, if_neg h9, JO]
def jcG (z : U) (n : Nat) : U -> Nat -> (U -> Ans) -> Ans := @Nat.rec (fun _ => U -> Nat -> (U -> Ans) -> Ans) (fun ob _ K => K ob) (fun _ ih ob j K => qf ob j z fun ob' => fN (Nat.add j (J2 z)) fun j' => ih ob' j' K) n
theorem Yq : ∀ {a b cs : List IVal} {off : Nat}, ji cs off (a ++ b) = ji (ji cs off a) (off + a.length) b := by
 intro a
 induction a with
 | nil => intro b cs off; rfl
 | cons v a ih => intro b cs off; simp only [List.cons_append, ji, ih, List.length_cons]; congr 1; omega
theorem Ze {z : U} : ∀ {n : Nat} {ob : U} {j : Nat} {K : U -> Ans} {o : IObj}, ObR ob o -> 0 < n -> jcG z n ob j K = true -> ∃ ob' cs, o = .cells cs /\ j + n * (toL z).length <= cs.length /\ ObR ob' (.cells (ji cs j (JI n (toL z)))) /\ K ob' = true := by
 intro n
 induction n with
 | zero => intro ob j K o _ h; omega
 | succ n ih =>
   intro ob j K o ho _ h;obtain ⟨t, a, b, c, d, x, cs, t', a', b', c', d', x', rfl, h1, h2, h3, h4⟩ := kw (show qf ob j z (fun ob' => fN (Nat.add j (J2 z)) fun j' => jcG z n ob' j' K) = true from h);rw [jw, Kt, kq] at h4;have ho : o = .cells cs := ho.o.trans h1;have e0 : JI (n + 1) (toL z) = toL z ++ JI n (toL z) := by simp [JI, List.replicate_succ]
   letI : Globs := ⟨fun _ => none⟩;have hlen : (ji cs j (toL z)).length = cs.length := kM h2
   rcases Nat.eq_zero_or_pos n with hn | hn
   . subst hn;refine ⟨_, cs, ho, by omega, ?_, h4⟩;rw [e0]; simp only [JI, List.replicate_zero, List.flatten_nil, List.append_nil];exact qQ h3
   . obtain ⟨ob', cs2, h5, h6, h7, h8⟩ := ih (qQ h3) hn h4;cases h5;refine ⟨ob', cs, ho, ?_, ?_, h8⟩
     . rw [hlen] at h6; rw [Nat.add_mul]; omega
     . rw [e0, Yq]; exact h7
def jha (z : U) (fl : Bool) (u : U) (h : H) (K : KH) : Ans := uO u fun t a b c d x => @Bool.rec (fun _ => Ans) (tst (Nat.beq t 16) (tst (Nat.beq d 0) (K (.o 18 0 0 0 0 .nl) h)))
 (tst (Nat.beq a (J2 z)) (tst (Nat.blt 0 a) (tst (Nat.blt 0 d) (vz b h fun ob => jcG z d ob c fun ob' => vb b ob' fl h fun h' => K (.o 18 0 0 0 0 .nl) h')))) (Nat.beq t 2)
theorem jcF (zs : List IVal) (x : Opd) : Hp1 (.clear zs x) (jha (KE zs) (!(zs.all nr1))) := by
 intro u h K ts ts' σ wr hr hk hg;have hx := jY hg;obtain ⟨t, a, b, c, d, y, rfl, k1⟩ := jq hk;clear hk
 rcases jf k1 with ⟨h1, k2⟩ | ⟨_, k2⟩
 . clear k1;have := zN h1; subst this;obtain ⟨h2, k3⟩ := jb k2;obtain ⟨h3, k4⟩ := jb k3;obtain ⟨h4, k5⟩ := jb k4;have h2' := zN h2;rw [kq, qY] at h2';have h3' := jO h3;have h4' := jO h4;obtain ⟨ob, o, h9, h10, k6⟩ := jR hr k5;obtain ⟨ob', cs, h5, h6, h7, k7⟩ := Ze h10 h4' k6;subst h5;rw [qY] at h6 h7;obtain ⟨hh1, r1, r2, r3, k8⟩ := ke hr k7 h7;rw [JO] at hx;refine ⟨_, hh1, _, _, fun cf => ?_, r1, r3, k8⟩;simp only [ja, hx, kl h9];rw [if_pos ⟨h2', h3', by rw [h2']; exact h6⟩];rfl
 . clear k1;obtain ⟨h1, k3⟩ := jb k2;clear k2;have := zN h1; subst this;obtain ⟨h2, k4⟩ := jb k3;clear k3;have := zN h2; subst this;rw [kP] at hx;refine ⟨_, h, σ, wr, fun cf => ?_, hr, rfl, k4⟩;have e0 : lst (toT y).g c 0 = [] := rfl;simp only [ja, hx, e0, rv];rfl
def jkB (u : U) (h : H) (K : KH) : Ans := uO u fun t a b c d x => @Bool.rec (fun _ => Ans) (tst (Nat.beq t 6) (jiP b x fun v => K v h)) (jin a h fun ob h => XP ob b fun v => frc (QH v) fun w => K w h) (Nat.beq t 1)
theorem jfJ (x : Opd) : Hp1 (.load false none x) jkB := by
 intro u h K ts ts' σ wr hr hk hg;have hx := jY hg;obtain ⟨t, a, b, c, d, y, rfl, kq1⟩ := jq hk
 rcases jf kq1 with ⟨h1, h2⟩ | ⟨_, h2⟩
 . have := zN h1; subst this;obtain ⟨ob, o, h', h3, h4, hr', htr', h5⟩ := Vo hr h2;obtain ⟨t', a', b', c', d', x', cs, w, rfl, h6, h7, h8⟩ := zY h5;rw [vB] at h8;have ho : o = .cells cs := h4.o.trans h6;subst ho;rw [q9] at hx;refine ⟨_, h', σ, wr, fun cf => ?_, hr', htr', h8⟩;simp only [ja, hx, kl h3, kA, h7, rv, kX, Bool.false_eq_true, if_false]
 . obtain ⟨h3, h4⟩ := jb h2;have := zN h3; subst this;obtain ⟨w, h5, h6⟩ := y9 h4;rw [QE] at hx;exact ⟨w, h, σ, wr, fun cf => by simp only [ja, hx, kA, h5, rv], hr, rfl, h6⟩
def jkD (n : Nat) (u : U) (h : H) (K : KH) : Ans := uO u fun t a b c d x => @Bool.rec (fun _ => Ans) (tst (Nat.beq t 6) (Zg b x fun y => Z8 n y fun r => K (.o 17 0 0 0 0 r) h)) (jin a h fun ob h => KV ob n b fun r => K (.o 17 1 0 0 0 r) h) (Nat.beq t 1)
theorem jfM (n : Nat) (x : Opd) : Hp1 (.load false (some n) x) (jkD n) := by
 intro u h K ts ts' σ wr hr hk hg;have hx := jY hg;obtain ⟨t, a, b, c, d, y, rfl, kq1⟩ := jq hk
 rcases jf kq1 with ⟨h1, h2⟩ | ⟨_, h2⟩
 . have := zN h1; subst this;obtain ⟨ob, o, h', h3, h4, hr', htr', h5⟩ := Vo hr h2;obtain ⟨t', a', b', c', d', x', cs, r, rfl, h6, h7, h8, h9⟩ := yY h5;have ho : o = .cells cs := h4.o.trans h6;subst ho;rw [q9] at hx;refine ⟨_, h', σ, wr, fun cf => ?_, hr', htr', h9⟩;simp only [ja, hx, kl h3, kA];rw [if_pos h7];simp only [rv, Bool.false_eq_true, if_false];rw [yF, h8];rfl
 . obtain ⟨h3, h4⟩ := jb h2;have := zN h3; subst this;obtain ⟨z, h5, h6, h7⟩ := vS h4;obtain ⟨r, h8, h9, h10⟩ := yd h7;rw [QE] at hx;rw [h5] at h8 h9;refine ⟨_, h, σ, wr, fun cf => ?_, hr, rfl, h10⟩;simp only [ja, hx, kA];rw [if_pos (by simp at h9; omega)];simp only [rv];rw [yF, if_pos rfl, h8]
def jkC (u : U) (h : H) (K : KH) : Ans := uO u fun t a b c d x => @Bool.rec (fun _ => Ans) (tst (Nat.beq t 6) (jiP b x fun v => K v h)) (vz a h fun ob => XP ob b fun v => frc v fun v => frc (QH v) fun w => qf ob b (.cn w .nl) fun ob' => tst (yn v) (vb a ob' false h fun h' => K v h')) (Nat.beq t 1)
theorem XT {v : IVal} (h : v.isCell = true) : (un2 v).cells = [un2 v] := by cases v <;> first | rfl | cases h
theorem jfL (x : Opd) : Hp1 (.load true none x) jkC := by
 intro u h K ts ts' σ wr hr hk hg;have hx := jY hg;obtain ⟨t, a, b, c, d, y, rfl, kq1⟩ := jq hk
 rcases jf kq1 with ⟨h1, h2⟩ | ⟨_, h2⟩
 rotate_left
 . obtain ⟨h3, h4⟩ := jb h2;have := zN h3; subst this;obtain ⟨w, h5, h6⟩ := y9 h4;rw [QE] at hx;exact ⟨w, h, σ, wr, fun cf => by simp only [ja, hx, kA, h5, rv], hr, rfl, h6⟩
 have := zN h1; subst this;obtain ⟨ob, o, h3, h4, h5⟩ := jR hr h2;obtain ⟨t', a', b', c', d', x', cs, w, rfl, h6, h7, h8⟩ := zY h5;rw [vB, vB] at h8;have ho : o = .cells cs := h4.o.trans h6;subst ho;obtain ⟨_, _, _, _, _, _, cs2, t2, a2, b2, c2, d2, x2, e1, e2, h9, h10, h11⟩ := kw h8;rw [h6] at e2;cases e2;obtain ⟨h12, h13⟩ := jb h11;have h12 := vf h12;obtain ⟨h', h14, _, h15, h16⟩ := ke hr h13 (o := .cells (ji cs b (toL (.cn (QH w) .nl)))) (qQ h10);rw [q9] at hx;refine ⟨w, h', _, _, fun cf => ?_, h14, h15, h16⟩;simp only [ja, hx, kl h3, kA, h7, if_true];rw [XT h12, jn, qc, kX]
def jhk (n : Nat) (u : U) (h : H) (K : KH) : Ans := uO u fun t a b c d x => @Bool.rec (fun _ => Ans) (tst (Nat.beq t 6) (Zg b x fun y => Z8 n y fun r => K (.o 17 0 0 0 0 r) h)) (vz a h fun ob => KV ob n b fun r => jdu jhB r fun r1 => qf ob b r1 fun ob' => vb a ob' false h fun h' => K (.o 17 0 0 0 0 r) h') (Nat.beq t 1)
theorem jds (n : Nat) (x : Opd) : Hp1 (.load true (some n) x) (jhk n) := by
 intro u h K ts ts' σ wr hr hk hg;have hx := jY hg;obtain ⟨t, a, b, c, d, y, rfl, kq1⟩ := jq hk
 rcases jf kq1 with ⟨h1, h2⟩ | ⟨_, h2⟩
 rotate_left
 . obtain ⟨h3, h4⟩ := jb h2;have := zN h3; subst this;obtain ⟨z, h5, h6, h7⟩ := vS h4;obtain ⟨r, h8, h9, h10⟩ := yd h7;rw [QE] at hx;rw [h5] at h8 h9;refine ⟨_, h, σ, wr, fun cf => ?_, hr, rfl, h10⟩;simp only [ja, hx, kA];rw [if_pos (by simp at h9; omega)];simp only [rv];rw [yF, if_pos rfl, h8]
 have := zN h1; subst this;obtain ⟨ob, o, h3, h4, h5⟩ := jR hr h2;obtain ⟨t', a', b', c', d', x', cs, r, rfl, h6, h7, h8, h9⟩ := yY h5;have ho : o = .cells cs := h4.o.trans h6;subst ho;obtain ⟨r1, g1, g2⟩ := vk (g := un1) QG h9;obtain ⟨_, _, _, _, _, _, cs2, t2, a2, b2, c2, d2, x2, e1, e2, h10, h11, h12⟩ := kw g2;rw [h6] at e2;cases e2;obtain ⟨h', h14, _, h15, h16⟩ := ke hr h12 (o := .cells (ji cs b (toL r1))) (qQ h11);rw [q9] at hx;refine ⟨_, h', _, _, fun cf => ?_, h14, h15, h16⟩;simp only [ja, hx, kl h3, kA];rw [if_pos h7];simp only [if_true];rw [yF, if_pos rfl, h8, g1, h8];rfl
def jfK (mvf : Bool) (n : Option Nat) : U -> H -> KH -> Ans := @Bool.rec (fun _ => U -> H -> KH -> Ans) (@Option.rec Nat (fun _ => U -> H -> KH -> Ans) jkB jkD n) (@Option.rec Nat (fun _ => U -> H -> KH -> Ans) jkC jhk n) mvf
theorem V5 (mvf : Bool) (n : Option Nat) (x : Opd) : Hp1 (.load mvf n x) (jfK mvf n) := by
 cases mvf <;> cases n
 . exact jfJ x
 . exact jfM _ x
 . exact jfL x
 . exact jds _ x
def jev (n : Nat) (u v : U) (h : H) (K : KH) : Ans := uO u fun t a b _ _ _ => tst (Nat.beq t 1) (yZ v fun l => tst (Nat.beq (J2 l) n) (tst (yU yn l) (vz a h fun ob => qf ob b l fun ob' => vb a ob' (jaC (yU jkN l)) h fun h' => K (.o 18 0 0 0 0 .nl) h')))
theorem YR (n : Nat) (x y : Opd) : Hp2 (.store n x y) (jev n) := by
 intro u v h K ts ts' σ wr hr hk hg;obtain ⟨t1, hx, hy⟩ := qE hg;obtain ⟨t, a, b, c, d, z, rfl, kq1⟩ := jq hk;obtain ⟨h1, kq2⟩ := jb kq1;have := zN h1; subst this;obtain ⟨l, h2, kq3⟩ := kT kq2;obtain ⟨h3, kq4⟩ := jb kq3;obtain ⟨h4, kq5⟩ := jb kq4;obtain ⟨ob, o, h5, h6, kq6⟩ := jR hr kq5;obtain ⟨t', a', b', c', d', x', cs, t2, a2, b2, c2, d2, x2, rfl, h7, h8, h9, kq7⟩ := kw kq6;have ho : o = .cells cs := h6.o.trans h7;subst ho;obtain ⟨h', h10, _, h11, h12⟩ := ke hr kq7 (o := .cells (ji cs b (toL l))) (qQ h9);have h3 := zN h3;have h4 := qe (fun {x} hx => vf hx) h4;rw [kq] at h3;rw [h2] at h3 h4 h8 h10;rw [q9] at hx;refine ⟨_, h', _, _, fun cf => ?_, h10, h11, h12⟩;simp only [ja, hx, hy, kl h5];rw [if_pos ⟨h3, by rw [<- h3]; exact h8, h4⟩, Ql, yV Zy, h2];rfl
def jhD (G : Nat) (tab : List TypeId) (a b : IVal) : Bool := match X6 G a, X6 G b with
 | some t, some t' => decide (t = t' /\ tab.contains t = true)
 | _, _ => false
def jap (u : U) (K : Ans) : Ans := (@U.rec (fun _ => Ans -> Ans) (fun _ _ => fun _ => false) (fun _ => fun _ => false) (fun _ _ => fun _ => false) (fun _ _ _ _ _ _ _ => fun _ => false) (fun K => K) (fun _ _ _ _ => fun _ => false) (fun _ _ _ _ _ _ => fun _ => false) (fun _ => fun _ => false) (fun _ _ _ _ _ _ _ => fun _ => false) u) K
theorem kB {u : U} {K : Ans} (h : jap u K = true) : u = .nl /\ K = true := by cases u <;> first | exact ⟨rfl, h⟩ | cases h
def jla (G : Nat) (tab : List TypeId) (u v : U) (h : H) (K : KH) : Ans :=
 uO u fun t _ _ _ _ x => tst (Nat.beq t 17) (uC x false fun a x => uC x false fun p x => uC x false fun f x => jap x (uI f fun k n => tst (Nat.beq k 7) (tst (Nat.beq n 18446744073709552022) (uO p fun t1 id off _ _ _ => tst (Nat.beq t1 1)
 (uO v fun t _ _ _ _ x => tst (Nat.beq t 17) (uC x false fun b x => uC x false fun p x => uC x false fun f x => jap x (uI f fun k n => tst (Nat.beq k 7) (tst (Nat.beq n 18446744073709551766) (uO p fun t1 _ o2 _ _ y => tst (Nat.beq t1 6) (tst (Nat.beq o2 0) (uC y false fun w y => jap y
 (tst (jhD G tab (toI a) (toI b)) (vz id h fun ob => qf ob off (.cn w .nl) fun ob' => vb id ob' (jaC (yU jkN (.cn w .nl))) h fun h' => K (.o 18 0 0 0 0 .nl) h')))))))))))))
theorem jns {a b c d : Nat} {x y z : U} {w : Nat} : toI (.o 17 w b c d (.cn x (.cn y (.cn z .nl)))) = .agg (if w = 0 then [toI x, toI y, toI z] else [un1 (toI x), un1 (toI y), un1 (toI z)]) := by
 rw [yF]; split <;> rfl
theorem jdf {G : Nat} {v : IVal} {t : TypeId} (h : X6 G v = some t) : un1 v = v := by
 cases v <;> first | rfl | cases h
theorem jgY (G : Nat) (tab : List TypeId) (x y : Opd) : Hp2 (.vSet G tab x y) (jla G tab) := by
 intro u v h K ts ts' σ wr hr hk hg;obtain ⟨t1, hx, hy⟩ := qE hg;obtain ⟨t, q, b, c, d, z, rfl, kq1⟩ := jq hk;obtain ⟨g1, kq2⟩ := jb kq1;have e1 := zN g1; subst e1
 rcases jk kq2 with ⟨_, kq3⟩ | ⟨ua, z, rfl, kq3⟩
 . cases kq3
 rcases jk kq3 with ⟨_, kq4⟩ | ⟨up, z, rfl, kq4⟩
 . cases kq4
 rcases jk kq4 with ⟨_, kq5⟩ | ⟨uf, z, rfl, kq5⟩
 . cases kq5
 obtain ⟨rfl, kq6⟩ := kB kq5;obtain ⟨kk, n, rfl, kq7⟩ := ka kq6;obtain ⟨g2, kq8⟩ := jb kq7;have e2 := zN g2; subst e2;obtain ⟨g3, kq9⟩ := jb kq8;have e3 := zN g3; subst e3;obtain ⟨_, id, off, _, _, _, rfl, kq10⟩ := jq kq9;obtain ⟨g4, kq11⟩ := jb kq10;have e4 := zN g4; subst e4;obtain ⟨t, q', b', c', d', z, rfl, kq12⟩ := jq kq11;obtain ⟨g5, kq13⟩ := jb kq12;have e5 := zN g5; subst e5
 rcases jk kq13 with ⟨_, kq14⟩ | ⟨ub, z, rfl, kq14⟩
 . cases kq14
 rcases jk kq14 with ⟨_, kq15⟩ | ⟨up2, z, rfl, kq15⟩
 . cases kq15
 rcases jk kq15 with ⟨_, kq16⟩ | ⟨uf, z, rfl, kq16⟩
 . cases kq16
 obtain ⟨rfl, kq17⟩ := kB kq16;obtain ⟨kk, n, rfl, kq18⟩ := ka kq17;obtain ⟨g6, kq19⟩ := jb kq18;have e6 := zN g6; subst e6;obtain ⟨g7, kq20⟩ := jb kq19;have e7 := zN g7; subst e7;obtain ⟨_, a2, o2, c2, d2, y2, rfl, kq21⟩ := jq kq20;obtain ⟨g8, kq22⟩ := jb kq21;have e8 := zN g8; subst e8;obtain ⟨g9, kq23⟩ := jb kq22;have e9 := zN g9; subst e9
 rcases jk kq23 with ⟨_, kq24⟩ | ⟨w, z, rfl, kq24⟩
 . cases kq24
 obtain ⟨rfl, kq25⟩ := kB kq24;obtain ⟨h2, kq26⟩ := jb kq25;obtain ⟨ob, o, h5, h6, kq27⟩ := jR hr kq26;obtain ⟨t', a', b', c', d', x', cs, t2, a2', b2, c2', d2', x2, rfl, h7, h8, h9, kq28⟩ := kw kq27;have ho : o = .cells cs := h6.o.trans h7;subst ho;obtain ⟨h', h10, _, h11, h12⟩ := ke hr kq28 (o := .cells (ji cs off (toL (.cn w .nl)))) (qQ h9);unfold jhD at h2;split at h2
 . rename_i ty1 ty2 e1 e2;obtain ⟨rfl, h3⟩ := of_decide_eq_true h2;have ex : x.get ts = some (IVal.agg [toI ua, .ptr id off, .int .u64 406], t1) := by
     rw [hx, jns (a := 0), jdf e1]; split <;> rfl
   have ey : y.get t1 = some (IVal.agg [toI ub, .pv (a2 != 0) [toI w] 0, .int .u64 150], ts') := by
     rw [hy, jns (a := 0), jdf e2]; split <;> rfl
   refine ⟨_, h', _, _, fun cf => ?_, h10, h11, h12⟩;simp only [ja, ex, ey, e1, e2, h3, kl h5, if_true, and_self];rw [jn, qc] at h8;rw [if_pos (by simp at h8; omega), Ql, yV Zy, jn, qc];rfl
 . cases h2
def jdp (u v : U) (Y N : Ans) : Ans := (@U.rec (fun _ => U -> Ans -> Ans -> Ans) (fun k n => fun v Y N => uI v fun k' m => tst (Nat.beq k k') (@Bool.rec (fun _ => Ans) N Y (Nat.beq n m))) (fun x => fun v Y N => uB v fun y => @Bool.rec (fun _ => Ans) (@Bool.rec (fun _ => Ans) Y N y) (@Bool.rec (fun _ => Ans) N Y y) x) (fun l x => fun v Y N => uS v fun l' y => @Bool.rec (fun _ => Ans) N (@Bool.rec (fun _ => Ans) N Y (Nat.beq (Nat.mod x (Nat.pow 256 l)) (Nat.mod y (Nat.pow 256 l)))) (Nat.beq l l')) (fun _ _ _ _ _ _ _ => fun _ _ _ => false) (fun _ _ _ => false) (fun _ _ _ _ => fun _ _ _ => false) (fun _ _ _ _ _ _ => fun _ _ _ => false) (fun _ => fun _ _ _ => false) (fun _ _ _ _ _ _ _ => fun _ _ _ => false) u) v Y N
theorem Vr {u v : U} {Y N : Ans} (h : jdp u v Y N = true) : (va (toI u) (toI v) = some true /\ Y = true) \/ (va (toI u) (toI v) = some false /\ N = true) := by
 cases u with
 | i k n =>
   obtain ⟨k', m, rfl, h2⟩ := ka (show uI v (fun k' m => tst (Nat.beq k k') (@Bool.rec (fun _ => Ans) N Y (Nat.beq n m))) = true from h);obtain ⟨h3, h4⟩ := jb h2;have := zN h3; subst this;rw [vw, vw];simp only [va, if_true, jlp]
   rcases jf h4 with ⟨h5, h6⟩ | ⟨h5, h6⟩
   . exact Or.inl ⟨by rw [h5], h6⟩
   . exact Or.inr ⟨by rw [h5], h6⟩
 | s l x =>
   obtain ⟨l', y, rfl, h2⟩ := kW (show uS v (fun l' y => @Bool.rec (fun _ => Ans) N (@Bool.rec (fun _ => Ans) N Y (Nat.beq (Nat.mod x (Nat.pow 256 l)) (Nat.mod y (Nat.pow 256 l)))) (Nat.beq l l')) = true from h);rw [zJ, zJ];simp only [va]
   rcases jf h2 with ⟨h3, h4⟩ | ⟨h3, h4⟩
   . have := zN h3; subst this
     rcases jf h4 with ⟨h5, h6⟩ | ⟨h5, h6⟩
     . have h5 := zN h5;rw [jaA, jaA, jjL] at h5;exact Or.inl ⟨by rw [(KL l x y).2 h5]; simp, h6⟩
     . have h5 := zE h5;rw [jaA, jaA, jjL] at h5;refine Or.inr ⟨?_, h6⟩;have : qU l x ≠ qU l y := fun e => h5 ((KL l x y).1 e);rw [beq_eq_false_iff_ne.2 this]
   . have h3 := zE h3;refine Or.inr ⟨?_, h4⟩;have : qU l x ≠ qU l' y := fun e => h3 (by rw [<- jQ l x, e, jQ]);rw [beq_eq_false_iff_ne.2 this]
 | b x =>
   obtain ⟨y, rfl, h2⟩ := Jl (show uB v (fun y => @Bool.rec (fun _ => Ans) (@Bool.rec (fun _ => Ans) Y N y) (@Bool.rec (fun _ => Ans) N Y y) x) = true from h);rw [Va, Va];cases x <;> cases y <;> first | exact Or.inl ⟨rfl, h2⟩ | exact Or.inr ⟨rfl, h2⟩
 | _ => cases h
def jis (kk : Nat) (u : U) : Bool := (@U.rec (fun _ => Bool) (fun k n => Nat.beq kk 0) (fun x => Nat.beq kk 2) (fun l x => Nat.beq kk 1) (fun _ _ _ _ _ _ _ => false) (false) (fun _ _ _ _ => false) (fun _ _ _ _ _ _ => false) (fun _ => false) (fun _ _ _ _ _ _ _ => false) u)
theorem jav {kk : Nat} {u : U} (h : jis kk u = true) : QX kk (toI u) = true := by
 cases u with
 | i k n => have := zN (show Nat.beq kk 0 = true from h); subst this; rfl
 | s l x => have := zN (show Nat.beq kk 1 = true from h); subst this; rfl
 | b x => have := zN (show Nat.beq kk 2 = true from h); subst this; rfl
 | _ => cases h
def jih (n : Nat) (k l : U) (Y : U -> Ans) (N : Ans) : Ans := @Nat.rec (fun _ => U -> U -> (U -> Ans) -> Ans -> Ans) (fun _ l _ N => uC l N fun _ _ => false)
 (fun _ ih k l Y N => uC l N fun k' l => uC l false fun v l => jdp k k' (Y v) (ih k l Y N)) n k l Y N
theorem jbu : ∀ {n : Nat} {k l : U} {Y : U -> Ans} {N : Ans}, jih n k l Y N = true -> (∃ v, Q3 (toI k) (qn (toL l)) = some (some (toI v)) /\ Y v = true) \/ (Q3 (toI k) (qn (toL l)) = some none /\ N = true) := by
 intro n
 induction n with
 | zero =>
   intro k l Y N h
   rcases jk (show uC l N (fun _ _ => false) = true from h) with ⟨rfl, h2⟩ | ⟨x, y, rfl, h2⟩
   . exact Or.inr ⟨rfl, h2⟩
   . cases h2
 | succ n ih =>
   intro k l Y N h
   rcases jk (show uC l N (fun k' l => uC l false fun v l => jdp k k' (Y v) (jih n k l Y N)) = true from h) with ⟨rfl, h2⟩ | ⟨k', l1, rfl, h2⟩
   . exact Or.inr ⟨rfl, h2⟩
   rcases jk h2 with ⟨_, h3⟩ | ⟨v, l2, rfl, h3⟩
   . cases h3
   rw [jn, jn]
   rcases Vr h3 with ⟨h4, h5⟩ | ⟨h4, h5⟩
   . exact Or.inl ⟨v, by simp only [qn, Q3, h4], h5⟩
   . rcases ih h5 with ⟨w, h6, h7⟩ | ⟨h6, h7⟩
     . exact Or.inl ⟨w, by simp only [qn, Q3, h4, h6], h7⟩
     . exact Or.inr ⟨by simp only [qn, Q3, h4, h6], h7⟩
def jnm (n : Nat) (k w l : U) (K : U -> Ans) : Ans := @Nat.rec (fun _ => U -> U -> U -> (U -> Ans) -> Ans) (fun k w l K => uC l (K (.cn k (.cn w .nl))) fun _ _ => false)
 (fun _ ih k w l K => uC l (K (.cn k (.cn w .nl))) fun k' l => uC l false fun v l => jdp k k' (K (.cn k (.cn w l))) (ih k w l fun r => K (.cn k' (.cn v r)))) n k w l K
theorem jei : ∀ {n : Nat} {k w l : U} {K : U -> Ans}, jnm n k w l K = true -> ∃ r, jeg (toI k) (toI w) (qn (toL l)) = some (qn (toL r)) /\ K r = true := by
 intro n
 induction n with
 | zero =>
   intro k w l K h
   rcases jk (show uC l (K (.cn k (.cn w .nl))) (fun _ _ => false) = true from h) with ⟨rfl, h2⟩ | ⟨x, y, rfl, h2⟩
   . exact ⟨_, rfl, h2⟩
   . cases h2
 | succ n ih =>
   intro k w l K h
   rcases jk (show uC l (K (.cn k (.cn w .nl))) (fun k' l => uC l false fun v l => jdp k k' (K (.cn k (.cn w l))) (jnm n k w l fun r => K (.cn k' (.cn v r)))) = true from h) with ⟨rfl, h2⟩ | ⟨k', l1, rfl, h2⟩
   . exact ⟨_, rfl, h2⟩
   rcases jk h2 with ⟨_, h3⟩ | ⟨v, l2, rfl, h3⟩
   . cases h3
   rw [jn, jn]
   rcases Vr h3 with ⟨h4, h5⟩ | ⟨h4, h5⟩
   . exact ⟨_, by simp only [qn, jeg, h4, jn], h5⟩
   . obtain ⟨r, h6, h7⟩ := ih h5;exact ⟨_, by simp only [qn, jeg, h4, h6, jn], h7⟩
def jdv (ob : U) (K : U -> Ans) : Ans := uO ob fun t _ _ _ _ x => tst (Nat.beq t 3) (K x)
theorem zw {ob : U} {K : U -> Ans} (h : jdv ob K = true) : ∃ a b c d x, ob = .o 3 a b c d x /\ K x = true := by
 obtain ⟨t, a, b, c, d, x, rfl, h2⟩ := jq h;obtain ⟨h3, h4⟩ := jb h2;have := zN h3; subst this;exact ⟨_, _, _, _, _, rfl, h4⟩
def jdt (kk : Nat) (z : U) (ok : Bool) (u k : U) (h : H) (K : KH) : Ans := uO u fun t id _ _ _ _ => tst (Nat.beq t 3) (vz id h fun ob => jdv ob fun es => tst (jis kk k)
 (jih 1000000 k es (fun v => @Bool.rec (fun _ => Ans) (K v h) (K (.o 18 0 0 0 0 (.cn v (.cn (.b true) .nl))) h) ok) (@Bool.rec (fun _ => Ans) (K z h) (K (.o 18 0 0 0 0 (.cn z (.cn (.b false) .nl))) h) ok)))
theorem jbA (kk : Nat) (z : IVal) (ok : Bool) (x y : Opd) : Hp2 (.lookup kk z ok x y) (jdt kk (rep z) ok) := by
 intro u k h K ts ts' σ wr hr hk hg;obtain ⟨t1, hx, hy⟩ := qE hg;obtain ⟨t, a, b, c, d, q, rfl, kq1⟩ := jq hk;obtain ⟨h1, kq2⟩ := jb kq1;have := zN h1; subst this;obtain ⟨ob, o, h3, h4, kq3⟩ := jR hr kq2;obtain ⟨_, _, _, _, es, rfl, kq4⟩ := zw kq3;have ho : o = .map (qn (toL es)) := h4.o;subst ho;obtain ⟨h5, kq5⟩ := jb kq4;have h5 := jav h5;rw [Xw] at hx
 rcases jbu kq5 with ⟨v, h6, h7⟩ | ⟨h6, h7⟩
 . rcases jf h7 with ⟨h8, h9⟩ | ⟨h8, h9⟩
   . subst h8;exact ⟨_, h, σ, wr, fun cf => by simp only [ja, hx, hy, h3, if_pos h5, h6, if_true, rv]; rfl, hr, rfl, h9⟩
   . subst h8;exact ⟨_, h, σ, wr, fun cf => by simp only [ja, hx, hy, h3, if_pos h5, h6, rv, Bool.false_eq_true, if_false], hr, rfl, h9⟩
 . rcases jf h7 with ⟨h8, h9⟩ | ⟨h8, h9⟩
   . subst h8;refine ⟨_, h, σ, wr, fun cf => ?_, hr, rfl, h9⟩;simp only [ja, hx, hy, h3, if_pos h5, h6, if_true, rv];rw [Ke, if_pos rfl, jn, jn, qc, yQ, Va]
   . subst h8;exact ⟨_, h, σ, wr, fun cf => by simp only [ja, hx, hy, h3, if_pos h5, h6, rv, Bool.false_eq_true, if_false, yQ], hr, rfl, h9⟩
def jdw (kk : Nat) (l : U) (h : H) (K : KH) : Ans := uC l false fun u l => uC l false fun k l => uC l false fun v _ => uO u fun t id _ _ _ _ => tst (Nat.beq t 3) (vz id h fun ob => jdv ob fun es => tst (jis kk k) (tst (ntU v)
 (frc (QH v) fun w => jnm 1000000 k w es fun r => vb id (.o 3 0 0 0 0 r) (jaC (jce v)) h fun h' => K (.o 18 0 0 0 0 .nl) h')))
theorem jbB (kk : Nat) (x y z : Opd) : HpL (.mapSet kk x y z) (jdw kk) := by
 intro u h K ts ts' σ wr hr hk hg
 rcases jk hk with ⟨_, h2⟩ | ⟨m, l, rfl, kq1⟩
 . cases h2
 rcases jk kq1 with ⟨_, h2⟩ | ⟨k, l1, rfl, kq2⟩
 . cases h2
 rcases jk kq2 with ⟨_, h2⟩ | ⟨v, l2, rfl, kq3⟩
 . cases h2
 obtain ⟨t, a, b, c, d, q, rfl, kq4⟩ := jq kq3;obtain ⟨h1, kq5⟩ := jb kq4;have := zN h1; subst this;obtain ⟨ob, o, h3, h4, kq6⟩ := jR hr kq5;obtain ⟨_, _, _, _, es, rfl, kq7⟩ := zw kq6;have ho : o = .map (qn (toL es)) := h4.o;subst ho;obtain ⟨h5, kq8⟩ := jb kq7;obtain ⟨h6, kq9⟩ := jb kq8;rw [vB] at kq9;obtain ⟨r, h7, kq10⟩ := jei kq9;obtain ⟨h', h8, _, h9, h10⟩ := ke hr kq10 (o := .map (qn (toL r))) rfl;have h5 := jav h5;have h6 := Kh h6;obtain ⟨t1, g1, g2⟩ := vC hg;obtain ⟨t2, g3, g4⟩ := vC g2;obtain ⟨t3, g5, g6⟩ := vC g4;obtain ⟨-, rfl⟩ := Jv g6;rw [Xw] at g1;rw [kX] at h7;refine ⟨_, h', _, _, fun cf => ?_, h8, h9, h10⟩;have hc : (QX kk (toI k) && nt (toI v)) = true := by rw [h5, h6]; rfl
 simp only [ja, g1, g3, g5, h3];rw [if_pos hc];simp only [h7];rw [Ql, y8];rfl
def jkz (u : U) (h : H) (K : KH) : Ans := uO u fun t id _ _ _ _ => tst (Nat.beq t 3) (vz id h fun ob => jdv ob fun es => fN (J2 es) fun n => tst (Nat.beq (Nat.mod n 2) 0) (fN (Nat.add (Nat.div n 2) 18446744073709551616) fun c => K (.i 3 c) h))
theorem jbG : ∀ (n : Nat) (l : List IVal), l.length = 2 * n -> (qn l).length = n := by
 intro n
 induction n with
 | zero => intro l h; have := List.length_eq_zero_iff.1 h; subst this; rfl
 | succ n ih =>
   intro l h
   match l with
   | [] => simp at h
   | [_] => simp at h; omega
   | a :: b :: l => simp only [qn, List.length_cons] at h ⊢; rw [ih l (by omega)]
theorem jfH (x : Opd) : Hp1 (.lenM x) jkz := by
 intro u h K ts ts' σ wr hr hk hg;have hx := jY hg;obtain ⟨t, a, b, c, d, q, rfl, kq1⟩ := jq hk;obtain ⟨h1, kq2⟩ := jb kq1;have := zN h1; subst this;obtain ⟨ob, o, h3, h4, kq3⟩ := jR hr kq2;obtain ⟨_, _, _, _, es, rfl, kq4⟩ := zw kq3;have ho : o = .map (qn (toL es)) := h4.o;subst ho;rw [jw] at kq4;obtain ⟨h5, kq5⟩ := jb kq4;rw [jw] at kq5;have h5 := zN h5;rw [jaA, kq] at h5;have h6 := jbG ((toL es).length / 2) (toL es) (by omega);rw [Xw] at hx;refine ⟨_, h, σ, wr, fun cf => ?_, hr, rfl, kq5⟩;simp only [ja, hx, h3, rv, h6];rw [KK, jiH, kq];rfl
end
end Go.Idl
namespace Go.Idl
noncomputable section
set_option maxHeartbeats 400000
theorem Yb (k : IntKind) (j : Nat) (h : Nat.beq j (kc k) = true) : kd j = k := by
 have := zN h; subst this; exact jfC k
theorem jaw {cf : jp} {ts t' : Ts} {σ σ' : List IObj} {wr wr' : List (Nat × Bool)} {id off : Nat} {v : IVal} (h : ja cf (.load false none (.c (.ptr id off))) ⟨ts, σ, wr⟩ = some ⟨false, v, ⟨t', σ', wr'⟩⟩) :
   ∃ cs z, jr σ id = some cs /\ cs[off]? = some z /\ v = un2 z /\ σ' = σ /\ wr' = wr := by
 simp only [ja, Opd.get] at h;split at h
 . rename_i cs hc;simp only [kA] at h;split at h
   . rename_i z hz;simp only [Bool.false_eq_true, if_false, rv, zO, Res.mk.injEq, true_and, St.mk.injEq] at h;obtain ⟨rfl, -, rfl, rfl⟩ := h;exact ⟨cs, z, hc, hz, rfl, rfl, rfl⟩
   . cases h
 . cases h
theorem jew {cf : jp} {ts t' : Ts} {σ σ' : List IObj} {wr wr' : List (Nat × Bool)} {id off : Nat} {k : IntKind} {y : Int} {v : IVal} (h : ja cf (.store 1 (.c (.ptr id off)) (.c (.int k y))) ⟨ts, σ, wr⟩ = some ⟨false, v, ⟨t', σ', wr'⟩⟩) :
   ∃ cs, jr σ id = some cs /\ off < cs.length /\ σ' = σ.set id (.cells (ji cs off [.int k y])) /\ wr' = (id, false) :: wr := by
 simp only [ja, Opd.get] at h;split at h
 . rename_i cs hc;split at h
   . rename_i hcond;simp only [zO, Res.mk.injEq, true_and, St.mk.injEq] at h;obtain ⟨-, -, rfl, rfl⟩ := h;exact ⟨cs, hc, by omega, rfl, rfl⟩
   . cases h
 . cases h
theorem jjs {z : IVal} {k : IntKind} {n : Int} (h : un2 z = .int k n) : z = .int k n := by cases z <;> simp_all [un2, un1]
def ldI (u : U) (h : H) (K : Nat -> Nat -> H -> Ans) : Ans := uO u fun t _ _ _ _ _ => tst (Nat.beq t 1) (jfK false none u h fun v h1 => uI v fun k n => K k n h1)
theorem V4 {u : U} {h : H} {K : Nat -> Nat -> H -> Ans} {σ : List IObj} {wr : List (Nat × Bool)} (hr : HR h σ wr) (hk : ldI u h K = true) :
   ∃ (id off : Nat) (cs : List IVal) (k n : Nat) (h' : H), toI u = .ptr id off /\ jr σ id = some cs /\ cs[off]? = some (.int (kd k) ((n : Int) - 18446744073709551616)) /\ HR h' σ wr /\ h'.tr = h.tr /\ K k n h' = true := by
 obtain ⟨t, a, b, c, d, x, rfl, k1⟩ := jq hk;obtain ⟨h1, k2⟩ := jb k1;have := zN h1; subst this;obtain ⟨r, h', σ', wr', h3, h4, h5, h6⟩ := V5 false none (.c (.ptr a b)) _ h _ ts0 ts0 σ wr hr k2 (by rw [q9]; rfl);obtain ⟨k, n, rfl, h7⟩ := ka h6;obtain ⟨cs, z, q1, q2, q3, rfl, rfl⟩ := jaw (h3 fun _ _ _ => none);rw [vw] at q3;exact ⟨a, b, cs, k, n, h', rfl, q1, by rw [q2, jjs q3.symm], h4, h5, h7⟩
def stI (u v : U) (h : H) (K : H -> Ans) : Ans := uO u fun t _ _ _ _ _ => tst (Nat.beq t 1) (jev 1 u v h fun _ h1 => K h1)
theorem Xr {u v : U} {h : H} {K : H -> Ans} {σ : List IObj} {wr : List (Nat × Bool)} {k : IntKind} {y : Int} (hr : HR h σ wr) (hv : toI v = .int k y) (hk : stI u v h K = true) :
   ∃ id off cs h', toI u = .ptr id off /\ jr σ id = some cs /\ off < cs.length /\ HR h' (σ.set id (.cells (ji cs off [.int k y]))) ((id, false) :: wr) /\ h'.tr = h.tr /\ K h' = true := by
 obtain ⟨t, a, b, c, d, x, rfl, k1⟩ := jq hk;obtain ⟨h1, k2⟩ := jb k1;have := zN h1; subst this;obtain ⟨r, h', σ', wr', h3, h4, h5, h6⟩ := YR 1 (.c (.ptr a b)) (.c (.int k y)) _ v h _ ts0 ts0 σ wr hr k2 (by rw [q9, hv]; rfl);obtain ⟨cs, q1, q2, rfl, rfl⟩ := jew (h3 fun _ _ _ => none);exact ⟨a, b, cs, h', rfl, q1, q2, h4, h5, h6⟩
def jmo (k : MemK) (l : U) (h : H) (K : KH) : Ans := match k with
 | .aload k => uC l false fun u r => jap r (ldI u h fun k' n h1 => tst (Nat.beq k' (kc k)) (K (.i k' n) h1))
 | .astore k => uC l false fun u r => uC r false fun v r => jap r (uI v fun k' n => tst (Nat.beq k' (kc k)) (stI u v h fun h1 => K (.o 18 0 0 0 0 .nl) h1))
 | .acas k => uC l false fun u r => uC r false fun x r => uC r false fun y r => jap r (uI x fun k1 n1 => uI y fun k2 n2 => tst (Nat.beq k1 (kc k)) (tst (Nat.beq k2 (kc k)) (ldI u h fun k' n h1 => tst (Nat.beq k' (kc k))
     (@Bool.rec (fun _ => Ans) (K (.b false) h1) (stI u y h1 fun h2 => K (.b true) h2) (Nat.beq n n1)))))
 | .aadd k => uC l false fun u r => uC r false fun y r => jap r (uI y fun k1 n1 => tst (Nat.beq k1 (kc k)) (ldI u h fun k' n h1 => tst (Nat.beq k' (kc k)) (fN (QM (kc k) (Nat.add n n1)) fun c => stI u (.i (kc k) c) h1 fun h2 => K (.i (kc k) c) h2)))
 | .uptr => uC l false fun u r => jap r (uO u fun t _ _ _ _ _ => tst (Nat.beq t 1) (jfK false none u h fun _ h1 => K u h1))
 | .mclone => uC l false fun u r => jap r (uO u fun t ty _ _ _ x => tst (Nat.beq t 5) (uO x fun t2 id _ _ _ _ => tst (Nat.beq t2 3) (vz id h fun ob => jdv ob fun es => yS (.o 3 0 0 0 0 es) h fun k h1 => K (.o 5 ty 0 0 0 (.o 3 k 0 0 0 .nl)) h1)))
 | .iter => uC l false fun u r => jap r (uS u fun l x => yS (.o 5 0 0 0 0 (.s l x)) h fun k h1 => K (.o 1 k 0 0 0 .nl) h1)
 | .next => uC l false fun u r => jap r (uO u fun t id off _ _ _ => tst (Nat.beq t 1) (tst (Nat.beq off 0) (vz id h fun ob => uO ob fun t p _ _ _ x => tst (Nat.beq t 5) (uS x fun l y =>
     @Bool.rec (fun _ => Ans) (K (.o 18 0 0 0 0 (.cn (.b false) .nl)) h)
       (fN (Nat.mod (Nat.div y (Nat.pow 256 (Nat.sub (Nat.sub l 1) p))) 256) fun c => tst (Nat.blt c 128) (fN (Nat.succ p) fun p1 => fN (Nat.add p 18446744073709551616) fun q => fN (Nat.add c 18446744073709551616) fun c1 =>
         vb id (.o 5 p1 0 0 0 (.s l y)) false h fun h1 => K (.o 18 0 0 0 0 (.cn (.b true) (.cn (.i 3 q) (.cn (.i 2 c1) .nl)))) h1)) (Nat.blt p l)))))
theorem jdx {k : MemK} {u : U} {h : H} {K : KH} {σ : List IObj} {wr : List (Nat × Bool)} (hr : HR h σ wr) (hk : jmo k u h K = true) :
   ∃ r h' σ' wn, zx k (toL u) σ = some (toI r, σ', wn) /\ HR h' σ' (wn ++ wr) /\ h'.tr = h.tr /\ K r h' = true := by
 cases k with
 | aload k =>
   rcases jk (show uC u false _ = true from hk) with ⟨_, h2⟩ | ⟨a, r, rfl, q1⟩
   . cases h2
   obtain ⟨rfl, q2⟩ := kB q1;obtain ⟨id, off, cs, k', n, h', e1, e2, e3, e4, e5, e6⟩ := V4 hr q2;obtain ⟨e7, e8⟩ := jb e6;refine ⟨_, h', σ, [], ?_, e4, e5, e8⟩;rw [jn, qc, e1];simp only [zx, e2, e3];rw [Yb k k' e7, if_pos rfl, vw, Yb k k' e7]
 | astore k =>
   rcases jk (show uC u false _ = true from hk) with ⟨_, h2⟩ | ⟨a, r, rfl, q1⟩
   . cases h2
   rcases jk q1 with ⟨_, h2⟩ | ⟨v, r, rfl, q1⟩
   . cases h2
   obtain ⟨rfl, q2⟩ := kB q1;obtain ⟨k', n, rfl, q3⟩ := ka q2;obtain ⟨q4, q5⟩ := jb q3;have hv : toI (.i k' n) = .int k ((n : Int) - 18446744073709551616) := by rw [vw, Yb k k' q4]
   obtain ⟨id, off, cs, h', e1, e2, e3, e4, e5, e6⟩ := Xr hr hv q5;refine ⟨_, h', _, [(id, false)], ?_, e4, e5, e6⟩;rw [jn, jn, qc, e1, hv];simp only [zx, e2];rw [if_pos ⟨e3, trivial⟩];rfl
 | acas k =>
   rcases jk (show uC u false _ = true from hk) with ⟨_, h2⟩ | ⟨a, r0, rfl, p1⟩
   . cases h2
   rcases jk p1 with ⟨_, h2⟩ | ⟨x, r1, rfl, p2⟩
   . cases h2
   rcases jk p2 with ⟨_, h2⟩ | ⟨y, r2, rfl, p3⟩
   . cases h2
   obtain ⟨rfl, q2⟩ := kB p3;obtain ⟨k1, n1, rfl, q3⟩ := ka q2;obtain ⟨k2, n2, rfl, q4⟩ := ka q3;obtain ⟨q5, q6⟩ := jb q4;obtain ⟨q7, q8⟩ := jb q6;obtain ⟨id, off, cs, k', n, h', e1, e2, e3, e4, e5, e6⟩ := V4 hr q8;obtain ⟨e7, e8⟩ := jb e6;have hx : toI (.i k1 n1) = .int k ((n1 : Int) - 18446744073709551616) := by rw [vw, Yb k k1 q5]
   have hy : toI (.i k2 n2) = .int k ((n2 : Int) - 18446744073709551616) := by rw [vw, Yb k k2 q7]
   rw [Yb k k' e7] at e3
   rcases jf e8 with ⟨f1, f2⟩ | ⟨f1, f2⟩
   . have hn := zN f1;subst hn;obtain ⟨id', off', cs', h'', g1, g2, g3, g4, g5, g6⟩ := Xr e4 hy f2;rw [e1] at g1;simp only [IVal.ptr.injEq] at g1;obtain ⟨rfl, rfl⟩ := g1;rw [e2] at g2;simp only [zO] at g2;subst g2;refine ⟨_, h'', _, [(id, false)], ?_, g4, g5.trans e5, g6⟩;rw [jn, jn, jn, qc, e1, hx, hy];simp only [zx, e2, e3, and_self, if_true];rfl
   . have hn := zE f1;refine ⟨_, h', σ, [], ?_, e4, e5, f2⟩;rw [jn, jn, jn, qc, e1, hx, hy];simp only [zx, e2, e3, and_self, if_true];rw [if_neg (by omega)];rfl
 | aadd k =>
   rcases jk (show uC u false _ = true from hk) with ⟨_, h2⟩ | ⟨a, r, rfl, q1⟩
   . cases h2
   rcases jk q1 with ⟨_, h2⟩ | ⟨y, r, rfl, q1⟩
   . cases h2
   obtain ⟨rfl, q2⟩ := kB q1;obtain ⟨k1, n1, rfl, q3⟩ := ka q2;obtain ⟨q5, q6⟩ := jb q3;obtain ⟨id, off, cs, k', n, h', e1, e2, e3, e4, e5, e6⟩ := V4 hr q6;obtain ⟨e7, e8⟩ := jb e6;rw [jw] at e8;have hy : toI (.i k1 n1) = .int k ((n1 : Int) - 18446744073709551616) := by rw [vw, Yb k k1 q5]
   rw [Yb k k' e7] at e3;have hs : toI (.i (kc k) (QM (kc k) (Nat.add n n1))) = .int k (k.wrap (((n : Int) - 18446744073709551616) + ((n1 : Int) - 18446744073709551616))) := by
     have := jcl (kc k) (Nat.add n n1) (((n : Int) - 18446744073709551616) + ((n1 : Int) - 18446744073709551616)) (by rw [Kt]; omega);rw [jfC] at this;exact this
   obtain ⟨id', off', cs', h'', g1, g2, g3, g4, g5, g6⟩ := Xr e4 hs e8;rw [e1] at g1;simp only [IVal.ptr.injEq] at g1;obtain ⟨rfl, rfl⟩ := g1;rw [e2] at g2;simp only [zO] at g2;subst g2;refine ⟨_, h'', _, [(id, false)], ?_, g4, g5.trans e5, g6⟩;rw [jn, jn, qc, e1, hy, hs];simp only [zx, e2, e3, and_self, if_true]
 | uptr =>
   rcases jk (show uC u false _ = true from hk) with ⟨_, h2⟩ | ⟨a, r, rfl, q1⟩
   . cases h2
   obtain ⟨rfl, q2⟩ := kB q1;obtain ⟨t, a, b, c, d, x, rfl, k1⟩ := jq q2;obtain ⟨h1, k2⟩ := jb k1;have := zN h1; subst this;obtain ⟨r, h', σ', wr', h3, h4, h5, h6⟩ := V5 false none (.c (.ptr a b)) _ h _ ts0 ts0 σ wr hr k2 (by rw [q9]; rfl);obtain ⟨cs, z, g1, g2, g3, rfl, rfl⟩ := jaw (h3 fun _ _ _ => none);refine ⟨_, h', σ', [], ?_, h4, h5, h6⟩;rw [jn, qc, q9];simp only [zx, g1];rw [if_pos (by rcases Nat.lt_or_ge b cs.length with h | h; exact h; rw [List.getElem?_eq_none h] at g2; cases g2)]
 | mclone =>
   rcases jk (show uC u false _ = true from hk) with ⟨_, h2⟩ | ⟨a, r, rfl, q1⟩
   . cases h2
   obtain ⟨rfl, q2⟩ := kB q1;obtain ⟨t, ty, b, c, d, x, rfl, k1⟩ := jq q2;obtain ⟨h1, k2⟩ := jb k1;have := zN h1; subst this;obtain ⟨t2, id, b2, c2, d2, x2, rfl, k3⟩ := jq k2;obtain ⟨h2, k4⟩ := jb k3;have := zN h2; subst this;obtain ⟨ob, o, h3, h4, k5⟩ := jR hr k4;obtain ⟨_, _, _, _, es, rfl, k6⟩ := zw k5;have ho : o = .map (qn (toL es)) := h4.o;subst ho;obtain ⟨h', e1, e2, e3⟩ := kp hr k6 (o := .map (qn (toL es))) rfl;refine ⟨_, h', _, [], ?_, e1, e2, e3⟩;rw [jn, qc, JN, Xw];simp only [zx, h3];rfl
 | iter =>
   rcases jk (show uC u false _ = true from hk) with ⟨_, h2⟩ | ⟨a, r, rfl, q1⟩
   . cases h2
   obtain ⟨rfl, q2⟩ := kB q1;obtain ⟨l, x, rfl, q3⟩ := kW q2;obtain ⟨h', e1, e2, e3⟩ := kp hr q3 (o := .it (qU l x) 0) rfl;refine ⟨_, h', _, [], ?_, e1, e2, e3⟩;rw [jn, qc, zJ];rfl
 | next =>
   rcases jk (show uC u false _ = true from hk) with ⟨_, h2⟩ | ⟨a, r, rfl, q1⟩
   . cases h2
   obtain ⟨rfl, q2⟩ := kB q1;obtain ⟨t, id, off, c, d, x, rfl, k1⟩ := jq q2;obtain ⟨h1, k2⟩ := jb k1;have := zN h1; subst this;obtain ⟨h2, k3⟩ := jb k2;have := zN h2; subst this;obtain ⟨ob, o, e1, e2, k4⟩ := jR hr k3;obtain ⟨t, p, c', d', e', x', rfl, k5⟩ := jq k4;obtain ⟨h3, k6⟩ := jb k5;have := zN h3; subst this;obtain ⟨l, y, rfl, k7⟩ := kW k6;have ho : o = .it (qU l y) p := e2.o;subst ho
   rcases jf k7 with ⟨f1, f2⟩ | ⟨f1, f2⟩
   . have hp : p < l := by have := f1; simp [Nat.blt] at this; omega
     rw [jw] at f2;obtain ⟨f3, f4⟩ := jb f2;rw [jw, jw, jw] at f4;obtain ⟨h', g1, _, g2, g3⟩ := ke hr f4 (o := .it (qU l y) (p + 1)) rfl;have hc := vK (l := l) (x := y) hp;have hcv : (UInt8.ofNat (y / 256 ^ (l - 1 - p))).toNat = Nat.mod (Nat.div y (Nat.pow 256 (Nat.sub (Nat.sub l 1) p))) 256 := by
       simp [jaA, jiH, jjL, Vu]
     have hlt : (UInt8.ofNat (y / 256 ^ (l - 1 - p))).toNat < 128 := by rw [hcv]; have := f3; simp only [Nat.blt, Nat.ble_eq] at this; exact this
     refine ⟨_, h', _, [(id, false)], ?_, g1, g2, g3⟩;rw [jn, qc, q9];simp only [zx, e1, hc];rw [if_pos hlt, hcv];simp [toI, toT, toO, jeS, kd, Kt]
   . have hp : ¬ p < l := fun hlt => by rw [show Nat.blt p l = true from (by unfold Nat.blt; rw [Nat.ble_eq]; exact hlt)] at f1; cases f1
     have hc : (qU l y)[p]? = none := by rw [List.getElem?_eq_none]; rw [jQ]; omega
     refine ⟨_, h, σ, [], ?_, hr, rfl, f2⟩;rw [jn, qc, q9];simp only [zx, e1, hc];rfl
theorem jiz (k : MemK) (xs : List Opd) : HpL (.mem k xs) (jmo k) := by
 intro u h K ts ts' σ wr hr hk hg;obtain ⟨r, h', σ', wn, h1, h2, h3, h4⟩ := jdx hr hk;refine ⟨r, h', σ', wn ++ wr, fun cf => ?_, h2, h3, h4⟩;have hg : getAll xs ts = some (toL u, ts') := hg;simp only [ja, hg, h1]
end
end Go.Idl
namespace Go.Idl
noncomputable section
inductive Ix where
 | a0
 | a1
 | a2
 | a3
 | a4
 | a5
 | a6
 | a7
 | a8
 | a9
 | a10
 | a11
 | a12
 | a13
 | a14
 | a15
 | a16
 | a17
 | a18
 | a19
 | a20
 | a21
 | a22
 | a23
 | a24
 | a25
 | a26
 | a27
 | a28
 | a29
 | a30
 | a31
 | a32
 | a33
 | a34
 | a35
 | a36
 | a37
 | a38
 | a39
 | a40
 | a41
 | a42
 | a43
 | a44
 | a45
 | a46
 | a47
 | a48
 | a49
 | a50
 | a51
 | a52
 | a53
 | a54
 | a55
 | a56
 | a57
 | a58
 | a59
 | a60
 | a61
 | far (j : Nat)
def ixN : Ix -> Nat
 | .a0 => 0
 | .a1 => 1
 | .a2 => 2
 | .a3 => 3
 | .a4 => 4
 | .a5 => 5
 | .a6 => 6
 | .a7 => 7
 | .a8 => 8
 | .a9 => 9
 | .a10 => 10
 | .a11 => 11
 | .a12 => 12
 | .a13 => 13
 | .a14 => 14
 | .a15 => 15
 | .a16 => 16
 | .a17 => 17
 | .a18 => 18
 | .a19 => 19
 | .a20 => 20
 | .a21 => 21
 | .a22 => 22
 | .a23 => 23
 | .a24 => 24
 | .a25 => 25
 | .a26 => 26
 | .a27 => 27
 | .a28 => 28
 | .a29 => 29
 | .a30 => 30
 | .a31 => 31
 | .a32 => 32
 | .a33 => 33
 | .a34 => 34
 | .a35 => 35
 | .a36 => 36
 | .a37 => 37
 | .a38 => 38
 | .a39 => 39
 | .a40 => 40
 | .a41 => 41
 | .a42 => 42
 | .a43 => 43
 | .a44 => 44
 | .a45 => 45
 | .a46 => 46
 | .a47 => 47
 | .a48 => 48
 | .a49 => 49
 | .a50 => 50
 | .a51 => 51
 | .a52 => 52
 | .a53 => 53
 | .a54 => 54
 | .a55 => 55
 | .a56 => 56
 | .a57 => 57
 | .a58 => 58
 | .a59 => 59
 | .a60 => 60
 | .a61 => 61
 | .far j => j
def ixList : List Ix := [.a0, .a1, .a2, .a3, .a4, .a5, .a6, .a7, .a8, .a9, .a10, .a11, .a12, .a13, .a14, .a15, .a16, .a17, .a18, .a19, .a20, .a21, .a22, .a23, .a24, .a25, .a26, .a27, .a28, .a29, .a30, .a31, .a32, .a33, .a34, .a35, .a36, .a37, .a38, .a39, .a40, .a41, .a42, .a43, .a44, .a45, .a46, .a47, .a48, .a49, .a50, .a51, .a52, .a53, .a54, .a55, .a56, .a57, .a58, .a59, .a60, .a61]
def Qg (j : Nat) : Ix := @Bool.rec (fun _ => Ix) (.far j) (ixList.getD j (.far j)) (Nat.blt j 62)
theorem y7 (j : Nat) : ixN (Qg j) = j := by
 unfold Qg;rw [vy];split
 . rename_i h;have h := jO h
   match j, h with
   | 0, _ => rfl
   | 1, _ => rfl
   | 2, _ => rfl
   | 3, _ => rfl
   | 4, _ => rfl
   | 5, _ => rfl
   | 6, _ => rfl
   | 7, _ => rfl
   | 8, _ => rfl
   | 9, _ => rfl
   | 10, _ => rfl
   | 11, _ => rfl
   | 12, _ => rfl
   | 13, _ => rfl
   | 14, _ => rfl
   | 15, _ => rfl
   | 16, _ => rfl
   | 17, _ => rfl
   | 18, _ => rfl
   | 19, _ => rfl
   | 20, _ => rfl
   | 21, _ => rfl
   | 22, _ => rfl
   | 23, _ => rfl
   | 24, _ => rfl
   | 25, _ => rfl
   | 26, _ => rfl
   | 27, _ => rfl
   | 28, _ => rfl
   | 29, _ => rfl
   | 30, _ => rfl
   | 31, _ => rfl
   | 32, _ => rfl
   | 33, _ => rfl
   | 34, _ => rfl
   | 35, _ => rfl
   | 36, _ => rfl
   | 37, _ => rfl
   | 38, _ => rfl
   | 39, _ => rfl
   | 40, _ => rfl
   | 41, _ => rfl
   | 42, _ => rfl
   | 43, _ => rfl
   | 44, _ => rfl
   | 45, _ => rfl
   | 46, _ => rfl
   | 47, _ => rfl
   | 48, _ => rfl
   | 49, _ => rfl
   | 50, _ => rfl
   | 51, _ => rfl
   | 52, _ => rfl
   | 53, _ => rfl
   | 54, _ => rfl
   | 55, _ => rfl
   | 56, _ => rfl
   | 57, _ => rfl
   | 58, _ => rfl
   | 59, _ => rfl
   | 60, _ => rfl
   | 61, _ => rfl
 . rfl
def jnR : Env -> (U -> Ans) -> Ans := (fun e K => @E8.rec (E8 U) (fun _ => (U -> Ans) -> Ans) (fun r0 _ _ _ _ _ _ _ K => @E8.rec U (fun _ => (U -> Ans) -> Ans) (fun x _ _ _ _ _ _ _ K => K x) r0 K) e K)
def jnS : Env -> (U -> Ans) -> Ans := (fun e K => @E8.rec (E8 U) (fun _ => (U -> Ans) -> Ans) (fun r0 _ _ _ _ _ _ _ K => @E8.rec U (fun _ => (U -> Ans) -> Ans) (fun _ x _ _ _ _ _ _ K => K x) r0 K) e K)
def jnT : Env -> (U -> Ans) -> Ans := (fun e K => @E8.rec (E8 U) (fun _ => (U -> Ans) -> Ans) (fun r0 _ _ _ _ _ _ _ K => @E8.rec U (fun _ => (U -> Ans) -> Ans) (fun _ _ x _ _ _ _ _ K => K x) r0 K) e K)
def jnU : Env -> (U -> Ans) -> Ans := (fun e K => @E8.rec (E8 U) (fun _ => (U -> Ans) -> Ans) (fun r0 _ _ _ _ _ _ _ K => @E8.rec U (fun _ => (U -> Ans) -> Ans) (fun _ _ _ x _ _ _ _ K => K x) r0 K) e K)
def jnV : Env -> (U -> Ans) -> Ans := (fun e K => @E8.rec (E8 U) (fun _ => (U -> Ans) -> Ans) (fun r0 _ _ _ _ _ _ _ K => @E8.rec U (fun _ => (U -> Ans) -> Ans) (fun _ _ _ _ x _ _ _ K => K x) r0 K) e K)
def jnW : Env -> (U -> Ans) -> Ans := (fun e K => @E8.rec (E8 U) (fun _ => (U -> Ans) -> Ans) (fun r0 _ _ _ _ _ _ _ K => @E8.rec U (fun _ => (U -> Ans) -> Ans) (fun _ _ _ _ _ x _ _ K => K x) r0 K) e K)
def jnX : Env -> (U -> Ans) -> Ans := (fun e K => @E8.rec (E8 U) (fun _ => (U -> Ans) -> Ans) (fun r0 _ _ _ _ _ _ _ K => @E8.rec U (fun _ => (U -> Ans) -> Ans) (fun _ _ _ _ _ _ x _ K => K x) r0 K) e K)
def jnY : Env -> (U -> Ans) -> Ans := (fun e K => @E8.rec (E8 U) (fun _ => (U -> Ans) -> Ans) (fun r0 _ _ _ _ _ _ _ K => @E8.rec U (fun _ => (U -> Ans) -> Ans) (fun _ _ _ _ _ _ _ x K => K x) r0 K) e K)
def jnZ : Env -> (U -> Ans) -> Ans := (fun e K => @E8.rec (E8 U) (fun _ => (U -> Ans) -> Ans) (fun _ r1 _ _ _ _ _ _ K => @E8.rec U (fun _ => (U -> Ans) -> Ans) (fun x _ _ _ _ _ _ _ K => K x) r1 K) e K)
def jn0 : Env -> (U -> Ans) -> Ans := (fun e K => @E8.rec (E8 U) (fun _ => (U -> Ans) -> Ans) (fun _ r1 _ _ _ _ _ _ K => @E8.rec U (fun _ => (U -> Ans) -> Ans) (fun _ x _ _ _ _ _ _ K => K x) r1 K) e K)
def jlx : Env -> (U -> Ans) -> Ans := (fun e K => @E8.rec (E8 U) (fun _ => (U -> Ans) -> Ans) (fun _ r1 _ _ _ _ _ _ K => @E8.rec U (fun _ => (U -> Ans) -> Ans) (fun _ _ x _ _ _ _ _ K => K x) r1 K) e K)
def jly : Env -> (U -> Ans) -> Ans := (fun e K => @E8.rec (E8 U) (fun _ => (U -> Ans) -> Ans) (fun _ r1 _ _ _ _ _ _ K => @E8.rec U (fun _ => (U -> Ans) -> Ans) (fun _ _ _ x _ _ _ _ K => K x) r1 K) e K)
def jlz : Env -> (U -> Ans) -> Ans := (fun e K => @E8.rec (E8 U) (fun _ => (U -> Ans) -> Ans) (fun _ r1 _ _ _ _ _ _ K => @E8.rec U (fun _ => (U -> Ans) -> Ans) (fun _ _ _ _ x _ _ _ K => K x) r1 K) e K)
def jlA : Env -> (U -> Ans) -> Ans := (fun e K => @E8.rec (E8 U) (fun _ => (U -> Ans) -> Ans) (fun _ r1 _ _ _ _ _ _ K => @E8.rec U (fun _ => (U -> Ans) -> Ans) (fun _ _ _ _ _ x _ _ K => K x) r1 K) e K)
def jlB : Env -> (U -> Ans) -> Ans := (fun e K => @E8.rec (E8 U) (fun _ => (U -> Ans) -> Ans) (fun _ r1 _ _ _ _ _ _ K => @E8.rec U (fun _ => (U -> Ans) -> Ans) (fun _ _ _ _ _ _ x _ K => K x) r1 K) e K)
def jlC : Env -> (U -> Ans) -> Ans := (fun e K => @E8.rec (E8 U) (fun _ => (U -> Ans) -> Ans) (fun _ r1 _ _ _ _ _ _ K => @E8.rec U (fun _ => (U -> Ans) -> Ans) (fun _ _ _ _ _ _ _ x K => K x) r1 K) e K)
def jlD : Env -> (U -> Ans) -> Ans := (fun e K => @E8.rec (E8 U) (fun _ => (U -> Ans) -> Ans) (fun _ _ r2 _ _ _ _ _ K => @E8.rec U (fun _ => (U -> Ans) -> Ans) (fun x _ _ _ _ _ _ _ K => K x) r2 K) e K)
def jlE : Env -> (U -> Ans) -> Ans := (fun e K => @E8.rec (E8 U) (fun _ => (U -> Ans) -> Ans) (fun _ _ r2 _ _ _ _ _ K => @E8.rec U (fun _ => (U -> Ans) -> Ans) (fun _ x _ _ _ _ _ _ K => K x) r2 K) e K)
def jlF : Env -> (U -> Ans) -> Ans := (fun e K => @E8.rec (E8 U) (fun _ => (U -> Ans) -> Ans) (fun _ _ r2 _ _ _ _ _ K => @E8.rec U (fun _ => (U -> Ans) -> Ans) (fun _ _ x _ _ _ _ _ K => K x) r2 K) e K)
def jlG : Env -> (U -> Ans) -> Ans := (fun e K => @E8.rec (E8 U) (fun _ => (U -> Ans) -> Ans) (fun _ _ r2 _ _ _ _ _ K => @E8.rec U (fun _ => (U -> Ans) -> Ans) (fun _ _ _ x _ _ _ _ K => K x) r2 K) e K)
def jlH : Env -> (U -> Ans) -> Ans := (fun e K => @E8.rec (E8 U) (fun _ => (U -> Ans) -> Ans) (fun _ _ r2 _ _ _ _ _ K => @E8.rec U (fun _ => (U -> Ans) -> Ans) (fun _ _ _ _ x _ _ _ K => K x) r2 K) e K)
def jlI : Env -> (U -> Ans) -> Ans := (fun e K => @E8.rec (E8 U) (fun _ => (U -> Ans) -> Ans) (fun _ _ r2 _ _ _ _ _ K => @E8.rec U (fun _ => (U -> Ans) -> Ans) (fun _ _ _ _ _ x _ _ K => K x) r2 K) e K)
def jlJ : Env -> (U -> Ans) -> Ans := (fun e K => @E8.rec (E8 U) (fun _ => (U -> Ans) -> Ans) (fun _ _ r2 _ _ _ _ _ K => @E8.rec U (fun _ => (U -> Ans) -> Ans) (fun _ _ _ _ _ _ x _ K => K x) r2 K) e K)
def jlK : Env -> (U -> Ans) -> Ans := (fun e K => @E8.rec (E8 U) (fun _ => (U -> Ans) -> Ans) (fun _ _ r2 _ _ _ _ _ K => @E8.rec U (fun _ => (U -> Ans) -> Ans) (fun _ _ _ _ _ _ _ x K => K x) r2 K) e K)
def jlL : Env -> (U -> Ans) -> Ans := (fun e K => @E8.rec (E8 U) (fun _ => (U -> Ans) -> Ans) (fun _ _ _ r3 _ _ _ _ K => @E8.rec U (fun _ => (U -> Ans) -> Ans) (fun x _ _ _ _ _ _ _ K => K x) r3 K) e K)
def jlM : Env -> (U -> Ans) -> Ans := (fun e K => @E8.rec (E8 U) (fun _ => (U -> Ans) -> Ans) (fun _ _ _ r3 _ _ _ _ K => @E8.rec U (fun _ => (U -> Ans) -> Ans) (fun _ x _ _ _ _ _ _ K => K x) r3 K) e K)
def jlN : Env -> (U -> Ans) -> Ans := (fun e K => @E8.rec (E8 U) (fun _ => (U -> Ans) -> Ans) (fun _ _ _ r3 _ _ _ _ K => @E8.rec U (fun _ => (U -> Ans) -> Ans) (fun _ _ x _ _ _ _ _ K => K x) r3 K) e K)
def jlO : Env -> (U -> Ans) -> Ans := (fun e K => @E8.rec (E8 U) (fun _ => (U -> Ans) -> Ans) (fun _ _ _ r3 _ _ _ _ K => @E8.rec U (fun _ => (U -> Ans) -> Ans) (fun _ _ _ x _ _ _ _ K => K x) r3 K) e K)
def jlP : Env -> (U -> Ans) -> Ans := (fun e K => @E8.rec (E8 U) (fun _ => (U -> Ans) -> Ans) (fun _ _ _ r3 _ _ _ _ K => @E8.rec U (fun _ => (U -> Ans) -> Ans) (fun _ _ _ _ x _ _ _ K => K x) r3 K) e K)
def jlQ : Env -> (U -> Ans) -> Ans := (fun e K => @E8.rec (E8 U) (fun _ => (U -> Ans) -> Ans) (fun _ _ _ r3 _ _ _ _ K => @E8.rec U (fun _ => (U -> Ans) -> Ans) (fun _ _ _ _ _ x _ _ K => K x) r3 K) e K)
def jlR : Env -> (U -> Ans) -> Ans := (fun e K => @E8.rec (E8 U) (fun _ => (U -> Ans) -> Ans) (fun _ _ _ r3 _ _ _ _ K => @E8.rec U (fun _ => (U -> Ans) -> Ans) (fun _ _ _ _ _ _ x _ K => K x) r3 K) e K)
def jlS : Env -> (U -> Ans) -> Ans := (fun e K => @E8.rec (E8 U) (fun _ => (U -> Ans) -> Ans) (fun _ _ _ r3 _ _ _ _ K => @E8.rec U (fun _ => (U -> Ans) -> Ans) (fun _ _ _ _ _ _ _ x K => K x) r3 K) e K)
def jlT : Env -> (U -> Ans) -> Ans := (fun e K => @E8.rec (E8 U) (fun _ => (U -> Ans) -> Ans) (fun _ _ _ _ r4 _ _ _ K => @E8.rec U (fun _ => (U -> Ans) -> Ans) (fun x _ _ _ _ _ _ _ K => K x) r4 K) e K)
def jlU : Env -> (U -> Ans) -> Ans := (fun e K => @E8.rec (E8 U) (fun _ => (U -> Ans) -> Ans) (fun _ _ _ _ r4 _ _ _ K => @E8.rec U (fun _ => (U -> Ans) -> Ans) (fun _ x _ _ _ _ _ _ K => K x) r4 K) e K)
def jlV : Env -> (U -> Ans) -> Ans := (fun e K => @E8.rec (E8 U) (fun _ => (U -> Ans) -> Ans) (fun _ _ _ _ r4 _ _ _ K => @E8.rec U (fun _ => (U -> Ans) -> Ans) (fun _ _ x _ _ _ _ _ K => K x) r4 K) e K)
def jlW : Env -> (U -> Ans) -> Ans := (fun e K => @E8.rec (E8 U) (fun _ => (U -> Ans) -> Ans) (fun _ _ _ _ r4 _ _ _ K => @E8.rec U (fun _ => (U -> Ans) -> Ans) (fun _ _ _ x _ _ _ _ K => K x) r4 K) e K)
def jlX : Env -> (U -> Ans) -> Ans := (fun e K => @E8.rec (E8 U) (fun _ => (U -> Ans) -> Ans) (fun _ _ _ _ r4 _ _ _ K => @E8.rec U (fun _ => (U -> Ans) -> Ans) (fun _ _ _ _ x _ _ _ K => K x) r4 K) e K)
def jlY : Env -> (U -> Ans) -> Ans := (fun e K => @E8.rec (E8 U) (fun _ => (U -> Ans) -> Ans) (fun _ _ _ _ r4 _ _ _ K => @E8.rec U (fun _ => (U -> Ans) -> Ans) (fun _ _ _ _ _ x _ _ K => K x) r4 K) e K)
def jlZ : Env -> (U -> Ans) -> Ans := (fun e K => @E8.rec (E8 U) (fun _ => (U -> Ans) -> Ans) (fun _ _ _ _ r4 _ _ _ K => @E8.rec U (fun _ => (U -> Ans) -> Ans) (fun _ _ _ _ _ _ x _ K => K x) r4 K) e K)
def jl0 : Env -> (U -> Ans) -> Ans := (fun e K => @E8.rec (E8 U) (fun _ => (U -> Ans) -> Ans) (fun _ _ _ _ r4 _ _ _ K => @E8.rec U (fun _ => (U -> Ans) -> Ans) (fun _ _ _ _ _ _ _ x K => K x) r4 K) e K)
def jl1 : Env -> (U -> Ans) -> Ans := (fun e K => @E8.rec (E8 U) (fun _ => (U -> Ans) -> Ans) (fun _ _ _ _ _ r5 _ _ K => @E8.rec U (fun _ => (U -> Ans) -> Ans) (fun x _ _ _ _ _ _ _ K => K x) r5 K) e K)
def jl2 : Env -> (U -> Ans) -> Ans := (fun e K => @E8.rec (E8 U) (fun _ => (U -> Ans) -> Ans) (fun _ _ _ _ _ r5 _ _ K => @E8.rec U (fun _ => (U -> Ans) -> Ans) (fun _ x _ _ _ _ _ _ K => K x) r5 K) e K)
def jl3 : Env -> (U -> Ans) -> Ans := (fun e K => @E8.rec (E8 U) (fun _ => (U -> Ans) -> Ans) (fun _ _ _ _ _ r5 _ _ K => @E8.rec U (fun _ => (U -> Ans) -> Ans) (fun _ _ x _ _ _ _ _ K => K x) r5 K) e K)
def jl4 : Env -> (U -> Ans) -> Ans := (fun e K => @E8.rec (E8 U) (fun _ => (U -> Ans) -> Ans) (fun _ _ _ _ _ r5 _ _ K => @E8.rec U (fun _ => (U -> Ans) -> Ans) (fun _ _ _ x _ _ _ _ K => K x) r5 K) e K)
def jl5 : Env -> (U -> Ans) -> Ans := (fun e K => @E8.rec (E8 U) (fun _ => (U -> Ans) -> Ans) (fun _ _ _ _ _ r5 _ _ K => @E8.rec U (fun _ => (U -> Ans) -> Ans) (fun _ _ _ _ x _ _ _ K => K x) r5 K) e K)
def jl6 : Env -> (U -> Ans) -> Ans := (fun e K => @E8.rec (E8 U) (fun _ => (U -> Ans) -> Ans) (fun _ _ _ _ _ r5 _ _ K => @E8.rec U (fun _ => (U -> Ans) -> Ans) (fun _ _ _ _ _ x _ _ K => K x) r5 K) e K)
def jl7 : Env -> (U -> Ans) -> Ans := (fun e K => @E8.rec (E8 U) (fun _ => (U -> Ans) -> Ans) (fun _ _ _ _ _ r5 _ _ K => @E8.rec U (fun _ => (U -> Ans) -> Ans) (fun _ _ _ _ _ _ x _ K => K x) r5 K) e K)
def jl8 : Env -> (U -> Ans) -> Ans := (fun e K => @E8.rec (E8 U) (fun _ => (U -> Ans) -> Ans) (fun _ _ _ _ _ r5 _ _ K => @E8.rec U (fun _ => (U -> Ans) -> Ans) (fun _ _ _ _ _ _ _ x K => K x) r5 K) e K)
def jl9 : Env -> (U -> Ans) -> Ans := (fun e K => @E8.rec (E8 U) (fun _ => (U -> Ans) -> Ans) (fun _ _ _ _ _ _ r6 _ K => @E8.rec U (fun _ => (U -> Ans) -> Ans) (fun x _ _ _ _ _ _ _ K => K x) r6 K) e K)
def jma : Env -> (U -> Ans) -> Ans := (fun e K => @E8.rec (E8 U) (fun _ => (U -> Ans) -> Ans) (fun _ _ _ _ _ _ r6 _ K => @E8.rec U (fun _ => (U -> Ans) -> Ans) (fun _ x _ _ _ _ _ _ K => K x) r6 K) e K)
def jmb : Env -> (U -> Ans) -> Ans := (fun e K => @E8.rec (E8 U) (fun _ => (U -> Ans) -> Ans) (fun _ _ _ _ _ _ r6 _ K => @E8.rec U (fun _ => (U -> Ans) -> Ans) (fun _ _ x _ _ _ _ _ K => K x) r6 K) e K)
def jmc : Env -> (U -> Ans) -> Ans := (fun e K => @E8.rec (E8 U) (fun _ => (U -> Ans) -> Ans) (fun _ _ _ _ _ _ r6 _ K => @E8.rec U (fun _ => (U -> Ans) -> Ans) (fun _ _ _ x _ _ _ _ K => K x) r6 K) e K)
def jmd : Env -> (U -> Ans) -> Ans := (fun e K => @E8.rec (E8 U) (fun _ => (U -> Ans) -> Ans) (fun _ _ _ _ _ _ r6 _ K => @E8.rec U (fun _ => (U -> Ans) -> Ans) (fun _ _ _ _ x _ _ _ K => K x) r6 K) e K)
def jme : Env -> (U -> Ans) -> Ans := (fun e K => @E8.rec (E8 U) (fun _ => (U -> Ans) -> Ans) (fun _ _ _ _ _ _ r6 _ K => @E8.rec U (fun _ => (U -> Ans) -> Ans) (fun _ _ _ _ _ x _ _ K => K x) r6 K) e K)
def jmf : Env -> (U -> Ans) -> Ans := (fun e K => @E8.rec (E8 U) (fun _ => (U -> Ans) -> Ans) (fun _ _ _ _ _ _ r6 _ K => @E8.rec U (fun _ => (U -> Ans) -> Ans) (fun _ _ _ _ _ _ x _ K => K x) r6 K) e K)
def jmg : Env -> (U -> Ans) -> Ans := (fun e K => @E8.rec (E8 U) (fun _ => (U -> Ans) -> Ans) (fun _ _ _ _ _ _ r6 _ K => @E8.rec U (fun _ => (U -> Ans) -> Ans) (fun _ _ _ _ _ _ _ x K => K x) r6 K) e K)
def jmh : Env -> (U -> Ans) -> Ans := (fun e K => @E8.rec (E8 U) (fun _ => (U -> Ans) -> Ans) (fun _ _ _ _ _ _ _ r7 K => @E8.rec U (fun _ => (U -> Ans) -> Ans) (fun x _ _ _ _ _ _ _ K => K x) r7 K) e K)
def jmi : Env -> (U -> Ans) -> Ans := (fun e K => @E8.rec (E8 U) (fun _ => (U -> Ans) -> Ans) (fun _ _ _ _ _ _ _ r7 K => @E8.rec U (fun _ => (U -> Ans) -> Ans) (fun _ x _ _ _ _ _ _ K => K x) r7 K) e K)
def jmj : Env -> (U -> Ans) -> Ans := (fun e K => @E8.rec (E8 U) (fun _ => (U -> Ans) -> Ans) (fun _ _ _ _ _ _ _ r7 K => @E8.rec U (fun _ => (U -> Ans) -> Ans) (fun _ _ x _ _ _ _ _ K => K x) r7 K) e K)
def jmk : Env -> (U -> Ans) -> Ans := (fun e K => @E8.rec (E8 U) (fun _ => (U -> Ans) -> Ans) (fun _ _ _ _ _ _ _ r7 K => @E8.rec U (fun _ => (U -> Ans) -> Ans) (fun _ _ _ x _ _ _ _ K => K x) r7 K) e K)
def jml : Env -> (U -> Ans) -> Ans := (fun e K => @E8.rec (E8 U) (fun _ => (U -> Ans) -> Ans) (fun _ _ _ _ _ _ _ r7 K => @E8.rec U (fun _ => (U -> Ans) -> Ans) (fun _ _ _ _ x _ _ _ K => K x) r7 K) e K)
def jmm : Env -> (U -> Ans) -> Ans := (fun e K => @E8.rec (E8 U) (fun _ => (U -> Ans) -> Ans) (fun _ _ _ _ _ _ _ r7 K => @E8.rec U (fun _ => (U -> Ans) -> Ans) (fun _ _ _ _ _ x _ _ K => K x) r7 K) e K)
def jn4 : Env -> U -> (Env -> Ans) -> Ans := (fun e v K => @E8.rec (E8 U) (fun _ => U -> (Env -> Ans) -> Ans) (fun r0 r1 r2 r3 r4 r5 r6 r7 v K => @E8.rec U (fun _ => (Env -> Ans) -> Ans) (fun _ x1 x2 x3 x4 x5 x6 x7 K => K ⟨⟨v, x1, x2, x3, x4, x5, x6, x7⟩, r1, r2, r3, r4, r5, r6, r7⟩) r0 K) e v K)
def jn5 : Env -> U -> (Env -> Ans) -> Ans := (fun e v K => @E8.rec (E8 U) (fun _ => U -> (Env -> Ans) -> Ans) (fun r0 r1 r2 r3 r4 r5 r6 r7 v K => @E8.rec U (fun _ => (Env -> Ans) -> Ans) (fun x0 _ x2 x3 x4 x5 x6 x7 K => K ⟨⟨x0, v, x2, x3, x4, x5, x6, x7⟩, r1, r2, r3, r4, r5, r6, r7⟩) r0 K) e v K)
def jn6 : Env -> U -> (Env -> Ans) -> Ans := (fun e v K => @E8.rec (E8 U) (fun _ => U -> (Env -> Ans) -> Ans) (fun r0 r1 r2 r3 r4 r5 r6 r7 v K => @E8.rec U (fun _ => (Env -> Ans) -> Ans) (fun x0 x1 _ x3 x4 x5 x6 x7 K => K ⟨⟨x0, x1, v, x3, x4, x5, x6, x7⟩, r1, r2, r3, r4, r5, r6, r7⟩) r0 K) e v K)
def jn7 : Env -> U -> (Env -> Ans) -> Ans := (fun e v K => @E8.rec (E8 U) (fun _ => U -> (Env -> Ans) -> Ans) (fun r0 r1 r2 r3 r4 r5 r6 r7 v K => @E8.rec U (fun _ => (Env -> Ans) -> Ans) (fun x0 x1 x2 _ x4 x5 x6 x7 K => K ⟨⟨x0, x1, x2, v, x4, x5, x6, x7⟩, r1, r2, r3, r4, r5, r6, r7⟩) r0 K) e v K)
def jn8 : Env -> U -> (Env -> Ans) -> Ans := (fun e v K => @E8.rec (E8 U) (fun _ => U -> (Env -> Ans) -> Ans) (fun r0 r1 r2 r3 r4 r5 r6 r7 v K => @E8.rec U (fun _ => (Env -> Ans) -> Ans) (fun x0 x1 x2 x3 _ x5 x6 x7 K => K ⟨⟨x0, x1, x2, x3, v, x5, x6, x7⟩, r1, r2, r3, r4, r5, r6, r7⟩) r0 K) e v K)
def jn9 : Env -> U -> (Env -> Ans) -> Ans := (fun e v K => @E8.rec (E8 U) (fun _ => U -> (Env -> Ans) -> Ans) (fun r0 r1 r2 r3 r4 r5 r6 r7 v K => @E8.rec U (fun _ => (Env -> Ans) -> Ans) (fun x0 x1 x2 x3 x4 _ x6 x7 K => K ⟨⟨x0, x1, x2, x3, x4, v, x6, x7⟩, r1, r2, r3, r4, r5, r6, r7⟩) r0 K) e v K)
def joa : Env -> U -> (Env -> Ans) -> Ans := (fun e v K => @E8.rec (E8 U) (fun _ => U -> (Env -> Ans) -> Ans) (fun r0 r1 r2 r3 r4 r5 r6 r7 v K => @E8.rec U (fun _ => (Env -> Ans) -> Ans) (fun x0 x1 x2 x3 x4 x5 _ x7 K => K ⟨⟨x0, x1, x2, x3, x4, x5, v, x7⟩, r1, r2, r3, r4, r5, r6, r7⟩) r0 K) e v K)
def job : Env -> U -> (Env -> Ans) -> Ans := (fun e v K => @E8.rec (E8 U) (fun _ => U -> (Env -> Ans) -> Ans) (fun r0 r1 r2 r3 r4 r5 r6 r7 v K => @E8.rec U (fun _ => (Env -> Ans) -> Ans) (fun x0 x1 x2 x3 x4 x5 x6 _ K => K ⟨⟨x0, x1, x2, x3, x4, x5, x6, v⟩, r1, r2, r3, r4, r5, r6, r7⟩) r0 K) e v K)
def joc : Env -> U -> (Env -> Ans) -> Ans := (fun e v K => @E8.rec (E8 U) (fun _ => U -> (Env -> Ans) -> Ans) (fun r0 r1 r2 r3 r4 r5 r6 r7 v K => @E8.rec U (fun _ => (Env -> Ans) -> Ans) (fun _ x1 x2 x3 x4 x5 x6 x7 K => K ⟨r0, ⟨v, x1, x2, x3, x4, x5, x6, x7⟩, r2, r3, r4, r5, r6, r7⟩) r1 K) e v K)
def jod : Env -> U -> (Env -> Ans) -> Ans := (fun e v K => @E8.rec (E8 U) (fun _ => U -> (Env -> Ans) -> Ans) (fun r0 r1 r2 r3 r4 r5 r6 r7 v K => @E8.rec U (fun _ => (Env -> Ans) -> Ans) (fun x0 _ x2 x3 x4 x5 x6 x7 K => K ⟨r0, ⟨x0, v, x2, x3, x4, x5, x6, x7⟩, r2, r3, r4, r5, r6, r7⟩) r1 K) e v K)
def jmu : Env -> U -> (Env -> Ans) -> Ans := (fun e v K => @E8.rec (E8 U) (fun _ => U -> (Env -> Ans) -> Ans) (fun r0 r1 r2 r3 r4 r5 r6 r7 v K => @E8.rec U (fun _ => (Env -> Ans) -> Ans) (fun x0 x1 _ x3 x4 x5 x6 x7 K => K ⟨r0, ⟨x0, x1, v, x3, x4, x5, x6, x7⟩, r2, r3, r4, r5, r6, r7⟩) r1 K) e v K)
def jmv : Env -> U -> (Env -> Ans) -> Ans := (fun e v K => @E8.rec (E8 U) (fun _ => U -> (Env -> Ans) -> Ans) (fun r0 r1 r2 r3 r4 r5 r6 r7 v K => @E8.rec U (fun _ => (Env -> Ans) -> Ans) (fun x0 x1 x2 _ x4 x5 x6 x7 K => K ⟨r0, ⟨x0, x1, x2, v, x4, x5, x6, x7⟩, r2, r3, r4, r5, r6, r7⟩) r1 K) e v K)
def jmw : Env -> U -> (Env -> Ans) -> Ans := (fun e v K => @E8.rec (E8 U) (fun _ => U -> (Env -> Ans) -> Ans) (fun r0 r1 r2 r3 r4 r5 r6 r7 v K => @E8.rec U (fun _ => (Env -> Ans) -> Ans) (fun x0 x1 x2 x3 _ x5 x6 x7 K => K ⟨r0, ⟨x0, x1, x2, x3, v, x5, x6, x7⟩, r2, r3, r4, r5, r6, r7⟩) r1 K) e v K)
def jmx : Env -> U -> (Env -> Ans) -> Ans := (fun e v K => @E8.rec (E8 U) (fun _ => U -> (Env -> Ans) -> Ans) (fun r0 r1 r2 r3 r4 r5 r6 r7 v K => @E8.rec U (fun _ => (Env -> Ans) -> Ans) (fun x0 x1 x2 x3 x4 _ x6 x7 K => K ⟨r0, ⟨x0, x1, x2, x3, x4, v, x6, x7⟩, r2, r3, r4, r5, r6, r7⟩) r1 K) e v K)
def jmy : Env -> U -> (Env -> Ans) -> Ans := (fun e v K => @E8.rec (E8 U) (fun _ => U -> (Env -> Ans) -> Ans) (fun r0 r1 r2 r3 r4 r5 r6 r7 v K => @E8.rec U (fun _ => (Env -> Ans) -> Ans) (fun x0 x1 x2 x3 x4 x5 _ x7 K => K ⟨r0, ⟨x0, x1, x2, x3, x4, x5, v, x7⟩, r2, r3, r4, r5, r6, r7⟩) r1 K) e v K)
def jmz : Env -> U -> (Env -> Ans) -> Ans := (fun e v K => @E8.rec (E8 U) (fun _ => U -> (Env -> Ans) -> Ans) (fun r0 r1 r2 r3 r4 r5 r6 r7 v K => @E8.rec U (fun _ => (Env -> Ans) -> Ans) (fun x0 x1 x2 x3 x4 x5 x6 _ K => K ⟨r0, ⟨x0, x1, x2, x3, x4, x5, x6, v⟩, r2, r3, r4, r5, r6, r7⟩) r1 K) e v K)
def jmA : Env -> U -> (Env -> Ans) -> Ans := (fun e v K => @E8.rec (E8 U) (fun _ => U -> (Env -> Ans) -> Ans) (fun r0 r1 r2 r3 r4 r5 r6 r7 v K => @E8.rec U (fun _ => (Env -> Ans) -> Ans) (fun _ x1 x2 x3 x4 x5 x6 x7 K => K ⟨r0, r1, ⟨v, x1, x2, x3, x4, x5, x6, x7⟩, r3, r4, r5, r6, r7⟩) r2 K) e v K)
def jmB : Env -> U -> (Env -> Ans) -> Ans := (fun e v K => @E8.rec (E8 U) (fun _ => U -> (Env -> Ans) -> Ans) (fun r0 r1 r2 r3 r4 r5 r6 r7 v K => @E8.rec U (fun _ => (Env -> Ans) -> Ans) (fun x0 _ x2 x3 x4 x5 x6 x7 K => K ⟨r0, r1, ⟨x0, v, x2, x3, x4, x5, x6, x7⟩, r3, r4, r5, r6, r7⟩) r2 K) e v K)
def jmC : Env -> U -> (Env -> Ans) -> Ans := (fun e v K => @E8.rec (E8 U) (fun _ => U -> (Env -> Ans) -> Ans) (fun r0 r1 r2 r3 r4 r5 r6 r7 v K => @E8.rec U (fun _ => (Env -> Ans) -> Ans) (fun x0 x1 _ x3 x4 x5 x6 x7 K => K ⟨r0, r1, ⟨x0, x1, v, x3, x4, x5, x6, x7⟩, r3, r4, r5, r6, r7⟩) r2 K) e v K)
def jmD : Env -> U -> (Env -> Ans) -> Ans := (fun e v K => @E8.rec (E8 U) (fun _ => U -> (Env -> Ans) -> Ans) (fun r0 r1 r2 r3 r4 r5 r6 r7 v K => @E8.rec U (fun _ => (Env -> Ans) -> Ans) (fun x0 x1 x2 _ x4 x5 x6 x7 K => K ⟨r0, r1, ⟨x0, x1, x2, v, x4, x5, x6, x7⟩, r3, r4, r5, r6, r7⟩) r2 K) e v K)
def jmE : Env -> U -> (Env -> Ans) -> Ans := (fun e v K => @E8.rec (E8 U) (fun _ => U -> (Env -> Ans) -> Ans) (fun r0 r1 r2 r3 r4 r5 r6 r7 v K => @E8.rec U (fun _ => (Env -> Ans) -> Ans) (fun x0 x1 x2 x3 _ x5 x6 x7 K => K ⟨r0, r1, ⟨x0, x1, x2, x3, v, x5, x6, x7⟩, r3, r4, r5, r6, r7⟩) r2 K) e v K)
def jmF : Env -> U -> (Env -> Ans) -> Ans := (fun e v K => @E8.rec (E8 U) (fun _ => U -> (Env -> Ans) -> Ans) (fun r0 r1 r2 r3 r4 r5 r6 r7 v K => @E8.rec U (fun _ => (Env -> Ans) -> Ans) (fun x0 x1 x2 x3 x4 _ x6 x7 K => K ⟨r0, r1, ⟨x0, x1, x2, x3, x4, v, x6, x7⟩, r3, r4, r5, r6, r7⟩) r2 K) e v K)
def jmG : Env -> U -> (Env -> Ans) -> Ans := (fun e v K => @E8.rec (E8 U) (fun _ => U -> (Env -> Ans) -> Ans) (fun r0 r1 r2 r3 r4 r5 r6 r7 v K => @E8.rec U (fun _ => (Env -> Ans) -> Ans) (fun x0 x1 x2 x3 x4 x5 _ x7 K => K ⟨r0, r1, ⟨x0, x1, x2, x3, x4, x5, v, x7⟩, r3, r4, r5, r6, r7⟩) r2 K) e v K)
def jmH : Env -> U -> (Env -> Ans) -> Ans := (fun e v K => @E8.rec (E8 U) (fun _ => U -> (Env -> Ans) -> Ans) (fun r0 r1 r2 r3 r4 r5 r6 r7 v K => @E8.rec U (fun _ => (Env -> Ans) -> Ans) (fun x0 x1 x2 x3 x4 x5 x6 _ K => K ⟨r0, r1, ⟨x0, x1, x2, x3, x4, x5, x6, v⟩, r3, r4, r5, r6, r7⟩) r2 K) e v K)
def jmI : Env -> U -> (Env -> Ans) -> Ans := (fun e v K => @E8.rec (E8 U) (fun _ => U -> (Env -> Ans) -> Ans) (fun r0 r1 r2 r3 r4 r5 r6 r7 v K => @E8.rec U (fun _ => (Env -> Ans) -> Ans) (fun _ x1 x2 x3 x4 x5 x6 x7 K => K ⟨r0, r1, r2, ⟨v, x1, x2, x3, x4, x5, x6, x7⟩, r4, r5, r6, r7⟩) r3 K) e v K)
def jmJ : Env -> U -> (Env -> Ans) -> Ans := (fun e v K => @E8.rec (E8 U) (fun _ => U -> (Env -> Ans) -> Ans) (fun r0 r1 r2 r3 r4 r5 r6 r7 v K => @E8.rec U (fun _ => (Env -> Ans) -> Ans) (fun x0 _ x2 x3 x4 x5 x6 x7 K => K ⟨r0, r1, r2, ⟨x0, v, x2, x3, x4, x5, x6, x7⟩, r4, r5, r6, r7⟩) r3 K) e v K)
def jmK : Env -> U -> (Env -> Ans) -> Ans := (fun e v K => @E8.rec (E8 U) (fun _ => U -> (Env -> Ans) -> Ans) (fun r0 r1 r2 r3 r4 r5 r6 r7 v K => @E8.rec U (fun _ => (Env -> Ans) -> Ans) (fun x0 x1 _ x3 x4 x5 x6 x7 K => K ⟨r0, r1, r2, ⟨x0, x1, v, x3, x4, x5, x6, x7⟩, r4, r5, r6, r7⟩) r3 K) e v K)
def jmL : Env -> U -> (Env -> Ans) -> Ans := (fun e v K => @E8.rec (E8 U) (fun _ => U -> (Env -> Ans) -> Ans) (fun r0 r1 r2 r3 r4 r5 r6 r7 v K => @E8.rec U (fun _ => (Env -> Ans) -> Ans) (fun x0 x1 x2 _ x4 x5 x6 x7 K => K ⟨r0, r1, r2, ⟨x0, x1, x2, v, x4, x5, x6, x7⟩, r4, r5, r6, r7⟩) r3 K) e v K)
def jmM : Env -> U -> (Env -> Ans) -> Ans := (fun e v K => @E8.rec (E8 U) (fun _ => U -> (Env -> Ans) -> Ans) (fun r0 r1 r2 r3 r4 r5 r6 r7 v K => @E8.rec U (fun _ => (Env -> Ans) -> Ans) (fun x0 x1 x2 x3 _ x5 x6 x7 K => K ⟨r0, r1, r2, ⟨x0, x1, x2, x3, v, x5, x6, x7⟩, r4, r5, r6, r7⟩) r3 K) e v K)
def jmN : Env -> U -> (Env -> Ans) -> Ans := (fun e v K => @E8.rec (E8 U) (fun _ => U -> (Env -> Ans) -> Ans) (fun r0 r1 r2 r3 r4 r5 r6 r7 v K => @E8.rec U (fun _ => (Env -> Ans) -> Ans) (fun x0 x1 x2 x3 x4 _ x6 x7 K => K ⟨r0, r1, r2, ⟨x0, x1, x2, x3, x4, v, x6, x7⟩, r4, r5, r6, r7⟩) r3 K) e v K)
def jmO : Env -> U -> (Env -> Ans) -> Ans := (fun e v K => @E8.rec (E8 U) (fun _ => U -> (Env -> Ans) -> Ans) (fun r0 r1 r2 r3 r4 r5 r6 r7 v K => @E8.rec U (fun _ => (Env -> Ans) -> Ans) (fun x0 x1 x2 x3 x4 x5 _ x7 K => K ⟨r0, r1, r2, ⟨x0, x1, x2, x3, x4, x5, v, x7⟩, r4, r5, r6, r7⟩) r3 K) e v K)
def jmP : Env -> U -> (Env -> Ans) -> Ans := (fun e v K => @E8.rec (E8 U) (fun _ => U -> (Env -> Ans) -> Ans) (fun r0 r1 r2 r3 r4 r5 r6 r7 v K => @E8.rec U (fun _ => (Env -> Ans) -> Ans) (fun x0 x1 x2 x3 x4 x5 x6 _ K => K ⟨r0, r1, r2, ⟨x0, x1, x2, x3, x4, x5, x6, v⟩, r4, r5, r6, r7⟩) r3 K) e v K)
def jmQ : Env -> U -> (Env -> Ans) -> Ans := (fun e v K => @E8.rec (E8 U) (fun _ => U -> (Env -> Ans) -> Ans) (fun r0 r1 r2 r3 r4 r5 r6 r7 v K => @E8.rec U (fun _ => (Env -> Ans) -> Ans) (fun _ x1 x2 x3 x4 x5 x6 x7 K => K ⟨r0, r1, r2, r3, ⟨v, x1, x2, x3, x4, x5, x6, x7⟩, r5, r6, r7⟩) r4 K) e v K)
def jmR : Env -> U -> (Env -> Ans) -> Ans := (fun e v K => @E8.rec (E8 U) (fun _ => U -> (Env -> Ans) -> Ans) (fun r0 r1 r2 r3 r4 r5 r6 r7 v K => @E8.rec U (fun _ => (Env -> Ans) -> Ans) (fun x0 _ x2 x3 x4 x5 x6 x7 K => K ⟨r0, r1, r2, r3, ⟨x0, v, x2, x3, x4, x5, x6, x7⟩, r5, r6, r7⟩) r4 K) e v K)
def jmS : Env -> U -> (Env -> Ans) -> Ans := (fun e v K => @E8.rec (E8 U) (fun _ => U -> (Env -> Ans) -> Ans) (fun r0 r1 r2 r3 r4 r5 r6 r7 v K => @E8.rec U (fun _ => (Env -> Ans) -> Ans) (fun x0 x1 _ x3 x4 x5 x6 x7 K => K ⟨r0, r1, r2, r3, ⟨x0, x1, v, x3, x4, x5, x6, x7⟩, r5, r6, r7⟩) r4 K) e v K)
def jmT : Env -> U -> (Env -> Ans) -> Ans := (fun e v K => @E8.rec (E8 U) (fun _ => U -> (Env -> Ans) -> Ans) (fun r0 r1 r2 r3 r4 r5 r6 r7 v K => @E8.rec U (fun _ => (Env -> Ans) -> Ans) (fun x0 x1 x2 _ x4 x5 x6 x7 K => K ⟨r0, r1, r2, r3, ⟨x0, x1, x2, v, x4, x5, x6, x7⟩, r5, r6, r7⟩) r4 K) e v K)
def jmU : Env -> U -> (Env -> Ans) -> Ans := (fun e v K => @E8.rec (E8 U) (fun _ => U -> (Env -> Ans) -> Ans) (fun r0 r1 r2 r3 r4 r5 r6 r7 v K => @E8.rec U (fun _ => (Env -> Ans) -> Ans) (fun x0 x1 x2 x3 _ x5 x6 x7 K => K ⟨r0, r1, r2, r3, ⟨x0, x1, x2, x3, v, x5, x6, x7⟩, r5, r6, r7⟩) r4 K) e v K)
def jmV : Env -> U -> (Env -> Ans) -> Ans := (fun e v K => @E8.rec (E8 U) (fun _ => U -> (Env -> Ans) -> Ans) (fun r0 r1 r2 r3 r4 r5 r6 r7 v K => @E8.rec U (fun _ => (Env -> Ans) -> Ans) (fun x0 x1 x2 x3 x4 _ x6 x7 K => K ⟨r0, r1, r2, r3, ⟨x0, x1, x2, x3, x4, v, x6, x7⟩, r5, r6, r7⟩) r4 K) e v K)
def jmW : Env -> U -> (Env -> Ans) -> Ans := (fun e v K => @E8.rec (E8 U) (fun _ => U -> (Env -> Ans) -> Ans) (fun r0 r1 r2 r3 r4 r5 r6 r7 v K => @E8.rec U (fun _ => (Env -> Ans) -> Ans) (fun x0 x1 x2 x3 x4 x5 _ x7 K => K ⟨r0, r1, r2, r3, ⟨x0, x1, x2, x3, x4, x5, v, x7⟩, r5, r6, r7⟩) r4 K) e v K)
def jmX : Env -> U -> (Env -> Ans) -> Ans := (fun e v K => @E8.rec (E8 U) (fun _ => U -> (Env -> Ans) -> Ans) (fun r0 r1 r2 r3 r4 r5 r6 r7 v K => @E8.rec U (fun _ => (Env -> Ans) -> Ans) (fun x0 x1 x2 x3 x4 x5 x6 _ K => K ⟨r0, r1, r2, r3, ⟨x0, x1, x2, x3, x4, x5, x6, v⟩, r5, r6, r7⟩) r4 K) e v K)
def jmY : Env -> U -> (Env -> Ans) -> Ans := (fun e v K => @E8.rec (E8 U) (fun _ => U -> (Env -> Ans) -> Ans) (fun r0 r1 r2 r3 r4 r5 r6 r7 v K => @E8.rec U (fun _ => (Env -> Ans) -> Ans) (fun _ x1 x2 x3 x4 x5 x6 x7 K => K ⟨r0, r1, r2, r3, r4, ⟨v, x1, x2, x3, x4, x5, x6, x7⟩, r6, r7⟩) r5 K) e v K)
def jmZ : Env -> U -> (Env -> Ans) -> Ans := (fun e v K => @E8.rec (E8 U) (fun _ => U -> (Env -> Ans) -> Ans) (fun r0 r1 r2 r3 r4 r5 r6 r7 v K => @E8.rec U (fun _ => (Env -> Ans) -> Ans) (fun x0 _ x2 x3 x4 x5 x6 x7 K => K ⟨r0, r1, r2, r3, r4, ⟨x0, v, x2, x3, x4, x5, x6, x7⟩, r6, r7⟩) r5 K) e v K)
def jm0 : Env -> U -> (Env -> Ans) -> Ans := (fun e v K => @E8.rec (E8 U) (fun _ => U -> (Env -> Ans) -> Ans) (fun r0 r1 r2 r3 r4 r5 r6 r7 v K => @E8.rec U (fun _ => (Env -> Ans) -> Ans) (fun x0 x1 _ x3 x4 x5 x6 x7 K => K ⟨r0, r1, r2, r3, r4, ⟨x0, x1, v, x3, x4, x5, x6, x7⟩, r6, r7⟩) r5 K) e v K)
def jm1 : Env -> U -> (Env -> Ans) -> Ans := (fun e v K => @E8.rec (E8 U) (fun _ => U -> (Env -> Ans) -> Ans) (fun r0 r1 r2 r3 r4 r5 r6 r7 v K => @E8.rec U (fun _ => (Env -> Ans) -> Ans) (fun x0 x1 x2 _ x4 x5 x6 x7 K => K ⟨r0, r1, r2, r3, r4, ⟨x0, x1, x2, v, x4, x5, x6, x7⟩, r6, r7⟩) r5 K) e v K)
def jm2 : Env -> U -> (Env -> Ans) -> Ans := (fun e v K => @E8.rec (E8 U) (fun _ => U -> (Env -> Ans) -> Ans) (fun r0 r1 r2 r3 r4 r5 r6 r7 v K => @E8.rec U (fun _ => (Env -> Ans) -> Ans) (fun x0 x1 x2 x3 _ x5 x6 x7 K => K ⟨r0, r1, r2, r3, r4, ⟨x0, x1, x2, x3, v, x5, x6, x7⟩, r6, r7⟩) r5 K) e v K)
def jm3 : Env -> U -> (Env -> Ans) -> Ans := (fun e v K => @E8.rec (E8 U) (fun _ => U -> (Env -> Ans) -> Ans) (fun r0 r1 r2 r3 r4 r5 r6 r7 v K => @E8.rec U (fun _ => (Env -> Ans) -> Ans) (fun x0 x1 x2 x3 x4 _ x6 x7 K => K ⟨r0, r1, r2, r3, r4, ⟨x0, x1, x2, x3, x4, v, x6, x7⟩, r6, r7⟩) r5 K) e v K)
def jm4 : Env -> U -> (Env -> Ans) -> Ans := (fun e v K => @E8.rec (E8 U) (fun _ => U -> (Env -> Ans) -> Ans) (fun r0 r1 r2 r3 r4 r5 r6 r7 v K => @E8.rec U (fun _ => (Env -> Ans) -> Ans) (fun x0 x1 x2 x3 x4 x5 _ x7 K => K ⟨r0, r1, r2, r3, r4, ⟨x0, x1, x2, x3, x4, x5, v, x7⟩, r6, r7⟩) r5 K) e v K)
def jm5 : Env -> U -> (Env -> Ans) -> Ans := (fun e v K => @E8.rec (E8 U) (fun _ => U -> (Env -> Ans) -> Ans) (fun r0 r1 r2 r3 r4 r5 r6 r7 v K => @E8.rec U (fun _ => (Env -> Ans) -> Ans) (fun x0 x1 x2 x3 x4 x5 x6 _ K => K ⟨r0, r1, r2, r3, r4, ⟨x0, x1, x2, x3, x4, x5, x6, v⟩, r6, r7⟩) r5 K) e v K)
def jm6 : Env -> U -> (Env -> Ans) -> Ans := (fun e v K => @E8.rec (E8 U) (fun _ => U -> (Env -> Ans) -> Ans) (fun r0 r1 r2 r3 r4 r5 r6 r7 v K => @E8.rec U (fun _ => (Env -> Ans) -> Ans) (fun _ x1 x2 x3 x4 x5 x6 x7 K => K ⟨r0, r1, r2, r3, r4, r5, ⟨v, x1, x2, x3, x4, x5, x6, x7⟩, r7⟩) r6 K) e v K)
def jm7 : Env -> U -> (Env -> Ans) -> Ans := (fun e v K => @E8.rec (E8 U) (fun _ => U -> (Env -> Ans) -> Ans) (fun r0 r1 r2 r3 r4 r5 r6 r7 v K => @E8.rec U (fun _ => (Env -> Ans) -> Ans) (fun x0 _ x2 x3 x4 x5 x6 x7 K => K ⟨r0, r1, r2, r3, r4, r5, ⟨x0, v, x2, x3, x4, x5, x6, x7⟩, r7⟩) r6 K) e v K)
def jm8 : Env -> U -> (Env -> Ans) -> Ans := (fun e v K => @E8.rec (E8 U) (fun _ => U -> (Env -> Ans) -> Ans) (fun r0 r1 r2 r3 r4 r5 r6 r7 v K => @E8.rec U (fun _ => (Env -> Ans) -> Ans) (fun x0 x1 _ x3 x4 x5 x6 x7 K => K ⟨r0, r1, r2, r3, r4, r5, ⟨x0, x1, v, x3, x4, x5, x6, x7⟩, r7⟩) r6 K) e v K)
def jm9 : Env -> U -> (Env -> Ans) -> Ans := (fun e v K => @E8.rec (E8 U) (fun _ => U -> (Env -> Ans) -> Ans) (fun r0 r1 r2 r3 r4 r5 r6 r7 v K => @E8.rec U (fun _ => (Env -> Ans) -> Ans) (fun x0 x1 x2 _ x4 x5 x6 x7 K => K ⟨r0, r1, r2, r3, r4, r5, ⟨x0, x1, x2, v, x4, x5, x6, x7⟩, r7⟩) r6 K) e v K)
def jna : Env -> U -> (Env -> Ans) -> Ans := (fun e v K => @E8.rec (E8 U) (fun _ => U -> (Env -> Ans) -> Ans) (fun r0 r1 r2 r3 r4 r5 r6 r7 v K => @E8.rec U (fun _ => (Env -> Ans) -> Ans) (fun x0 x1 x2 x3 _ x5 x6 x7 K => K ⟨r0, r1, r2, r3, r4, r5, ⟨x0, x1, x2, x3, v, x5, x6, x7⟩, r7⟩) r6 K) e v K)
def jnb : Env -> U -> (Env -> Ans) -> Ans := (fun e v K => @E8.rec (E8 U) (fun _ => U -> (Env -> Ans) -> Ans) (fun r0 r1 r2 r3 r4 r5 r6 r7 v K => @E8.rec U (fun _ => (Env -> Ans) -> Ans) (fun x0 x1 x2 x3 x4 _ x6 x7 K => K ⟨r0, r1, r2, r3, r4, r5, ⟨x0, x1, x2, x3, x4, v, x6, x7⟩, r7⟩) r6 K) e v K)
def jnc : Env -> U -> (Env -> Ans) -> Ans := (fun e v K => @E8.rec (E8 U) (fun _ => U -> (Env -> Ans) -> Ans) (fun r0 r1 r2 r3 r4 r5 r6 r7 v K => @E8.rec U (fun _ => (Env -> Ans) -> Ans) (fun x0 x1 x2 x3 x4 x5 _ x7 K => K ⟨r0, r1, r2, r3, r4, r5, ⟨x0, x1, x2, x3, x4, x5, v, x7⟩, r7⟩) r6 K) e v K)
def jnd : Env -> U -> (Env -> Ans) -> Ans := (fun e v K => @E8.rec (E8 U) (fun _ => U -> (Env -> Ans) -> Ans) (fun r0 r1 r2 r3 r4 r5 r6 r7 v K => @E8.rec U (fun _ => (Env -> Ans) -> Ans) (fun x0 x1 x2 x3 x4 x5 x6 _ K => K ⟨r0, r1, r2, r3, r4, r5, ⟨x0, x1, x2, x3, x4, x5, x6, v⟩, r7⟩) r6 K) e v K)
def jne : Env -> U -> (Env -> Ans) -> Ans := (fun e v K => @E8.rec (E8 U) (fun _ => U -> (Env -> Ans) -> Ans) (fun r0 r1 r2 r3 r4 r5 r6 r7 v K => @E8.rec U (fun _ => (Env -> Ans) -> Ans) (fun _ x1 x2 x3 x4 x5 x6 x7 K => K ⟨r0, r1, r2, r3, r4, r5, r6, ⟨v, x1, x2, x3, x4, x5, x6, x7⟩⟩) r7 K) e v K)
def jnf : Env -> U -> (Env -> Ans) -> Ans := (fun e v K => @E8.rec (E8 U) (fun _ => U -> (Env -> Ans) -> Ans) (fun r0 r1 r2 r3 r4 r5 r6 r7 v K => @E8.rec U (fun _ => (Env -> Ans) -> Ans) (fun x0 _ x2 x3 x4 x5 x6 x7 K => K ⟨r0, r1, r2, r3, r4, r5, r6, ⟨x0, v, x2, x3, x4, x5, x6, x7⟩⟩) r7 K) e v K)
def jng : Env -> U -> (Env -> Ans) -> Ans := (fun e v K => @E8.rec (E8 U) (fun _ => U -> (Env -> Ans) -> Ans) (fun r0 r1 r2 r3 r4 r5 r6 r7 v K => @E8.rec U (fun _ => (Env -> Ans) -> Ans) (fun x0 x1 _ x3 x4 x5 x6 x7 K => K ⟨r0, r1, r2, r3, r4, r5, r6, ⟨x0, x1, v, x3, x4, x5, x6, x7⟩⟩) r7 K) e v K)
def jnh : Env -> U -> (Env -> Ans) -> Ans := (fun e v K => @E8.rec (E8 U) (fun _ => U -> (Env -> Ans) -> Ans) (fun r0 r1 r2 r3 r4 r5 r6 r7 v K => @E8.rec U (fun _ => (Env -> Ans) -> Ans) (fun x0 x1 x2 _ x4 x5 x6 x7 K => K ⟨r0, r1, r2, r3, r4, r5, r6, ⟨x0, x1, x2, v, x4, x5, x6, x7⟩⟩) r7 K) e v K)
def jni : Env -> U -> (Env -> Ans) -> Ans := (fun e v K => @E8.rec (E8 U) (fun _ => U -> (Env -> Ans) -> Ans) (fun r0 r1 r2 r3 r4 r5 r6 r7 v K => @E8.rec U (fun _ => (Env -> Ans) -> Ans) (fun x0 x1 x2 x3 _ x5 x6 x7 K => K ⟨r0, r1, r2, r3, r4, r5, r6, ⟨x0, x1, x2, x3, v, x5, x6, x7⟩⟩) r7 K) e v K)
def jnj : Env -> U -> (Env -> Ans) -> Ans := (fun e v K => @E8.rec (E8 U) (fun _ => U -> (Env -> Ans) -> Ans) (fun r0 r1 r2 r3 r4 r5 r6 r7 v K => @E8.rec U (fun _ => (Env -> Ans) -> Ans) (fun x0 x1 x2 x3 x4 _ x6 x7 K => K ⟨r0, r1, r2, r3, r4, r5, r6, ⟨x0, x1, x2, x3, x4, v, x6, x7⟩⟩) r7 K) e v K)
def Zm (ix : Ix) (e : Env) (K : U -> Ans) : Ans := @Ix.rec (fun _ => Env -> (U -> Ans) -> Ans) jnR jnS jnT jnU jnV jnW jnX jnY jnZ jn0 jlx jly jlz jlA jlB jlC jlD jlE jlF jlG jlH jlI jlJ jlK jlL jlM jlN jlO jlP jlQ jlR jlS jlT jlU jlV jlW jlX jlY jlZ jl0 jl1 jl2 jl3 jl4 jl5 jl6 jl7 jl8 jl9 jma jmb jmc jmd jme jmf jmg jmh jmi jmj jmk jml jmm (fun j e K => K (KX e j)) ix e K
def zj (ix : Ix) (e : Env) (v : U) (K : Env -> Ans) : Ans := @Ix.rec (fun _ => Env -> U -> (Env -> Ans) -> Ans) jn4 jn5 jn6 jn7 jn8 jn9 joa job joc jod jmu jmv jmw jmx jmy jmz jmA jmB jmC jmD jmE jmF jmG jmH jmI jmJ jmK jmL jmM jmN jmO jmP jmQ jmR jmS jmT jmU jmV jmW jmX jmY jmZ jm0 jm1 jm2 jm3 jm4 jm5 jm6 jm7 jm8 jm9 jna jnb jnc jnd jne jnf jng jnh jni jnj (fun j e v K => K (jic e v j)) ix e v K
theorem V0 (ix : Ix) (e : Env) (K : U -> Ans) : Zm ix e K = K (KX e (ixN ix)) := by
 obtain ⟨r0, r1, r2, r3, r4, r5, r6, r7⟩ := e;cases r0; cases r1; cases r2; cases r3; cases r4; cases r5; cases r6; cases r7;cases ix <;> rfl
theorem vH (ix : Ix) (e : Env) (v : U) (K : Env -> Ans) : zj ix e v K = K (jic e v (ixN ix)) := by
 obtain ⟨r0, r1, r2, r3, r4, r5, r6, r7⟩ := e;cases r0; cases r1; cases r2; cases r3; cases r4; cases r5; cases r6; cases r7;cases ix <;> rfl
end
end Go.Idl
namespace Go.Idl
noncomputable section
set_option maxHeartbeats 100000
def StR : U -> List IVal -> Prop
 | .nl, _ => True
 | .cn u r, v :: l => toI u = v /\ StR r l
 | _, _ => False
def stK (d : Nat) (st : U) (K : U -> Ans) : Ans := @Nat.rec (fun _ => U -> (U -> Ans) -> Ans) (fun st K => uC st false fun u _ => K u) (fun _ ih st K => uC st false fun _ r => ih r K) d st K
theorem KJ : ∀ {d : Nat} {st : U} {K : U -> Ans} {l : List IVal}, stK d st K = true -> StR st l -> ∃ u, l[d]? = some (toI u) /\ K u = true := by
 intro d
 induction d with
 | zero =>
   intro st K l h R
   rcases jk (show uC st false (fun u _ => K u) = true from h) with ⟨_, h2⟩ | ⟨u, r, rfl, h2⟩
   . cases h2
   . cases l with
     | nil => exact R.elim
     | cons v l => exact ⟨u, by rw [R.1]; rfl, h2⟩
 | succ d ih =>
   intro st K l h R
   rcases jk (show uC st false (fun _ r => stK d r K) = true from h) with ⟨_, h2⟩ | ⟨u, r, rfl, h2⟩
   . cases h2
   . cases l with
     | nil => exact R.elim
     | cons v l => obtain ⟨w, h3, h4⟩ := ih h2 R.2; exact ⟨w, h3, h4⟩
def jmt (p : Nat) (st : U) (K : U -> Ans) : Ans := @Nat.rec (fun _ => U -> (U -> Ans) -> Ans) (fun st K => K st) (fun _ ih st K => uC st (K .nl) fun _ r => ih r K) p st K
theorem jd0 : ∀ {p : Nat} {st : U} {K : U -> Ans} {l : List IVal}, jmt p st K = true -> StR st l -> ∃ r, StR r (l.drop p) /\ K r = true := by
 intro p
 induction p with
 | zero => intro st K l h R; exact ⟨st, R, h⟩
 | succ p ih =>
   intro st K l h R
   rcases jk (show uC st (K .nl) (fun _ r => jmt p r K) = true from h) with ⟨rfl, h2⟩ | ⟨u, r, rfl, h2⟩
   . exact ⟨.nl, trivial, h2⟩
   . cases l with
     | nil => exact R.elim
     | cons v l => exact ih h2 R.2
def jgK (d : Nat) (w : U) (st : U) (K : U -> Ans) : Ans := @Nat.rec (fun _ => U -> (U -> Ans) -> Ans) (fun st K => uC st false fun _ r => K (.cn w r)) (fun _ ih st K => uC st false fun u r => ih r fun r' => K (.cn u r')) d st K
theorem jb1 : ∀ {d : Nat} {w st : U} {K : U -> Ans} {l : List IVal}, jgK d w st K = true -> StR st l -> ∃ r, StR r (l.set d (toI w)) /\ K r = true := by
 intro d
 induction d with
 | zero =>
   intro w st K l h R
   rcases jk (show uC st false (fun _ r => K (.cn w r)) = true from h) with ⟨_, h2⟩ | ⟨u, r, rfl, h2⟩
   . cases h2
   . cases l with
     | nil => exact R.elim
     | cons v l => exact ⟨.cn w r, (show toI w = toI w /\ StR r l from ⟨rfl, R.2⟩), h2⟩
 | succ d ih =>
   intro w st K l h R
   rcases jk (show uC st false (fun u r => jgK d w r fun r' => K (.cn u r')) = true from h) with ⟨_, h2⟩ | ⟨u, r, rfl, h2⟩
   . cases h2
   . cases l with
     | nil => exact R.elim
     | cons v l => obtain ⟨r', h3, h4⟩ := ih h2 R.2; exact ⟨.cn u r', (show toI u = v /\ StR r' (l.set d (toI w)) from ⟨R.1, h3⟩), h4⟩
inductive QOpd where
 | v (ix : Ix)
 | m (ix : Ix)
 | s (d : Nat)
 | u (d : Nat)
 | n (d : Nat)
 | c (u : U)
def vQ : XOpd -> QOpd
 | .v i => .v (Qg i)
 | .m i => .m (Qg i)
 | .s d => .s d
 | .u d => .u d
 | .n d => .n d
 | .c x => .c (rep x)
def plQ (u : U) : Bool := (@U.rec (fun _ => Bool) (fun k n => true) (fun x => true) (fun l x => true) (fun t a b c d x _ => @Bool.rec (fun _ => Bool) (@Bool.rec (fun _ => Bool) false (Nat.ble t 11) (Nat.ble 2 t)) true (Nat.beq t 1)) (false) (fun _ _ _ _ => false) (fun _ _ _ _ _ _ => false) (fun _ => false) (fun _ _ _ _ _ _ _ => false) u)
theorem jkS {u : U} (h : plQ u = true) : plI (toI u) = true := by
 cases u with
 | i k n => rfl
 | b x => rfl
 | s l x => rfl
 | o t a b c d x =>
   have h : @Bool.rec (fun _ => Bool) (@Bool.rec (fun _ => Bool) false (Nat.ble t 11) (Nat.ble 2 t)) true (Nat.beq t 1) = true := h;rw [vy] at h;split at h
   . rename_i e; have := zN e; subst this; rfl
   . rw [vy] at h;split at h
     . rename_i e;have h1 : 2 <= t := Nat.le_of_ble_eq_true e;have h2 : t <= 11 := Nat.le_of_ble_eq_true h;have h3 : t = 2 \/ t = 3 \/ t = 4 \/ t = 5 \/ t = 6 \/ t = 7 \/ t = 8 \/ t = 9 \/ t = 10 \/ t = 11 := by omega
       rcases h3 with rfl | rfl | rfl | rfl | rfl | rfl | rfl | rfl | rfl | rfl <;> rfl
     . cases h
 | _ => cases h
def JD (x : QOpd) (e : Env) (st : U) (K : U -> Env -> Ans) : Ans := @QOpd.rec (fun _ => Env -> U -> (U -> Env -> Ans) -> Ans)
 (fun ix e _ K => Zm ix e fun v => unK v fun w => K w e)
 (fun ix e _ K => Zm ix e fun v => mvK v (fun w => K w e) fun w l => zj ix e l fun e' => K w e')
 (fun d e st K => stK d st fun w => K w e)
 (fun d e st K => stK d st fun v => unK v fun w => K w e)
 (fun d e st K => stK d st fun v => tst (plQ v) (K v e))
 (fun u e _ K => K u e) x e st K
theorem kg {x : XOpd} {e : Env} {st : U} {K : U -> Env -> Ans} {vs : AL} {l : List IVal} (h : JD (vQ x) e st K = true) (hv : VarQ e vs) (hs : StR st l) :
   ∃ u vs' e', x.get vs l = some (toI u, vs') /\ VarQ e' vs' /\ dsU e' = dsU e /\ K u e' = true := by
 cases x with
 | v i =>
   have h : Zm (Qg i) e (fun v => unK v fun w => K w e) = true := h;rw [V0, y7] at h;obtain ⟨h1, u, h2, h3⟩ := JR h;exact ⟨u, vs, e, by simp only [XOpd.get, hv i h1, h2], hv, rfl, h3⟩
 | m i =>
   have h : Zm (Qg i) e (fun v => mvK v (fun w => K w e) fun w l => zj (Qg i) e l fun e' => K w e') = true := h;rw [V0, y7] at h;obtain ⟨h1, h2⟩ := jfX h
   rcases h2 with ⟨h3, h4⟩ | ⟨u, h3, h4, h5⟩
   . refine ⟨_, XM i (un3 (toI (KX e i))) vs, e, by simp only [XOpd.get, hv i h1], fun k hk => ?_, rfl, h4⟩;rw [Jq, h3];split
     . rename_i hki; subst hki; rfl
     . exact hv k hk
   . rw [vH, y7] at h5;refine ⟨_, XM i (un3 (toI (KX e i))) vs, _, by simp only [XOpd.get, hv i h1], ?_, vA _ _ _, h5⟩;rw [<- h3];exact hv.set i u
 | s d =>
   obtain ⟨u, h1, h2⟩ := KJ (show stK d st (fun w => K w e) = true from h) hs;exact ⟨u, vs, e, by simp only [XOpd.get, h1], hv, rfl, h2⟩
 | u d =>
   obtain ⟨v, h1, h2⟩ := KJ (show stK d st (fun v => unK v fun w => K w e) = true from h) hs;obtain ⟨_, u, h3, h4⟩ := JR h2;exact ⟨u, vs, e, by simp only [XOpd.get, h1, h3], hv, rfl, h4⟩
 | n d =>
   obtain ⟨v, h1, h2⟩ := KJ (show stK d st (fun v => tst (plQ v) (K v e)) = true from h) hs;obtain ⟨h3, h4⟩ := jb h2;exact ⟨v, vs, e, by simp only [XOpd.get, h1, jkS h3, if_true], hv, rfl, h4⟩
 | c x =>
   have h : K (rep x) e = true := h;exact ⟨rep x, vs, e, by simp only [XOpd.get, yQ], hv, rfl, h⟩
def J5 (xs : List QOpd) (e : Env) (st : U) (K : U -> Env -> Ans) : Ans := @List.rec QOpd (fun _ => Env -> U -> (U -> Env -> Ans) -> Ans) (fun e _ K => K .nl e) (fun x _ ih e st K => JD x e st fun u e' => ih e' st fun l e'' => K (.cn u l) e'') xs e st K
theorem qG : ∀ {xs : List XOpd} {e : Env} {st : U} {K : U -> Env -> Ans} {vs : AL} {l : List IVal}, J5 (xs.map vQ) e st K = true -> VarQ e vs -> StR st l ->
   ∃ u vs' e', jL xs vs l = some (toL u, vs') /\ VarQ e' vs' /\ dsU e' = dsU e /\ K u e' = true := by
 intro xs
 induction xs with
 | nil => intro e st K vs l h hv hs; exact ⟨.nl, vs, e, rfl, hv, rfl, h⟩
 | cons x xs ih =>
   intro e st K vs l h hv hs;obtain ⟨u, vs1, e1, h1, h2, h3, h4⟩ := kg (show JD (vQ x) e st (fun u e' => J5 (xs.map vQ) e' st fun l e'' => K (.cn u l) e'') = true from h) hv hs;obtain ⟨r, vs2, e2, h5, h6, h7, h8⟩ := ih h4 h2 hs;exact ⟨.cn u r, vs2, e2, by simp only [jL, h1, h5]; rfl, h6, h7.trans h3, h8⟩
def V1 (o : IOp) (f : U -> KU -> Ans) : Prop := ∀ u K, f u K = true -> ∃ r, (∀ cf σ wr, ∃ t, opV cf o [toI u] σ wr = some ⟨false, toI r, ⟨t, σ, wr⟩⟩) /\ K r = true
def V2 (o : IOp) (f : U -> U -> KU -> Ans) : Prop := ∀ u v K, f u v K = true -> ∃ r, (∀ cf σ wr, ∃ t, opV cf o [toI u, toI v] σ wr = some ⟨false, toI r, ⟨t, σ, wr⟩⟩) /\ K r = true
def VL (o : IOp) (f : U -> KU -> Ans) : Prop := ∀ u K, f u K = true -> (toL u).length = (je o).length -> ∃ r, (∀ cf σ wr, ∃ t, opV cf o (toL u) σ wr = some ⟨false, toI r, ⟨t, σ, wr⟩⟩) /\ K r = true
def W0 (o : IOp) (f : H -> KH -> Ans) : Prop := ∀ h K σ wr, HR h σ wr -> f h K = true -> ∃ r h' σ' wr', (∀ cf, ∃ t, opV cf o [] σ wr = some ⟨false, toI r, ⟨t, σ', wr'⟩⟩) /\ HR h' σ' wr' /\ h'.tr = h.tr /\ K r h' = true
def W1 (o : IOp) (f : U -> H -> KH -> Ans) : Prop := ∀ u h K σ wr, HR h σ wr -> f u h K = true -> ∃ r h' σ' wr', (∀ cf, ∃ t, opV cf o [toI u] σ wr = some ⟨false, toI r, ⟨t, σ', wr'⟩⟩) /\ HR h' σ' wr' /\ h'.tr = h.tr /\ K r h' = true
def W2 (o : IOp) (f : U -> U -> H -> KH -> Ans) : Prop := ∀ u v h K σ wr, HR h σ wr -> f u v h K = true -> ∃ r h' σ' wr', (∀ cf, ∃ t, opV cf o [toI u, toI v] σ wr = some ⟨false, toI r, ⟨t, σ', wr'⟩⟩) /\ HR h' σ' wr' /\ h'.tr = h.tr /\ K r h' = true
def WL (o : IOp) (f : U -> H -> KH -> Ans) : Prop := ∀ u h K σ wr, HR h σ wr -> f u h K = true -> (toL u).length = (je o).length -> ∃ r h' σ' wr', (∀ cf, ∃ t, opV cf o (toL u) σ wr = some ⟨false, toI r, ⟨t, σ', wr'⟩⟩) /\ HR h' σ' wr' /\ h'.tr = h.tr /\ K r h' = true
theorem Jo {o : IOp} {f : U -> KU -> Ans} (hp : ∀ a, Pu1 (o.with [a]) f) (ho : ∀ a, je (o.with [a]) = [.c a]) : V1 o f := by
 intro u K h;obtain ⟨r, h1, h2⟩ := hp (toI u) u K ts0 ts0 h (by rw [ho]; rfl);exact ⟨r, fun cf σ wr => ⟨ts0, h1 cf σ wr⟩, h2⟩
theorem XH {o : IOp} {f : U -> U -> KU -> Ans} (hp : ∀ a b, Pu2 (o.with [a, b]) f) (ho : ∀ a b, je (o.with [a, b]) = [.c a, .c b]) : V2 o f := by
 intro u v K h;obtain ⟨r, h1, h2⟩ := hp (toI u) (toI v) u v K ts0 ts0 h (by rw [ho]; rfl);exact ⟨r, fun cf σ wr => ⟨ts0, h1 cf σ wr⟩, h2⟩
theorem Y9 {o : IOp} {f : U -> KU -> Ans} (hp : ∀ l : List IVal, l.length = (je o).length -> PuL (o.with l) f /\ je (o.with l) = l.map .c) : VL o f := by
 intro u K h hl;letI : Globs := ⟨fun _ => none⟩;obtain ⟨h0, ho⟩ := hp (toL u) hl;obtain ⟨r, h1, h2⟩ := h0 u K ts0 ts0 h (by rw [ho, jK]);exact ⟨r, fun cf σ wr => ⟨ts0, h1 cf σ wr⟩, h2⟩
theorem jjW {o : IOp} {f : H -> KH -> Ans} (hp : Hp0 (o.with []) f) : W0 o f := by
 intro h K σ wr hr hk;obtain ⟨r, h', σ', wr', h1, h2⟩ := hp h K ts0 σ wr hr hk;exact ⟨r, h', σ', wr', fun cf => ⟨ts0, h1 cf⟩, h2⟩
theorem je1 {o : IOp} {f : U -> H -> KH -> Ans} (hp : ∀ a, Hp1 (o.with [a]) f) (ho : ∀ a, je (o.with [a]) = [.c a]) : W1 o f := by
 intro u h K σ wr hr hk;obtain ⟨r, h', σ', wr', h1, h2⟩ := hp (toI u) u h K ts0 ts0 σ wr hr hk (by rw [ho]; rfl);exact ⟨r, h', σ', wr', fun cf => ⟨ts0, h1 cf⟩, h2⟩
theorem jck {o : IOp} {f : U -> U -> H -> KH -> Ans} (hp : ∀ a b, Hp2 (o.with [a, b]) f) (ho : ∀ a b, je (o.with [a, b]) = [.c a, .c b]) : W2 o f := by
 intro u v h K σ wr hr hk;obtain ⟨r, h', σ', wr', h1, h2⟩ := hp (toI u) (toI v) u v h K ts0 ts0 σ wr hr hk (by rw [ho]; rfl);exact ⟨r, h', σ', wr', fun cf => ⟨ts0, h1 cf⟩, h2⟩
theorem jhI {o : IOp} {f : U -> H -> KH -> Ans} (hp : ∀ l : List IVal, l.length = (je o).length -> HpL (o.with l) f /\ je (o.with l) = l.map .c) : WL o f := by
 intro u h K σ wr hr hk hl;letI : Globs := ⟨fun _ => none⟩;obtain ⟨h0, ho⟩ := hp (toL u) hl;obtain ⟨r, h', σ', wr', h1, h2⟩ := h0 u h K ts0 ts0 σ wr hr hk (by rw [ho, jK]);exact ⟨r, h', σ', wr', fun cf => ⟨ts0, h1 cf⟩, h2⟩
inductive QOp where
 | p1 (f : U -> KU -> Ans)
 | p2 (f : U -> U -> KU -> Ans)
 | pL (f : U -> KU -> Ans)
 | h0 (f : H -> KH -> Ans)
 | h1 (f : U -> H -> KH -> Ans)
 | h2 (f : U -> U -> H -> KH -> Ans)
 | hL (f : U -> H -> KH -> Ans)
 | call (g : FuncId)
 | callp (g : FuncId)
 | callv
 | inv (tab : List (TypeId × FuncId × RecvK))
 | extr (i : Nat)
 | pan
 | bad
def qop (o : IOp) : QOp := match o with
 | .mv _ => .p1 mvF
 | .pick _ a b => if vF a && vF b then .pL jiU else .bad
 | .alloc zs => .h0 (jg4 (jlj zs))
 | .box _ => .h1 jnu
 | .boxv _ => .p1 jj4
 | .build zs ps => .pL (jg7 (KE zs) (zf ps))
 | .buildSl e _ => .pL (VS e)
 | .buildRs e _ => .hL (VQ e)
 | .load m n _ => .h1 (jfK m n)
 | .store n _ _ => .h2 (jev n)
 | .vSet G tab _ _ => .h2 (jla G tab)
 | .nilCheck _ => .p1 Yi
 | .bin op _ _ => .p2 (jlq op)
 | .isnil neg k _ => .p1 (jhj neg k)
 | .eqa neg a b => .p2 (jnn (.eqa neg a b))
 | .eqb neg _ _ => .p2 (jnw neg)
 | .un op _ => .p1 (unF op)
 | .conv (.int k) _ => .p1 (jka (kc k))
 | .conv .bytes _ => .p1 jg8
 | .conv .text _ => .p1 jjk
 | .conv .same _ => .p1 jk0
 | .conv .rune x => .p1 (Z5 (.conv .rune x))
 | .mkIface t _ => .p1 (jax t)
 | .mkFn (.func f) xs _ => .pL (jkG f xs.length)
 | .mkMap => .h0 jhl
 | .mkSl b e by' zs _ _ => .h2 (jkH b e by' (KE zs) (rep (Q2 zs)))
 | .sliceS _ lo hi => .pL (jer lo.isSome hi.isSome)
 | .sliceL e _ lo hi mx => .pL (sliceLF e lo.isSome hi.isSome mx.isSome)
 | .fieldAddr off _ => .p1 (Vi off)
 | .field off n _ => .p1 (jas off n)
 | .idxAddr e _ _ => .p2 (jau e)
 | .idxAddrA l e _ _ => .p2 (X8 l e)
 | .idxS _ _ => .p2 jkt
 | .idxA l e n _ _ => .p2 (jkr l e n)
 | .lookup kk z ok _ _ => .h2 (jdt kk (rep z) ok)
 | .mapSet kk _ _ _ => .hL (jdw kk)
 | .mem k _ => .hL (jmo k)
 | .extract _ i => .extr i
 | .append false false e by' _ _ => .p2 (jjY e by')
 | .append false true e by' _ _ => .p2 (jj0 e by')
 | .append true false e by' _ _ => .h2 (jjZ e by')
 | .clear zs _ => .h1 (jha (KE zs) (!(zs.all nr1)))
 | .lenS _ => .p1 jkA
 | .lenL _ => .p1 jky
 | .lenM _ => .h1 jkz
 | .minmax m _ => .pL (jdC m)
 | .pur k xs => .pL (Xp (.pur k xs))
 | .vOf G tab x => .p1 (Z5 (.vOf G tab x))
 | .call g _ => .call g
 | .callp g _ => .callp g
 | .callv _ _ => .callv
 | .inv tab _ _ => .inv tab
 | .panic _ => .pan
 | _ => .bad
theorem vZ {lo : Option Opd} {vs : List IVal} (h : vs.length ≥ lo.toList.length) : (Kv lo vs).all vF = true /\ (Kv lo vs).isSome = lo.isSome := by
 cases lo with
 | none => exact ⟨rfl, rfl⟩
 | some x => cases vs with
   | nil => simp at h
   | cons v vs => exact ⟨rfl, rfl⟩
theorem zb {lo : Option Opd} {vs : List IVal} (h : vs.length ≥ lo.toList.length) : (Kv lo vs).toList ++ (JF lo vs).map Opd.c = vs.map .c /\ (JF lo vs).length = vs.length - lo.toList.length := by
 cases lo with
 | none => exact ⟨rfl, rfl⟩
 | some x => cases vs with
   | nil => simp at h
   | cons v vs => exact ⟨rfl, by simp [JF]⟩
def QOK (o : IOp) : QOp -> Prop
 | .p1 f => V1 o f
 | .p2 f => V2 o f
 | .pL f => VL o f
 | .h0 f => W0 o f
 | .h1 f => W1 o f
 | .h2 f => W2 o f
 | .hL f => WL o f
 | .call g => ∃ xs, o = .call g xs
 | .callp g => ∃ xs, o = .callp g xs
 | .callv => ∃ f xs, o = .callv f xs
 | .inv tab => ∃ x xs, o = .inv tab x xs
 | .extr i => ∃ x, o = .extract x i
 | .pan => ∃ x, o = .panic x
 | .bad => True
theorem KI {o : IOp} {l : List IVal} (hp : Vq (o.with l) = true) (hx : okX (o.with l) = true) (hw : (o.with l).with l = o.with l) {u : U} (hu : toL u = l) {K : KU} {ts ts' : Ts} (h : Xp o u K = true) (hg : getAll (je (o.with l)) ts = some (toL u, ts')) :
   ∃ r, (∀ cf σ wr, ja cf (o.with l) ⟨ts, σ, wr⟩ = some ⟨false, toI r, ⟨ts', σ, wr⟩⟩) /\ K r = true := by
 have h' : Xp (o.with l) u K = true := by
   unfold Xp at h ⊢;rw [hu] at h ⊢;rw [hw]; exact h
 exact jaQ _ hp hx u K ts ts' h' hg
theorem jkU (o : IOp) : QOK o (qop o) := by
 letI : Globs := ⟨fun _ => none⟩;cases o
 case mv x => exact Jo (fun a => jkI _) (fun a => rfl)
 case pick c a b =>
   show QOK _ (if vF a && vF b then QOp.pL jiU else .bad);split
   . refine Y9 fun l hl => ?_
     match l, hl with
     | [x, y, z], _ => exact ⟨jgb (.c x) (.c y) (.c z) rfl rfl, rfl⟩
   . trivial
 case alloc zs => exact jjW (jco zs)
 case box x => exact je1 (fun a => jhU _) (fun a => rfl)
 case boxv x => exact Jo (fun a => je8 _) (fun a => rfl)
 case build zs ps =>
   refine Y9 fun l hl => ?_;have hl : l.length = (ps.map (·.2.2)).length := hl;have e1 : ((ps.zip l).map fun p => (p.1.1, p.1.2.1, Opd.c p.2)).map (·.2.2) = l.map Opd.c := by
     simp only [List.map_map];show (ps.zip l).map (fun p => Opd.c p.2) = _;rw [show (fun p : (Nat × Nat × Opd) × IVal => Opd.c p.2) = Opd.c ∘ Prod.snd from rfl, <- List.map_map, List.map_snd_zip (by simp at hl; omega)]
   have e2 : zf ((ps.zip l).map fun p => (p.1.1, p.1.2.1, Opd.c p.2)) = zf ps := by
     simp only [zf, List.map_map];show (ps.zip l).map (fun p => (p.1.1, p.1.2.1)) = _;rw [show (fun p : (Nat × Nat × Opd) × IVal => (p.1.1, p.1.2.1)) = (fun p : Nat × Nat × Opd => (p.1, p.2.1)) ∘ Prod.fst from rfl, <- List.map_map, List.map_fst_zip (by simp at hl; omega)]
   have h := jcv zs ((ps.zip l).map fun p => (p.1.1, p.1.2.1, Opd.c p.2));rw [e2] at h;exact ⟨h, e1⟩
 case buildSl e xs => exact Y9 fun l hl => ⟨Zb e _, rfl⟩
 case mem k xs => exact jhI fun l hl => ⟨jiz k _, rfl⟩
 case buildRs e xs => exact jhI fun l hl => ⟨Za e _, rfl⟩
 case load m n x => exact je1 (fun a => V5 m n _) (fun a => rfl)
 case store n x v => exact jck (fun a b => YR n _ _) (fun a b => rfl)
 case vSet G tab x v => exact jck (fun a b => jgY G tab _ _) (fun a b => rfl)
 case nilCheck x => exact Jo (fun a => Yj _) (fun a => rfl)
 case bin op x y => exact XH (fun a b => jhS op _ _) (fun a b => rfl)
 case isnil neg k x => exact Jo (fun a => jdo neg k _) (fun a => rfl)
 case eqa neg x y =>
   intro u v K h;obtain ⟨r, h1, h2⟩ := KI (o := .eqa neg x y) (l := [toI u, toI v]) (u := .cn u (.cn v .nl)) rfl rfl rfl rfl (ts := ts0) (ts' := ts0) h rfl;exact ⟨r, fun cf σ wr => ⟨ts0, h1 cf σ wr⟩, h2⟩
 case eqb neg x y => exact XH (fun a b => jia neg _ _) (fun a b => rfl)
 case un op x => exact Jo (fun a => jk8 op _) (fun a => rfl)
 case conv c x =>
   cases c with
   | int k => exact Jo (fun a => jfd k _) (fun a => rfl)
   | bytes => exact Jo (fun a => jcw _) (fun a => rfl)
   | text => exact Jo (fun a => jgO _) (fun a => rfl)
   | same => exact Jo (fun a => jgu _) (fun a => rfl)
   | rune =>
     intro u K h;obtain ⟨r, h1, h2⟩ := KI (o := .conv .rune x) (l := [toI u]) (u := .cn u .nl) rfl rfl rfl rfl (ts := ts0) (ts' := ts0) h rfl;exact ⟨r, fun cf σ wr => ⟨ts0, h1 cf σ wr⟩, h2⟩
 case mkIface t x => exact Jo (fun a => Zv t _) (fun a => rfl)
 case mkFn f xs ys =>
   cases f with
   | func f =>
       refine Y9 fun l hl => ?_;have hl : l.length = (xs ++ ys).length := hl;have h := jfU f ((l.take xs.length).map .c) ((l.drop xs.length).map .c);rw [List.length_map, List.length_take, Nat.min_eq_left (by simp at hl; omega)] at h;refine ⟨h, ?_⟩;show (l.take xs.length).map Opd.c ++ (l.drop xs.length).map Opd.c = _;rw [<- List.map_append, List.take_append_drop]
   | _ => trivial
 case mkMap => exact jjW jdE
 case mkSl b e by' zs x y => exact jck (fun a c => jfV b e by' zs _ _) (fun a c => rfl)
 case sliceS x lo hi =>
   refine Y9 fun l hl => ?_;have hl : l.length = (x :: (lo.toList ++ hi.toList)).length := hl
   cases l with
   | nil => simp at hl
   | cons a vs =>
     simp only [List.length_cons, List.length_append] at hl;have p1 := vZ (lo := lo) (vs := vs) (by omega);have p2 := zb (lo := lo) (vs := vs) (by omega);have q1 := vZ (lo := hi) (vs := JF lo vs) (by omega);have q2 := zb (lo := hi) (vs := JF lo vs) (by omega);have q3 : JF hi (JF lo vs) = [] := List.length_eq_zero_iff.1 (by omega);rw [q3, List.map_nil, List.append_nil] at q2;have h := jb0 (.c a) (Kv lo vs) (Kv hi (JF lo vs)) p1.1 q1.1;rw [p1.2, q1.2] at h;refine ⟨h, ?_⟩;show Opd.c a :: ((Kv lo vs).toList ++ (Kv hi (JF lo vs)).toList) = _;rw [q2.1, p2.1]; rfl
 case sliceL e x lo hi mx =>
   refine Y9 fun l hl => ?_;have hl : l.length = (x :: (lo.toList ++ (hi.toList ++ mx.toList))).length := hl
   cases l with
   | nil => simp at hl
   | cons a vs =>
     simp only [List.length_cons, List.length_append] at hl;have p1 := vZ (lo := lo) (vs := vs) (by omega);have p2 := zb (lo := lo) (vs := vs) (by omega);have q1 := vZ (lo := hi) (vs := JF lo vs) (by omega);have q2 := zb (lo := hi) (vs := JF lo vs) (by omega);have r1 := vZ (lo := mx) (vs := JF hi (JF lo vs)) (by omega);have r2 := zb (lo := mx) (vs := JF hi (JF lo vs)) (by omega);have r3 : JF mx (JF hi (JF lo vs)) = [] := List.length_eq_zero_iff.1 (by omega);rw [r3, List.map_nil, List.append_nil] at r2;have h := jbZ e (.c a) (Kv lo vs) (Kv hi (JF lo vs)) (Kv mx (JF hi (JF lo vs))) p1.1 q1.1 r1.1;rw [p1.2, q1.2, r1.2] at h;refine ⟨h, ?_⟩;show Opd.c a :: ((Kv lo vs).toList ++ ((Kv hi (JF lo vs)).toList ++ (Kv mx (JF hi (JF lo vs))).toList)) = _;rw [r2.1, q2.1, p2.1]; rfl
 case fieldAddr off x => exact Jo (fun a => VV off _) (fun a => rfl)
 case field off n x => exact Jo (fun a => K7 off n _) (fun a => rfl)
 case idxAddr e x i => exact XH (fun a b => Zp e _ _) (fun a b => rfl)
 case idxAddrA l e x i => exact XH (fun a b => X9 l e _ _) (fun a b => rfl)
 case idxS x i => exact XH (fun a b => jfB _ _) (fun a b => rfl)
 case idxA l e n x i => exact XH (fun a b => jfA l e n _ _) (fun a b => rfl)
 case lookup kk z ok x k => exact jck (fun a b => jbA kk z ok _ _) (fun a b => rfl)
 case mapSet kk m k v =>
   refine jhI fun l hl => ?_
   match l, hl with
   | [x, y, z], _ => exact ⟨jbB kk (.c x) (.c y) (.c z), rfl⟩
 case extract x i => exact ⟨x, rfl⟩
 case append br str e by' s x =>
   cases br with
   | true => cases str with
     | false => exact jck (fun a c => je5 e by' _ _) (fun a c => rfl)
     | true => trivial
   | false =>
     cases str with
     | false => exact XH (fun a b => je4 e by' _ _) (fun a b => rfl)
     | true => exact XH (fun a b => je6 e by' _ _) (fun a b => rfl)
 case clear zs x => exact je1 (fun a => jcF zs _) (fun a => rfl)
 case lenS x => exact Jo (fun a => jfI _) (fun a => rfl)
 case lenL x => exact Jo (fun a => jfG _) (fun a => rfl)
 case lenM x => exact je1 (fun a => jfH _) (fun a => rfl)
 case minmax m xs => exact Y9 fun l hl => ⟨jbC m _, rfl⟩
 case pur k xs =>
   intro u K h hl;have e : ((IOp.pur k xs).with (toL u)).with (toL u) = (IOp.pur k xs).with (toL u) := rfl
   obtain ⟨r, h1, h2⟩ := KI (o := .pur k xs) (l := toL u) (u := u) rfl rfl e rfl (ts := ts0) (ts' := ts0) h (jK _ _);exact ⟨r, fun cf σ wr => ⟨ts0, h1 cf σ wr⟩, h2⟩
 case vOf G tab x =>
   intro u K h;obtain ⟨r, h1, h2⟩ := KI (o := .vOf G tab x) (l := [toI u]) (u := .cn u .nl) rfl rfl rfl rfl (ts := ts0) (ts' := ts0) h rfl;exact ⟨r, fun cf σ wr => ⟨ts0, h1 cf σ wr⟩, h2⟩
 case call g xs => exact ⟨xs, rfl⟩
 case callp g xs => exact ⟨xs, rfl⟩
 case callv f xs => exact ⟨f, xs, rfl⟩
 case inv tab x xs => exact ⟨x, xs, rfl⟩
 case panic x => exact ⟨x, rfl⟩
 all_goals trivial
end
end Go.Idl
namespace Go.Idl
noncomputable section
set_option maxHeartbeats 100000
abbrev NK := Env -> U -> H -> Ans
abbrev XK := Nat -> U -> Env -> H -> Ans
abbrev CQ := FuncId -> U -> H -> KH -> KH -> Ans
abbrev YQ := Nat -> U -> H -> KH -> KH -> Ans
def DsR : U -> List Nat -> Prop
 | .nl, [] => True
 | .cn (.o 4 a _ _ _ _) r, id :: l => a = id /\ DsR r l
 | _, _ => False
structure QR (e : Env) (st : U) (h : H) (s : XS) : Prop where
 v : VarQ e s.vs
 st : StR st s.st
 ds : DsR (dsU e) s.ds
 h : HR h s.σ s.wr
theorem QR.nl {e : Env} {st : U} {h : H} {s : XS} (R : QR e st h s) : QR e .nl h s := ⟨R.v, trivial, R.ds, R.h⟩
def QJ : U := .o 18 0 0 0 0 .nl
theorem QK : toI QJ = ju := rfl
def CallS (cf : jp) (c : Cal) (f : U -> H -> KH -> KH -> Ans) : Prop := ∀ l h K P σ wr, HR h σ wr -> f l h K P = true -> ∃ o r h', cf c (toL l) σ = some o /\ toI r = o.v /\ HR h' o.σ (o.wr ++ wr) /\ h'.tr = h.tr /\ (o.pan = false /\ K r h' = true \/ o.pan = true /\ P r h' = true)
structure CYS (cf : jp) (cq : CQ) (yq : YQ) : Prop where
 c : ∀ g, CallS cf (.f g) (cq g)
 y : ∀ id, CallS cf (.y id) (yq id)
def jld (x : U) : U -> (U -> Ans) -> Ans := @U.rec (fun _ => U -> (U -> Ans) -> Ans) (fun _ _ _ _ => false) (fun _ _ _ => false) (fun _ _ _ _ => false) (fun _ _ _ _ _ _ _ _ _ => false) (fun y K => K y)
 (fun v _ _ ih y K => ih y fun r => K (.cn v r)) (fun _ _ _ _ _ _ _ _ => false) (fun _ _ _ => false) (fun _ _ _ _ _ _ _ _ _ => false) x
theorem XJ : ∀ {x y : U} {K : U -> Ans}, jld x y K = true -> ∃ r, toL r = toL x ++ toL y /\ K r = true := by
 intro x
 induction x with
 | nl => intro y K h; exact ⟨y, rfl, h⟩
 | cn v vs _ ih => intro y K h; obtain ⟨r, h1, h2⟩ := ih (show jld vs y (fun r => K (.cn v r)) = true from h); exact ⟨_, by rw [jn, jn, h1]; rfl, h2⟩
 | _ => intro y K h; cases h
def ja8 (b : Nat) (x l : U) (K : U -> Ans) : Ans := Z8 b x fun us => Zg b x fun ws => jld l ws fun r => jld us r K
theorem JT {b : Nat} {x l : U} {K : U -> Ans} (h : ja8 b x l K = true) : ∃ r, toL r = (toL x).take b ++ toL l ++ (toL x).drop b /\ K r = true := by
 obtain ⟨us, h1, _, h2⟩ := yd h;obtain ⟨ws, h3, _, h4⟩ := vS h2;obtain ⟨r1, h5, h6⟩ := XJ h4;obtain ⟨r, h7, h8⟩ := XJ h6;exact ⟨r, by rw [h7, h5, h1, h3, zS], h8⟩
def Vg : H := ⟨0, ⟨0, .nl, 0, .nl, .nl⟩, 0, false, []⟩
theorem XX : HR Vg [] [] := ⟨rfl, fun i ob h => (by simp at h), fun _ p hp => (by cases hp), fun n0 => (by simp [Vg])⟩
def jcA (cq : CQ) (g : FuncId) (l : U) (h : H) (K : KH) : Ans := tst (yU jce l) (cq g l Vg (fun r _ => tst (jmr r) (K r h)) (fun _ _ => false))
theorem Zd {cf : jp} {cq : CQ} {yq : YQ} (hc : CYS cf cq yq) {g : FuncId} {l : U} {h : H} {K : KH} (hk : jcA cq g l h K = true) {xs : List Opd} {σ : List IObj} {wr : List (Nat × Bool)} :
   ∃ r, (∃ t, opV cf (.callp g xs) (toL l) σ wr = some ⟨false, toI r, ⟨t, σ, wr⟩⟩) /\ K r h = true := by
 letI : Globs := ⟨fun _ => none⟩;obtain ⟨h1, h2⟩ := jb hk;obtain ⟨o, r, h', h3, h4, _, _, h5⟩ := hc.c g l Vg _ _ [] [] XX h2
 rcases h5 with ⟨h6, h7⟩ | ⟨_, h7⟩
 . obtain ⟨h8, h9⟩ := jb h7;refine ⟨r, ⟨ts0, ?_⟩, h9⟩;obtain ⟨pan, v, σ', wr'⟩ := o;simp only at h4 h6;subst h4 h6;have hn : (toL l).all nr2 = true := by rw [<- yV y8]; exact h1
   rw [Zz] at h8;simp only [opV, IOp.with, ja, jK, h3];rw [if_pos hn, if_pos h8]; rfl
 . cases h7
def VY (tab : List (TypeId × FuncId × RecvK)) (t : Nat) (K : FuncId -> RecvK -> Ans) : Ans := @List.rec _ (fun _ => (FuncId -> RecvK -> Ans) -> Ans) (fun _ => false) (fun p _ ih K => @Bool.rec (fun _ => Ans) (ih K) (K p.2.1 p.2.2) (Nat.beq p.1 t)) tab K
theorem X0 {t : Nat} : ∀ {tab : List (TypeId × FuncId × RecvK)} {K : FuncId -> RecvK -> Ans}, VY tab t K = true -> ∃ t' f rk, tab.find? (fun p => p.1 == t) = some (t', f, rk) /\ K f rk = true := by
 intro tab
 induction tab with
 | nil => intro K h; cases h
 | cons p tab ih =>
   intro K h;obtain ⟨a, f, rk⟩ := p
   rcases jf (show @Bool.rec (fun _ => Ans) (VY tab t K) (K f rk) (Nat.beq a t) = true from h) with ⟨h1, h2⟩ | ⟨h1, h2⟩
   . have := zN h1; subst this;have e : (a == a) = true := beq_self_eq_true a;exact ⟨a, f, rk, by rw [List.find?_cons]; simp only [e], h2⟩
   . obtain ⟨t', f', rk', h3, h4⟩ := ih h2;have h1 := zE h1;have e : (a == t) = false := beq_eq_false_iff_ne.2 h1;exact ⟨t', f', rk', by rw [List.find?_cons]; simp only [e, h3], h4⟩
def ji4 (rk : RecvK) (u : U) (K : KU) : Ans := @RecvK.rec (fun _ => U -> KU -> Ans) (fun u K => K u) (fun off n u K => jas off n u K) rk u K
theorem jbK {rk : RecvK} {u : U} {K : KU} (h : ji4 rk u K = true) : ∃ r, Yv rk (toI u) = some (toI r) /\ K r = true := by
 cases rk with
 | same => exact ⟨u, rfl, h⟩
 | fld off n =>
   obtain ⟨r, h1, h2⟩ := K7 off n (.c (toI u)) u K ts0 ts0 h rfl;have h1 := h1 (fun _ _ _ => none) [] [];refine ⟨r, ?_, h2⟩;simp only [ja, Opd.get] at h1;split at h1
   . rename_i cs t heq;simp only [zO, zP] at heq;rw [heq.1];split at h1
     . rename_i w hw;simp only [rv, zO, Res.mk.injEq, true_and] at h1;simp only [Yv, hw, h1.1]
     . cases h1
   . cases h1
def KT (cq : CQ) (yq : YQ) (q : QOp) (l : U) (h : H) (K : KH) (P : KH) : Ans := @QOp.rec (fun _ => CQ -> YQ -> U -> H -> KH -> KH -> Ans)
 (fun _ _ _ _ _ _ _ => false) (fun _ _ _ _ _ _ _ => false) (fun _ _ _ _ _ _ _ => false) (fun _ _ _ _ _ _ _ => false) (fun _ _ _ _ _ _ _ => false) (fun _ _ _ _ _ _ _ => false) (fun _ _ _ _ _ _ _ => false)
 (fun g cq _ l h K P => cq g l h K P)
 (fun g cq _ l h K _ => jcA cq g l h K)
 (fun cq yq l h K P => uC l false fun u l => uO u fun t a b _ _ x => @Bool.rec (fun _ => Ans) (tst (Nat.beq t 4) (yq a l h K P)) (ja8 b x l fun r => cq a r h K P) (Nat.beq t 7))
 (fun tab cq _ l h K P => uC l false fun u l => uO u fun t a _ _ _ x => tst (Nat.beq t 5) (VY tab a fun f rk => ji4 rk x fun y => cq f (.cn y l) h K P))
 (fun _ _ _ _ _ _ _ => false)
 (fun _ _ l h _ P => uC l false fun u _ => uO u fun t _ _ _ _ _ => tst (Nat.beq t 5) (P u h))
 (fun _ _ _ _ _ _ => false) q cq yq l h K P
theorem Zc {cf : jp} {cq : CQ} {yq : YQ} (hc : CYS cf cq yq) {o : IOp} {q : QOp} (hq : QOK o q) {l : U} {h : H} {K P : KH} {σ : List IObj} {wr : List (Nat × Bool)} (hr : HR h σ wr) (hl : (toL l).length = (je o).length) (hk : KT cq yq q l h K P = true) :
   ∃ p r h' t σ' wr', opV cf o (toL l) σ wr = some ⟨p, toI r, ⟨t, σ', wr'⟩⟩ /\ HR h' σ' wr' /\ h'.tr = h.tr /\ (p = false /\ K r h' = true \/ p = true /\ P r h' = true) := by
 letI : Globs := ⟨fun _ => none⟩
 cases q with
 | call g =>
   obtain ⟨xs, rfl⟩ := hq;obtain ⟨oo, r, h', h1, h2, h3, h4, h5⟩ := hc.c g l h K P σ wr hr hk;exact ⟨oo.pan, r, h', ts0, oo.σ, oo.wr ++ wr, by simp only [opV, IOp.with, ja, jK, stepCall, h1, j9, h2], h3, h4, h5⟩
 | callp g =>
   obtain ⟨xs, rfl⟩ := hq;obtain ⟨r, ⟨t, h1⟩, h2⟩ := Zd hc (xs := xs) (σ := σ) (wr := wr) (show jcA cq g l h K = true from hk);exact ⟨false, r, h, t, σ, wr, h1, hr, rfl, Or.inl ⟨rfl, h2⟩⟩
 | callv =>
   obtain ⟨f, xs, rfl⟩ := hq
   rcases jk (show uC l false (fun u l => uO u fun t a b _ _ x => @Bool.rec (fun _ => Ans) (tst (Nat.beq t 4) (yq a l h K P)) (ja8 b x l fun r => cq a r h K P) (Nat.beq t 7)) = true from hk) with ⟨_, k1⟩ | ⟨u, l1, rfl, k1⟩
   . cases k1
   obtain ⟨t, a, b, c, d, x, rfl, k2⟩ := jq k1
   rcases jf k2 with ⟨k3, k4⟩ | ⟨_, k4⟩
   . have := zN k3; subst this;obtain ⟨r1, k5, k6⟩ := JT k4;obtain ⟨oo, r, h', h1, h2, h3, h4, h5⟩ := hc.c a r1 h K P σ wr hr k6;rw [k5] at h1;refine ⟨oo.pan, r, h', ts0, oo.σ, oo.wr ++ wr, ?_, h3, h4, h5⟩;rw [jn];simp only [opV, IOp.with, ja, j8, jaV, jK, stepCall, h1, j9, h2]
   . obtain ⟨k5, k6⟩ := jb k4;have := zN k5; subst this;obtain ⟨oo, r, h', h1, h2, h3, h4, h5⟩ := hc.y a l1 h K P σ wr hr k6;refine ⟨oo.pan, r, h', ts0, oo.σ, oo.wr ++ wr, ?_, h3, h4, h5⟩;rw [jn];simp only [opV, IOp.with, ja, j8, jk5, jK, stepCall, h1, j9, h2]
 | inv tab =>
   obtain ⟨x, xs, rfl⟩ := hq
   rcases jk (show uC l false (fun u l => uO u fun t a _ _ _ x => tst (Nat.beq t 5) (VY tab a fun f rk => ji4 rk x fun y => cq f (.cn y l) h K P)) = true from hk) with ⟨_, k1⟩ | ⟨u, l1, rfl, k1⟩
   . cases k1
   obtain ⟨t, a, b, c, d, y, rfl, k2⟩ := jq k1;obtain ⟨k3, k4⟩ := jb k2;have := zN k3; subst this;obtain ⟨t', f, rk, k5, k6⟩ := X0 k4;obtain ⟨z, k7, k8⟩ := jbK k6;obtain ⟨oo, r, h', h1, h2, h3, h4, h5⟩ := hc.c f (.cn z l1) h K P σ wr hr k8;rw [jn] at h1;refine ⟨oo.pan, r, h', ts0, oo.σ, oo.wr ++ wr, ?_, h3, h4, h5⟩;rw [jn];simp only [opV, IOp.with, ja, j8, JN, k5, k7, jK, stepCall, h1, j9, h2]
 | pan =>
   obtain ⟨x, rfl⟩ := hq
   rcases jk (show uC l false (fun u _ => uO u fun t _ _ _ _ _ => tst (Nat.beq t 5) (P u h)) = true from hk) with ⟨_, k1⟩ | ⟨u, l1, rfl, k1⟩
   . cases k1
   obtain ⟨t, a, b, c, d, y, rfl, k1⟩ := jq k1;obtain ⟨k3, k1⟩ := jb k1;have := zN k3; subst this;have hl1 : toL l1 = [] := by
     rw [jn] at hl;exact List.length_eq_zero_iff.1 (by simpa [je] using hl)
   refine ⟨true, _, h, ts0, σ, wr, ?_, hr, rfl, Or.inr ⟨rfl, k1⟩⟩;rw [jn, hl1, JN];simp only [opV, IOp.with, ja, j8]
 | _ => cases hk
def jej (i : Nat) (w x : U) (K : U -> Ans) : Ans := @Nat.rec (fun _ => U -> U -> (U -> Ans) -> Ans) (fun w x K => uC x false fun _ r => K (.cn w r)) (fun _ ih w x K => uC x false fun v r => ih w r fun r' => K (.cn v r')) i w x K
theorem ZU : ∀ {i : Nat} {w x : U} {K : U -> Ans}, jej i w x K = true -> ∃ r, toL r = (toL x).set i (toI w) /\ K r = true := by
 intro i
 induction i with
 | zero =>
   intro w x K h
   rcases jk (show uC x false (fun _ r => K (.cn w r)) = true from h) with ⟨_, h2⟩ | ⟨v, r, rfl, h2⟩
   . cases h2
   . exact ⟨_, by rw [jn, jn]; rfl, h2⟩
 | succ i ih =>
   intro w x K h
   rcases jk (show uC x false (fun v r => jej i w r fun r' => K (.cn v r')) = true from h) with ⟨_, h2⟩ | ⟨v, r, rfl, h2⟩
   . cases h2
   . obtain ⟨r', h3, h4⟩ := ih h2;exact ⟨_, by rw [jn, jn, h3]; rfl, h4⟩
def K5 (i : Nat) (u : U) (K : U -> U -> Ans) : Ans := uO u fun t a _ _ _ x => tst (Nat.beq t 18) (jiP i x fun w => @Bool.rec (fun _ => Ans) (frc (QH w) fun w' => K w' (.o 18 a 0 0 0 x)) (frc w fun w => frc (QH w) fun w' => jej i w' x fun x' => K w (.o 18 0 0 0 0 x')) (Nat.beq a 0))
theorem vV {i : Nat} {u : U} {K : U -> U -> Ans} (h : K5 i u K = true) : ∃ us w l, toI u = .tup us /\ us[i]? = some (toI w) /\ toI l = .tup (us.set i (un2 (toI w))) /\ K w l = true := by
 obtain ⟨t, a, b, c, d, x, rfl, h2⟩ := jq h;obtain ⟨h3, h4⟩ := jb h2;have := zN h3; subst this;obtain ⟨w, h5, h6⟩ := y9 h4
 rcases jf h6 with ⟨h7, h8⟩ | ⟨h7, h8⟩
 . have := zN h7; subst this;rw [vB, vB] at h8;obtain ⟨x', h9, h10⟩ := ZU h8;refine ⟨toL x, w, _, by rw [Ke, if_pos rfl], h5, ?_, h10⟩;rw [Ke, if_pos rfl, h9, kX]
 . have ha : a ≠ 0 := zE h7;rw [vB] at h8;refine ⟨(toL x).map un2, QH w, _, by rw [Ke, if_neg ha], by rw [List.getElem?_map, h5, kX]; rfl, ?_, h8⟩;rw [Ke, if_neg ha, kX, QI]
   congr 1
   apply List.ext_getElem?;intro k;rw [List.getElem?_set, List.getElem?_map]
   by_cases e : i = k
   . subst e;rw [if_pos rfl, h5];have hi : i < (List.map un2 (toL x)).length := by
       rw [List.length_map]
       rcases Nat.lt_or_ge i (toL x).length with h | h
       . exact h
       . rw [List.getElem?_eq_none h] at h5; cases h5
     rw [if_pos hi]; rfl
   . rw [if_neg e]
def jie (i : Nat) (x : QOpd) (e : Env) (st : U) (K : U -> Env -> U -> Ans) : Ans := @QOpd.rec (fun _ => Nat -> Env -> U -> (U -> Env -> U -> Ans) -> Ans)
 (fun ix i e st K => JD (.v ix) e st fun u e => K5 i u fun w _ => K w e st)
 (fun ix i e st K => Zm ix e fun u => K5 i u fun w l => zj ix e l fun e => K w e st)
 (fun d i e st K => stK d st fun u => K5 i u fun w l => jgK d l st fun st => K w e st)
 (fun d i e st K => JD (.u d) e st fun u e => K5 i u fun w _ => K w e st)
 (fun _ _ _ _ _ => false)
 (fun u i e st K => K5 i u fun w _ => K w e st) x i e st K
theorem jbq {cf : jp} {i : Nat} {x : XOpd} {o : XOper} {y : Opd} (ho : o.op = .extract y i) (hx : o.xs = [x]) {e : Env} {st : U} {h : H} {s : XS} (R : QR e st h s) {K : U -> Env -> U -> Ans} (hk : jie i (vQ x) e st K = true) :
   ∃ r e' st' s', xop cf o s = some ⟨false, toI r, s'⟩ /\ QR e' st' h s' /\ K r e' st' = true := by
 obtain ⟨op, xs, p, d, g⟩ := o;simp only at ho hx;subst ho hx
 cases x with
 | v j =>
   obtain ⟨u, vs', e', h1, h2, h3, h4⟩ := kg (x := .v j) (show JD (vQ (.v j)) e st (fun u e => K5 i u fun w _ => K w e st) = true from hk) R.v R.st;obtain ⟨us, w, l, h5, h6, _, h7⟩ := vV h4;rw [h5] at h1;exact ⟨w, e', st, { s with vs := vs' }, by simp only [xop, h1, h6], ⟨h2, R.st, by rw [h3]; exact R.ds, R.h⟩, h7⟩
 | m j =>
   have hk : Zm (Qg j) e (fun u => K5 i u fun w l => zj (Qg j) e l fun e => K w e st) = true := hk;rw [V0, y7] at hk;obtain ⟨us, w, l, h5, h6, h7, h8⟩ := vV hk;rw [vH, y7] at h8;have hne : KX e j ≠ .nl := fun e1 => by rw [e1] at h5; cases h5; simp at h6
   have hv := R.v j hne;rw [h5] at hv;refine ⟨w, _, st, { s with vs := XM j (.tup (us.set i (un2 (toI w)))) (XM j (un3 (.tup us)) s.vs) }, by simp only [xop, XOpd.get, hv, h6], ⟨?_, R.st, by rw [vA]; exact R.ds, R.h⟩, h8⟩;intro k hk;rw [KY] at hk ⊢;simp only [Jq];split
   . rename_i ek; rw [h7]
   . rename_i ek; rw [if_neg ek] at hk; exact R.v k hk
 | s d =>
   obtain ⟨u, h1, h2⟩ := KJ (show stK d st (fun u => K5 i u fun w l => jgK d l st fun st => K w e st) = true from hk) R.st;obtain ⟨us, w, l, h5, h6, h7, h8⟩ := vV h2;obtain ⟨st', h9, h10⟩ := jb1 h8 R.st;rw [h7] at h9;rw [h5] at h1;exact ⟨w, e, st', { s with st := s.st.set d (.tup (us.set i (un2 (toI w)))) }, by simp only [xop, XOpd.get, h1, h6], ⟨R.v, h9, R.ds, R.h⟩, h10⟩
 | u d =>
   obtain ⟨u, vs', e', h1, h2, h3, h4⟩ := kg (x := .u d) (show JD (vQ (.u d)) e st (fun u e => K5 i u fun w _ => K w e st) = true from hk) R.v R.st;obtain ⟨us, w, l, h5, h6, _, h7⟩ := vV h4;rw [h5] at h1;exact ⟨w, e', st, { s with vs := vs' }, by simp only [xop, h1, h6], ⟨h2, R.st, by rw [h3]; exact R.ds, R.h⟩, h7⟩
 | n d => cases hk
 | c v =>
   obtain ⟨us, w, l, h5, h6, _, h7⟩ := vV (show K5 i (rep v) (fun w _ => K w e st) = true from hk);rw [yQ] at h5;subst h5;exact ⟨w, e, st, s, by simp only [xop, XOpd.get, h6], R, h7⟩
def one (xs : List QOpd) (K : QOpd -> Ans) : Ans := @List.rec QOpd (fun _ => (QOpd -> Ans) -> Ans) (fun _ => false) (fun x r _ K => @List.rec QOpd (fun _ => QOpd -> (QOpd -> Ans) -> Ans) (fun x K => K x) (fun _ _ _ _ _ => false) r x K) xs K
theorem KB {xs : List XOpd} {K : QOpd -> Ans} (h : one (xs.map vQ) K = true) : ∃ x, xs = [x] /\ K (vQ x) = true := by
 match xs, h with
 | [], h => cases h
 | [x], h => exact ⟨x, rfl, h⟩
 | _ :: _ :: _, h => cases h
def two (xs : List QOpd) (K : QOpd -> QOpd -> Ans) : Ans := @List.rec QOpd (fun _ => (QOpd -> QOpd -> Ans) -> Ans) (fun _ => false) (fun x r _ K => one r fun y => K x y) xs K
theorem jaY {xs : List XOpd} {K : QOpd -> QOpd -> Ans} (h : two (xs.map vQ) K = true) : ∃ x y, xs = [x, y] /\ K (vQ x) (vQ y) = true := by
 cases xs with
 | nil => cases h
 | cons x xs =>
   obtain ⟨y, rfl, h2⟩ := KB (show one (xs.map vQ) (fun y => K (vQ x) y) = true from h);exact ⟨x, y, rfl, h2⟩
abbrev NV := U -> Env -> U -> H -> Ans
abbrev PV := U -> Env -> H -> Ans
structure CC where
 c : CQ
 y : YQ
def jjP (f : U -> H -> (U -> H -> Ans) -> (U -> H -> Ans) -> Ans) (xs : List QOpd) (e : Env) (st : U) (h : H) (N : NV) (P : PV) : Ans := J5 xs e st fun l e => f l h (fun r h => N r e st h) (fun r h => P r e h)
def opQ (q : QOp) (xs : List QOpd) (cq : CQ) (yq : YQ) (e : Env) (st : U) (h : H) (N : NV) (P : PV) : Ans := @QOp.rec (fun _ => List QOpd -> CQ -> YQ -> Env -> U -> H -> NV -> PV -> Ans)
 (fun f xs _ _ e st h N _ => one xs fun x => JD x e st fun u e => f u fun r => N r e st h)
 (fun f xs _ _ e st h N _ => two xs fun x y => JD x e st fun u e => JD y e st fun v e => f u v fun r => N r e st h)
 (fun f xs _ _ e st h N _ => J5 xs e st fun l e => f l fun r => N r e st h)
 (fun f xs _ _ e st h N _ => J5 xs e st fun l e => uC l (f h fun r h => N r e st h) fun _ _ => false)
 (fun f xs _ _ e st h N _ => one xs fun x => JD x e st fun u e => f u h fun r h => N r e st h)
 (fun f xs _ _ e st h N _ => two xs fun x y => JD x e st fun u e => JD y e st fun v e => f u v h fun r h => N r e st h)
 (fun f xs _ _ e st h N _ => J5 xs e st fun l e => f l h fun r h => N r e st h)
 (fun g xs cq yq e st h N P => jjP (fun l h K P => KT cq yq (.call g) l h K P) xs e st h N P)
 (fun g xs cq yq e st h N P => jjP (fun l h K P => KT cq yq (.callp g) l h K P) xs e st h N P)
 (fun xs cq yq e st h N P => jjP (fun l h K P => KT cq yq .callv l h K P) xs e st h N P)
 (fun tab xs cq yq e st h N P => jjP (fun l h K P => KT cq yq (.inv tab) l h K P) xs e st h N P)
 (fun i xs _ _ e st h N _ => one xs fun x => jie i x e st fun w e st => N w e st h)
 (fun xs cq yq e st h N P => jjP (fun l h K P => KT cq yq .pan l h K P) xs e st h N P)
 (fun _ _ _ _ _ _ _ _ => false) q xs cq yq e st h N P
theorem Kp {cf : jp} {o : XOper} {s : XS} {vals : List IVal} {vs : AL} {r : Res} (he : ¬ ∃ x i, o.op = .extract x i) (hg : jL o.xs s.vs s.st = some (vals, vs)) (hr : opV cf o.op vals s.σ s.wr = some r) : xop cf o s = some ⟨r.pan, r.v, { s with vs := vs, σ := r.s.σ, wr := r.s.wr }⟩ := by
 rw [Y2 he]; simp only [hg, hr]
theorem yI : ∀ {xs : List XOpd} {vs vs' : AL} {st ws : List IVal}, jL xs vs st = some (ws, vs') -> ws.length = xs.length := by
 intro xs
 induction xs with
 | nil => intro vs vs' st ws h; cases h; rfl
 | cons x xs ih =>
   intro vs vs' st ws h;simp only [jL] at h;split at h
   . split at h
     . rename_i h2; cases h; simp [ih h2]
     . cases h
   . cases h
theorem jf7 {cf : jp} {cq : CQ} {yq : YQ} (hc : CYS cf cq yq) {o : XOper} {q : QOp} (hq : QOK o.op q) (hex : (∃ x i, o.op = .extract x i) -> ∃ i, q = .extr i) (hl : o.xs.length = (je o.op).length) {e : Env} {st : U} {h : H} {s : XS} (R : QR e st h s) {N : NV} {P : PV}
   (hk : opQ q (o.xs.map vQ) cq yq e st h N P = true) : ∃ r e' st' h' p s', xop cf o s = some ⟨p, toI r, s'⟩ /\ QR e' st' h' s' /\ h'.tr = h.tr /\ (p = false /\ N r e' st' h' = true \/ p = true /\ P r e' h' = true) := by
 have call : ∀ {q : QOp}, QOK o.op q -> (¬ ∃ x i, o.op = .extract x i) -> jjP (fun l h K P => KT cq yq q l h K P) (o.xs.map vQ) e st h N P = true -> ∃ r e' st' h' p s', xop cf o s = some ⟨p, toI r, s'⟩ /\ QR e' st' h' s' /\ h'.tr = h.tr /\ (p = false /\ N r e' st' h' = true \/ p = true /\ P r e' h' = true) := by
   intro q hq hne hk;obtain ⟨l, vs', e', h1, h2, h3, h4⟩ := qG hk R.v R.st;have hlen := yI h1;obtain ⟨p, r, h', t, σ', wr', h5, h6, h7, h8⟩ := Zc hc hq R.h (by rw [hlen, hl]) h4;exact ⟨r, e', st, h', p, _, Kp hne h1 h5, ⟨h2, R.st, by rw [h3]; exact R.ds, h6⟩, h7, h8⟩
 cases q with
 | extr i =>
   obtain ⟨y, ho⟩ := hq;obtain ⟨x, hx, h1⟩ := KB (show one (o.xs.map vQ) (fun x => jie i x e st fun w e st => N w e st h) = true from hk);obtain ⟨r, e', st', s', h2, h3, h4⟩ := jbq (cf := cf) ho hx R h1;exact ⟨r, e', st', h, false, s', h2, h3, rfl, Or.inl ⟨rfl, h4⟩⟩
 | bad => cases hk
 | call g => exact call hq (fun h => by obtain ⟨i, e⟩ := hex h; cases e) hk
 | callp g => exact call hq (fun h => by obtain ⟨i, e⟩ := hex h; cases e) hk
 | callv => exact call hq (fun h => by obtain ⟨i, e⟩ := hex h; cases e) hk
 | inv tab => exact call hq (fun h => by obtain ⟨i, e⟩ := hex h; cases e) hk
 | pan => exact call hq (fun h => by obtain ⟨i, e⟩ := hex h; cases e) hk
 | p1 f =>
   have hne : ¬ ∃ x i, o.op = .extract x i := fun h => by obtain ⟨i, e⟩ := hex h; cases e
   obtain ⟨x, hx, h1⟩ := KB (show one (o.xs.map vQ) (fun x => JD x e st fun u e => f u fun r => N r e st h) = true from hk);obtain ⟨u, vs', e', h2, h3, h4, h5⟩ := kg h1 R.v R.st;obtain ⟨r, h6, h7⟩ := hq u _ h5;obtain ⟨t, h6⟩ := h6 cf s.σ s.wr;have hg : jL o.xs s.vs s.st = some ([toI u], vs') := by rw [hx]; simp only [jL, h2]
   exact ⟨r, e', st, h, false, _, Kp hne hg h6, ⟨h3, R.st, by rw [h4]; exact R.ds, R.h⟩, rfl, Or.inl ⟨rfl, h7⟩⟩
 | p2 f =>
   have hne : ¬ ∃ x i, o.op = .extract x i := fun h => by obtain ⟨i, e⟩ := hex h; cases e
   obtain ⟨x, y, hx, h1⟩ := jaY (show two (o.xs.map vQ) (fun x y => JD x e st fun u e => JD y e st fun v e => f u v fun r => N r e st h) = true from hk);obtain ⟨u, vs', e', h2, h3, h4, h5⟩ := kg h1 R.v R.st;obtain ⟨v, vs2, e2, h6, h7, h8, h9⟩ := kg h5 h3 R.st;obtain ⟨r, h10, h11⟩ := hq u v _ h9;obtain ⟨t, h10⟩ := h10 cf s.σ s.wr;have hg : jL o.xs s.vs s.st = some ([toI u, toI v], vs2) := by rw [hx]; simp only [jL, h2, h6]
   exact ⟨r, e2, st, h, false, _, Kp hne hg h10, ⟨h7, R.st, by rw [h8, h4]; exact R.ds, R.h⟩, rfl, Or.inl ⟨rfl, h11⟩⟩
 | pL f =>
   have hne : ¬ ∃ x i, o.op = .extract x i := fun h => by obtain ⟨i, e⟩ := hex h; cases e
   obtain ⟨l, vs', e', h1, h2, h3, h4⟩ := qG (show J5 (o.xs.map vQ) e st (fun l e => f l fun r => N r e st h) = true from hk) R.v R.st;obtain ⟨r, h5, h6⟩ := hq l _ h4 (by rw [yI h1, hl]);obtain ⟨t, h5⟩ := h5 cf s.σ s.wr;exact ⟨r, e', st, h, false, _, Kp hne h1 h5, ⟨h2, R.st, by rw [h3]; exact R.ds, R.h⟩, rfl, Or.inl ⟨rfl, h6⟩⟩
 | h0 f =>
   have hne : ¬ ∃ x i, o.op = .extract x i := fun h => by obtain ⟨i, e⟩ := hex h; cases e
   obtain ⟨l, vs', e', h1, h2, h3, h4⟩ := qG (show J5 (o.xs.map vQ) e st (fun l e => uC l (f h fun r h => N r e st h) fun _ _ => false) = true from hk) R.v R.st
   rcases jk h4 with ⟨rfl, h5⟩ | ⟨_, _, _, h5⟩
   . obtain ⟨r, h', σ', wr', h6, h7, h8, h9⟩ := hq h _ s.σ s.wr R.h h5;obtain ⟨t, h6⟩ := h6 cf;exact ⟨r, e', st, h', false, _, Kp hne h1 h6, ⟨h2, R.st, by rw [h3]; exact R.ds, h7⟩, h8, Or.inl ⟨rfl, h9⟩⟩
   . cases h5
 | h1 f =>
   have hne : ¬ ∃ x i, o.op = .extract x i := fun h => by obtain ⟨i, e⟩ := hex h; cases e
   obtain ⟨x, hx, h1⟩ := KB (show one (o.xs.map vQ) (fun x => JD x e st fun u e => f u h fun r h => N r e st h) = true from hk);obtain ⟨u, vs', e', h2, h3, h4, h5⟩ := kg h1 R.v R.st;obtain ⟨r, h', σ', wr', h6, h7, h8, h9⟩ := hq u h _ s.σ s.wr R.h h5;obtain ⟨t, h6⟩ := h6 cf;have hg : jL o.xs s.vs s.st = some ([toI u], vs') := by rw [hx]; simp only [jL, h2]
   exact ⟨r, e', st, h', false, _, Kp hne hg h6, ⟨h3, R.st, by rw [h4]; exact R.ds, h7⟩, h8, Or.inl ⟨rfl, h9⟩⟩
 | h2 f =>
   have hne : ¬ ∃ x i, o.op = .extract x i := fun h => by obtain ⟨i, e⟩ := hex h; cases e
   obtain ⟨x, y, hx, h1⟩ := jaY (show two (o.xs.map vQ) (fun x y => JD x e st fun u e => JD y e st fun v e => f u v h fun r h => N r e st h) = true from hk);obtain ⟨u, vs', e', h2, h3, h4, h5⟩ := kg h1 R.v R.st;obtain ⟨v, vs2, e2, h6, h7, h8, h9⟩ := kg h5 h3 R.st;obtain ⟨r, h', σ', wr', h10, h11, h12, h13⟩ := hq u v h _ s.σ s.wr R.h h9;obtain ⟨t, h10⟩ := h10 cf;have hg : jL o.xs s.vs s.st = some ([toI u, toI v], vs2) := by rw [hx]; simp only [jL, h2, h6]
   exact ⟨r, e2, st, h', false, _, Kp hne hg h10, ⟨h7, R.st, by rw [h8, h4]; exact R.ds, h11⟩, h12, Or.inl ⟨rfl, h13⟩⟩
 | hL f =>
   have hne : ¬ ∃ x i, o.op = .extract x i := fun h => by obtain ⟨i, e⟩ := hex h; cases e
   obtain ⟨l, vs', e', h1, h2, h3, h4⟩ := qG (show J5 (o.xs.map vQ) e st (fun l e => f l h fun r h => N r e st h) = true from hk) R.v R.st;obtain ⟨r, h', σ', wr', h5, h6, h7, h8⟩ := hq l h _ s.σ s.wr R.h h4 (by rw [yI h1, hl]);obtain ⟨t, h5⟩ := h5 cf;exact ⟨r, e', st, h', false, _, Kp hne h1 h5, ⟨h2, R.st, by rw [h3]; exact R.ds, h6⟩, h7, Or.inl ⟨rfl, h8⟩⟩
end
end Go.Idl
