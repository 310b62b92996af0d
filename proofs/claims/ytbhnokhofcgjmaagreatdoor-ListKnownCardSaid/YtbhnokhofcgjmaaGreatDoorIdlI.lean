/- The ideal machine and its evaluators, part 9; no conditions. -/
import Derived.Test.YtbhnokhofcgjmaaGreatDoorIdlH
set_option linter.unusedSectionVars false
set_option linter.unusedVariables false
set_option linter.unusedSimpArgs false
namespace Go.Idl
noncomputable section
set_option maxHeartbeats 40000
abbrev KH := U -> H -> Ans
def Hp0 (o : IOp) (f : H -> KH -> Ans) : Prop := ∀ h K ts σ wr, HR h σ wr -> f h K = true -> ∃ r h' σ' wr', (∀ cf, ja cf o ⟨ts, σ, wr⟩ = some ⟨false, toI r, ⟨ts, σ', wr'⟩⟩) /\ HR h' σ' wr' /\ h'.tr = h.tr /\ K r h' = true
def Hp1 (o : IOp) (f : U -> H -> KH -> Ans) : Prop := ∀ u h K ts ts' σ wr, HR h σ wr -> f u h K = true -> getAll (je o) ts = some ([toI u], ts') -> ∃ r h' σ' wr', (∀ cf, ja cf o ⟨ts, σ, wr⟩ = some ⟨false, toI r, ⟨ts', σ', wr'⟩⟩) /\ HR h' σ' wr' /\ h'.tr = h.tr /\ K r h' = true
def Hp2 (o : IOp) (f : U -> U -> H -> KH -> Ans) : Prop := ∀ u v h K ts ts' σ wr, HR h σ wr -> f u v h K = true -> getAll (je o) ts = some ([toI u, toI v], ts') -> ∃ r h' σ' wr', (∀ cf, ja cf o ⟨ts, σ, wr⟩ = some ⟨false, toI r, ⟨ts', σ', wr'⟩⟩) /\ HR h' σ' wr' /\ h'.tr = h.tr /\ K r h' = true
def HpL (o : IOp) (f : U -> H -> KH -> Ans) : Prop := ∀ u h K ts ts' σ wr, HR h σ wr -> f u h K = true -> getAll (je o) ts = some (toL u, ts') -> ∃ r h' σ' wr', (∀ cf, ja cf o ⟨ts, σ, wr⟩ = some ⟨false, toI r, ⟨ts', σ', wr'⟩⟩) /\ HR h' σ' wr' /\ h'.tr = h.tr /\ K r h' = true
def jm2 (zs : List IVal) : U := @Bool.rec (fun _ => U) (.o 2 zs.length 0 0 0 (jja zs 0 .nl)) (.o 1 0 0 0 0 (Qt zs)) (Nat.blt zs.length 9)
theorem jkC (zs : List IVal) : ObR (jm2 zs) (.cells zs) := by
 unfold jm2;rw [vV];split
 . show IObj.cells zs = .cells (toL (Qt zs)); rw [qD]
 . show IObj.cells zs = .cells (lst (toT (jja zs 0 .nl)).g 0 zs.length)
   congr 1
   apply List.ext_getElem?;intro i
   by_cases hi : i < zs.length
   . rw [j0 _ _ _ _ hi, Nat.zero_add, jbh zs 0 .nl i, if_pos (by omega)];simp [hi]
   . rw [List.getElem?_eq_none (by omega), List.getElem?_eq_none (by rw [jh]; omega)]
def jiJ (ob : U) (h : H) (K : KH) : Ans := y0 ob h fun id h' => K (.o 1 id 0 0 0 .nl) h'
theorem jdV (zs : List IVal) : Hp0 (.alloc zs) (jiJ (jm2 zs)) := by
 intro h K ts σ wr hr hk;obtain ⟨h', h1, h2, h3⟩ := kp hr hk (jkC zs);exact ⟨_, h', _, _, fun cf => by simp only [ja]; rfl, h1, h2, h3⟩
def ji2 (h : H) (K : KH) : Ans := y0 (.o 3 0 0 0 0 .nl) h fun id h' => K (.o 3 id 0 0 0 .nl) h'
theorem jfc : Hp0 .mkMap ji2 := by
 intro h K ts σ wr hr hk;obtain ⟨h', h1, h2, h3⟩ := kp hr hk (o := .map []) rfl;exact ⟨_, h', _, _, fun cf => by simp only [ja]; rfl, h1, h2, h3⟩
def jpf (u : U) (h : H) (K : KH) : Ans := zJ u fun l => tst (zD y4 l) (y0 (.o 1 0 0 0 0 l) h fun id h' => K (.o 1 id 0 0 0 .nl) h')
theorem jjB (x : Opd) : Hp1 (.box x) jpf := by
 intro u h K ts ts' σ wr hr hk hg;have hx := j5 hg;obtain ⟨l, h1, h2⟩ := qa hk;obtain ⟨h3, h4⟩ := jb h2;obtain ⟨h', h5, h6, h7⟩ := kp hr h4 (o := .cells (toL l)) rfl;have h3 := qp (fun {x} hx => vE hx) h3;rw [h1] at h3 h5;exact ⟨_, h', _, _, fun cf => by simp only [ja, hx]; rw [if_pos h3]; rfl, h5, h6, h7⟩
def jj1 (l : U) : U -> Nat -> (U -> Nat -> Ans) -> Ans := @U.rec (fun _ => U -> Nat -> (U -> Nat -> Ans) -> Ans) (fun _ _ _ _ _ => false) (fun _ _ _ _ => false) (fun _ _ _ _ _ => false) (fun _ _ _ _ _ _ _ _ _ _ => false) (fun t j K => K t j)
 (fun v _ _ ih t j K => zJ (V4 v) fun cs => KY cs t j fun t' => fN (Nat.add j (KR cs)) fun j' => ih t' j' K) (fun _ _ _ _ _ _ _ _ _ => false) (fun _ _ _ _ => false) (fun _ _ _ _ _ _ _ _ _ _ => false) l
theorem Vo : ∀ {vs t : U} {off : Nat} {K : U -> Ans}, KY vs t off K = true -> ∃ t', (∀ k, gat t' k = if off <= k /\ k < off + (toL vs).length then (toL vs).getD (k - off) ju else gat t k) /\ K t' = true := by
 intro vs
 induction vs with
 | nl => intro t off K h; exact ⟨t, fun k => by rw [if_neg (by rw [kT]; simp only [List.length_nil]; omega)], h⟩
 | cn v vs _ ih =>
   intro t off K h;have h : jdN v t off (fun t' => KY vs t' (Nat.succ off) K) = true := h;rw [Kg] at h;obtain ⟨t', h1, h2⟩ := ih h;refine ⟨t', fun k => ?_, h2⟩;rw [h1, Ka, jn, List.length_cons]
   by_cases e : k = off
   . subst e; rw [if_neg (by omega), if_pos rfl, if_pos (by omega), Nat.sub_self]; rfl
   . rw [if_neg e]
     by_cases e2 : off.succ <= k /\ k < off.succ + (toL vs).length
     . rw [if_pos e2, if_pos (by omega)];have e3 : k - off = (k - off.succ) + 1 := by omega
       rw [e3]; rfl
     . rw [if_neg e2, if_neg (by omega)]
 | _ => intro t off K h; cases h
theorem jc2 : ∀ {l t : U} {j : Nat} {K : U -> Nat -> Ans}, jj1 l t j K = true -> ∃ t' n, lst (toT t').g 0 n = lst (toT t).g 0 j ++ (toL l).flatMap (fun v => (un2 v).cells) /\ K t' n = true := by
 intro l
 induction l with
 | nl => intro t j K h; exact ⟨t, j, by simp [kT], h⟩
 | cn v vs _ ih =>
   intro t j K h;obtain ⟨cs, h1, h2⟩ := qa (show zJ (V4 v) (fun cs => KY cs t j fun t' => fN (Nat.add j (KR cs)) fun j' => jj1 vs t' j' K) = true from h);obtain ⟨t1, h3, h4⟩ := Vo h2;rw [jr, K6, kw] at h4;obtain ⟨t', n, h5, h6⟩ := ih h4;refine ⟨t', n, ?_, h6⟩;rw [h5, jn, List.flatMap_cons, <- zS, <- qc v, <- h1]
   congr 1
   apply List.ext_getElem?;intro i
   by_cases h7 : i < j
   . rw [zL (by rw [jh]; exact h7), j0 _ _ _ _ (by omega), j0 _ _ _ _ h7, h3, if_neg (by omega)]
   . rw [zR (by rw [jh]; omega), jh]
     by_cases h8 : i < j + (toL cs).length
     . rw [j0 _ _ _ _ h8, h3, if_pos (by omega)];have e : i - j < (toL cs).length := by omega
       simp [e]
     . rw [List.getElem?_eq_none (by rw [jh]; omega), List.getElem?_eq_none (by omega)]
 | _ => intro t j K h; cases h
def Yg (esz : Nat) (l : U) (h : H) (K : KH) : Ans := fN (KR l) fun n => tst (Nat.ble n 65536) (tst (zD (sliceLF.elC esz) l) (tst (zD ntU l) (tst (Nat.ble (Nat.mul n esz) 16777216)
 (jj1 l .nl 0 fun t c => y0 (.o 2 c 0 0 0 t) h fun id h' => K (.o 2 esz id 0 n .nl) h'))))
theorem jaD (esz : Nat) (xs : List Opd) : HpL (.buildRs esz xs) (Yg esz) := by
 intro u h K ts ts' σ wr hr hk hg;unfold Yg at hk;rw [jr] at hk;obtain ⟨h1, kq1⟩ := jb hk;obtain ⟨h2, kq2⟩ := jb kq1;obtain ⟨h3, kq3⟩ := jb kq2;obtain ⟨h4, kq4⟩ := jb kq3;obtain ⟨t, c, h5, h6⟩ := jc2 kq4;obtain ⟨h', h7, h8, h9⟩ := kp hr h6 (o := .cells (lst (toT t).g 0 c)) rfl;have h1 := ble_iff.1 h1;have h4 := ble_iff.1 h4;rw [jfk] at h4;rw [kw] at h1 h4 h9;have h2 := jet h2;have h3 := qp (fun {x} hx => Qr hx) h3;have hg' : getAll xs ts = some (toL u, ts') := hg;rw [h5] at h7;refine ⟨_, h', _, _, fun cf => ?_, h7, h8, h9⟩;simp only [ja, hg'];rw [if_pos ⟨h1, h2, h3, h4⟩];simp [lst, Jt]
def jh3 (z : U) (n : Nat) : U -> Nat -> (U -> Nat -> Ans) -> Ans := @Nat.rec (fun _ => U -> Nat -> (U -> Nat -> Ans) -> Ans) (fun t j K => K t j)
 (fun _ ih t j K => KY z t j fun t' => fN (Nat.add j (KR z)) fun j' => ih t' j' K) n
theorem XX {z : U} : ∀ {n : Nat} {t : U} {j : Nat} {K : U -> Nat -> Ans}, jh3 z n t j K = true -> ∃ t' m, lst (toT t').g 0 m = lst (toT t).g 0 j ++ J2 n (toL z) /\ K t' m = true := by
 intro n
 induction n with
 | zero => intro t j K h; exact ⟨t, j, by simp [J2], h⟩
 | succ n ih =>
   intro t j K h;obtain ⟨t1, h3, h4⟩ := Vo (show KY z t j (fun t' => fN (Nat.add j (KR z)) fun j' => jh3 z n t' j' K) = true from h);rw [jr, K6, kw] at h4;obtain ⟨t', m, h5, h6⟩ := ih h4;refine ⟨t', m, ?_, h6⟩;have e0 : J2 (n + 1) (toL z) = toL z ++ J2 n (toL z) := by simp [J2, List.replicate_succ]
   rw [h5, e0, <- zS]
   congr 1
   apply List.ext_getElem?;intro i
   by_cases h7 : i < j
   . rw [zL (by rw [jh]; exact h7), j0 _ _ _ _ (by omega), j0 _ _ _ _ h7, h3, if_neg (by omega)]
   . rw [zR (by rw [jh]; omega), jh]
     by_cases h8 : i < j + (toL z).length
     . rw [j0 _ _ _ _ h8, h3, if_pos (by omega)];have e : i - j < (toL z).length := by omega
       simp [e]
     . rw [List.getElem?_eq_none (by rw [jh]; omega), List.getElem?_eq_none (by omega)]
def jkT (e : U) (n : Nat) : U -> Nat -> (U -> Ans) -> Ans := @Nat.rec (fun _ => U -> Nat -> (U -> Ans) -> Ans) (fun t _ K => K t) (fun _ ih t j K => jdN e t j fun t' => ih t' (Nat.succ j) K) n
theorem jdi {e : U} : ∀ {n : Nat} {t : U} {j : Nat} {K : U -> Ans}, jkT e n t j K = true -> ∃ t', lst (toT t').g 0 (j + n) = lst (toT t).g 0 j ++ List.replicate n (toI e) /\ K t' = true := by
 intro n
 induction n with
 | zero => intro t j K h; exact ⟨t, by simp, h⟩
 | succ n ih =>
   intro t j K h;have h : jdN e t j (fun t' => jkT e n t' (Nat.succ j) K) = true := h;rw [Kg] at h;obtain ⟨t', h1, h2⟩ := ih h;refine ⟨t', ?_, h2⟩;have e1 : j + (n + 1) = j.succ + n := by omega
   rw [e1, h1, List.replicate_succ, <- List.singleton_append, <- zS]
   congr 1
   apply List.ext_getElem?;intro i
   by_cases h7 : i < j
   . rw [zL (by rw [jh]; exact h7), j0 _ _ _ _ (by omega), j0 _ _ _ _ h7, Ka, if_neg (by omega)]
   . rw [zR (by rw [jh]; omega), jh]
     by_cases h8 : i = j
     . subst h8;rw [j0 _ _ _ _ (by omega), Ka, if_pos (by omega)]; simp
     . rw [List.getElem?_eq_none (by rw [jh]; omega), List.getElem?_eq_none (by simp; omega)]
def jfd (esz l c : Nat) : Nat := @Bool.rec (fun _ => Nat) esz (@Bool.rec (fun _ => Nat) 0 esz (Nat.beq c 0)) (Nat.beq l 0)
theorem jfe (esz l c : Nat) : jfd esz l c = jda esz (l : Int) (c : Int) := by
 unfold jfd jda
 cases h1 : Nat.beq l 0 with
 | false => rw [if_neg (fun h => zE h1 (by omega))]
 | true =>
   have h1 := zN h1
   cases h2 : Nat.beq c 0 with
   | true => have h2 := zN h2; rw [if_neg (fun h => h.2 (by omega))]
   | false => have h2 := zE h2; rw [if_pos ⟨by omega, by omega⟩]
def jmr (byref : Bool) (esz bytes : Nat) (z ez : U) (u v : U) (h : H) (K : KH) : Ans := uI u fun _ n => uI v fun _ m => tst (Nat.ble 18446744073709551616 n) (tst (Nat.ble n m) (fN (Nat.sub n 18446744073709551616) fun l => fN (Nat.sub m 18446744073709551616) fun c =>
 tst (Nat.ble (Nat.mul c bytes) 1099511627776) (tst (Nat.ble c 1099511627776) (tst (Nat.beq (KR z) esz) (tst (Nat.blt 0 esz)
   (@Bool.rec (fun _ => Ans) (tst (jdL ez) (tst (Nat.ble l 65536) (fN (jfd esz l c) fun w => jkT ez l .nl 0 fun t => K (.o 16 w 0 0 l t) h))) (jh3 z c .nl 0 fun t q => y0 (.o 2 q 0 0 0 t) h fun id h' => K (.o 2 esz id 0 l .nl) h') byref))))))
theorem jhw (byref : Bool) (esz bytes : Nat) (zs : List IVal) (x y : Opd) : Hp2 (.mkSl byref esz bytes zs x y) (jmr byref esz bytes (Qt zs) (rep (Xo zs))) := by
 intro u v h K ts ts' σ wr hr hk hg;obtain ⟨t1, hx, hy⟩ := qP hg;obtain ⟨k, n, rfl, kq1⟩ := jV hk;obtain ⟨k', m, rfl, g1⟩ := jV kq1;obtain ⟨h1, g1⟩ := jb g1;obtain ⟨h2, g1⟩ := jb g1;rw [jr, jr] at g1;obtain ⟨h3, g1⟩ := jb g1;obtain ⟨h4, g1⟩ := jb g1;obtain ⟨h5, g1⟩ := jb g1;obtain ⟨h6, g1⟩ := jb g1;have h1 := ble_iff.1 h1;have h2 := ble_iff.1 h2;have h3 := ble_iff.1 h3;have h4 := ble_iff.1 h4;have h5 := zN h5;have h6 := jy h6;rw [QO] at h3 h4;rw [jfk] at h3;rw [kw, qD] at h5;rw [qJ] at hx hy;have e1 : (0 : Int) <= (n : Int) - 18446744073709551616 := by omega
 have e2 : (n : Int) - 18446744073709551616 <= (m : Int) - 18446744073709551616 := by omega
 have e4 : (m : Int) - 18446744073709551616 = ((m - 18446744073709551616 : Nat) : Int) := by omega
 have e3 : ((m : Int) - 18446744073709551616) * bytes <= 1099511627776 := by
   rw [e4];generalize m - 18446744073709551616 = c at h3;have := Int.ofNat_le.2 h3;rw [Int.natCast_mul] at this;exact this
 have e5 : (m : Int) - 18446744073709551616 <= 1099511627776 := by omega
 have e6 : ((n : Int) - 18446744073709551616).toNat = n - 18446744073709551616 := by omega
 have e7 : ((m : Int) - 18446744073709551616).toNat = m - 18446744073709551616 := by omega
 rcases jf g1 with ⟨hb, g2⟩ | ⟨hb, g2⟩
 . subst hb;obtain ⟨t, q, h7, h8⟩ := XX g2;obtain ⟨h', h9, h10, h11⟩ := kp hr h8 (o := .cells (lst (toT t).g 0 q)) rfl;have e8 : lst (toT U.nl).g 0 0 = [] := rfl;rw [h7, qD, e8, List.nil_append, QO] at h9;rw [QO] at h11;refine ⟨_, h', _, _, fun cf => ?_, h9, h10, h11⟩;simp only [ja, hx, hy];rw [if_pos ⟨e1, e2, e3, e5, h5, h6⟩, if_pos trivial, e6, e7, Jt]
 . subst hb;obtain ⟨h7, g2⟩ := jb g2;obtain ⟨h8, g2⟩ := jb g2;rw [jr] at g2;obtain ⟨t, h9, h10⟩ := jdi g2;have h8 := ble_iff.1 h8;rw [Jd, zy] at h7;rw [QO] at h8 h9 h10;rw [QO, jfe] at h10;refine ⟨_, h, σ, wr, fun cf => ?_, hr, rfl, h10⟩;simp only [ja, hx, hy];rw [if_pos ⟨e1, e2, e3, e5, h5, h6⟩];simp only [Bool.false_eq_true, if_false];have e8 : lst (toT U.nl).g 0 0 = [] := rfl;rw [Nat.zero_add, e8, List.nil_append, zy] at h9;rw [if_pos ⟨h7, by omega⟩, kS, h9, e6];have e9 : (n : Int) - 18446744073709551616 = ((n - 18446744073709551616 : Nat) : Int) := by omega
   rw [e9, e4];rfl
theorem ke {σ : List IObj} {id : Nat} {cs : List IVal} (h : σ[id]? = some (.cells cs)) : jt σ id = some cs := by unfold jt; rw [h]
def jg4 (y : U) (n : Nat) : Nat -> U -> Nat -> (U -> Nat -> Ans) -> Ans := @Nat.rec (fun _ => Nat -> U -> Nat -> (U -> Nat -> Ans) -> Ans) (fun _ t j K => K t j)
 (fun _ ih i t j K => zJ (V4 (atR y i)) fun cs => KY cs t j fun t' => fN (Nat.add j (KR cs)) fun j' => ih (Nat.succ i) t' j' K) n
theorem XM {y : U} : ∀ {n i : Nat} {t : U} {j : Nat} {K : U -> Nat -> Ans}, jg4 y n i t j K = true -> ∃ t' m, lst (toT t').g 0 m = lst (toT t).g 0 j ++ (lst (toT y).g i n).flatMap (fun v => (un2 v).cells) /\ K t' m = true := by
 intro n
 induction n with
 | zero => intro i t j K h; exact ⟨t, j, by simp [lst], h⟩
 | succ n ih =>
   intro i t j K h;obtain ⟨cs, h1, h2⟩ := qa (show zJ (V4 (atR y i)) (fun cs => KY cs t j fun t' => fN (Nat.add j (KR cs)) fun j' => jg4 y n (Nat.succ i) t' j' K) = true from h);obtain ⟨t1, h3, h4⟩ := Vo h2;rw [jr, K6, kw] at h4;obtain ⟨t', m, h5, h6⟩ := ih h4;refine ⟨t', m, ?_, h6⟩;rw [h5, Yw, List.flatMap_cons, <- zS];have e0 : (un2 (gat y i)).cells = toL cs := by rw [h1, qc, zG, Ye]
   rw [e0]
   congr 1
   apply List.ext_getElem?;intro q
   by_cases h7 : q < j
   . rw [zL (by rw [jh]; exact h7), j0 _ _ _ _ (by omega), j0 _ _ _ _ h7, h3, if_neg (by omega)]
   . rw [zR (by rw [jh]; omega), jh]
     by_cases h8 : q < j + (toL cs).length
     . rw [j0 _ _ _ _ h8, h3, if_pos (by omega)];have e : q - j < (toL cs).length := by omega
       simp [e]
     . rw [List.getElem?_eq_none (by rw [jh]; omega), List.getElem?_eq_none (by omega)]
theorem jhp (f : Nat -> Nat -> IVal) (c n q : Nat) (h : n <= q) : (lst f c q).take n = lst f c n := by
 have := Kx f c q 0 n (Nat.zero_le _) h;simpa using this
def jjw (esz bytes : Nat) (u y : U) (c' d' : Nat) (h : H) (K : KH) : Ans := uO (jm1 esz u) fun t a b c d x => tst (Nat.blt 0 esz) (tst (Nat.beq a esz) (fN (Nat.add d d') fun n =>
 tst (Nat.ble (Nat.mul n bytes) 1099511627776) (tst (Nat.ble n 1099511627776) (tst (sliceLF.eszOK esz y c' d')
   (@Bool.rec (fun _ => Ans)
     (tst (Nat.beq t 16) (tst (Nat.beq d 0) (@Bool.rec (fun _ => Ans) (jg4 y d' c' .nl 0 fun z m => y0 (.o 2 m 0 0 0 z) h fun id h' => K (.o 2 esz id 0 d' .nl) h') (K (.o 16 esz b c 0 x) h) (Nat.beq d' 0))))
     (tst (Nat.beq c 0) (vU b h fun ob => uO ob fun w q _ _ _ tr => tst (Nat.beq w 2) (fN (Nat.mul d esz) fun j => tst (Nat.ble j q) (jg4 y d' c' tr j fun z m =>
       vB b (.o 9 0 0 0 0 .nl) false h fun h1 => y0 (.o 2 m 0 0 0 z) h1 fun id h' => K (.o 2 esz id 0 n .nl) h')))) (Nat.beq t 2))))))
def jlI (esz bytes : Nat) (u v : U) (h : H) (K : KH) : Ans := uO v fun t' a' b' c' d' y => @Bool.rec (fun _ => Ans) (tst (Nat.beq t' 16) (jjw esz bytes u y c' d' h K))
 (tst (Nat.beq a' 1) (tst (Nat.beq esz 1) (vU b' h fun ob => uO ob fun w q _ _ _ tr => tst (Nat.beq w 2) (tst (Nat.ble (Nat.add c' d') q) (jjw esz bytes u tr c' d' h K))))) (Nat.beq t' 2)
theorem jbP {esz bytes : Nat} {sv x : Opd} {u y : U} {c' d' : Nat} {h : H} {K : KH} {ts ts' t1 : Ts} {σ : List IObj} {wr : List (Nat × Bool)} {vv : IVal} (hr : HR h σ wr) (hk : jjw esz bytes u y c' d' h K = true) (hx : sv.get ts = some (toI u, t1)) (hy : x.get t1 = some (vv, ts'))
   (he : sliceLF.eszOK esz y c' d' = true -> qr false esz vv σ = some (lst (toT y).g c' d')) : ∃ r h' σ' wr', (∀ cf, ja cf (.append true false esz bytes sv x) ⟨ts, σ, wr⟩ = some ⟨false, toI r, ⟨ts', σ', wr'⟩⟩) /\ HR h' σ' wr' /\ h'.tr = h.tr /\ K r h' = true := by
 obtain ⟨t, a, b, c, d, x', hu, k3⟩ := jq hk;clear hk;obtain ⟨h2, k4⟩ := jb k3;obtain ⟨h3, k5⟩ := jb k4;rw [jr] at k5;obtain ⟨h4, k6⟩ := jb k5;obtain ⟨h5, k7⟩ := jb k6;obtain ⟨h6, k8⟩ := jb k7;clear k3 k4 k5 k6 k7;have := zN h3; subst this;have h2' := jy h2;have h4' := ble_iff.1 h4;have h5' := ble_iff.1 h5;rw [jfk, K6] at h4';rw [K6] at h5';have h6' := he h6
 rcases jf k8 with ⟨h7, k9⟩ | ⟨_, k9⟩
 . clear k8;have := zN h7; subst this;obtain ⟨h8, k10⟩ := jb k9;clear k9;have := zN h8; subst this;obtain ⟨ob, o, h9, h10, k11⟩ := jS hr k10;clear k10;obtain ⟨w, q, _, _, _, tr, rfl, k12⟩ := jq k11;clear k11;obtain ⟨h11, k13⟩ := jb k12;clear k12;have := zN h11; subst this;rw [jr, jfk] at k13;obtain ⟨h12, k14⟩ := jb k13;have h12' := ble_iff.1 h12;obtain ⟨z, m, h13, k15⟩ := XM k14;obtain ⟨hh1, r1, r2, r3, k16⟩ := ku hr k15 (o := .dead) rfl;obtain ⟨hh2, r4, r5, k17⟩ := kp r1 k16 (o := .cells (lst (toT z).g 0 m)) rfl;have ho : o = .cells (lst (toT tr).g 0 q) := h10.o;subst ho;have hb : nilOwn a (toI u) = _ := (Yz a u).symm.trans (by rw [hu, Jt]);rw [h13] at r4;rw [K6, List.length_set] at k17;refine ⟨_, hh2, _, _, fun cf => ?_, r4, r5.trans r3, k17⟩;simp only [ja, hx, hy, hb, h6', jh, ke h9];rw [if_pos ⟨trivial, trivial, trivial, h2', h4', h5'⟩, if_pos h12', jhp _ _ _ _ h12', Jt]
 . clear k8;obtain ⟨h7, k10⟩ := jb k9;clear k9;have := zN h7; subst this;obtain ⟨h8, k11⟩ := jb k10;clear k10;have := zN h8; subst this;have hb : nilOwn a (toI u) = _ := (Yz a u).symm.trans (by rw [hu, kS]);rw [Nat.zero_add] at h4' h5';have e0 : lst (toT x').g c 0 = [] := rfl;rw [e0] at hb
   rcases jf k11 with ⟨h9, k12⟩ | ⟨h9, k12⟩
   . clear k11;have h9 := zN h9;subst h9;refine ⟨_, h, σ, wr, fun cf => ?_, hr, rfl, k12⟩;simp only [ja, hx, hy, hb, h6', jh, List.length_nil, Nat.zero_add, rv, if_true];rw [if_pos ⟨trivial, h2', h4', h5'⟩, kS, e0]
   . have h9 := zE h9;obtain ⟨z, m, h13, k13⟩ := XM k12;obtain ⟨hh2, r4, r5, k14⟩ := kp hr k13 (o := .cells (lst (toT z).g 0 m)) rfl;have e8 : lst (toT U.nl).g 0 0 = [] := rfl;rw [h13, e8, List.nil_append] at r4;refine ⟨_, hh2, _, _, fun cf => ?_, r4, r5, k14⟩;simp only [ja, hx, hy, hb, h6', jh, List.length_nil, Nat.zero_add, if_true];rw [if_pos ⟨trivial, h2', h4', h5'⟩, if_neg h9, Jt]
theorem jgE (esz bytes : Nat) (sv x : Opd) : Hp2 (.append true false esz bytes sv x) (jlI esz bytes) := by
 intro u v h K ts ts' σ wr hr hk hg;obtain ⟨t1, hx, hy⟩ := qP hg;obtain ⟨t', a', b', c', d', y, rfl, k1⟩ := jq hk
 rcases jf k1 with ⟨h1, k2⟩ | ⟨_, k2⟩
 . have := zN h1; subst this;obtain ⟨h2, k3⟩ := jb k2;obtain ⟨h3, k4⟩ := jb k3;obtain ⟨ob, o, h9, h10, k5⟩ := jS hr k4;obtain ⟨w, q, _, _, _, tr, rfl, k6⟩ := jq k5;obtain ⟨h11, k7⟩ := jb k6;obtain ⟨h12, k8⟩ := jb k7;have := zN h2; subst this;have := zN h3; subst this;have := zN h11; subst this;have h12' := ble_iff.1 h12;rw [K6] at h12';have ho : o = .cells (lst (toT tr).g 0 q) := h10.o;subst ho;rw [Jt] at hy;refine jbP hr k8 hx hy fun _ => ?_;have e := Kx (toT tr).g 0 q c' (c' + d') (by omega) h12';rw [Nat.zero_add, Nat.add_sub_cancel_left] at e;simp only [qr, ke h9, jh];rw [if_pos ⟨trivial, trivial⟩, if_pos h12', <- e, List.drop_take, Nat.add_sub_cancel_left]
 . obtain ⟨h1, k3⟩ := jb k2;have := zN h1; subst this;rw [kS] at hy;refine jbP hr k3 hx hy fun h6 => ?_;have h6' := jbZ h6;simp only [qr, if_pos h6']
def jee (z : U) (n : Nat) : U -> Nat -> (U -> Ans) -> Ans := @Nat.rec (fun _ => U -> Nat -> (U -> Ans) -> Ans) (fun ob _ K => K ob) (fun _ ih ob j K => qq ob j z fun ob' => fN (Nat.add j (KR z)) fun j' => ih ob' j' K) n
theorem ZR : ∀ {a b cs : List IVal} {off : Nat}, ji cs off (a ++ b) = ji (ji cs off a) (off + a.length) b := by
 intro a
 induction a with
 | nil => intro b cs off; rfl
 | cons v a ih => intro b cs off; simp only [List.cons_append, ji, ih, List.length_cons]; congr 1; omega
theorem jaH {z : U} : ∀ {n : Nat} {ob : U} {j : Nat} {K : U -> Ans} {o : IObj}, ObR ob o -> 0 < n -> jee z n ob j K = true -> ∃ ob' cs, o = .cells cs /\ j + n * (toL z).length <= cs.length /\ ObR ob' (.cells (ji cs j (J2 n (toL z)))) /\ K ob' = true := by
 intro n
 induction n with
 | zero => intro ob j K o _ h; omega
 | succ n ih =>
   intro ob j K o ho _ h;obtain ⟨t, a, b, c, d, x, cs, t', a', b', c', d', x', rfl, h1, h2, h3, h4⟩ := kC (show qq ob j z (fun ob' => fN (Nat.add j (KR z)) fun j' => jee z n ob' j' K) = true from h);rw [jr, K6, kw] at h4;have ho : o = .cells cs := ho.o.trans h1;have e0 : J2 (n + 1) (toL z) = toL z ++ J2 n (toL z) := by simp [J2, List.replicate_succ]
   letI : Globs := ⟨fun _ => none⟩;have hlen : (ji cs j (toL z)).length = cs.length := kQ h2
   rcases Nat.eq_zero_or_pos n with hn | hn
   . subst hn;refine ⟨_, cs, ho, by omega, ?_, h4⟩;rw [e0]; simp only [J2, List.replicate_zero, List.flatten_nil, List.append_nil];exact vb h3
   . obtain ⟨ob', cs2, h5, h6, h7, h8⟩ := ih (vb h3) hn h4;cases h5;refine ⟨ob', cs, ho, ?_, ?_, h8⟩
     . rw [hlen] at h6; rw [Nat.add_mul]; omega
     . rw [e0, ZR]; exact h7
def jiP (z : U) (fl : Bool) (u : U) (h : H) (K : KH) : Ans := uO u fun t a b c d x => @Bool.rec (fun _ => Ans) (tst (Nat.beq t 16) (tst (Nat.beq d 0) (K (.o 18 0 0 0 0 .nl) h)))
 (tst (Nat.beq a (KR z)) (tst (Nat.blt 0 a) (tst (Nat.blt 0 d) (vU b h fun ob => jee z d ob c fun ob' => vB b ob' fl h fun h' => K (.o 18 0 0 0 0 .nl) h')))) (Nat.beq t 2)
theorem jed (zs : List IVal) (x : Opd) : Hp1 (.clear zs x) (jiP (Qt zs) (!(zs.all nr1))) := by
 intro u h K ts ts' σ wr hr hk hg;have hx := j5 hg;obtain ⟨t, a, b, c, d, y, rfl, k1⟩ := jq hk;clear hk
 rcases jf k1 with ⟨h1, k2⟩ | ⟨_, k2⟩
 . clear k1;have := zN h1; subst this;obtain ⟨h2, k3⟩ := jb k2;obtain ⟨h3, k4⟩ := jb k3;obtain ⟨h4, k5⟩ := jb k4;have h2' := zN h2;rw [kw, qD] at h2';have h3' := jy h3;have h4' := jy h4;obtain ⟨ob, o, h9, h10, k6⟩ := jS hr k5;obtain ⟨ob', cs, h5, h6, h7, k7⟩ := jaH h10 h4' k6;subst h5;rw [qD] at h6 h7;obtain ⟨hh1, r1, r2, r3, k8⟩ := ku hr k7 h7;rw [Jt] at hx;refine ⟨_, hh1, _, _, fun cf => ?_, r1, r3, k8⟩;simp only [ja, hx, ke h9];rw [if_pos ⟨h2', h3', by rw [h2']; exact h6⟩];rfl
 . clear k1;obtain ⟨h1, k3⟩ := jb k2;clear k2;have := zN h1; subst this;obtain ⟨h2, k4⟩ := jb k3;clear k3;have := zN h2; subst this;rw [kS] at hx;refine ⟨_, h, σ, wr, fun cf => ?_, hr, rfl, k4⟩;have e0 : lst (toT y).g c 0 = [] := rfl;simp only [ja, hx, e0, rv];rfl
def jmk (u : U) (h : H) (K : KH) : Ans := uO u fun t a b c d x => @Bool.rec (fun _ => Ans) (tst (Nat.beq t 6) (jkB b x fun v => K v h)) (jj6 a h fun ob h => Zf ob b fun v => frc (V4 v) fun w => K w h) (Nat.beq t 1)
theorem jhj (x : Opd) : Hp1 (.load false none x) jmk := by
 intro u h K ts ts' σ wr hr hk hg;have hx := j5 hg;obtain ⟨t, a, b, c, d, y, rfl, kq1⟩ := jq hk
 rcases jf kq1 with ⟨h1, h2⟩ | ⟨_, h2⟩
 . have := zN h1; subst this;obtain ⟨ob, o, h', h3, h4, hr', htr', h5⟩ := XO hr h2;obtain ⟨t', a', b', c', d', x', cs, w, rfl, h6, h7, h8⟩ := J7 h5;rw [yb] at h8;have ho : o = .cells cs := h4.o.trans h6;subst ho;rw [vz] at hx;refine ⟨_, h', σ, wr, fun cf => ?_, hr', htr', h8⟩;simp only [ja, hx, ke h3, kx, h7, rv, qc, Bool.false_eq_true, if_false]
 . obtain ⟨h3, h4⟩ := jb h2;have := zN h3; subst this;obtain ⟨w, h5, h6⟩ := Jk h4;rw [VZ] at hx;exact ⟨w, h, σ, wr, fun cf => by simp only [ja, hx, kx, h5, rv], hr, rfl, h6⟩
def jmm (n : Nat) (u : U) (h : H) (K : KH) : Ans := uO u fun t a b c d x => @Bool.rec (fun _ => Ans) (tst (Nat.beq t 6) (jaJ b x fun y => jbG n y fun r => K (.o 17 0 0 0 0 r) h)) (jj6 a h fun ob h => Vd ob n b fun r => K (.o 17 1 0 0 0 r) h) (Nat.beq t 1)
theorem jhm (n : Nat) (x : Opd) : Hp1 (.load false (some n) x) (jmm n) := by
 intro u h K ts ts' σ wr hr hk hg;have hx := j5 hg;obtain ⟨t, a, b, c, d, y, rfl, kq1⟩ := jq hk
 rcases jf kq1 with ⟨h1, h2⟩ | ⟨_, h2⟩
 . have := zN h1; subst this;obtain ⟨ob, o, h', h3, h4, hr', htr', h5⟩ := XO hr h2;obtain ⟨t', a', b', c', d', x', cs, r, rfl, h6, h7, h8, h9⟩ := zI h5;have ho : o = .cells cs := h4.o.trans h6;subst ho;rw [vz] at hx;refine ⟨_, h', σ, wr, fun cf => ?_, hr', htr', h9⟩;simp only [ja, hx, ke h3, kx];rw [if_pos h7];simp only [rv, Bool.false_eq_true, if_false];rw [zn, h8];rfl
 . obtain ⟨h3, h4⟩ := jb h2;have := zN h3; subst this;obtain ⟨z, h5, h6, h7⟩ := yE h4;obtain ⟨r, h8, h9, h10⟩ := yR h7;rw [VZ] at hx;rw [h5] at h8 h9;refine ⟨_, h, σ, wr, fun cf => ?_, hr, rfl, h10⟩;simp only [ja, hx, kx];rw [if_pos (by simp at h9; omega)];simp only [rv];rw [zn, if_pos rfl, h8]
def jml (u : U) (h : H) (K : KH) : Ans := uO u fun t a b c d x => @Bool.rec (fun _ => Ans) (tst (Nat.beq t 6) (jkB b x fun v => K v h)) (vU a h fun ob => Zf ob b fun v => frc v fun v => frc (V4 v) fun w => qq ob b (.cn w .nl) fun ob' => tst (y4 v) (vB a ob' false h fun h' => K v h')) (Nat.beq t 1)
theorem Zh {v : IVal} (h : v.isCell = true) : (un2 v).cells = [un2 v] := by cases v <;> first | rfl | cases h
theorem jhl (x : Opd) : Hp1 (.load true none x) jml := by
 intro u h K ts ts' σ wr hr hk hg;have hx := j5 hg;obtain ⟨t, a, b, c, d, y, rfl, kq1⟩ := jq hk
 rcases jf kq1 with ⟨h1, h2⟩ | ⟨_, h2⟩
 rotate_left
 . obtain ⟨h3, h4⟩ := jb h2;have := zN h3; subst this;obtain ⟨w, h5, h6⟩ := Jk h4;rw [VZ] at hx;exact ⟨w, h, σ, wr, fun cf => by simp only [ja, hx, kx, h5, rv], hr, rfl, h6⟩
 have := zN h1; subst this;obtain ⟨ob, o, h3, h4, h5⟩ := jS hr h2;obtain ⟨t', a', b', c', d', x', cs, w, rfl, h6, h7, h8⟩ := J7 h5;rw [yb, yb] at h8;have ho : o = .cells cs := h4.o.trans h6;subst ho;obtain ⟨_, _, _, _, _, _, cs2, t2, a2, b2, c2, d2, x2, e1, e2, h9, h10, h11⟩ := kC h8;rw [h6] at e2;cases e2;obtain ⟨h12, h13⟩ := jb h11;have h12 := vE h12;obtain ⟨h', h14, _, h15, h16⟩ := ku hr h13 (o := .cells (ji cs b (toL (.cn (V4 w) .nl)))) (vb h10);rw [vz] at hx;refine ⟨w, h', _, _, fun cf => ?_, h14, h15, h16⟩;simp only [ja, hx, ke h3, kx, h7, if_true];rw [Zh h12, jn, kT, qc]
def ji1 (n : Nat) (u : U) (h : H) (K : KH) : Ans := uO u fun t a b c d x => @Bool.rec (fun _ => Ans) (tst (Nat.beq t 6) (jaJ b x fun y => jbG n y fun r => K (.o 17 0 0 0 0 r) h)) (vU a h fun ob => Vd ob n b fun r => je2 jjh r fun r1 => qq ob b r1 fun ob' => vB a ob' false h fun h' => K (.o 17 0 0 0 0 r) h') (Nat.beq t 1)
theorem jeZ (n : Nat) (x : Opd) : Hp1 (.load true (some n) x) (ji1 n) := by
 intro u h K ts ts' σ wr hr hk hg;have hx := j5 hg;obtain ⟨t, a, b, c, d, y, rfl, kq1⟩ := jq hk
 rcases jf kq1 with ⟨h1, h2⟩ | ⟨_, h2⟩
 rotate_left
 . obtain ⟨h3, h4⟩ := jb h2;have := zN h3; subst this;obtain ⟨z, h5, h6, h7⟩ := yE h4;obtain ⟨r, h8, h9, h10⟩ := yR h7;rw [VZ] at hx;rw [h5] at h8 h9;refine ⟨_, h, σ, wr, fun cf => ?_, hr, rfl, h10⟩;simp only [ja, hx, kx];rw [if_pos (by simp at h9; omega)];simp only [rv];rw [zn, if_pos rfl, h8]
 have := zN h1; subst this;obtain ⟨ob, o, h3, h4, h5⟩ := jS hr h2;obtain ⟨t', a', b', c', d', x', cs, r, rfl, h6, h7, h8, h9⟩ := zI h5;have ho : o = .cells cs := h4.o.trans h6;subst ho;obtain ⟨r1, g1, g2⟩ := vI (g := un1) V3 h9;obtain ⟨_, _, _, _, _, _, cs2, t2, a2, b2, c2, d2, x2, e1, e2, h10, h11, h12⟩ := kC g2;rw [h6] at e2;cases e2;obtain ⟨h', h14, _, h15, h16⟩ := ku hr h12 (o := .cells (ji cs b (toL r1))) (vb h11);rw [vz] at hx;refine ⟨_, h', _, _, fun cf => ?_, h14, h15, h16⟩;simp only [ja, hx, ke h3, kx];rw [if_pos h7];simp only [if_true];rw [zn, if_pos rfl, h8, g1, h8];rfl
def jhk (mvf : Bool) (n : Option Nat) : U -> H -> KH -> Ans := @Bool.rec (fun _ => U -> H -> KH -> Ans) (@Option.rec Nat (fun _ => U -> H -> KH -> Ans) jmk jmm n) (@Option.rec Nat (fun _ => U -> H -> KH -> Ans) jml ji1 n) mvf
theorem Yt (mvf : Bool) (n : Option Nat) (x : Opd) : Hp1 (.load mvf n x) (jhk mvf n) := by
 cases mvf <;> cases n
 . exact jhj x
 . exact jhm _ x
 . exact jhl x
 . exact jeZ _ x
def jf8 (n : Nat) (u v : U) (h : H) (K : KH) : Ans := uO u fun t a b _ _ _ => tst (Nat.beq t 1) (zJ v fun l => tst (Nat.beq (KR l) n) (tst (zD y4 l) (vU a h fun ob => qq ob b l fun ob' => vB a ob' (jcb (zD jmx l)) h fun h' => K (.o 18 0 0 0 0 .nl) h')))
theorem jai (n : Nat) (x y : Opd) : Hp2 (.store n x y) (jf8 n) := by
 intro u v h K ts ts' σ wr hr hk hg;obtain ⟨t1, hx, hy⟩ := qP hg;obtain ⟨t, a, b, c, d, z, rfl, kq1⟩ := jq hk;obtain ⟨h1, kq2⟩ := jb kq1;have := zN h1; subst this;obtain ⟨l, h2, kq3⟩ := qa kq2;obtain ⟨h3, kq4⟩ := jb kq3;obtain ⟨h4, kq5⟩ := jb kq4;obtain ⟨ob, o, h5, h6, kq6⟩ := jS hr kq5;obtain ⟨t', a', b', c', d', x', cs, t2, a2, b2, c2, d2, x2, rfl, h7, h8, h9, kq7⟩ := kC kq6;have ho : o = .cells cs := h6.o.trans h7;subst ho;obtain ⟨h', h10, _, h11, h12⟩ := ku hr kq7 (o := .cells (ji cs b (toL l))) (vb h9);have h3 := zN h3;have h4 := qp (fun {x} hx => vE hx) h4;rw [kw] at h3;rw [h2] at h3 h4 h8 h10;rw [vz] at hx;refine ⟨_, h', _, _, fun cf => ?_, h10, h11, h12⟩;simp only [ja, hx, hy, ke h5];rw [if_pos ⟨h3, by rw [<- h3]; exact h8, h4⟩, VB, zF ja1, h2];rfl
def jjj (G : Nat) (tab : List TypeId) (a b : IVal) : Bool := match Zw G a, Zw G b with
 | some t, some t' => decide (t = t' /\ tab.contains t = true)
 | _, _ => false
def Zm (u : U) (K : Ans) : Ans := (@U.rec (fun _ => Ans -> Ans) (fun _ _ => fun _ => false) (fun _ => fun _ => false) (fun _ _ => fun _ => false) (fun _ _ _ _ _ _ _ => fun _ => false) (fun K => K) (fun _ _ _ _ => fun _ => false) (fun _ _ _ _ _ _ => fun _ => false) (fun _ => fun _ => false) (fun _ _ _ _ _ _ _ => fun _ => false) u) K
theorem j9 {u : U} {K : Ans} (h : Zm u K = true) : u = .nl /\ K = true := by cases u <;> first | exact ⟨rfl, h⟩ | cases h
def jmU (G : Nat) (tab : List TypeId) (u v : U) (h : H) (K : KH) : Ans :=
 uO u fun t _ _ _ _ x => tst (Nat.beq t 17) (uC x false fun a x => uC x false fun p x => uC x false fun f x => Zm x (uI f fun k n => tst (Nat.beq k 7) (tst (Nat.beq n 18446744073709552022) (uO p fun t1 id off _ _ _ => tst (Nat.beq t1 1)
 (uO v fun t _ _ _ _ x => tst (Nat.beq t 17) (uC x false fun b x => uC x false fun p x => uC x false fun f x => Zm x (uI f fun k n => tst (Nat.beq k 7) (tst (Nat.beq n 18446744073709551766) (uO p fun t1 _ o2 _ _ y => tst (Nat.beq t1 6) (tst (Nat.beq o2 0) (uC y false fun w y => Zm y
 (tst (jjj G tab (toI a) (toI b)) (vU id h fun ob => qq ob off (.cn w .nl) fun ob' => vB id ob' (jcb (zD jmx (.cn w .nl))) h fun h' => K (.o 18 0 0 0 0 .nl) h')))))))))))))
theorem jpd {a b c d : Nat} {x y z : U} {w : Nat} : toI (.o 17 w b c d (.cn x (.cn y (.cn z .nl)))) = .agg (if w = 0 then [toI x, toI y, toI z] else [un1 (toI x), un1 (toI y), un1 (toI z)]) := by
 rw [zn]; split <;> rfl
theorem jeN {G : Nat} {v : IVal} {t : TypeId} (h : Zw G v = some t) : un1 v = v := by
 cases v <;> first | rfl | cases h
theorem jiC (G : Nat) (tab : List TypeId) (x y : Opd) : Hp2 (.vSet G tab x y) (jmU G tab) := by
 intro u v h K ts ts' σ wr hr hk hg;obtain ⟨t1, hx, hy⟩ := qP hg;obtain ⟨t, q, b, c, d, z, rfl, kq1⟩ := jq hk;obtain ⟨g1, kq2⟩ := jb kq1;have e1 := zN g1; subst e1
 rcases jj kq2 with ⟨_, kq3⟩ | ⟨ua, z, rfl, kq3⟩
 . cases kq3
 rcases jj kq3 with ⟨_, kq4⟩ | ⟨up, z, rfl, kq4⟩
 . cases kq4
 rcases jj kq4 with ⟨_, kq5⟩ | ⟨uf, z, rfl, kq5⟩
 . cases kq5
 obtain ⟨rfl, kq6⟩ := j9 kq5;obtain ⟨kk, n, rfl, kq7⟩ := jV kq6;obtain ⟨g2, kq8⟩ := jb kq7;have e2 := zN g2; subst e2;obtain ⟨g3, kq9⟩ := jb kq8;have e3 := zN g3; subst e3;obtain ⟨_, id, off, _, _, _, rfl, kq10⟩ := jq kq9;obtain ⟨g4, kq11⟩ := jb kq10;have e4 := zN g4; subst e4;obtain ⟨t, q', b', c', d', z, rfl, kq12⟩ := jq kq11;obtain ⟨g5, kq13⟩ := jb kq12;have e5 := zN g5; subst e5
 rcases jj kq13 with ⟨_, kq14⟩ | ⟨ub, z, rfl, kq14⟩
 . cases kq14
 rcases jj kq14 with ⟨_, kq15⟩ | ⟨up2, z, rfl, kq15⟩
 . cases kq15
 rcases jj kq15 with ⟨_, kq16⟩ | ⟨uf, z, rfl, kq16⟩
 . cases kq16
 obtain ⟨rfl, kq17⟩ := j9 kq16;obtain ⟨kk, n, rfl, kq18⟩ := jV kq17;obtain ⟨g6, kq19⟩ := jb kq18;have e6 := zN g6; subst e6;obtain ⟨g7, kq20⟩ := jb kq19;have e7 := zN g7; subst e7;obtain ⟨_, a2, o2, c2, d2, y2, rfl, kq21⟩ := jq kq20;obtain ⟨g8, kq22⟩ := jb kq21;have e8 := zN g8; subst e8;obtain ⟨g9, kq23⟩ := jb kq22;have e9 := zN g9; subst e9
 rcases jj kq23 with ⟨_, kq24⟩ | ⟨w, z, rfl, kq24⟩
 . cases kq24
 obtain ⟨rfl, kq25⟩ := j9 kq24;obtain ⟨h2, kq26⟩ := jb kq25;obtain ⟨ob, o, h5, h6, kq27⟩ := jS hr kq26;obtain ⟨t', a', b', c', d', x', cs, t2, a2', b2, c2', d2', x2, rfl, h7, h8, h9, kq28⟩ := kC kq27;have ho : o = .cells cs := h6.o.trans h7;subst ho;obtain ⟨h', h10, _, h11, h12⟩ := ku hr kq28 (o := .cells (ji cs off (toL (.cn w .nl)))) (vb h9);unfold jjj at h2;split at h2
 . rename_i ty1 ty2 e1 e2;obtain ⟨rfl, h3⟩ := of_decide_eq_true h2;have ex : x.get ts = some (IVal.agg [toI ua, .ptr id off, .int .u64 406], t1) := by
     rw [hx, jpd (a := 0), jeN e1]; split <;> rfl
   have ey : y.get t1 = some (IVal.agg [toI ub, .pv (a2 != 0) [toI w] 0, .int .u64 150], ts') := by
     rw [hy, jpd (a := 0), jeN e2]; split <;> rfl
   refine ⟨_, h', _, _, fun cf => ?_, h10, h11, h12⟩;simp only [ja, ex, ey, e1, e2, h3, ke h5, if_true, and_self];rw [jn, kT] at h8;rw [if_pos (by simp at h8; omega), VB, zF ja1, jn, kT];rfl
 . cases h2
def jeX (u v : U) (Y N : Ans) : Ans := (@U.rec (fun _ => U -> Ans -> Ans -> Ans) (fun k n => fun v Y N => uI v fun k' m => tst (Nat.beq k k') (@Bool.rec (fun _ => Ans) N Y (Nat.beq n m))) (fun x => fun v Y N => uB v fun y => @Bool.rec (fun _ => Ans) (@Bool.rec (fun _ => Ans) Y N y) (@Bool.rec (fun _ => Ans) N Y y) x) (fun l x => fun v Y N => uS v fun l' y => @Bool.rec (fun _ => Ans) N (@Bool.rec (fun _ => Ans) N Y (Nat.beq (Nat.mod x (Nat.pow 256 l)) (Nat.mod y (Nat.pow 256 l)))) (Nat.beq l l')) (fun _ _ _ _ _ _ _ => fun _ _ _ => false) (fun _ _ _ => false) (fun _ _ _ _ => fun _ _ _ => false) (fun _ _ _ _ _ _ => fun _ _ _ => false) (fun _ => fun _ _ _ => false) (fun _ _ _ _ _ _ _ => fun _ _ _ => false) u) v Y N
theorem XT {u v : U} {Y N : Ans} (h : jeX u v Y N = true) : (vA (toI u) (toI v) = some true /\ Y = true) \/ (vA (toI u) (toI v) = some false /\ N = true) := by
 cases u with
 | i k n =>
   obtain ⟨k', m, rfl, h2⟩ := jV (show uI v (fun k' m => tst (Nat.beq k k') (@Bool.rec (fun _ => Ans) N Y (Nat.beq n m))) = true from h);obtain ⟨h3, h4⟩ := jb h2;have := zN h3; subst this;rw [qJ, qJ];simp only [vA, if_true, jna]
   rcases jf h4 with ⟨h5, h6⟩ | ⟨h5, h6⟩
   . exact Or.inl ⟨by rw [h5], h6⟩
   . exact Or.inr ⟨by rw [h5], h6⟩
 | s l x =>
   obtain ⟨l', y, rfl, h2⟩ := qb (show uS v (fun l' y => @Bool.rec (fun _ => Ans) N (@Bool.rec (fun _ => Ans) N Y (Nat.beq (Nat.mod x (Nat.pow 256 l)) (Nat.mod y (Nat.pow 256 l)))) (Nat.beq l l')) = true from h);rw [Ju, Ju];simp only [vA]
   rcases jf h2 with ⟨h3, h4⟩ | ⟨h3, h4⟩
   . have := zN h3; subst this
     rcases jf h4 with ⟨h5, h6⟩ | ⟨h5, h6⟩
     . have h5 := zN h5;rw [jb9, jb9, jlu] at h5;exact Or.inl ⟨by rw [(Q3 l x y).2 h5]; simp, h6⟩
     . have h5 := zE h5;rw [jb9, jb9, jlu] at h5;refine Or.inr ⟨?_, h6⟩;have : qG l x ≠ qG l y := fun e => h5 ((Q3 l x y).1 e);rw [beq_eq_false_iff_ne.2 this]
   . have h3 := zE h3;refine Or.inr ⟨?_, h4⟩;have : qG l x ≠ qG l' y := fun e => h3 (by rw [<- jB l x, e, jB]);rw [beq_eq_false_iff_ne.2 this]
 | b x =>
   obtain ⟨y, rfl, h2⟩ := Kj (show uB v (fun y => @Bool.rec (fun _ => Ans) (@Bool.rec (fun _ => Ans) Y N y) (@Bool.rec (fun _ => Ans) N Y y) x) = true from h);rw [Xx, Xx];cases x <;> cases y <;> first | exact Or.inl ⟨rfl, h2⟩ | exact Or.inr ⟨rfl, h2⟩
 | _ => cases h
def jkb (kk : Nat) (u : U) : Bool := (@U.rec (fun _ => Bool) (fun k n => Nat.beq kk 0) (fun x => Nat.beq kk 2) (fun l x => Nat.beq kk 1) (fun _ _ _ _ _ _ _ => false) (false) (fun _ _ _ _ => false) (fun _ _ _ _ _ _ => false) (fun _ => false) (fun _ _ _ _ _ _ _ => false) u)
theorem jb4 {kk : Nat} {u : U} (h : jkb kk u = true) : Xk kk (toI u) = true := by
 cases u with
 | i k n => have := zN (show Nat.beq kk 0 = true from h); subst this; rfl
 | s l x => have := zN (show Nat.beq kk 1 = true from h); subst this; rfl
 | b x => have := zN (show Nat.beq kk 2 = true from h); subst this; rfl
 | _ => cases h
def jj0 (n : Nat) (k l : U) (Y : U -> Ans) (N : Ans) : Ans := @Nat.rec (fun _ => U -> U -> (U -> Ans) -> Ans -> Ans) (fun _ l _ N => uC l N fun _ _ => false)
 (fun _ ih k l Y N => uC l N fun k' l => uC l false fun v l => jeX k k' (Y v) (ih k l Y N)) n k l Y N
theorem jc1 : ∀ {n : Nat} {k l : U} {Y : U -> Ans} {N : Ans}, jj0 n k l Y N = true -> (∃ v, Xp (toI k) (qB (toL l)) = some (some (toI v)) /\ Y v = true) \/ (Xp (toI k) (qB (toL l)) = some none /\ N = true) := by
 intro n
 induction n with
 | zero =>
   intro k l Y N h
   rcases jj (show uC l N (fun _ _ => false) = true from h) with ⟨rfl, h2⟩ | ⟨x, y, rfl, h2⟩
   . exact Or.inr ⟨rfl, h2⟩
   . cases h2
 | succ n ih =>
   intro k l Y N h
   rcases jj (show uC l N (fun k' l => uC l false fun v l => jeX k k' (Y v) (jj0 n k l Y N)) = true from h) with ⟨rfl, h2⟩ | ⟨k', l1, rfl, h2⟩
   . exact Or.inr ⟨rfl, h2⟩
   rcases jj h2 with ⟨_, h3⟩ | ⟨v, l2, rfl, h3⟩
   . cases h3
   rw [jn, jn]
   rcases XT h3 with ⟨h4, h5⟩ | ⟨h4, h5⟩
   . exact Or.inl ⟨v, by simp only [qB, Xp, h4], h5⟩
   . rcases ih h5 with ⟨w, h6, h7⟩ | ⟨h6, h7⟩
     . exact Or.inl ⟨w, by simp only [qB, Xp, h4, h6], h7⟩
     . exact Or.inr ⟨by simp only [qB, Xp, h4, h6], h7⟩
def jo7 (n : Nat) (k w l : U) (K : U -> Ans) : Ans := @Nat.rec (fun _ => U -> U -> U -> (U -> Ans) -> Ans) (fun k w l K => uC l (K (.cn k (.cn w .nl))) fun _ _ => false)
 (fun _ ih k w l K => uC l (K (.cn k (.cn w .nl))) fun k' l => uC l false fun v l => jeX k k' (K (.cn k (.cn w l))) (ih k w l fun r => K (.cn k' (.cn v r)))) n k w l K
theorem jfV : ∀ {n : Nat} {k w l : U} {K : U -> Ans}, jo7 n k w l K = true -> ∃ r, jfT (toI k) (toI w) (qB (toL l)) = some (qB (toL r)) /\ K r = true := by
 intro n
 induction n with
 | zero =>
   intro k w l K h
   rcases jj (show uC l (K (.cn k (.cn w .nl))) (fun _ _ => false) = true from h) with ⟨rfl, h2⟩ | ⟨x, y, rfl, h2⟩
   . exact ⟨_, rfl, h2⟩
   . cases h2
 | succ n ih =>
   intro k w l K h
   rcases jj (show uC l (K (.cn k (.cn w .nl))) (fun k' l => uC l false fun v l => jeX k k' (K (.cn k (.cn w l))) (jo7 n k w l fun r => K (.cn k' (.cn v r)))) = true from h) with ⟨rfl, h2⟩ | ⟨k', l1, rfl, h2⟩
   . exact ⟨_, rfl, h2⟩
   rcases jj h2 with ⟨_, h3⟩ | ⟨v, l2, rfl, h3⟩
   . cases h3
   rw [jn, jn]
   rcases XT h3 with ⟨h4, h5⟩ | ⟨h4, h5⟩
   . exact ⟨_, by simp only [qB, jfT, h4, jn], h5⟩
   . obtain ⟨r, h6, h7⟩ := ih h5;exact ⟨_, by simp only [qB, jfT, h4, h6, jn], h7⟩
def je3 (ob : U) (K : U -> Ans) : Ans := uO ob fun t _ _ _ _ x => tst (Nat.beq t 3) (K x)
theorem JP {ob : U} {K : U -> Ans} (h : je3 ob K = true) : ∃ a b c d x, ob = .o 3 a b c d x /\ K x = true := by
 obtain ⟨t, a, b, c, d, x, rfl, h2⟩ := jq h;obtain ⟨h3, h4⟩ := jb h2;have := zN h3; subst this;exact ⟨_, _, _, _, _, rfl, h4⟩
def je0 (kk : Nat) (z : U) (ok : Bool) (u k : U) (h : H) (K : KH) : Ans := uO u fun t id _ _ _ _ => tst (Nat.beq t 3) (vU id h fun ob => je3 ob fun es => tst (jkb kk k)
 (jj0 1000000 k es (fun v => @Bool.rec (fun _ => Ans) (K v h) (K (.o 18 0 0 0 0 (.cn v (.cn (.b true) .nl))) h) ok) (@Bool.rec (fun _ => Ans) (K z h) (K (.o 18 0 0 0 0 (.cn z (.cn (.b false) .nl))) h) ok)))
theorem jc7 (kk : Nat) (z : IVal) (ok : Bool) (x y : Opd) : Hp2 (.lookup kk z ok x y) (je0 kk (rep z) ok) := by
 intro u k h K ts ts' σ wr hr hk hg;obtain ⟨t1, hx, hy⟩ := qP hg;obtain ⟨t, a, b, c, d, q, rfl, kq1⟩ := jq hk;obtain ⟨h1, kq2⟩ := jb kq1;have := zN h1; subst this;obtain ⟨ob, o, h3, h4, kq3⟩ := jS hr kq2;obtain ⟨_, _, _, _, es, rfl, kq4⟩ := JP kq3;have ho : o = .map (qB (toL es)) := h4.o;subst ho;obtain ⟨h5, kq5⟩ := jb kq4;have h5 := jb4 h5;rw [YX] at hx
 rcases jc1 kq5 with ⟨v, h6, h7⟩ | ⟨h6, h7⟩
 . rcases jf h7 with ⟨h8, h9⟩ | ⟨h8, h9⟩
   . subst h8;exact ⟨_, h, σ, wr, fun cf => by simp only [ja, hx, hy, h3, if_pos h5, h6, if_true, rv]; rfl, hr, rfl, h9⟩
   . subst h8;exact ⟨_, h, σ, wr, fun cf => by simp only [ja, hx, hy, h3, if_pos h5, h6, rv, Bool.false_eq_true, if_false], hr, rfl, h9⟩
 . rcases jf h7 with ⟨h8, h9⟩ | ⟨h8, h9⟩
   . subst h8;refine ⟨_, h, σ, wr, fun cf => ?_, hr, rfl, h9⟩;simp only [ja, hx, hy, h3, if_pos h5, h6, if_true, rv];rw [Qh, if_pos rfl, jn, jn, kT, zy, Xx]
   . subst h8;exact ⟨_, h, σ, wr, fun cf => by simp only [ja, hx, hy, h3, if_pos h5, h6, rv, Bool.false_eq_true, if_false, zy], hr, rfl, h9⟩
def je4 (kk : Nat) (l : U) (h : H) (K : KH) : Ans := uC l false fun u l => uC l false fun k l => uC l false fun v _ => uO u fun t id _ _ _ _ => tst (Nat.beq t 3) (vU id h fun ob => je3 ob fun es => tst (jkb kk k) (tst (ntU v)
 (frc (V4 v) fun w => jo7 1000000 k w es fun r => vB id (.o 3 0 0 0 0 r) (jcb (jdL v)) h fun h' => K (.o 18 0 0 0 0 .nl) h')))
theorem jc8 (kk : Nat) (x y z : Opd) : HpL (.mapSet kk x y z) (je4 kk) := by
 intro u h K ts ts' σ wr hr hk hg
 rcases jj hk with ⟨_, h2⟩ | ⟨m, l, rfl, kq1⟩
 . cases h2
 rcases jj kq1 with ⟨_, h2⟩ | ⟨k, l1, rfl, kq2⟩
 . cases h2
 rcases jj kq2 with ⟨_, h2⟩ | ⟨v, l2, rfl, kq3⟩
 . cases h2
 obtain ⟨t, a, b, c, d, q, rfl, kq4⟩ := jq kq3;obtain ⟨h1, kq5⟩ := jb kq4;have := zN h1; subst this;obtain ⟨ob, o, h3, h4, kq6⟩ := jS hr kq5;obtain ⟨_, _, _, _, es, rfl, kq7⟩ := JP kq6;have ho : o = .map (qB (toL es)) := h4.o;subst ho;obtain ⟨h5, kq8⟩ := jb kq7;obtain ⟨h6, kq9⟩ := jb kq8;rw [yb] at kq9;obtain ⟨r, h7, kq10⟩ := jfV kq9;obtain ⟨h', h8, _, h9, h10⟩ := ku hr kq10 (o := .map (qB (toL r))) rfl;have h5 := jb4 h5;have h6 := Qr h6;obtain ⟨t1, g1, g2⟩ := yc hg;obtain ⟨t2, g3, g4⟩ := yc g2;obtain ⟨t3, g5, g6⟩ := yc g4;obtain ⟨-, rfl⟩ := Kt g6;rw [YX] at g1;rw [qc] at h7;refine ⟨_, h', _, _, fun cf => ?_, h8, h9, h10⟩;have hc : (Xk kk (toI k) && nt (toI v)) = true := by rw [h5, h6]; rfl
 simp only [ja, g1, g3, g5, h3];rw [if_pos hc];simp only [h7];rw [VB, Jd];rfl
def jmi (u : U) (h : H) (K : KH) : Ans := uO u fun t id _ _ _ _ => tst (Nat.beq t 3) (vU id h fun ob => je3 ob fun es => fN (KR es) fun n => tst (Nat.beq (Nat.mod n 2) 0) (fN (Nat.add (Nat.div n 2) 18446744073709551616) fun c => K (.i 3 c) h))
theorem jdd : ∀ (n : Nat) (l : List IVal), l.length = 2 * n -> (qB l).length = n := by
 intro n
 induction n with
 | zero => intro l h; have := List.length_eq_zero_iff.1 h; subst this; rfl
 | succ n ih =>
   intro l h
   match l with
   | [] => simp at h
   | [_] => simp at h; omega
   | a :: b :: l => simp only [qB, List.length_cons] at h ⊢; rw [ih l (by omega)]
theorem jhh (x : Opd) : Hp1 (.lenM x) jmi := by
 intro u h K ts ts' σ wr hr hk hg;have hx := j5 hg;obtain ⟨t, a, b, c, d, q, rfl, kq1⟩ := jq hk;obtain ⟨h1, kq2⟩ := jb kq1;have := zN h1; subst this;obtain ⟨ob, o, h3, h4, kq3⟩ := jS hr kq2;obtain ⟨_, _, _, _, es, rfl, kq4⟩ := JP kq3;have ho : o = .map (qB (toL es)) := h4.o;subst ho;rw [jr] at kq4;obtain ⟨h5, kq5⟩ := jb kq4;rw [jr] at kq5;have h5 := zN h5;rw [jb9, kw] at h5;have h6 := jdd ((toL es).length / 2) (toL es) (by omega);rw [YX] at hx;refine ⟨_, h, σ, wr, fun cf => ?_, hr, rfl, kq5⟩;simp only [ja, hx, h3, rv, h6];rw [YW, jkt, kw];rfl
end
end Go.Idl
namespace Go.Idl
noncomputable section
set_option maxHeartbeats 400000
theorem ZB (k : IntKind) (j : Nat) (h : Nat.beq j (kc k) = true) : kd j = k := by
 have := zN h; subst this; exact jhc k
theorem jb5 {cf : jo} {ts t' : Ts} {σ σ' : List IObj} {wr wr' : List (Nat × Bool)} {id off : Nat} {v : IVal} (h : ja cf (.load false none (.c (.ptr id off))) ⟨ts, σ, wr⟩ = some ⟨false, v, ⟨t', σ', wr'⟩⟩) :
   ∃ cs z, jt σ id = some cs /\ cs[off]? = some z /\ v = un2 z /\ σ' = σ /\ wr' = wr := by
 simp only [ja, Opd.get] at h;split at h
 . rename_i cs hc;simp only [kx] at h;split at h
   . rename_i z hz;simp only [Bool.false_eq_true, if_false, rv, zO, Res.mk.injEq, true_and, St.mk.injEq] at h;obtain ⟨rfl, -, rfl, rfl⟩ := h;exact ⟨cs, z, hc, hz, rfl, rfl, rfl⟩
   . cases h
 . cases h
theorem jf9 {cf : jo} {ts t' : Ts} {σ σ' : List IObj} {wr wr' : List (Nat × Bool)} {id off : Nat} {k : IntKind} {y : Int} {v : IVal} (h : ja cf (.store 1 (.c (.ptr id off)) (.c (.int k y))) ⟨ts, σ, wr⟩ = some ⟨false, v, ⟨t', σ', wr'⟩⟩) :
   ∃ cs, jt σ id = some cs /\ off < cs.length /\ σ' = σ.set id (.cells (ji cs off [.int k y])) /\ wr' = (id, false) :: wr := by
 simp only [ja, Opd.get] at h;split at h
 . rename_i cs hc;split at h
   . rename_i hcond;simp only [zO, Res.mk.injEq, true_and, St.mk.injEq] at h;obtain ⟨-, -, rfl, rfl⟩ := h;exact ⟨cs, hc, by omega, rfl, rfl⟩
   . cases h
 . cases h
theorem jiA {z : IVal} {k : IntKind} {n : Int} (h : un2 z = .int k n) : z = .int k n := by cases z <;> simp_all [un2, un1]
def ldI (u : U) (h : H) (K : Nat -> Nat -> H -> Ans) : Ans := uO u fun t _ _ _ _ _ => tst (Nat.beq t 1) (jhk false none u h fun v h1 => uI v fun k n => K k n h1)
theorem Ys {u : U} {h : H} {K : Nat -> Nat -> H -> Ans} {σ : List IObj} {wr : List (Nat × Bool)} (hr : HR h σ wr) (hk : ldI u h K = true) :
   ∃ (id off : Nat) (cs : List IVal) (k n : Nat) (h' : H), toI u = .ptr id off /\ jt σ id = some cs /\ cs[off]? = some (.int (kd k) ((n : Int) - 18446744073709551616)) /\ HR h' σ wr /\ h'.tr = h.tr /\ K k n h' = true := by
 obtain ⟨t, a, b, c, d, x, rfl, k1⟩ := jq hk;obtain ⟨h1, k2⟩ := jb k1;have := zN h1; subst this;obtain ⟨r, h', σ', wr', h3, h4, h5, h6⟩ := Yt false none (.c (.ptr a b)) _ h _ ts0 ts0 σ wr hr k2 (by rw [vz]; rfl);obtain ⟨k, n, rfl, h7⟩ := jV h6;obtain ⟨cs, z, q1, q2, q3, rfl, rfl⟩ := jb5 (h3 fun _ _ _ => none);rw [qJ] at q3;exact ⟨a, b, cs, k, n, h', rfl, q1, by rw [q2, jiA q3.symm], h4, h5, h7⟩
def stI (u v : U) (h : H) (K : H -> Ans) : Ans := uO u fun t _ _ _ _ _ => tst (Nat.beq t 1) (jf8 1 u v h fun _ h1 => K h1)
theorem YR {u v : U} {h : H} {K : H -> Ans} {σ : List IObj} {wr : List (Nat × Bool)} {k : IntKind} {y : Int} (hr : HR h σ wr) (hv : toI v = .int k y) (hk : stI u v h K = true) :
   ∃ id off cs h', toI u = .ptr id off /\ jt σ id = some cs /\ off < cs.length /\ HR h' (σ.set id (.cells (ji cs off [.int k y]))) ((id, false) :: wr) /\ h'.tr = h.tr /\ K h' = true := by
 obtain ⟨t, a, b, c, d, x, rfl, k1⟩ := jq hk;obtain ⟨h1, k2⟩ := jb k1;have := zN h1; subst this;obtain ⟨r, h', σ', wr', h3, h4, h5, h6⟩ := jai 1 (.c (.ptr a b)) (.c (.int k y)) _ v h _ ts0 ts0 σ wr hr k2 (by rw [vz, hv]; rfl);obtain ⟨cs, q1, q2, rfl, rfl⟩ := jf9 (h3 fun _ _ _ => none);exact ⟨a, b, cs, h', rfl, q1, q2, h4, h5, h6⟩
def jn9 (k : MemK) (l : U) (h : H) (K : KH) : Ans := match k with
 | .aload k => uC l false fun u r => Zm r (ldI u h fun k' n h1 => tst (Nat.beq k' (kc k)) (K (.i k' n) h1))
 | .astore k => uC l false fun u r => uC r false fun v r => Zm r (uI v fun k' n => tst (Nat.beq k' (kc k)) (stI u v h fun h1 => K (.o 18 0 0 0 0 .nl) h1))
 | .acas k => uC l false fun u r => uC r false fun x r => uC r false fun y r => Zm r (uI x fun k1 n1 => uI y fun k2 n2 => tst (Nat.beq k1 (kc k)) (tst (Nat.beq k2 (kc k)) (ldI u h fun k' n h1 => tst (Nat.beq k' (kc k))
     (@Bool.rec (fun _ => Ans) (K (.b false) h1) (stI u y h1 fun h2 => K (.b true) h2) (Nat.beq n n1)))))
 | .aadd k => uC l false fun u r => uC r false fun y r => Zm r (uI y fun k1 n1 => tst (Nat.beq k1 (kc k)) (ldI u h fun k' n h1 => tst (Nat.beq k' (kc k)) (fN (V9 (kc k) (Nat.add n n1)) fun c => stI u (.i (kc k) c) h1 fun h2 => K (.i (kc k) c) h2)))
 | .uptr => uC l false fun u r => Zm r (uO u fun t _ _ _ _ _ => tst (Nat.beq t 1) (jhk false none u h fun _ h1 => K u h1))
 | .mclone => uC l false fun u r => Zm r (uO u fun t ty _ _ _ x => tst (Nat.beq t 5) (uO x fun t2 id _ _ _ _ => tst (Nat.beq t2 3) (vU id h fun ob => je3 ob fun es => y0 (.o 3 0 0 0 0 es) h fun k h1 => K (.o 5 ty 0 0 0 (.o 3 k 0 0 0 .nl)) h1)))
 | .extN e b zs => uC l false fun u r => uC r false fun v r => Zm r (uO u fun t _ f _ d _ => tst (Nat.beq t 16) (tst (Nat.blt 0 f) (tst (Nat.beq d 0) (uI v fun k n => tst (Nat.beq k 3) (tst (Nat.blt 18446744073709551616 n) (fN (Nat.sub n 18446744073709551616) fun c => tst (Nat.ble (Nat.mul c b) 140737488355328) (tst (Nat.ble c 1099511627776) (tst (Nat.beq (KR (Qt zs)) e) (tst (Nat.blt 0 e)
     (jh3 (Qt zs) c .nl 0 fun t q => y0 (.o 2 q 0 0 0 t) h fun id h' => K (.o 2 e id 0 c .nl) h'))))))))))
 | .iter => uC l false fun u r => Zm r (uS u fun l x => y0 (.o 5 0 0 0 0 (.s l x)) h fun k h1 => K (.o 1 k 0 0 0 .nl) h1)
 | .next => uC l false fun u r => Zm r (uO u fun t id off _ _ _ => tst (Nat.beq t 1) (tst (Nat.beq off 0) (vU id h fun ob => uO ob fun t p _ _ _ x => tst (Nat.beq t 5) (uS x fun l y =>
     @Bool.rec (fun _ => Ans) (K (.o 18 0 0 0 0 (.cn (.b false) .nl)) h)
       (fN (Nat.mod (Nat.div y (Nat.pow 256 (Nat.sub (Nat.sub l 1) p))) 256) fun c => tst (Nat.blt c 128) (fN (Nat.succ p) fun p1 => fN (Nat.add p 18446744073709551616) fun q => fN (Nat.add c 18446744073709551616) fun c1 =>
         vB id (.o 5 p1 0 0 0 (.s l y)) false h fun h1 => K (.o 18 0 0 0 0 (.cn (.b true) (.cn (.i 3 q) (.cn (.i 2 c1) .nl)))) h1)) (Nat.blt p l)))))
theorem je5 {k : MemK} {u : U} {h : H} {K : KH} {σ : List IObj} {wr : List (Nat × Bool)} (hr : HR h σ wr) (hk : jn9 k u h K = true) :
   ∃ r h' σ' wn, y6 k (toL u) σ = some (toI r, σ', wn) /\ HR h' σ' (wn ++ wr) /\ h'.tr = h.tr /\ K r h' = true := by
 cases k with
 | aload k =>
   rcases jj (show uC u false _ = true from hk) with ⟨_, h2⟩ | ⟨a, r, rfl, q1⟩
   . cases h2
   obtain ⟨rfl, q2⟩ := j9 q1;obtain ⟨id, off, cs, k', n, h', e1, e2, e3, e4, e5, e6⟩ := Ys hr q2;obtain ⟨e7, e8⟩ := jb e6;refine ⟨_, h', σ, [], ?_, e4, e5, e8⟩;rw [jn, kT, e1];simp only [y6, e2, e3];rw [ZB k k' e7, if_pos rfl, qJ, ZB k k' e7]
 | astore k =>
   rcases jj (show uC u false _ = true from hk) with ⟨_, h2⟩ | ⟨a, r, rfl, q1⟩
   . cases h2
   rcases jj q1 with ⟨_, h2⟩ | ⟨v, r, rfl, q1⟩
   . cases h2
   obtain ⟨rfl, q2⟩ := j9 q1;obtain ⟨k', n, rfl, q3⟩ := jV q2;obtain ⟨q4, q5⟩ := jb q3;have hv : toI (.i k' n) = .int k ((n : Int) - 18446744073709551616) := by rw [qJ, ZB k k' q4]
   obtain ⟨id, off, cs, h', e1, e2, e3, e4, e5, e6⟩ := YR hr hv q5;refine ⟨_, h', _, [(id, false)], ?_, e4, e5, e6⟩;rw [jn, jn, kT, e1, hv];simp only [y6, e2];rw [if_pos ⟨e3, trivial⟩];rfl
 | acas k =>
   rcases jj (show uC u false _ = true from hk) with ⟨_, h2⟩ | ⟨a, r0, rfl, p1⟩
   . cases h2
   rcases jj p1 with ⟨_, h2⟩ | ⟨x, r1, rfl, p2⟩
   . cases h2
   rcases jj p2 with ⟨_, h2⟩ | ⟨y, r2, rfl, p3⟩
   . cases h2
   obtain ⟨rfl, q2⟩ := j9 p3;obtain ⟨k1, n1, rfl, q3⟩ := jV q2;obtain ⟨k2, n2, rfl, q4⟩ := jV q3;obtain ⟨q5, q6⟩ := jb q4;obtain ⟨q7, q8⟩ := jb q6;obtain ⟨id, off, cs, k', n, h', e1, e2, e3, e4, e5, e6⟩ := Ys hr q8;obtain ⟨e7, e8⟩ := jb e6;have hx : toI (.i k1 n1) = .int k ((n1 : Int) - 18446744073709551616) := by rw [qJ, ZB k k1 q5]
   have hy : toI (.i k2 n2) = .int k ((n2 : Int) - 18446744073709551616) := by rw [qJ, ZB k k2 q7]
   rw [ZB k k' e7] at e3
   rcases jf e8 with ⟨f1, f2⟩ | ⟨f1, f2⟩
   . have hn := zN f1;subst hn;obtain ⟨id', off', cs', h'', g1, g2, g3, g4, g5, g6⟩ := YR e4 hy f2;rw [e1] at g1;simp only [IVal.ptr.injEq] at g1;obtain ⟨rfl, rfl⟩ := g1;rw [e2] at g2;simp only [zO] at g2;subst g2;refine ⟨_, h'', _, [(id, false)], ?_, g4, g5.trans e5, g6⟩;rw [jn, jn, jn, kT, e1, hx, hy];simp only [y6, e2, e3, and_self, if_true];rfl
   . have hn := zE f1;refine ⟨_, h', σ, [], ?_, e4, e5, f2⟩;rw [jn, jn, jn, kT, e1, hx, hy];simp only [y6, e2, e3, and_self, if_true];rw [if_neg (by omega)];rfl
 | aadd k =>
   rcases jj (show uC u false _ = true from hk) with ⟨_, h2⟩ | ⟨a, r, rfl, q1⟩
   . cases h2
   rcases jj q1 with ⟨_, h2⟩ | ⟨y, r, rfl, q1⟩
   . cases h2
   obtain ⟨rfl, q2⟩ := j9 q1;obtain ⟨k1, n1, rfl, q3⟩ := jV q2;obtain ⟨q5, q6⟩ := jb q3;obtain ⟨id, off, cs, k', n, h', e1, e2, e3, e4, e5, e6⟩ := Ys hr q6;obtain ⟨e7, e8⟩ := jb e6;rw [jr] at e8;have hy : toI (.i k1 n1) = .int k ((n1 : Int) - 18446744073709551616) := by rw [qJ, ZB k k1 q5]
   rw [ZB k k' e7] at e3;have hs : toI (.i (kc k) (V9 (kc k) (Nat.add n n1))) = .int k (k.wrap (((n : Int) - 18446744073709551616) + ((n1 : Int) - 18446744073709551616))) := by
     have := jdS (kc k) (Nat.add n n1) (((n : Int) - 18446744073709551616) + ((n1 : Int) - 18446744073709551616)) (by rw [K6]; omega);rw [jhc] at this;exact this
   obtain ⟨id', off', cs', h'', g1, g2, g3, g4, g5, g6⟩ := YR e4 hs e8;rw [e1] at g1;simp only [IVal.ptr.injEq] at g1;obtain ⟨rfl, rfl⟩ := g1;rw [e2] at g2;simp only [zO] at g2;subst g2;refine ⟨_, h'', _, [(id, false)], ?_, g4, g5.trans e5, g6⟩;rw [jn, jn, kT, e1, hy, hs];simp only [y6, e2, e3, and_self, if_true]
 | uptr =>
   rcases jj (show uC u false _ = true from hk) with ⟨_, h2⟩ | ⟨a, r, rfl, q1⟩
   . cases h2
   obtain ⟨rfl, q2⟩ := j9 q1;obtain ⟨t, a, b, c, d, x, rfl, k1⟩ := jq q2;obtain ⟨h1, k2⟩ := jb k1;have := zN h1; subst this;obtain ⟨r, h', σ', wr', h3, h4, h5, h6⟩ := Yt false none (.c (.ptr a b)) _ h _ ts0 ts0 σ wr hr k2 (by rw [vz]; rfl);obtain ⟨cs, z, g1, g2, g3, rfl, rfl⟩ := jb5 (h3 fun _ _ _ => none);refine ⟨_, h', σ', [], ?_, h4, h5, h6⟩;rw [jn, kT, vz];simp only [y6, g1];rw [if_pos (by rcases Nat.lt_or_ge b cs.length with h | h; exact h; rw [List.getElem?_eq_none h] at g2; cases g2)]
 | mclone =>
   rcases jj (show uC u false _ = true from hk) with ⟨_, h2⟩ | ⟨a, r, rfl, q1⟩
   . cases h2
   obtain ⟨rfl, q2⟩ := j9 q1;obtain ⟨t, ty, b, c, d, x, rfl, k1⟩ := jq q2;obtain ⟨h1, k2⟩ := jb k1;have := zN h1; subst this;obtain ⟨t2, id, b2, c2, d2, x2, rfl, k3⟩ := jq k2;obtain ⟨h2, k4⟩ := jb k3;have := zN h2; subst this;obtain ⟨ob, o, h3, h4, k5⟩ := jS hr k4;obtain ⟨_, _, _, _, es, rfl, k6⟩ := JP k5;have ho : o = .map (qB (toL es)) := h4.o;subst ho;obtain ⟨h', e1, e2, e3⟩ := kp hr k6 (o := .map (qB (toL es))) rfl;refine ⟨_, h', _, [], ?_, e1, e2, e3⟩;rw [jn, kT, KN, YX];simp only [y6, h3];rfl
 | extN e b zs =>
   rcases jj (show uC u false _ = true from hk) with ⟨_, h2⟩ | ⟨a, r, rfl, q1⟩
   . cases h2
   rcases jj q1 with ⟨_, h2⟩ | ⟨v, r, rfl, q1⟩
   . cases h2
   obtain ⟨rfl, q2⟩ := j9 q1;obtain ⟨t, a1, f, c1, d, x, rfl, k1⟩ := jq q2;obtain ⟨h1, k2⟩ := jb k1;have := zN h1; subst this;obtain ⟨h2, k3⟩ := jb k2;obtain ⟨h3, k4⟩ := jb k3;have := zN h3; subst this;obtain ⟨k, n, rfl, k5⟩ := jV k4;obtain ⟨h4, k6⟩ := jb k5;have := zN h4; subst this;obtain ⟨h5, k7⟩ := jb k6;rw [jr] at k7;obtain ⟨h6, k8⟩ := jb k7;obtain ⟨h7, k9⟩ := jb k8;obtain ⟨h8, k10⟩ := jb k9;obtain ⟨h9, k11⟩ := jb k10;have h2 := jy h2;have h5 := jy h5;have h6 := ble_iff.1 h6;have h7 := ble_iff.1 h7;have h8 := zN h8;have h9 := jy h9;rw [QO] at h6 h7;rw [jfk] at h6;rw [kw, qD] at h8;obtain ⟨t, q, g7, g8⟩ := XX k11;obtain ⟨h', g9, g10, g11⟩ := kp hr g8 (o := .cells (lst (toT t).g 0 q)) rfl;have e8 : lst (toT U.nl).g 0 0 = [] := rfl;rw [g7, qD, e8, List.nil_append, QO] at g9;rw [QO] at g11;refine ⟨_, h', _, [], ?_, g9, g10, g11⟩;have eb : (f != 0) = true := bne_iff_ne.2 (by omega);have el : lst (toT x).g c1 0 = [] := rfl;have e4 : (n : Int) - 18446744073709551616 = ((n - 18446744073709551616 : Nat) : Int) := by omega
   rw [jn, jn, kT, kS, qJ, eb, el];have ek : kd 3 = .i64 := rfl;rw [ek];simp only [y6];have e5 : ((n : Int) - 18446744073709551616) * (b : Int) <= 140737488355328 := by
     rw [e4];generalize n - 18446744073709551616 = c at h6;have := Int.ofNat_le.2 h6;rw [Int.natCast_mul] at this;exact this
   rw [if_pos ⟨by omega, e5, by omega, h8, h9⟩, Jt];have e6 : ((n : Int) - 18446744073709551616).toNat = n - 18446744073709551616 := by omega
   rw [e6]
 | iter =>
   rcases jj (show uC u false _ = true from hk) with ⟨_, h2⟩ | ⟨a, r, rfl, q1⟩
   . cases h2
   obtain ⟨rfl, q2⟩ := j9 q1;obtain ⟨l, x, rfl, q3⟩ := qb q2;obtain ⟨h', e1, e2, e3⟩ := kp hr q3 (o := .it (qG l x) 0) rfl;refine ⟨_, h', _, [], ?_, e1, e2, e3⟩;rw [jn, kT, Ju];rfl
 | next =>
   rcases jj (show uC u false _ = true from hk) with ⟨_, h2⟩ | ⟨a, r, rfl, q1⟩
   . cases h2
   obtain ⟨rfl, q2⟩ := j9 q1;obtain ⟨t, id, off, c, d, x, rfl, k1⟩ := jq q2;obtain ⟨h1, k2⟩ := jb k1;have := zN h1; subst this;obtain ⟨h2, k3⟩ := jb k2;have := zN h2; subst this;obtain ⟨ob, o, e1, e2, k4⟩ := jS hr k3;obtain ⟨t, p, c', d', e', x', rfl, k5⟩ := jq k4;obtain ⟨h3, k6⟩ := jb k5;have := zN h3; subst this;obtain ⟨l, y, rfl, k7⟩ := qb k6;have ho : o = .it (qG l y) p := e2.o;subst ho
   rcases jf k7 with ⟨f1, f2⟩ | ⟨f1, f2⟩
   . have hp : p < l := by have := f1; simp [Nat.blt] at this; omega
     rw [jr] at f2;obtain ⟨f3, f4⟩ := jb f2;rw [jr, jr, jr] at f4;obtain ⟨h', g1, _, g2, g3⟩ := ku hr f4 (o := .it (qG l y) (p + 1)) rfl;have hc := yt (l := l) (x := y) hp;have hcv : (UInt8.ofNat (y / 256 ^ (l - 1 - p))).toNat = Nat.mod (Nat.div y (Nat.pow 256 (Nat.sub (Nat.sub l 1) p))) 256 := by
       simp [jb9, jkt, jlu, QO]
     have hlt : (UInt8.ofNat (y / 256 ^ (l - 1 - p))).toNat < 128 := by rw [hcv]; have := f3; simp only [Nat.blt, Nat.ble_eq] at this; exact this
     refine ⟨_, h', _, [(id, false)], ?_, g1, g2, g3⟩;rw [jn, kT, vz];simp only [y6, e1, hc];rw [if_pos hlt, hcv];simp [toI, toT, toO, jgt, kd, K6]
   . have hp : ¬ p < l := fun hlt => by rw [show Nat.blt p l = true from (by unfold Nat.blt; rw [Nat.ble_eq]; exact hlt)] at f1; cases f1
     have hc : (qG l y)[p]? = none := by rw [List.getElem?_eq_none]; rw [jB]; omega
     refine ⟨_, h, σ, [], ?_, hr, rfl, f2⟩;rw [jn, kT, vz];simp only [y6, e1, hc];rfl
theorem jkk (k : MemK) (xs : List Opd) : HpL (.mem k xs) (jn9 k) := by
 intro u h K ts ts' σ wr hr hk hg;obtain ⟨r, h', σ', wn, h1, h2, h3, h4⟩ := je5 hr hk;refine ⟨r, h', σ', wn ++ wr, fun cf => ?_, h2, h3, h4⟩;have hg : getAll xs ts = some (toL u, ts') := hg;simp only [ja, hg, h1]
end
end Go.Idl
namespace Go.Idl
noncomputable section
inductive Ix where
 | a0
 | a1
 | a2
 | a3
 | a4
 | a5
 | a6
 | a7
 | a8
 | a9
 | a10
 | a11
 | a12
 | a13
 | a14
 | a15
 | a16
 | a17
 | a18
 | a19
 | a20
 | a21
 | a22
 | a23
 | a24
 | a25
 | a26
 | a27
 | a28
 | a29
 | a30
 | a31
 | a32
 | a33
 | a34
 | a35
 | a36
 | a37
 | a38
 | a39
 | a40
 | a41
 | a42
 | a43
 | a44
 | a45
 | a46
 | a47
 | a48
 | a49
 | a50
 | a51
 | a52
 | a53
 | a54
 | a55
 | a56
 | a57
 | a58
 | a59
 | a60
 | a61
 | far (j : Nat)
def ixN : Ix -> Nat
 | .a0 => 0
 | .a1 => 1
 | .a2 => 2
 | .a3 => 3
 | .a4 => 4
 | .a5 => 5
 | .a6 => 6
 | .a7 => 7
 | .a8 => 8
 | .a9 => 9
 | .a10 => 10
 | .a11 => 11
 | .a12 => 12
 | .a13 => 13
 | .a14 => 14
 | .a15 => 15
 | .a16 => 16
 | .a17 => 17
 | .a18 => 18
 | .a19 => 19
 | .a20 => 20
 | .a21 => 21
 | .a22 => 22
 | .a23 => 23
 | .a24 => 24
 | .a25 => 25
 | .a26 => 26
 | .a27 => 27
 | .a28 => 28
 | .a29 => 29
 | .a30 => 30
 | .a31 => 31
 | .a32 => 32
 | .a33 => 33
 | .a34 => 34
 | .a35 => 35
 | .a36 => 36
 | .a37 => 37
 | .a38 => 38
 | .a39 => 39
 | .a40 => 40
 | .a41 => 41
 | .a42 => 42
 | .a43 => 43
 | .a44 => 44
 | .a45 => 45
 | .a46 => 46
 | .a47 => 47
 | .a48 => 48
 | .a49 => 49
 | .a50 => 50
 | .a51 => 51
 | .a52 => 52
 | .a53 => 53
 | .a54 => 54
 | .a55 => 55
 | .a56 => 56
 | .a57 => 57
 | .a58 => 58
 | .a59 => 59
 | .a60 => 60
 | .a61 => 61
 | .far j => j
def ixList : List Ix := [.a0, .a1, .a2, .a3, .a4, .a5, .a6, .a7, .a8, .a9, .a10, .a11, .a12, .a13, .a14, .a15, .a16, .a17, .a18, .a19, .a20, .a21, .a22, .a23, .a24, .a25, .a26, .a27, .a28, .a29, .a30, .a31, .a32, .a33, .a34, .a35, .a36, .a37, .a38, .a39, .a40, .a41, .a42, .a43, .a44, .a45, .a46, .a47, .a48, .a49, .a50, .a51, .a52, .a53, .a54, .a55, .a56, .a57, .a58, .a59, .a60, .a61]
def Vw (j : Nat) : Ix := @Bool.rec (fun _ => Ix) (.far j) (ixList.getD j (.far j)) (Nat.blt j 62)
theorem zZ (j : Nat) : ixN (Vw j) = j := by
 unfold Vw;rw [vV];split
 . rename_i h;have h := jy h
   match j, h with
   | 0, _ => rfl
   | 1, _ => rfl
   | 2, _ => rfl
   | 3, _ => rfl
   | 4, _ => rfl
   | 5, _ => rfl
   | 6, _ => rfl
   | 7, _ => rfl
   | 8, _ => rfl
   | 9, _ => rfl
   | 10, _ => rfl
   | 11, _ => rfl
   | 12, _ => rfl
   | 13, _ => rfl
   | 14, _ => rfl
   | 15, _ => rfl
   | 16, _ => rfl
   | 17, _ => rfl
   | 18, _ => rfl
   | 19, _ => rfl
   | 20, _ => rfl
   | 21, _ => rfl
   | 22, _ => rfl
   | 23, _ => rfl
   | 24, _ => rfl
   | 25, _ => rfl
   | 26, _ => rfl
   | 27, _ => rfl
   | 28, _ => rfl
   | 29, _ => rfl
   | 30, _ => rfl
   | 31, _ => rfl
   | 32, _ => rfl
   | 33, _ => rfl
   | 34, _ => rfl
   | 35, _ => rfl
   | 36, _ => rfl
   | 37, _ => rfl
   | 38, _ => rfl
   | 39, _ => rfl
   | 40, _ => rfl
   | 41, _ => rfl
   | 42, _ => rfl
   | 43, _ => rfl
   | 44, _ => rfl
   | 45, _ => rfl
   | 46, _ => rfl
   | 47, _ => rfl
   | 48, _ => rfl
   | 49, _ => rfl
   | 50, _ => rfl
   | 51, _ => rfl
   | 52, _ => rfl
   | 53, _ => rfl
   | 54, _ => rfl
   | 55, _ => rfl
   | 56, _ => rfl
   | 57, _ => rfl
   | 58, _ => rfl
   | 59, _ => rfl
   | 60, _ => rfl
   | 61, _ => rfl
 . rfl
def jpD : Env -> (U -> Ans) -> Ans := (fun e K => @E8.rec (E8 U) (fun _ => (U -> Ans) -> Ans) (fun r0 _ _ _ _ _ _ _ K => @E8.rec U (fun _ => (U -> Ans) -> Ans) (fun x _ _ _ _ _ _ _ K => K x) r0 K) e K)
def jpE : Env -> (U -> Ans) -> Ans := (fun e K => @E8.rec (E8 U) (fun _ => (U -> Ans) -> Ans) (fun r0 _ _ _ _ _ _ _ K => @E8.rec U (fun _ => (U -> Ans) -> Ans) (fun _ x _ _ _ _ _ _ K => K x) r0 K) e K)
def jpF : Env -> (U -> Ans) -> Ans := (fun e K => @E8.rec (E8 U) (fun _ => (U -> Ans) -> Ans) (fun r0 _ _ _ _ _ _ _ K => @E8.rec U (fun _ => (U -> Ans) -> Ans) (fun _ _ x _ _ _ _ _ K => K x) r0 K) e K)
def jpG : Env -> (U -> Ans) -> Ans := (fun e K => @E8.rec (E8 U) (fun _ => (U -> Ans) -> Ans) (fun r0 _ _ _ _ _ _ _ K => @E8.rec U (fun _ => (U -> Ans) -> Ans) (fun _ _ _ x _ _ _ _ K => K x) r0 K) e K)
def jpH : Env -> (U -> Ans) -> Ans := (fun e K => @E8.rec (E8 U) (fun _ => (U -> Ans) -> Ans) (fun r0 _ _ _ _ _ _ _ K => @E8.rec U (fun _ => (U -> Ans) -> Ans) (fun _ _ _ _ x _ _ _ K => K x) r0 K) e K)
def jpI : Env -> (U -> Ans) -> Ans := (fun e K => @E8.rec (E8 U) (fun _ => (U -> Ans) -> Ans) (fun r0 _ _ _ _ _ _ _ K => @E8.rec U (fun _ => (U -> Ans) -> Ans) (fun _ _ _ _ _ x _ _ K => K x) r0 K) e K)
def jpJ : Env -> (U -> Ans) -> Ans := (fun e K => @E8.rec (E8 U) (fun _ => (U -> Ans) -> Ans) (fun r0 _ _ _ _ _ _ _ K => @E8.rec U (fun _ => (U -> Ans) -> Ans) (fun _ _ _ _ _ _ x _ K => K x) r0 K) e K)
def jpK : Env -> (U -> Ans) -> Ans := (fun e K => @E8.rec (E8 U) (fun _ => (U -> Ans) -> Ans) (fun r0 _ _ _ _ _ _ _ K => @E8.rec U (fun _ => (U -> Ans) -> Ans) (fun _ _ _ _ _ _ _ x K => K x) r0 K) e K)
def jpL : Env -> (U -> Ans) -> Ans := (fun e K => @E8.rec (E8 U) (fun _ => (U -> Ans) -> Ans) (fun _ r1 _ _ _ _ _ _ K => @E8.rec U (fun _ => (U -> Ans) -> Ans) (fun x _ _ _ _ _ _ _ K => K x) r1 K) e K)
def jpM : Env -> (U -> Ans) -> Ans := (fun e K => @E8.rec (E8 U) (fun _ => (U -> Ans) -> Ans) (fun _ r1 _ _ _ _ _ _ K => @E8.rec U (fun _ => (U -> Ans) -> Ans) (fun _ x _ _ _ _ _ _ K => K x) r1 K) e K)
def jni : Env -> (U -> Ans) -> Ans := (fun e K => @E8.rec (E8 U) (fun _ => (U -> Ans) -> Ans) (fun _ r1 _ _ _ _ _ _ K => @E8.rec U (fun _ => (U -> Ans) -> Ans) (fun _ _ x _ _ _ _ _ K => K x) r1 K) e K)
def jnj : Env -> (U -> Ans) -> Ans := (fun e K => @E8.rec (E8 U) (fun _ => (U -> Ans) -> Ans) (fun _ r1 _ _ _ _ _ _ K => @E8.rec U (fun _ => (U -> Ans) -> Ans) (fun _ _ _ x _ _ _ _ K => K x) r1 K) e K)
def jnk : Env -> (U -> Ans) -> Ans := (fun e K => @E8.rec (E8 U) (fun _ => (U -> Ans) -> Ans) (fun _ r1 _ _ _ _ _ _ K => @E8.rec U (fun _ => (U -> Ans) -> Ans) (fun _ _ _ _ x _ _ _ K => K x) r1 K) e K)
def jnl : Env -> (U -> Ans) -> Ans := (fun e K => @E8.rec (E8 U) (fun _ => (U -> Ans) -> Ans) (fun _ r1 _ _ _ _ _ _ K => @E8.rec U (fun _ => (U -> Ans) -> Ans) (fun _ _ _ _ _ x _ _ K => K x) r1 K) e K)
def jnm : Env -> (U -> Ans) -> Ans := (fun e K => @E8.rec (E8 U) (fun _ => (U -> Ans) -> Ans) (fun _ r1 _ _ _ _ _ _ K => @E8.rec U (fun _ => (U -> Ans) -> Ans) (fun _ _ _ _ _ _ x _ K => K x) r1 K) e K)
def jnn : Env -> (U -> Ans) -> Ans := (fun e K => @E8.rec (E8 U) (fun _ => (U -> Ans) -> Ans) (fun _ r1 _ _ _ _ _ _ K => @E8.rec U (fun _ => (U -> Ans) -> Ans) (fun _ _ _ _ _ _ _ x K => K x) r1 K) e K)
def jno : Env -> (U -> Ans) -> Ans := (fun e K => @E8.rec (E8 U) (fun _ => (U -> Ans) -> Ans) (fun _ _ r2 _ _ _ _ _ K => @E8.rec U (fun _ => (U -> Ans) -> Ans) (fun x _ _ _ _ _ _ _ K => K x) r2 K) e K)
def jnp : Env -> (U -> Ans) -> Ans := (fun e K => @E8.rec (E8 U) (fun _ => (U -> Ans) -> Ans) (fun _ _ r2 _ _ _ _ _ K => @E8.rec U (fun _ => (U -> Ans) -> Ans) (fun _ x _ _ _ _ _ _ K => K x) r2 K) e K)
def jnq : Env -> (U -> Ans) -> Ans := (fun e K => @E8.rec (E8 U) (fun _ => (U -> Ans) -> Ans) (fun _ _ r2 _ _ _ _ _ K => @E8.rec U (fun _ => (U -> Ans) -> Ans) (fun _ _ x _ _ _ _ _ K => K x) r2 K) e K)
def jnr : Env -> (U -> Ans) -> Ans := (fun e K => @E8.rec (E8 U) (fun _ => (U -> Ans) -> Ans) (fun _ _ r2 _ _ _ _ _ K => @E8.rec U (fun _ => (U -> Ans) -> Ans) (fun _ _ _ x _ _ _ _ K => K x) r2 K) e K)
def jns : Env -> (U -> Ans) -> Ans := (fun e K => @E8.rec (E8 U) (fun _ => (U -> Ans) -> Ans) (fun _ _ r2 _ _ _ _ _ K => @E8.rec U (fun _ => (U -> Ans) -> Ans) (fun _ _ _ _ x _ _ _ K => K x) r2 K) e K)
def jnt : Env -> (U -> Ans) -> Ans := (fun e K => @E8.rec (E8 U) (fun _ => (U -> Ans) -> Ans) (fun _ _ r2 _ _ _ _ _ K => @E8.rec U (fun _ => (U -> Ans) -> Ans) (fun _ _ _ _ _ x _ _ K => K x) r2 K) e K)
def jnu : Env -> (U -> Ans) -> Ans := (fun e K => @E8.rec (E8 U) (fun _ => (U -> Ans) -> Ans) (fun _ _ r2 _ _ _ _ _ K => @E8.rec U (fun _ => (U -> Ans) -> Ans) (fun _ _ _ _ _ _ x _ K => K x) r2 K) e K)
def jnv : Env -> (U -> Ans) -> Ans := (fun e K => @E8.rec (E8 U) (fun _ => (U -> Ans) -> Ans) (fun _ _ r2 _ _ _ _ _ K => @E8.rec U (fun _ => (U -> Ans) -> Ans) (fun _ _ _ _ _ _ _ x K => K x) r2 K) e K)
def jnw : Env -> (U -> Ans) -> Ans := (fun e K => @E8.rec (E8 U) (fun _ => (U -> Ans) -> Ans) (fun _ _ _ r3 _ _ _ _ K => @E8.rec U (fun _ => (U -> Ans) -> Ans) (fun x _ _ _ _ _ _ _ K => K x) r3 K) e K)
def jnx : Env -> (U -> Ans) -> Ans := (fun e K => @E8.rec (E8 U) (fun _ => (U -> Ans) -> Ans) (fun _ _ _ r3 _ _ _ _ K => @E8.rec U (fun _ => (U -> Ans) -> Ans) (fun _ x _ _ _ _ _ _ K => K x) r3 K) e K)
def jny : Env -> (U -> Ans) -> Ans := (fun e K => @E8.rec (E8 U) (fun _ => (U -> Ans) -> Ans) (fun _ _ _ r3 _ _ _ _ K => @E8.rec U (fun _ => (U -> Ans) -> Ans) (fun _ _ x _ _ _ _ _ K => K x) r3 K) e K)
def jnz : Env -> (U -> Ans) -> Ans := (fun e K => @E8.rec (E8 U) (fun _ => (U -> Ans) -> Ans) (fun _ _ _ r3 _ _ _ _ K => @E8.rec U (fun _ => (U -> Ans) -> Ans) (fun _ _ _ x _ _ _ _ K => K x) r3 K) e K)
def jnA : Env -> (U -> Ans) -> Ans := (fun e K => @E8.rec (E8 U) (fun _ => (U -> Ans) -> Ans) (fun _ _ _ r3 _ _ _ _ K => @E8.rec U (fun _ => (U -> Ans) -> Ans) (fun _ _ _ _ x _ _ _ K => K x) r3 K) e K)
def jnB : Env -> (U -> Ans) -> Ans := (fun e K => @E8.rec (E8 U) (fun _ => (U -> Ans) -> Ans) (fun _ _ _ r3 _ _ _ _ K => @E8.rec U (fun _ => (U -> Ans) -> Ans) (fun _ _ _ _ _ x _ _ K => K x) r3 K) e K)
def jnC : Env -> (U -> Ans) -> Ans := (fun e K => @E8.rec (E8 U) (fun _ => (U -> Ans) -> Ans) (fun _ _ _ r3 _ _ _ _ K => @E8.rec U (fun _ => (U -> Ans) -> Ans) (fun _ _ _ _ _ _ x _ K => K x) r3 K) e K)
def jnD : Env -> (U -> Ans) -> Ans := (fun e K => @E8.rec (E8 U) (fun _ => (U -> Ans) -> Ans) (fun _ _ _ r3 _ _ _ _ K => @E8.rec U (fun _ => (U -> Ans) -> Ans) (fun _ _ _ _ _ _ _ x K => K x) r3 K) e K)
def jnE : Env -> (U -> Ans) -> Ans := (fun e K => @E8.rec (E8 U) (fun _ => (U -> Ans) -> Ans) (fun _ _ _ _ r4 _ _ _ K => @E8.rec U (fun _ => (U -> Ans) -> Ans) (fun x _ _ _ _ _ _ _ K => K x) r4 K) e K)
def jnF : Env -> (U -> Ans) -> Ans := (fun e K => @E8.rec (E8 U) (fun _ => (U -> Ans) -> Ans) (fun _ _ _ _ r4 _ _ _ K => @E8.rec U (fun _ => (U -> Ans) -> Ans) (fun _ x _ _ _ _ _ _ K => K x) r4 K) e K)
def jnG : Env -> (U -> Ans) -> Ans := (fun e K => @E8.rec (E8 U) (fun _ => (U -> Ans) -> Ans) (fun _ _ _ _ r4 _ _ _ K => @E8.rec U (fun _ => (U -> Ans) -> Ans) (fun _ _ x _ _ _ _ _ K => K x) r4 K) e K)
def jnH : Env -> (U -> Ans) -> Ans := (fun e K => @E8.rec (E8 U) (fun _ => (U -> Ans) -> Ans) (fun _ _ _ _ r4 _ _ _ K => @E8.rec U (fun _ => (U -> Ans) -> Ans) (fun _ _ _ x _ _ _ _ K => K x) r4 K) e K)
def jnI : Env -> (U -> Ans) -> Ans := (fun e K => @E8.rec (E8 U) (fun _ => (U -> Ans) -> Ans) (fun _ _ _ _ r4 _ _ _ K => @E8.rec U (fun _ => (U -> Ans) -> Ans) (fun _ _ _ _ x _ _ _ K => K x) r4 K) e K)
def jnJ : Env -> (U -> Ans) -> Ans := (fun e K => @E8.rec (E8 U) (fun _ => (U -> Ans) -> Ans) (fun _ _ _ _ r4 _ _ _ K => @E8.rec U (fun _ => (U -> Ans) -> Ans) (fun _ _ _ _ _ x _ _ K => K x) r4 K) e K)
def jnK : Env -> (U -> Ans) -> Ans := (fun e K => @E8.rec (E8 U) (fun _ => (U -> Ans) -> Ans) (fun _ _ _ _ r4 _ _ _ K => @E8.rec U (fun _ => (U -> Ans) -> Ans) (fun _ _ _ _ _ _ x _ K => K x) r4 K) e K)
def jnL : Env -> (U -> Ans) -> Ans := (fun e K => @E8.rec (E8 U) (fun _ => (U -> Ans) -> Ans) (fun _ _ _ _ r4 _ _ _ K => @E8.rec U (fun _ => (U -> Ans) -> Ans) (fun _ _ _ _ _ _ _ x K => K x) r4 K) e K)
def jnM : Env -> (U -> Ans) -> Ans := (fun e K => @E8.rec (E8 U) (fun _ => (U -> Ans) -> Ans) (fun _ _ _ _ _ r5 _ _ K => @E8.rec U (fun _ => (U -> Ans) -> Ans) (fun x _ _ _ _ _ _ _ K => K x) r5 K) e K)
def jnN : Env -> (U -> Ans) -> Ans := (fun e K => @E8.rec (E8 U) (fun _ => (U -> Ans) -> Ans) (fun _ _ _ _ _ r5 _ _ K => @E8.rec U (fun _ => (U -> Ans) -> Ans) (fun _ x _ _ _ _ _ _ K => K x) r5 K) e K)
def jnO : Env -> (U -> Ans) -> Ans := (fun e K => @E8.rec (E8 U) (fun _ => (U -> Ans) -> Ans) (fun _ _ _ _ _ r5 _ _ K => @E8.rec U (fun _ => (U -> Ans) -> Ans) (fun _ _ x _ _ _ _ _ K => K x) r5 K) e K)
def jnP : Env -> (U -> Ans) -> Ans := (fun e K => @E8.rec (E8 U) (fun _ => (U -> Ans) -> Ans) (fun _ _ _ _ _ r5 _ _ K => @E8.rec U (fun _ => (U -> Ans) -> Ans) (fun _ _ _ x _ _ _ _ K => K x) r5 K) e K)
def jnQ : Env -> (U -> Ans) -> Ans := (fun e K => @E8.rec (E8 U) (fun _ => (U -> Ans) -> Ans) (fun _ _ _ _ _ r5 _ _ K => @E8.rec U (fun _ => (U -> Ans) -> Ans) (fun _ _ _ _ x _ _ _ K => K x) r5 K) e K)
def jnR : Env -> (U -> Ans) -> Ans := (fun e K => @E8.rec (E8 U) (fun _ => (U -> Ans) -> Ans) (fun _ _ _ _ _ r5 _ _ K => @E8.rec U (fun _ => (U -> Ans) -> Ans) (fun _ _ _ _ _ x _ _ K => K x) r5 K) e K)
def jnS : Env -> (U -> Ans) -> Ans := (fun e K => @E8.rec (E8 U) (fun _ => (U -> Ans) -> Ans) (fun _ _ _ _ _ r5 _ _ K => @E8.rec U (fun _ => (U -> Ans) -> Ans) (fun _ _ _ _ _ _ x _ K => K x) r5 K) e K)
def jnT : Env -> (U -> Ans) -> Ans := (fun e K => @E8.rec (E8 U) (fun _ => (U -> Ans) -> Ans) (fun _ _ _ _ _ r5 _ _ K => @E8.rec U (fun _ => (U -> Ans) -> Ans) (fun _ _ _ _ _ _ _ x K => K x) r5 K) e K)
def jnU : Env -> (U -> Ans) -> Ans := (fun e K => @E8.rec (E8 U) (fun _ => (U -> Ans) -> Ans) (fun _ _ _ _ _ _ r6 _ K => @E8.rec U (fun _ => (U -> Ans) -> Ans) (fun x _ _ _ _ _ _ _ K => K x) r6 K) e K)
def jnV : Env -> (U -> Ans) -> Ans := (fun e K => @E8.rec (E8 U) (fun _ => (U -> Ans) -> Ans) (fun _ _ _ _ _ _ r6 _ K => @E8.rec U (fun _ => (U -> Ans) -> Ans) (fun _ x _ _ _ _ _ _ K => K x) r6 K) e K)
def jnW : Env -> (U -> Ans) -> Ans := (fun e K => @E8.rec (E8 U) (fun _ => (U -> Ans) -> Ans) (fun _ _ _ _ _ _ r6 _ K => @E8.rec U (fun _ => (U -> Ans) -> Ans) (fun _ _ x _ _ _ _ _ K => K x) r6 K) e K)
def jnX : Env -> (U -> Ans) -> Ans := (fun e K => @E8.rec (E8 U) (fun _ => (U -> Ans) -> Ans) (fun _ _ _ _ _ _ r6 _ K => @E8.rec U (fun _ => (U -> Ans) -> Ans) (fun _ _ _ x _ _ _ _ K => K x) r6 K) e K)
def jnY : Env -> (U -> Ans) -> Ans := (fun e K => @E8.rec (E8 U) (fun _ => (U -> Ans) -> Ans) (fun _ _ _ _ _ _ r6 _ K => @E8.rec U (fun _ => (U -> Ans) -> Ans) (fun _ _ _ _ x _ _ _ K => K x) r6 K) e K)
def jnZ : Env -> (U -> Ans) -> Ans := (fun e K => @E8.rec (E8 U) (fun _ => (U -> Ans) -> Ans) (fun _ _ _ _ _ _ r6 _ K => @E8.rec U (fun _ => (U -> Ans) -> Ans) (fun _ _ _ _ _ x _ _ K => K x) r6 K) e K)
def jn0 : Env -> (U -> Ans) -> Ans := (fun e K => @E8.rec (E8 U) (fun _ => (U -> Ans) -> Ans) (fun _ _ _ _ _ _ r6 _ K => @E8.rec U (fun _ => (U -> Ans) -> Ans) (fun _ _ _ _ _ _ x _ K => K x) r6 K) e K)
def jn1 : Env -> (U -> Ans) -> Ans := (fun e K => @E8.rec (E8 U) (fun _ => (U -> Ans) -> Ans) (fun _ _ _ _ _ _ r6 _ K => @E8.rec U (fun _ => (U -> Ans) -> Ans) (fun _ _ _ _ _ _ _ x K => K x) r6 K) e K)
def jn2 : Env -> (U -> Ans) -> Ans := (fun e K => @E8.rec (E8 U) (fun _ => (U -> Ans) -> Ans) (fun _ _ _ _ _ _ _ r7 K => @E8.rec U (fun _ => (U -> Ans) -> Ans) (fun x _ _ _ _ _ _ _ K => K x) r7 K) e K)
def jn3 : Env -> (U -> Ans) -> Ans := (fun e K => @E8.rec (E8 U) (fun _ => (U -> Ans) -> Ans) (fun _ _ _ _ _ _ _ r7 K => @E8.rec U (fun _ => (U -> Ans) -> Ans) (fun _ x _ _ _ _ _ _ K => K x) r7 K) e K)
def jn4 : Env -> (U -> Ans) -> Ans := (fun e K => @E8.rec (E8 U) (fun _ => (U -> Ans) -> Ans) (fun _ _ _ _ _ _ _ r7 K => @E8.rec U (fun _ => (U -> Ans) -> Ans) (fun _ _ x _ _ _ _ _ K => K x) r7 K) e K)
def jn5 : Env -> (U -> Ans) -> Ans := (fun e K => @E8.rec (E8 U) (fun _ => (U -> Ans) -> Ans) (fun _ _ _ _ _ _ _ r7 K => @E8.rec U (fun _ => (U -> Ans) -> Ans) (fun _ _ _ x _ _ _ _ K => K x) r7 K) e K)
def jn6 : Env -> (U -> Ans) -> Ans := (fun e K => @E8.rec (E8 U) (fun _ => (U -> Ans) -> Ans) (fun _ _ _ _ _ _ _ r7 K => @E8.rec U (fun _ => (U -> Ans) -> Ans) (fun _ _ _ _ x _ _ _ K => K x) r7 K) e K)
def jn7 : Env -> (U -> Ans) -> Ans := (fun e K => @E8.rec (E8 U) (fun _ => (U -> Ans) -> Ans) (fun _ _ _ _ _ _ _ r7 K => @E8.rec U (fun _ => (U -> Ans) -> Ans) (fun _ _ _ _ _ x _ _ K => K x) r7 K) e K)
def jpQ : Env -> U -> (Env -> Ans) -> Ans := (fun e v K => @E8.rec (E8 U) (fun _ => U -> (Env -> Ans) -> Ans) (fun r0 r1 r2 r3 r4 r5 r6 r7 v K => @E8.rec U (fun _ => (Env -> Ans) -> Ans) (fun _ x1 x2 x3 x4 x5 x6 x7 K => K ⟨⟨v, x1, x2, x3, x4, x5, x6, x7⟩, r1, r2, r3, r4, r5, r6, r7⟩) r0 K) e v K)
def jpR : Env -> U -> (Env -> Ans) -> Ans := (fun e v K => @E8.rec (E8 U) (fun _ => U -> (Env -> Ans) -> Ans) (fun r0 r1 r2 r3 r4 r5 r6 r7 v K => @E8.rec U (fun _ => (Env -> Ans) -> Ans) (fun x0 _ x2 x3 x4 x5 x6 x7 K => K ⟨⟨x0, v, x2, x3, x4, x5, x6, x7⟩, r1, r2, r3, r4, r5, r6, r7⟩) r0 K) e v K)
def jpS : Env -> U -> (Env -> Ans) -> Ans := (fun e v K => @E8.rec (E8 U) (fun _ => U -> (Env -> Ans) -> Ans) (fun r0 r1 r2 r3 r4 r5 r6 r7 v K => @E8.rec U (fun _ => (Env -> Ans) -> Ans) (fun x0 x1 _ x3 x4 x5 x6 x7 K => K ⟨⟨x0, x1, v, x3, x4, x5, x6, x7⟩, r1, r2, r3, r4, r5, r6, r7⟩) r0 K) e v K)
def jpT : Env -> U -> (Env -> Ans) -> Ans := (fun e v K => @E8.rec (E8 U) (fun _ => U -> (Env -> Ans) -> Ans) (fun r0 r1 r2 r3 r4 r5 r6 r7 v K => @E8.rec U (fun _ => (Env -> Ans) -> Ans) (fun x0 x1 x2 _ x4 x5 x6 x7 K => K ⟨⟨x0, x1, x2, v, x4, x5, x6, x7⟩, r1, r2, r3, r4, r5, r6, r7⟩) r0 K) e v K)
def jpU : Env -> U -> (Env -> Ans) -> Ans := (fun e v K => @E8.rec (E8 U) (fun _ => U -> (Env -> Ans) -> Ans) (fun r0 r1 r2 r3 r4 r5 r6 r7 v K => @E8.rec U (fun _ => (Env -> Ans) -> Ans) (fun x0 x1 x2 x3 _ x5 x6 x7 K => K ⟨⟨x0, x1, x2, x3, v, x5, x6, x7⟩, r1, r2, r3, r4, r5, r6, r7⟩) r0 K) e v K)
def jpV : Env -> U -> (Env -> Ans) -> Ans := (fun e v K => @E8.rec (E8 U) (fun _ => U -> (Env -> Ans) -> Ans) (fun r0 r1 r2 r3 r4 r5 r6 r7 v K => @E8.rec U (fun _ => (Env -> Ans) -> Ans) (fun x0 x1 x2 x3 x4 _ x6 x7 K => K ⟨⟨x0, x1, x2, x3, x4, v, x6, x7⟩, r1, r2, r3, r4, r5, r6, r7⟩) r0 K) e v K)
def jpW : Env -> U -> (Env -> Ans) -> Ans := (fun e v K => @E8.rec (E8 U) (fun _ => U -> (Env -> Ans) -> Ans) (fun r0 r1 r2 r3 r4 r5 r6 r7 v K => @E8.rec U (fun _ => (Env -> Ans) -> Ans) (fun x0 x1 x2 x3 x4 x5 _ x7 K => K ⟨⟨x0, x1, x2, x3, x4, x5, v, x7⟩, r1, r2, r3, r4, r5, r6, r7⟩) r0 K) e v K)
def jpX : Env -> U -> (Env -> Ans) -> Ans := (fun e v K => @E8.rec (E8 U) (fun _ => U -> (Env -> Ans) -> Ans) (fun r0 r1 r2 r3 r4 r5 r6 r7 v K => @E8.rec U (fun _ => (Env -> Ans) -> Ans) (fun x0 x1 x2 x3 x4 x5 x6 _ K => K ⟨⟨x0, x1, x2, x3, x4, x5, x6, v⟩, r1, r2, r3, r4, r5, r6, r7⟩) r0 K) e v K)
def jpY : Env -> U -> (Env -> Ans) -> Ans := (fun e v K => @E8.rec (E8 U) (fun _ => U -> (Env -> Ans) -> Ans) (fun r0 r1 r2 r3 r4 r5 r6 r7 v K => @E8.rec U (fun _ => (Env -> Ans) -> Ans) (fun _ x1 x2 x3 x4 x5 x6 x7 K => K ⟨r0, ⟨v, x1, x2, x3, x4, x5, x6, x7⟩, r2, r3, r4, r5, r6, r7⟩) r1 K) e v K)
def jpZ : Env -> U -> (Env -> Ans) -> Ans := (fun e v K => @E8.rec (E8 U) (fun _ => U -> (Env -> Ans) -> Ans) (fun r0 r1 r2 r3 r4 r5 r6 r7 v K => @E8.rec U (fun _ => (Env -> Ans) -> Ans) (fun x0 _ x2 x3 x4 x5 x6 x7 K => K ⟨r0, ⟨x0, v, x2, x3, x4, x5, x6, x7⟩, r2, r3, r4, r5, r6, r7⟩) r1 K) e v K)
def jof : Env -> U -> (Env -> Ans) -> Ans := (fun e v K => @E8.rec (E8 U) (fun _ => U -> (Env -> Ans) -> Ans) (fun r0 r1 r2 r3 r4 r5 r6 r7 v K => @E8.rec U (fun _ => (Env -> Ans) -> Ans) (fun x0 x1 _ x3 x4 x5 x6 x7 K => K ⟨r0, ⟨x0, x1, v, x3, x4, x5, x6, x7⟩, r2, r3, r4, r5, r6, r7⟩) r1 K) e v K)
def jog : Env -> U -> (Env -> Ans) -> Ans := (fun e v K => @E8.rec (E8 U) (fun _ => U -> (Env -> Ans) -> Ans) (fun r0 r1 r2 r3 r4 r5 r6 r7 v K => @E8.rec U (fun _ => (Env -> Ans) -> Ans) (fun x0 x1 x2 _ x4 x5 x6 x7 K => K ⟨r0, ⟨x0, x1, x2, v, x4, x5, x6, x7⟩, r2, r3, r4, r5, r6, r7⟩) r1 K) e v K)
def joh : Env -> U -> (Env -> Ans) -> Ans := (fun e v K => @E8.rec (E8 U) (fun _ => U -> (Env -> Ans) -> Ans) (fun r0 r1 r2 r3 r4 r5 r6 r7 v K => @E8.rec U (fun _ => (Env -> Ans) -> Ans) (fun x0 x1 x2 x3 _ x5 x6 x7 K => K ⟨r0, ⟨x0, x1, x2, x3, v, x5, x6, x7⟩, r2, r3, r4, r5, r6, r7⟩) r1 K) e v K)
def joi : Env -> U -> (Env -> Ans) -> Ans := (fun e v K => @E8.rec (E8 U) (fun _ => U -> (Env -> Ans) -> Ans) (fun r0 r1 r2 r3 r4 r5 r6 r7 v K => @E8.rec U (fun _ => (Env -> Ans) -> Ans) (fun x0 x1 x2 x3 x4 _ x6 x7 K => K ⟨r0, ⟨x0, x1, x2, x3, x4, v, x6, x7⟩, r2, r3, r4, r5, r6, r7⟩) r1 K) e v K)
def joj : Env -> U -> (Env -> Ans) -> Ans := (fun e v K => @E8.rec (E8 U) (fun _ => U -> (Env -> Ans) -> Ans) (fun r0 r1 r2 r3 r4 r5 r6 r7 v K => @E8.rec U (fun _ => (Env -> Ans) -> Ans) (fun x0 x1 x2 x3 x4 x5 _ x7 K => K ⟨r0, ⟨x0, x1, x2, x3, x4, x5, v, x7⟩, r2, r3, r4, r5, r6, r7⟩) r1 K) e v K)
def jok : Env -> U -> (Env -> Ans) -> Ans := (fun e v K => @E8.rec (E8 U) (fun _ => U -> (Env -> Ans) -> Ans) (fun r0 r1 r2 r3 r4 r5 r6 r7 v K => @E8.rec U (fun _ => (Env -> Ans) -> Ans) (fun x0 x1 x2 x3 x4 x5 x6 _ K => K ⟨r0, ⟨x0, x1, x2, x3, x4, x5, x6, v⟩, r2, r3, r4, r5, r6, r7⟩) r1 K) e v K)
def jol : Env -> U -> (Env -> Ans) -> Ans := (fun e v K => @E8.rec (E8 U) (fun _ => U -> (Env -> Ans) -> Ans) (fun r0 r1 r2 r3 r4 r5 r6 r7 v K => @E8.rec U (fun _ => (Env -> Ans) -> Ans) (fun _ x1 x2 x3 x4 x5 x6 x7 K => K ⟨r0, r1, ⟨v, x1, x2, x3, x4, x5, x6, x7⟩, r3, r4, r5, r6, r7⟩) r2 K) e v K)
def jom : Env -> U -> (Env -> Ans) -> Ans := (fun e v K => @E8.rec (E8 U) (fun _ => U -> (Env -> Ans) -> Ans) (fun r0 r1 r2 r3 r4 r5 r6 r7 v K => @E8.rec U (fun _ => (Env -> Ans) -> Ans) (fun x0 _ x2 x3 x4 x5 x6 x7 K => K ⟨r0, r1, ⟨x0, v, x2, x3, x4, x5, x6, x7⟩, r3, r4, r5, r6, r7⟩) r2 K) e v K)
def jon : Env -> U -> (Env -> Ans) -> Ans := (fun e v K => @E8.rec (E8 U) (fun _ => U -> (Env -> Ans) -> Ans) (fun r0 r1 r2 r3 r4 r5 r6 r7 v K => @E8.rec U (fun _ => (Env -> Ans) -> Ans) (fun x0 x1 _ x3 x4 x5 x6 x7 K => K ⟨r0, r1, ⟨x0, x1, v, x3, x4, x5, x6, x7⟩, r3, r4, r5, r6, r7⟩) r2 K) e v K)
def joo : Env -> U -> (Env -> Ans) -> Ans := (fun e v K => @E8.rec (E8 U) (fun _ => U -> (Env -> Ans) -> Ans) (fun r0 r1 r2 r3 r4 r5 r6 r7 v K => @E8.rec U (fun _ => (Env -> Ans) -> Ans) (fun x0 x1 x2 _ x4 x5 x6 x7 K => K ⟨r0, r1, ⟨x0, x1, x2, v, x4, x5, x6, x7⟩, r3, r4, r5, r6, r7⟩) r2 K) e v K)
def jop : Env -> U -> (Env -> Ans) -> Ans := (fun e v K => @E8.rec (E8 U) (fun _ => U -> (Env -> Ans) -> Ans) (fun r0 r1 r2 r3 r4 r5 r6 r7 v K => @E8.rec U (fun _ => (Env -> Ans) -> Ans) (fun x0 x1 x2 x3 _ x5 x6 x7 K => K ⟨r0, r1, ⟨x0, x1, x2, x3, v, x5, x6, x7⟩, r3, r4, r5, r6, r7⟩) r2 K) e v K)
def joq : Env -> U -> (Env -> Ans) -> Ans := (fun e v K => @E8.rec (E8 U) (fun _ => U -> (Env -> Ans) -> Ans) (fun r0 r1 r2 r3 r4 r5 r6 r7 v K => @E8.rec U (fun _ => (Env -> Ans) -> Ans) (fun x0 x1 x2 x3 x4 _ x6 x7 K => K ⟨r0, r1, ⟨x0, x1, x2, x3, x4, v, x6, x7⟩, r3, r4, r5, r6, r7⟩) r2 K) e v K)
def jor : Env -> U -> (Env -> Ans) -> Ans := (fun e v K => @E8.rec (E8 U) (fun _ => U -> (Env -> Ans) -> Ans) (fun r0 r1 r2 r3 r4 r5 r6 r7 v K => @E8.rec U (fun _ => (Env -> Ans) -> Ans) (fun x0 x1 x2 x3 x4 x5 _ x7 K => K ⟨r0, r1, ⟨x0, x1, x2, x3, x4, x5, v, x7⟩, r3, r4, r5, r6, r7⟩) r2 K) e v K)
def jos : Env -> U -> (Env -> Ans) -> Ans := (fun e v K => @E8.rec (E8 U) (fun _ => U -> (Env -> Ans) -> Ans) (fun r0 r1 r2 r3 r4 r5 r6 r7 v K => @E8.rec U (fun _ => (Env -> Ans) -> Ans) (fun x0 x1 x2 x3 x4 x5 x6 _ K => K ⟨r0, r1, ⟨x0, x1, x2, x3, x4, x5, x6, v⟩, r3, r4, r5, r6, r7⟩) r2 K) e v K)
def jot : Env -> U -> (Env -> Ans) -> Ans := (fun e v K => @E8.rec (E8 U) (fun _ => U -> (Env -> Ans) -> Ans) (fun r0 r1 r2 r3 r4 r5 r6 r7 v K => @E8.rec U (fun _ => (Env -> Ans) -> Ans) (fun _ x1 x2 x3 x4 x5 x6 x7 K => K ⟨r0, r1, r2, ⟨v, x1, x2, x3, x4, x5, x6, x7⟩, r4, r5, r6, r7⟩) r3 K) e v K)
def jou : Env -> U -> (Env -> Ans) -> Ans := (fun e v K => @E8.rec (E8 U) (fun _ => U -> (Env -> Ans) -> Ans) (fun r0 r1 r2 r3 r4 r5 r6 r7 v K => @E8.rec U (fun _ => (Env -> Ans) -> Ans) (fun x0 _ x2 x3 x4 x5 x6 x7 K => K ⟨r0, r1, r2, ⟨x0, v, x2, x3, x4, x5, x6, x7⟩, r4, r5, r6, r7⟩) r3 K) e v K)
def jov : Env -> U -> (Env -> Ans) -> Ans := (fun e v K => @E8.rec (E8 U) (fun _ => U -> (Env -> Ans) -> Ans) (fun r0 r1 r2 r3 r4 r5 r6 r7 v K => @E8.rec U (fun _ => (Env -> Ans) -> Ans) (fun x0 x1 _ x3 x4 x5 x6 x7 K => K ⟨r0, r1, r2, ⟨x0, x1, v, x3, x4, x5, x6, x7⟩, r4, r5, r6, r7⟩) r3 K) e v K)
def jow : Env -> U -> (Env -> Ans) -> Ans := (fun e v K => @E8.rec (E8 U) (fun _ => U -> (Env -> Ans) -> Ans) (fun r0 r1 r2 r3 r4 r5 r6 r7 v K => @E8.rec U (fun _ => (Env -> Ans) -> Ans) (fun x0 x1 x2 _ x4 x5 x6 x7 K => K ⟨r0, r1, r2, ⟨x0, x1, x2, v, x4, x5, x6, x7⟩, r4, r5, r6, r7⟩) r3 K) e v K)
def jox : Env -> U -> (Env -> Ans) -> Ans := (fun e v K => @E8.rec (E8 U) (fun _ => U -> (Env -> Ans) -> Ans) (fun r0 r1 r2 r3 r4 r5 r6 r7 v K => @E8.rec U (fun _ => (Env -> Ans) -> Ans) (fun x0 x1 x2 x3 _ x5 x6 x7 K => K ⟨r0, r1, r2, ⟨x0, x1, x2, x3, v, x5, x6, x7⟩, r4, r5, r6, r7⟩) r3 K) e v K)
def joy : Env -> U -> (Env -> Ans) -> Ans := (fun e v K => @E8.rec (E8 U) (fun _ => U -> (Env -> Ans) -> Ans) (fun r0 r1 r2 r3 r4 r5 r6 r7 v K => @E8.rec U (fun _ => (Env -> Ans) -> Ans) (fun x0 x1 x2 x3 x4 _ x6 x7 K => K ⟨r0, r1, r2, ⟨x0, x1, x2, x3, x4, v, x6, x7⟩, r4, r5, r6, r7⟩) r3 K) e v K)
def joz : Env -> U -> (Env -> Ans) -> Ans := (fun e v K => @E8.rec (E8 U) (fun _ => U -> (Env -> Ans) -> Ans) (fun r0 r1 r2 r3 r4 r5 r6 r7 v K => @E8.rec U (fun _ => (Env -> Ans) -> Ans) (fun x0 x1 x2 x3 x4 x5 _ x7 K => K ⟨r0, r1, r2, ⟨x0, x1, x2, x3, x4, x5, v, x7⟩, r4, r5, r6, r7⟩) r3 K) e v K)
def joA : Env -> U -> (Env -> Ans) -> Ans := (fun e v K => @E8.rec (E8 U) (fun _ => U -> (Env -> Ans) -> Ans) (fun r0 r1 r2 r3 r4 r5 r6 r7 v K => @E8.rec U (fun _ => (Env -> Ans) -> Ans) (fun x0 x1 x2 x3 x4 x5 x6 _ K => K ⟨r0, r1, r2, ⟨x0, x1, x2, x3, x4, x5, x6, v⟩, r4, r5, r6, r7⟩) r3 K) e v K)
def joB : Env -> U -> (Env -> Ans) -> Ans := (fun e v K => @E8.rec (E8 U) (fun _ => U -> (Env -> Ans) -> Ans) (fun r0 r1 r2 r3 r4 r5 r6 r7 v K => @E8.rec U (fun _ => (Env -> Ans) -> Ans) (fun _ x1 x2 x3 x4 x5 x6 x7 K => K ⟨r0, r1, r2, r3, ⟨v, x1, x2, x3, x4, x5, x6, x7⟩, r5, r6, r7⟩) r4 K) e v K)
def joC : Env -> U -> (Env -> Ans) -> Ans := (fun e v K => @E8.rec (E8 U) (fun _ => U -> (Env -> Ans) -> Ans) (fun r0 r1 r2 r3 r4 r5 r6 r7 v K => @E8.rec U (fun _ => (Env -> Ans) -> Ans) (fun x0 _ x2 x3 x4 x5 x6 x7 K => K ⟨r0, r1, r2, r3, ⟨x0, v, x2, x3, x4, x5, x6, x7⟩, r5, r6, r7⟩) r4 K) e v K)
def joD : Env -> U -> (Env -> Ans) -> Ans := (fun e v K => @E8.rec (E8 U) (fun _ => U -> (Env -> Ans) -> Ans) (fun r0 r1 r2 r3 r4 r5 r6 r7 v K => @E8.rec U (fun _ => (Env -> Ans) -> Ans) (fun x0 x1 _ x3 x4 x5 x6 x7 K => K ⟨r0, r1, r2, r3, ⟨x0, x1, v, x3, x4, x5, x6, x7⟩, r5, r6, r7⟩) r4 K) e v K)
def joE : Env -> U -> (Env -> Ans) -> Ans := (fun e v K => @E8.rec (E8 U) (fun _ => U -> (Env -> Ans) -> Ans) (fun r0 r1 r2 r3 r4 r5 r6 r7 v K => @E8.rec U (fun _ => (Env -> Ans) -> Ans) (fun x0 x1 x2 _ x4 x5 x6 x7 K => K ⟨r0, r1, r2, r3, ⟨x0, x1, x2, v, x4, x5, x6, x7⟩, r5, r6, r7⟩) r4 K) e v K)
def joF : Env -> U -> (Env -> Ans) -> Ans := (fun e v K => @E8.rec (E8 U) (fun _ => U -> (Env -> Ans) -> Ans) (fun r0 r1 r2 r3 r4 r5 r6 r7 v K => @E8.rec U (fun _ => (Env -> Ans) -> Ans) (fun x0 x1 x2 x3 _ x5 x6 x7 K => K ⟨r0, r1, r2, r3, ⟨x0, x1, x2, x3, v, x5, x6, x7⟩, r5, r6, r7⟩) r4 K) e v K)
def joG : Env -> U -> (Env -> Ans) -> Ans := (fun e v K => @E8.rec (E8 U) (fun _ => U -> (Env -> Ans) -> Ans) (fun r0 r1 r2 r3 r4 r5 r6 r7 v K => @E8.rec U (fun _ => (Env -> Ans) -> Ans) (fun x0 x1 x2 x3 x4 _ x6 x7 K => K ⟨r0, r1, r2, r3, ⟨x0, x1, x2, x3, x4, v, x6, x7⟩, r5, r6, r7⟩) r4 K) e v K)
def joH : Env -> U -> (Env -> Ans) -> Ans := (fun e v K => @E8.rec (E8 U) (fun _ => U -> (Env -> Ans) -> Ans) (fun r0 r1 r2 r3 r4 r5 r6 r7 v K => @E8.rec U (fun _ => (Env -> Ans) -> Ans) (fun x0 x1 x2 x3 x4 x5 _ x7 K => K ⟨r0, r1, r2, r3, ⟨x0, x1, x2, x3, x4, x5, v, x7⟩, r5, r6, r7⟩) r4 K) e v K)
def joI : Env -> U -> (Env -> Ans) -> Ans := (fun e v K => @E8.rec (E8 U) (fun _ => U -> (Env -> Ans) -> Ans) (fun r0 r1 r2 r3 r4 r5 r6 r7 v K => @E8.rec U (fun _ => (Env -> Ans) -> Ans) (fun x0 x1 x2 x3 x4 x5 x6 _ K => K ⟨r0, r1, r2, r3, ⟨x0, x1, x2, x3, x4, x5, x6, v⟩, r5, r6, r7⟩) r4 K) e v K)
def joJ : Env -> U -> (Env -> Ans) -> Ans := (fun e v K => @E8.rec (E8 U) (fun _ => U -> (Env -> Ans) -> Ans) (fun r0 r1 r2 r3 r4 r5 r6 r7 v K => @E8.rec U (fun _ => (Env -> Ans) -> Ans) (fun _ x1 x2 x3 x4 x5 x6 x7 K => K ⟨r0, r1, r2, r3, r4, ⟨v, x1, x2, x3, x4, x5, x6, x7⟩, r6, r7⟩) r5 K) e v K)
def joK : Env -> U -> (Env -> Ans) -> Ans := (fun e v K => @E8.rec (E8 U) (fun _ => U -> (Env -> Ans) -> Ans) (fun r0 r1 r2 r3 r4 r5 r6 r7 v K => @E8.rec U (fun _ => (Env -> Ans) -> Ans) (fun x0 _ x2 x3 x4 x5 x6 x7 K => K ⟨r0, r1, r2, r3, r4, ⟨x0, v, x2, x3, x4, x5, x6, x7⟩, r6, r7⟩) r5 K) e v K)
def joL : Env -> U -> (Env -> Ans) -> Ans := (fun e v K => @E8.rec (E8 U) (fun _ => U -> (Env -> Ans) -> Ans) (fun r0 r1 r2 r3 r4 r5 r6 r7 v K => @E8.rec U (fun _ => (Env -> Ans) -> Ans) (fun x0 x1 _ x3 x4 x5 x6 x7 K => K ⟨r0, r1, r2, r3, r4, ⟨x0, x1, v, x3, x4, x5, x6, x7⟩, r6, r7⟩) r5 K) e v K)
def joM : Env -> U -> (Env -> Ans) -> Ans := (fun e v K => @E8.rec (E8 U) (fun _ => U -> (Env -> Ans) -> Ans) (fun r0 r1 r2 r3 r4 r5 r6 r7 v K => @E8.rec U (fun _ => (Env -> Ans) -> Ans) (fun x0 x1 x2 _ x4 x5 x6 x7 K => K ⟨r0, r1, r2, r3, r4, ⟨x0, x1, x2, v, x4, x5, x6, x7⟩, r6, r7⟩) r5 K) e v K)
def joN : Env -> U -> (Env -> Ans) -> Ans := (fun e v K => @E8.rec (E8 U) (fun _ => U -> (Env -> Ans) -> Ans) (fun r0 r1 r2 r3 r4 r5 r6 r7 v K => @E8.rec U (fun _ => (Env -> Ans) -> Ans) (fun x0 x1 x2 x3 _ x5 x6 x7 K => K ⟨r0, r1, r2, r3, r4, ⟨x0, x1, x2, x3, v, x5, x6, x7⟩, r6, r7⟩) r5 K) e v K)
def joO : Env -> U -> (Env -> Ans) -> Ans := (fun e v K => @E8.rec (E8 U) (fun _ => U -> (Env -> Ans) -> Ans) (fun r0 r1 r2 r3 r4 r5 r6 r7 v K => @E8.rec U (fun _ => (Env -> Ans) -> Ans) (fun x0 x1 x2 x3 x4 _ x6 x7 K => K ⟨r0, r1, r2, r3, r4, ⟨x0, x1, x2, x3, x4, v, x6, x7⟩, r6, r7⟩) r5 K) e v K)
def joP : Env -> U -> (Env -> Ans) -> Ans := (fun e v K => @E8.rec (E8 U) (fun _ => U -> (Env -> Ans) -> Ans) (fun r0 r1 r2 r3 r4 r5 r6 r7 v K => @E8.rec U (fun _ => (Env -> Ans) -> Ans) (fun x0 x1 x2 x3 x4 x5 _ x7 K => K ⟨r0, r1, r2, r3, r4, ⟨x0, x1, x2, x3, x4, x5, v, x7⟩, r6, r7⟩) r5 K) e v K)
def joQ : Env -> U -> (Env -> Ans) -> Ans := (fun e v K => @E8.rec (E8 U) (fun _ => U -> (Env -> Ans) -> Ans) (fun r0 r1 r2 r3 r4 r5 r6 r7 v K => @E8.rec U (fun _ => (Env -> Ans) -> Ans) (fun x0 x1 x2 x3 x4 x5 x6 _ K => K ⟨r0, r1, r2, r3, r4, ⟨x0, x1, x2, x3, x4, x5, x6, v⟩, r6, r7⟩) r5 K) e v K)
def joR : Env -> U -> (Env -> Ans) -> Ans := (fun e v K => @E8.rec (E8 U) (fun _ => U -> (Env -> Ans) -> Ans) (fun r0 r1 r2 r3 r4 r5 r6 r7 v K => @E8.rec U (fun _ => (Env -> Ans) -> Ans) (fun _ x1 x2 x3 x4 x5 x6 x7 K => K ⟨r0, r1, r2, r3, r4, r5, ⟨v, x1, x2, x3, x4, x5, x6, x7⟩, r7⟩) r6 K) e v K)
def joS : Env -> U -> (Env -> Ans) -> Ans := (fun e v K => @E8.rec (E8 U) (fun _ => U -> (Env -> Ans) -> Ans) (fun r0 r1 r2 r3 r4 r5 r6 r7 v K => @E8.rec U (fun _ => (Env -> Ans) -> Ans) (fun x0 _ x2 x3 x4 x5 x6 x7 K => K ⟨r0, r1, r2, r3, r4, r5, ⟨x0, v, x2, x3, x4, x5, x6, x7⟩, r7⟩) r6 K) e v K)
def joT : Env -> U -> (Env -> Ans) -> Ans := (fun e v K => @E8.rec (E8 U) (fun _ => U -> (Env -> Ans) -> Ans) (fun r0 r1 r2 r3 r4 r5 r6 r7 v K => @E8.rec U (fun _ => (Env -> Ans) -> Ans) (fun x0 x1 _ x3 x4 x5 x6 x7 K => K ⟨r0, r1, r2, r3, r4, r5, ⟨x0, x1, v, x3, x4, x5, x6, x7⟩, r7⟩) r6 K) e v K)
def joU : Env -> U -> (Env -> Ans) -> Ans := (fun e v K => @E8.rec (E8 U) (fun _ => U -> (Env -> Ans) -> Ans) (fun r0 r1 r2 r3 r4 r5 r6 r7 v K => @E8.rec U (fun _ => (Env -> Ans) -> Ans) (fun x0 x1 x2 _ x4 x5 x6 x7 K => K ⟨r0, r1, r2, r3, r4, r5, ⟨x0, x1, x2, v, x4, x5, x6, x7⟩, r7⟩) r6 K) e v K)
def joV : Env -> U -> (Env -> Ans) -> Ans := (fun e v K => @E8.rec (E8 U) (fun _ => U -> (Env -> Ans) -> Ans) (fun r0 r1 r2 r3 r4 r5 r6 r7 v K => @E8.rec U (fun _ => (Env -> Ans) -> Ans) (fun x0 x1 x2 x3 _ x5 x6 x7 K => K ⟨r0, r1, r2, r3, r4, r5, ⟨x0, x1, x2, x3, v, x5, x6, x7⟩, r7⟩) r6 K) e v K)
def joW : Env -> U -> (Env -> Ans) -> Ans := (fun e v K => @E8.rec (E8 U) (fun _ => U -> (Env -> Ans) -> Ans) (fun r0 r1 r2 r3 r4 r5 r6 r7 v K => @E8.rec U (fun _ => (Env -> Ans) -> Ans) (fun x0 x1 x2 x3 x4 _ x6 x7 K => K ⟨r0, r1, r2, r3, r4, r5, ⟨x0, x1, x2, x3, x4, v, x6, x7⟩, r7⟩) r6 K) e v K)
def joX : Env -> U -> (Env -> Ans) -> Ans := (fun e v K => @E8.rec (E8 U) (fun _ => U -> (Env -> Ans) -> Ans) (fun r0 r1 r2 r3 r4 r5 r6 r7 v K => @E8.rec U (fun _ => (Env -> Ans) -> Ans) (fun x0 x1 x2 x3 x4 x5 _ x7 K => K ⟨r0, r1, r2, r3, r4, r5, ⟨x0, x1, x2, x3, x4, x5, v, x7⟩, r7⟩) r6 K) e v K)
def joY : Env -> U -> (Env -> Ans) -> Ans := (fun e v K => @E8.rec (E8 U) (fun _ => U -> (Env -> Ans) -> Ans) (fun r0 r1 r2 r3 r4 r5 r6 r7 v K => @E8.rec U (fun _ => (Env -> Ans) -> Ans) (fun x0 x1 x2 x3 x4 x5 x6 _ K => K ⟨r0, r1, r2, r3, r4, r5, ⟨x0, x1, x2, x3, x4, x5, x6, v⟩, r7⟩) r6 K) e v K)
def joZ : Env -> U -> (Env -> Ans) -> Ans := (fun e v K => @E8.rec (E8 U) (fun _ => U -> (Env -> Ans) -> Ans) (fun r0 r1 r2 r3 r4 r5 r6 r7 v K => @E8.rec U (fun _ => (Env -> Ans) -> Ans) (fun _ x1 x2 x3 x4 x5 x6 x7 K => K ⟨r0, r1, r2, r3, r4, r5, r6, ⟨v, x1, x2, x3, x4, x5, x6, x7⟩⟩) r7 K) e v K)
def jo0 : Env -> U -> (Env -> Ans) -> Ans := (fun e v K => @E8.rec (E8 U) (fun _ => U -> (Env -> Ans) -> Ans) (fun r0 r1 r2 r3 r4 r5 r6 r7 v K => @E8.rec U (fun _ => (Env -> Ans) -> Ans) (fun x0 _ x2 x3 x4 x5 x6 x7 K => K ⟨r0, r1, r2, r3, r4, r5, r6, ⟨x0, v, x2, x3, x4, x5, x6, x7⟩⟩) r7 K) e v K)
def jo1 : Env -> U -> (Env -> Ans) -> Ans := (fun e v K => @E8.rec (E8 U) (fun _ => U -> (Env -> Ans) -> Ans) (fun r0 r1 r2 r3 r4 r5 r6 r7 v K => @E8.rec U (fun _ => (Env -> Ans) -> Ans) (fun x0 x1 _ x3 x4 x5 x6 x7 K => K ⟨r0, r1, r2, r3, r4, r5, r6, ⟨x0, x1, v, x3, x4, x5, x6, x7⟩⟩) r7 K) e v K)
def jo2 : Env -> U -> (Env -> Ans) -> Ans := (fun e v K => @E8.rec (E8 U) (fun _ => U -> (Env -> Ans) -> Ans) (fun r0 r1 r2 r3 r4 r5 r6 r7 v K => @E8.rec U (fun _ => (Env -> Ans) -> Ans) (fun x0 x1 x2 _ x4 x5 x6 x7 K => K ⟨r0, r1, r2, r3, r4, r5, r6, ⟨x0, x1, x2, v, x4, x5, x6, x7⟩⟩) r7 K) e v K)
def jo3 : Env -> U -> (Env -> Ans) -> Ans := (fun e v K => @E8.rec (E8 U) (fun _ => U -> (Env -> Ans) -> Ans) (fun r0 r1 r2 r3 r4 r5 r6 r7 v K => @E8.rec U (fun _ => (Env -> Ans) -> Ans) (fun x0 x1 x2 x3 _ x5 x6 x7 K => K ⟨r0, r1, r2, r3, r4, r5, r6, ⟨x0, x1, x2, x3, v, x5, x6, x7⟩⟩) r7 K) e v K)
def jo4 : Env -> U -> (Env -> Ans) -> Ans := (fun e v K => @E8.rec (E8 U) (fun _ => U -> (Env -> Ans) -> Ans) (fun r0 r1 r2 r3 r4 r5 r6 r7 v K => @E8.rec U (fun _ => (Env -> Ans) -> Ans) (fun x0 x1 x2 x3 x4 _ x6 x7 K => K ⟨r0, r1, r2, r3, r4, r5, r6, ⟨x0, x1, x2, x3, x4, v, x6, x7⟩⟩) r7 K) e v K)
def jaQ (ix : Ix) (e : Env) (K : U -> Ans) : Ans := @Ix.rec (fun _ => Env -> (U -> Ans) -> Ans) jpD jpE jpF jpG jpH jpI jpJ jpK jpL jpM jni jnj jnk jnl jnm jnn jno jnp jnq jnr jns jnt jnu jnv jnw jnx jny jnz jnA jnB jnC jnD jnE jnF jnG jnH jnI jnJ jnK jnL jnM jnN jnO jnP jnQ jnR jnS jnT jnU jnV jnW jnX jnY jnZ jn0 jn1 jn2 jn3 jn4 jn5 jn6 jn7 (fun j e K => K (Vf e j)) ix e K
def Js (ix : Ix) (e : Env) (v : U) (K : Env -> Ans) : Ans := @Ix.rec (fun _ => Env -> U -> (Env -> Ans) -> Ans) jpQ jpR jpS jpT jpU jpV jpW jpX jpY jpZ jof jog joh joi joj jok jol jom jon joo jop joq jor jos jot jou jov jow jox joy joz joA joB joC joD joE joF joG joH joI joJ joK joL joM joN joO joP joQ joR joS joT joU joV joW joX joY joZ jo0 jo1 jo2 jo3 jo4 (fun j e v K => K (jjV e v j)) ix e v K
theorem Yq (ix : Ix) (e : Env) (K : U -> Ans) : jaQ ix e K = K (Vf e (ixN ix)) := by
 obtain ⟨r0, r1, r2, r3, r4, r5, r6, r7⟩ := e;cases r0; cases r1; cases r2; cases r3; cases r4; cases r5; cases r6; cases r7;cases ix <;> rfl
theorem yj (ix : Ix) (e : Env) (v : U) (K : Env -> Ans) : Js ix e v K = K (jjV e v (ixN ix)) := by
 obtain ⟨r0, r1, r2, r3, r4, r5, r6, r7⟩ := e;cases r0; cases r1; cases r2; cases r3; cases r4; cases r5; cases r6; cases r7;cases ix <;> rfl
end
end Go.Idl
namespace Go.Idl
noncomputable section
set_option maxHeartbeats 100000
def StR : U -> List IVal -> Prop
 | .nl, _ => True
 | .cn u r, v :: l => toI u = v /\ StR r l
 | _, _ => False
def stK (d : Nat) (st : U) (K : U -> Ans) : Ans := @Nat.rec (fun _ => U -> (U -> Ans) -> Ans) (fun st K => uC st false fun u _ => K u) (fun _ ih st K => uC st false fun _ r => ih r K) d st K
theorem Q2 : ∀ {d : Nat} {st : U} {K : U -> Ans} {l : List IVal}, stK d st K = true -> StR st l -> ∃ u, l[d]? = some (toI u) /\ K u = true := by
 intro d
 induction d with
 | zero =>
   intro st K l h R
   rcases jj (show uC st false (fun u _ => K u) = true from h) with ⟨_, h2⟩ | ⟨u, r, rfl, h2⟩
   . cases h2
   . cases l with
     | nil => exact R.elim
     | cons v l => exact ⟨u, by rw [R.1]; rfl, h2⟩
 | succ d ih =>
   intro st K l h R
   rcases jj (show uC st false (fun _ r => stK d r K) = true from h) with ⟨_, h2⟩ | ⟨u, r, rfl, h2⟩
   . cases h2
   . cases l with
     | nil => exact R.elim
     | cons v l => obtain ⟨w, h3, h4⟩ := ih h2 R.2; exact ⟨w, h3, h4⟩
def joe (p : Nat) (st : U) (K : U -> Ans) : Ans := @Nat.rec (fun _ => U -> (U -> Ans) -> Ans) (fun st K => K st) (fun _ ih st K => uC st (K .nl) fun _ r => ih r K) p st K
theorem jfB : ∀ {p : Nat} {st : U} {K : U -> Ans} {l : List IVal}, joe p st K = true -> StR st l -> ∃ r, StR r (l.drop p) /\ K r = true := by
 intro p
 induction p with
 | zero => intro st K l h R; exact ⟨st, R, h⟩
 | succ p ih =>
   intro st K l h R
   rcases jj (show uC st (K .nl) (fun _ r => joe p r K) = true from h) with ⟨rfl, h2⟩ | ⟨u, r, rfl, h2⟩
   . exact ⟨.nl, trivial, h2⟩
   . cases l with
     | nil => exact R.elim
     | cons v l => exact ih h2 R.2
def jin (d : Nat) (w : U) (st : U) (K : U -> Ans) : Ans := @Nat.rec (fun _ => U -> (U -> Ans) -> Ans) (fun st K => uC st false fun _ r => K (.cn w r)) (fun _ ih st K => uC st false fun u r => ih r fun r' => K (.cn u r')) d st K
theorem jdx : ∀ {d : Nat} {w st : U} {K : U -> Ans} {l : List IVal}, jin d w st K = true -> StR st l -> ∃ r, StR r (l.set d (toI w)) /\ K r = true := by
 intro d
 induction d with
 | zero =>
   intro w st K l h R
   rcases jj (show uC st false (fun _ r => K (.cn w r)) = true from h) with ⟨_, h2⟩ | ⟨u, r, rfl, h2⟩
   . cases h2
   . cases l with
     | nil => exact R.elim
     | cons v l => exact ⟨.cn w r, (show toI w = toI w /\ StR r l from ⟨rfl, R.2⟩), h2⟩
 | succ d ih =>
   intro w st K l h R
   rcases jj (show uC st false (fun u r => jin d w r fun r' => K (.cn u r')) = true from h) with ⟨_, h2⟩ | ⟨u, r, rfl, h2⟩
   . cases h2
   . cases l with
     | nil => exact R.elim
     | cons v l => obtain ⟨r', h3, h4⟩ := ih h2 R.2; exact ⟨.cn u r', (show toI u = v /\ StR r' (l.set d (toI w)) from ⟨R.1, h3⟩), h4⟩
inductive QOpd where
 | v (ix : Ix)
 | m (ix : Ix)
 | s (d : Nat)
 | u (d : Nat)
 | n (d : Nat)
 | c (u : U)
def yB : XOpd -> QOpd
 | .v i => .v (Vw i)
 | .m i => .m (Vw i)
 | .s d => .s d
 | .u d => .u d
 | .n d => .n d
 | .c x => .c (rep x)
def plQ (u : U) : Bool := (@U.rec (fun _ => Bool) (fun k n => true) (fun x => true) (fun l x => true) (fun t a b c d x _ => @Bool.rec (fun _ => Bool) (@Bool.rec (fun _ => Bool) false (Nat.ble t 11) (Nat.ble 2 t)) true (Nat.beq t 1)) (false) (fun _ _ _ _ => false) (fun _ _ _ _ _ _ => false) (fun _ => false) (fun _ _ _ _ _ _ _ => false) u)
theorem jmC {u : U} (h : plQ u = true) : plI (toI u) = true := by
 cases u with
 | i k n => rfl
 | b x => rfl
 | s l x => rfl
 | o t a b c d x =>
   have h : @Bool.rec (fun _ => Bool) (@Bool.rec (fun _ => Bool) false (Nat.ble t 11) (Nat.ble 2 t)) true (Nat.beq t 1) = true := h;rw [vV] at h;split at h
   . rename_i e; have := zN e; subst this; rfl
   . rw [vV] at h;split at h
     . rename_i e;have h1 : 2 <= t := Nat.le_of_ble_eq_true e;have h2 : t <= 11 := Nat.le_of_ble_eq_true h;have h3 : t = 2 \/ t = 3 \/ t = 4 \/ t = 5 \/ t = 6 \/ t = 7 \/ t = 8 \/ t = 9 \/ t = 10 \/ t = 11 := by omega
       rcases h3 with rfl | rfl | rfl | rfl | rfl | rfl | rfl | rfl | rfl | rfl <;> rfl
     . cases h
 | _ => cases h
def KC (x : QOpd) (e : Env) (st : U) (K : U -> Env -> Ans) : Ans := @QOpd.rec (fun _ => Env -> U -> (U -> Env -> Ans) -> Ans)
 (fun ix e _ K => jaQ ix e fun v => unK v fun w => K w e)
 (fun ix e _ K => jaQ ix e fun v => mvK v (fun w => K w e) fun w l => Js ix e l fun e' => K w e')
 (fun d e st K => stK d st fun w => K w e)
 (fun d e st K => stK d st fun v => unK v fun w => K w e)
 (fun d e st K => stK d st fun v => tst (plQ v) (K v e))
 (fun u e _ K => K u e) x e st K
theorem kv {x : XOpd} {e : Env} {st : U} {K : U -> Env -> Ans} {vs : AL} {l : List IVal} (h : KC (yB x) e st K = true) (hv : VarQ e vs) (hs : StR st l) :
   ∃ u vs' e', x.get vs l = some (toI u, vs') /\ VarQ e' vs' /\ dsU e' = dsU e /\ K u e' = true := by
 cases x with
 | v i =>
   have h : jaQ (Vw i) e (fun v => unK v fun w => K w e) = true := h;rw [Yq, zZ] at h;obtain ⟨h1, u, h2, h3⟩ := KQ h;exact ⟨u, vs, e, by simp only [XOpd.get, hv i h1, h2], hv, rfl, h3⟩
 | m i =>
   have h : jaQ (Vw i) e (fun v => mvK v (fun w => K w e) fun w l => Js (Vw i) e l fun e' => K w e') = true := h;rw [Yq, zZ] at h;obtain ⟨h1, h2⟩ := jhy h
   rcases h2 with ⟨h3, h4⟩ | ⟨u, h3, h4, h5⟩
   . refine ⟨_, Zc i (un3 (toI (Vf e i))) vs, e, by simp only [XOpd.get, hv i h1], fun k hk => ?_, rfl, h4⟩;rw [Ko, h3];split
     . rename_i hki; subst hki; rfl
     . exact hv k hk
   . rw [yj, zZ] at h5;refine ⟨_, Zc i (un3 (toI (Vf e i))) vs, _, by simp only [XOpd.get, hv i h1], ?_, vZ _ _ _, h5⟩;rw [<- h3];exact hv.set i u
 | s d =>
   obtain ⟨u, h1, h2⟩ := Q2 (show stK d st (fun w => K w e) = true from h) hs;exact ⟨u, vs, e, by simp only [XOpd.get, h1], hv, rfl, h2⟩
 | u d =>
   obtain ⟨v, h1, h2⟩ := Q2 (show stK d st (fun v => unK v fun w => K w e) = true from h) hs;obtain ⟨_, u, h3, h4⟩ := KQ h2;exact ⟨u, vs, e, by simp only [XOpd.get, h1, h3], hv, rfl, h4⟩
 | n d =>
   obtain ⟨v, h1, h2⟩ := Q2 (show stK d st (fun v => tst (plQ v) (K v e)) = true from h) hs;obtain ⟨h3, h4⟩ := jb h2;exact ⟨v, vs, e, by simp only [XOpd.get, h1, jmC h3, if_true], hv, rfl, h4⟩
 | c x =>
   have h : K (rep x) e = true := h;exact ⟨rep x, vs, e, by simp only [XOpd.get, zy], hv, rfl, h⟩
def K8 (xs : List QOpd) (e : Env) (st : U) (K : U -> Env -> Ans) : Ans := @List.rec QOpd (fun _ => Env -> U -> (U -> Env -> Ans) -> Ans) (fun e _ K => K .nl e) (fun x _ ih e st K => KC x e st fun u e' => ih e' st fun l e'' => K (.cn u l) e'') xs e st K
theorem qR : ∀ {xs : List XOpd} {e : Env} {st : U} {K : U -> Env -> Ans} {vs : AL} {l : List IVal}, K8 (xs.map yB) e st K = true -> VarQ e vs -> StR st l ->
   ∃ u vs' e', jO xs vs l = some (toL u, vs') /\ VarQ e' vs' /\ dsU e' = dsU e /\ K u e' = true := by
 intro xs
 induction xs with
 | nil => intro e st K vs l h hv hs; exact ⟨.nl, vs, e, rfl, hv, rfl, h⟩
 | cons x xs ih =>
   intro e st K vs l h hv hs;obtain ⟨u, vs1, e1, h1, h2, h3, h4⟩ := kv (show KC (yB x) e st (fun u e' => K8 (xs.map yB) e' st fun l e'' => K (.cn u l) e'') = true from h) hv hs;obtain ⟨r, vs2, e2, h5, h6, h7, h8⟩ := ih h4 h2 hs;exact ⟨.cn u r, vs2, e2, by simp only [jO, h1, h5]; rfl, h6, h7.trans h3, h8⟩
def V1 (o : IOp) (f : U -> KU -> Ans) : Prop := ∀ u K, f u K = true -> ∃ r, (∀ cf σ wr, ∃ t, opV cf o [toI u] σ wr = some ⟨false, toI r, ⟨t, σ, wr⟩⟩) /\ K r = true
def V2 (o : IOp) (f : U -> U -> KU -> Ans) : Prop := ∀ u v K, f u v K = true -> ∃ r, (∀ cf σ wr, ∃ t, opV cf o [toI u, toI v] σ wr = some ⟨false, toI r, ⟨t, σ, wr⟩⟩) /\ K r = true
def VL (o : IOp) (f : U -> KU -> Ans) : Prop := ∀ u K, f u K = true -> (toL u).length = (je o).length -> ∃ r, (∀ cf σ wr, ∃ t, opV cf o (toL u) σ wr = some ⟨false, toI r, ⟨t, σ, wr⟩⟩) /\ K r = true
def W0 (o : IOp) (f : H -> KH -> Ans) : Prop := ∀ h K σ wr, HR h σ wr -> f h K = true -> ∃ r h' σ' wr', (∀ cf, ∃ t, opV cf o [] σ wr = some ⟨false, toI r, ⟨t, σ', wr'⟩⟩) /\ HR h' σ' wr' /\ h'.tr = h.tr /\ K r h' = true
def W1 (o : IOp) (f : U -> H -> KH -> Ans) : Prop := ∀ u h K σ wr, HR h σ wr -> f u h K = true -> ∃ r h' σ' wr', (∀ cf, ∃ t, opV cf o [toI u] σ wr = some ⟨false, toI r, ⟨t, σ', wr'⟩⟩) /\ HR h' σ' wr' /\ h'.tr = h.tr /\ K r h' = true
def W2 (o : IOp) (f : U -> U -> H -> KH -> Ans) : Prop := ∀ u v h K σ wr, HR h σ wr -> f u v h K = true -> ∃ r h' σ' wr', (∀ cf, ∃ t, opV cf o [toI u, toI v] σ wr = some ⟨false, toI r, ⟨t, σ', wr'⟩⟩) /\ HR h' σ' wr' /\ h'.tr = h.tr /\ K r h' = true
def WL (o : IOp) (f : U -> H -> KH -> Ans) : Prop := ∀ u h K σ wr, HR h σ wr -> f u h K = true -> (toL u).length = (je o).length -> ∃ r h' σ' wr', (∀ cf, ∃ t, opV cf o (toL u) σ wr = some ⟨false, toI r, ⟨t, σ', wr'⟩⟩) /\ HR h' σ' wr' /\ h'.tr = h.tr /\ K r h' = true
theorem Km {o : IOp} {f : U -> KU -> Ans} (hp : ∀ a, Pu1 (o.with [a]) f) (ho : ∀ a, je (o.with [a]) = [.c a]) : V1 o f := by
 intro u K h;obtain ⟨r, h1, h2⟩ := hp (toI u) u K ts0 ts0 h (by rw [ho]; rfl);exact ⟨r, fun cf σ wr => ⟨ts0, h1 cf σ wr⟩, h2⟩
theorem Y9 {o : IOp} {f : U -> U -> KU -> Ans} (hp : ∀ a b, Pu2 (o.with [a, b]) f) (ho : ∀ a b, je (o.with [a, b]) = [.c a, .c b]) : V2 o f := by
 intro u v K h;obtain ⟨r, h1, h2⟩ := hp (toI u) (toI v) u v K ts0 ts0 h (by rw [ho]; rfl);exact ⟨r, fun cf σ wr => ⟨ts0, h1 cf σ wr⟩, h2⟩
theorem jaB {o : IOp} {f : U -> KU -> Ans} (hp : ∀ l : List IVal, l.length = (je o).length -> PuL (o.with l) f /\ je (o.with l) = l.map .c) : VL o f := by
 intro u K h hl;letI : Globs := ⟨fun _ => none⟩;obtain ⟨h0, ho⟩ := hp (toL u) hl;obtain ⟨r, h1, h2⟩ := h0 u K ts0 ts0 h (by rw [ho, jM]);exact ⟨r, fun cf σ wr => ⟨ts0, h1 cf σ wr⟩, h2⟩
theorem jlF {o : IOp} {f : H -> KH -> Ans} (hp : Hp0 (o.with []) f) : W0 o f := by
 intro h K σ wr hr hk;obtain ⟨r, h', σ', wr', h1, h2⟩ := hp h K ts0 σ wr hr hk;exact ⟨r, h', σ', wr', fun cf => ⟨ts0, h1 cf⟩, h2⟩
theorem jgA {o : IOp} {f : U -> H -> KH -> Ans} (hp : ∀ a, Hp1 (o.with [a]) f) (ho : ∀ a, je (o.with [a]) = [.c a]) : W1 o f := by
 intro u h K σ wr hr hk;obtain ⟨r, h', σ', wr', h1, h2⟩ := hp (toI u) u h K ts0 ts0 σ wr hr hk (by rw [ho]; rfl);exact ⟨r, h', σ', wr', fun cf => ⟨ts0, h1 cf⟩, h2⟩
theorem jdR {o : IOp} {f : U -> U -> H -> KH -> Ans} (hp : ∀ a b, Hp2 (o.with [a, b]) f) (ho : ∀ a b, je (o.with [a, b]) = [.c a, .c b]) : W2 o f := by
 intro u v h K σ wr hr hk;obtain ⟨r, h', σ', wr', h1, h2⟩ := hp (toI u) (toI v) u v h K ts0 ts0 σ wr hr hk (by rw [ho]; rfl);exact ⟨r, h', σ', wr', fun cf => ⟨ts0, h1 cf⟩, h2⟩
theorem jjo {o : IOp} {f : U -> H -> KH -> Ans} (hp : ∀ l : List IVal, l.length = (je o).length -> HpL (o.with l) f /\ je (o.with l) = l.map .c) : WL o f := by
 intro u h K σ wr hr hk hl;letI : Globs := ⟨fun _ => none⟩;obtain ⟨h0, ho⟩ := hp (toL u) hl;obtain ⟨r, h', σ', wr', h1, h2⟩ := h0 u h K ts0 ts0 σ wr hr hk (by rw [ho, jM]);exact ⟨r, h', σ', wr', fun cf => ⟨ts0, h1 cf⟩, h2⟩
inductive QOp where
 | p1 (f : U -> KU -> Ans)
 | p2 (f : U -> U -> KU -> Ans)
 | pL (f : U -> KU -> Ans)
 | h0 (f : H -> KH -> Ans)
 | h1 (f : U -> H -> KH -> Ans)
 | h2 (f : U -> U -> H -> KH -> Ans)
 | hL (f : U -> H -> KH -> Ans)
 | call (g : FuncId)
 | callp (g : FuncId)
 | callv
 | inv (tab : List (TypeId × FuncId × RecvK))
 | extr (i : Nat)
 | pan
 | bad
def qop (o : IOp) : QOp := match o with
 | .mv _ => .p1 mvF
 | .pick _ a b => if yh a && yh b then .pL jkG else .bad
 | .alloc zs => .h0 (jiJ (jm2 zs))
 | .box _ => .h1 jpf
 | .boxv _ => .p1 jlM
 | .build zs ps => .pL (jiM (Qt zs) (Jo ps))
 | .buildSl e _ => .pL (Yh e)
 | .buildRs e _ => .hL (Yg e)
 | .load m n _ => .h1 (jhk m n)
 | .store n _ _ => .h2 (jf8 n)
 | .vSet G tab _ _ => .h2 (jmU G tab)
 | .nilCheck _ => .p1 ZJ
 | .bin op _ _ => .p2 (jnb op)
 | .isnil neg k _ => .p1 (jiZ neg k)
 | .eqa neg a b => .p2 (jo8 (.eqa neg a b))
 | .eqb neg _ _ => .p2 (jph neg)
 | .un op _ => .p1 (unF op)
 | .conv (.int k) _ => .p1 (jlT (kc k))
 | .conv .bytes _ => .p1 jiN
 | .conv .text _ => .p1 jk5
 | .conv .same _ => .p1 jmK
 | .conv .rune x => .p1 (jbD (.conv .rune x))
 | .mkIface t _ => .p1 (jb6 t)
 | .mkFn (.func f) xs _ => .pL (jmq f xs.length)
 | .mkMap => .h0 ji2
 | .mkSl b e by' zs _ _ => .h2 (jmr b e by' (Qt zs) (rep (Xo zs)))
 | .sliceS _ lo hi => .pL (jf4 lo.isSome hi.isSome)
 | .sliceL e _ lo hi mx => .pL (sliceLF e lo.isSome hi.isSome mx.isSome)
 | .fieldAddr off _ => .p1 (XG off)
 | .field off n _ => .p1 (jb1 off n)
 | .idxAddr e _ _ => .p2 (jb3 e)
 | .idxAddrA l e _ _ => .p2 (Zy l e)
 | .idxS _ _ => .p2 jmc
 | .idxA l e n _ _ => .p2 (jma l e n)
 | .lookup kk z ok _ _ => .h2 (je0 kk (rep z) ok)
 | .mapSet kk _ _ _ => .hL (je4 kk)
 | .mem k _ => .hL (jn9 k)
 | .extract _ i => .extr i
 | .append false false e by' _ _ => .p2 (jlH e by')
 | .append false true e by' _ _ => .p2 (jlJ e by')
 | .append true false e by' _ _ => .h2 (jlI e by')
 | .clear zs _ => .h1 (jiP (Qt zs) (!(zs.all nr1)))
 | .lenS _ => .p1 jmj
 | .lenL _ => .p1 jmh
 | .lenM _ => .h1 jmi
 | .minmax m _ => .pL (jfa m)
 | .pur k xs => .pL (YO (.pur k xs))
 | .vOf G tab x => .p1 (jbD (.vOf G tab x))
 | .call g _ => .call g
 | .callp g _ => .callp g
 | .callv _ _ => .callv
 | .inv tab _ _ => .inv tab
 | .panic _ => .pan
 | _ => .bad
theorem yL {lo : Option Opd} {vs : List IVal} (h : vs.length ≥ lo.toList.length) : (QQ lo vs).all yh = true /\ (QQ lo vs).isSome = lo.isSome := by
 cases lo with
 | none => exact ⟨rfl, rfl⟩
 | some x => cases vs with
   | nil => simp at h
   | cons v vs => exact ⟨rfl, rfl⟩
theorem Jm {lo : Option Opd} {vs : List IVal} (h : vs.length ≥ lo.toList.length) : (QQ lo vs).toList ++ (KE lo vs).map Opd.c = vs.map .c /\ (KE lo vs).length = vs.length - lo.toList.length := by
 cases lo with
 | none => exact ⟨rfl, rfl⟩
 | some x => cases vs with
   | nil => simp at h
   | cons v vs => exact ⟨rfl, by simp [KE]⟩
def QOK (o : IOp) : QOp -> Prop
 | .p1 f => V1 o f
 | .p2 f => V2 o f
 | .pL f => VL o f
 | .h0 f => W0 o f
 | .h1 f => W1 o f
 | .h2 f => W2 o f
 | .hL f => WL o f
 | .call g => ∃ xs, o = .call g xs
 | .callp g => ∃ xs, o = .callp g xs
 | .callv => ∃ f xs, o = .callv f xs
 | .inv tab => ∃ x xs, o = .inv tab x xs
 | .extr i => ∃ x, o = .extract x i
 | .pan => ∃ x, o = .panic x
 | .bad => True
theorem Q1 {o : IOp} {l : List IVal} (hp : XQ (o.with l) = true) (hx : okX (o.with l) = true) (hw : (o.with l).with l = o.with l) {u : U} (hu : toL u = l) {K : KU} {ts ts' : Ts} (h : YO o u K = true) (hg : getAll (je (o.with l)) ts = some (toL u, ts')) :
   ∃ r, (∀ cf σ wr, ja cf (o.with l) ⟨ts, σ, wr⟩ = some ⟨false, toI r, ⟨ts', σ, wr⟩⟩) /\ K r = true := by
 have h' : YO (o.with l) u K = true := by
   unfold YO at h ⊢;rw [hu] at h ⊢;rw [hw]; exact h
 exact jcn _ hp hx u K ts ts' h' hg
theorem jmE (o : IOp) : QOK o (qop o) := by
 letI : Globs := ⟨fun _ => none⟩;cases o
 case mv x => exact Km (fun a => jms _) (fun a => rfl)
 case pick c a b =>
   show QOK _ (if yh a && yh b then QOp.pL jkG else .bad);split
   . refine jaB fun l hl => ?_
     match l, hl with
     | [x, y, z], _ => exact ⟨jhM (.c x) (.c y) (.c z) rfl rfl, rfl⟩
   . trivial
 case alloc zs => exact jlF (jdV zs)
 case box x => exact jgA (fun a => jjB _) (fun a => rfl)
 case boxv x => exact Km (fun a => jgH _) (fun a => rfl)
 case build zs ps =>
   refine jaB fun l hl => ?_;have hl : l.length = (ps.map (·.2.2)).length := hl;have e1 : ((ps.zip l).map fun p => (p.1.1, p.1.2.1, Opd.c p.2)).map (·.2.2) = l.map Opd.c := by
     simp only [List.map_map];show (ps.zip l).map (fun p => Opd.c p.2) = _;rw [show (fun p : (Nat × Nat × Opd) × IVal => Opd.c p.2) = Opd.c ∘ Prod.snd from rfl, <- List.map_map, List.map_snd_zip (by simp at hl; omega)]
   have e2 : Jo ((ps.zip l).map fun p => (p.1.1, p.1.2.1, Opd.c p.2)) = Jo ps := by
     simp only [Jo, List.map_map];show (ps.zip l).map (fun p => (p.1.1, p.1.2.1)) = _;rw [show (fun p : (Nat × Nat × Opd) × IVal => (p.1.1, p.1.2.1)) = (fun p : Nat × Nat × Opd => (p.1, p.2.1)) ∘ Prod.fst from rfl, <- List.map_map, List.map_fst_zip (by simp at hl; omega)]
   have h := jd2 zs ((ps.zip l).map fun p => (p.1.1, p.1.2.1, Opd.c p.2));rw [e2] at h;exact ⟨h, e1⟩
 case buildSl e xs => exact jaB fun l hl => ⟨jaE e _, rfl⟩
 case mem k xs => exact jjo fun l hl => ⟨jkk k _, rfl⟩
 case buildRs e xs => exact jjo fun l hl => ⟨jaD e _, rfl⟩
 case load m n x => exact jgA (fun a => Yt m n _) (fun a => rfl)
 case store n x v => exact jdR (fun a b => jai n _ _) (fun a b => rfl)
 case vSet G tab x v => exact jdR (fun a b => jiC G tab _ _) (fun a b => rfl)
 case nilCheck x => exact Km (fun a => ZK _) (fun a => rfl)
 case bin op x y => exact Y9 (fun a b => jjz op _ _) (fun a b => rfl)
 case isnil neg k x => exact Km (fun a => jeW neg k _) (fun a => rfl)
 case eqa neg x y =>
   intro u v K h;obtain ⟨r, h1, h2⟩ := Q1 (o := .eqa neg x y) (l := [toI u, toI v]) (u := .cn u (.cn v .nl)) rfl rfl rfl rfl (ts := ts0) (ts' := ts0) h rfl;exact ⟨r, fun cf σ wr => ⟨ts0, h1 cf σ wr⟩, h2⟩
 case eqb neg x y => exact Y9 (fun a b => jjT neg _ _) (fun a b => rfl)
 case un op x => exact Km (fun a => jmS op _) (fun a => rfl)
 case conv c x =>
   cases c with
   | int k => exact Km (fun a => jgM k _) (fun a => rfl)
   | bytes => exact Km (fun a => jd3 _) (fun a => rfl)
   | text => exact Km (fun a => jir _) (fun a => rfl)
   | same => exact Km (fun a => jh7 _) (fun a => rfl)
   | rune =>
     intro u K h;obtain ⟨r, h1, h2⟩ := Q1 (o := .conv .rune x) (l := [toI u]) (u := .cn u .nl) rfl rfl rfl rfl (ts := ts0) (ts' := ts0) h rfl;exact ⟨r, fun cf σ wr => ⟨ts0, h1 cf σ wr⟩, h2⟩
 case mkIface t x => exact Km (fun a => jaY t _) (fun a => rfl)
 case mkFn f xs ys =>
   cases f with
   | func f =>
       refine jaB fun l hl => ?_;have hl : l.length = (xs ++ ys).length := hl;have h := jhv f ((l.take xs.length).map .c) ((l.drop xs.length).map .c);rw [List.length_map, List.length_take, Nat.min_eq_left (by simp at hl; omega)] at h;refine ⟨h, ?_⟩;show (l.take xs.length).map Opd.c ++ (l.drop xs.length).map Opd.c = _;rw [<- List.map_append, List.take_append_drop]
   | _ => trivial
 case mkMap => exact jlF jfc
 case mkSl b e by' zs x y => exact jdR (fun a c => jhw b e by' zs _ _) (fun a c => rfl)
 case sliceS x lo hi =>
   refine jaB fun l hl => ?_;have hl : l.length = (x :: (lo.toList ++ hi.toList)).length := hl
   cases l with
   | nil => simp at hl
   | cons a vs =>
     simp only [List.length_cons, List.length_append] at hl;have p1 := yL (lo := lo) (vs := vs) (by omega);have p2 := Jm (lo := lo) (vs := vs) (by omega);have q1 := yL (lo := hi) (vs := KE lo vs) (by omega);have q2 := Jm (lo := hi) (vs := KE lo vs) (by omega);have q3 : KE hi (KE lo vs) = [] := List.length_eq_zero_iff.1 (by omega);rw [q3, List.map_nil, List.append_nil] at q2;have h := jdw (.c a) (QQ lo vs) (QQ hi (KE lo vs)) p1.1 q1.1;rw [p1.2, q1.2] at h;refine ⟨h, ?_⟩;show Opd.c a :: ((QQ lo vs).toList ++ (QQ hi (KE lo vs)).toList) = _;rw [q2.1, p2.1]; rfl
 case sliceL e x lo hi mx =>
   refine jaB fun l hl => ?_;have hl : l.length = (x :: (lo.toList ++ (hi.toList ++ mx.toList))).length := hl
   cases l with
   | nil => simp at hl
   | cons a vs =>
     simp only [List.length_cons, List.length_append] at hl;have p1 := yL (lo := lo) (vs := vs) (by omega);have p2 := Jm (lo := lo) (vs := vs) (by omega);have q1 := yL (lo := hi) (vs := KE lo vs) (by omega);have q2 := Jm (lo := hi) (vs := KE lo vs) (by omega);have r1 := yL (lo := mx) (vs := KE hi (KE lo vs)) (by omega);have r2 := Jm (lo := mx) (vs := KE hi (KE lo vs)) (by omega);have r3 : KE mx (KE hi (KE lo vs)) = [] := List.length_eq_zero_iff.1 (by omega);rw [r3, List.map_nil, List.append_nil] at r2;have h := jdv e (.c a) (QQ lo vs) (QQ hi (KE lo vs)) (QQ mx (KE hi (KE lo vs))) p1.1 q1.1 r1.1;rw [p1.2, q1.2, r1.2] at h;refine ⟨h, ?_⟩;show Opd.c a :: ((QQ lo vs).toList ++ ((QQ hi (KE lo vs)).toList ++ (QQ mx (KE hi (KE lo vs))).toList)) = _;rw [r2.1, q2.1, p2.1]; rfl
 case fieldAddr off x => exact Km (fun a => Yl off _) (fun a => rfl)
 case field off n x => exact Km (fun a => Vn off n _) (fun a => rfl)
 case idxAddr e x i => exact Y9 (fun a b => jaT e _ _) (fun a b => rfl)
 case idxAddrA l e x i => exact Y9 (fun a b => Zz l e _ _) (fun a b => rfl)
 case idxS x i => exact Y9 (fun a b => jhb _ _) (fun a b => rfl)
 case idxA l e n x i => exact Y9 (fun a b => jha l e n _ _) (fun a b => rfl)
 case lookup kk z ok x k => exact jdR (fun a b => jc7 kk z ok _ _) (fun a b => rfl)
 case mapSet kk m k v =>
   refine jjo fun l hl => ?_
   match l, hl with
   | [x, y, z], _ => exact ⟨jc8 kk (.c x) (.c y) (.c z), rfl⟩
 case extract x i => exact ⟨x, rfl⟩
 case append br str e by' s x =>
   cases br with
   | true => cases str with
     | false => exact jdR (fun a c => jgE e by' _ _) (fun a c => rfl)
     | true => trivial
   | false =>
     cases str with
     | false => exact Y9 (fun a b => jgD e by' _ _) (fun a b => rfl)
     | true => exact Y9 (fun a b => jgF e by' _ _) (fun a b => rfl)
 case clear zs x => exact jgA (fun a => jed zs _) (fun a => rfl)
 case lenS x => exact Km (fun a => jhi _) (fun a => rfl)
 case lenL x => exact Km (fun a => jhg _) (fun a => rfl)
 case lenM x => exact jgA (fun a => jhh _) (fun a => rfl)
 case minmax m xs => exact jaB fun l hl => ⟨jc9 m _, rfl⟩
 case pur k xs =>
   intro u K h hl;have e : ((IOp.pur k xs).with (toL u)).with (toL u) = (IOp.pur k xs).with (toL u) := rfl
   obtain ⟨r, h1, h2⟩ := Q1 (o := .pur k xs) (l := toL u) (u := u) rfl rfl e rfl (ts := ts0) (ts' := ts0) h (jM _ _);exact ⟨r, fun cf σ wr => ⟨ts0, h1 cf σ wr⟩, h2⟩
 case vOf G tab x =>
   intro u K h;obtain ⟨r, h1, h2⟩ := Q1 (o := .vOf G tab x) (l := [toI u]) (u := .cn u .nl) rfl rfl rfl rfl (ts := ts0) (ts' := ts0) h rfl;exact ⟨r, fun cf σ wr => ⟨ts0, h1 cf σ wr⟩, h2⟩
 case call g xs => exact ⟨xs, rfl⟩
 case callp g xs => exact ⟨xs, rfl⟩
 case callv f xs => exact ⟨f, xs, rfl⟩
 case inv tab x xs => exact ⟨x, xs, rfl⟩
 case panic x => exact ⟨x, rfl⟩
 all_goals trivial
end
end Go.Idl
