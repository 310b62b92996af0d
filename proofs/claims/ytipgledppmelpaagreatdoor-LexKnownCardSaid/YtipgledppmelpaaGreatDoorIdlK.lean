/- The ideal machine and its evaluators, part 11; no conditions. -/
import Derived.Lib.Bytealg
import Derived.Lib.Fields
import Derived.Lib.IndexMore
import Derived.Lib.Repeat
import Derived.Lib.Space
import Derived.Deep.Draws
import Derived.Test.YtipgledppmelpaaGreatDoorIdlJ
set_option linter.unusedSectionVars false
set_option linter.unusedVariables false
set_option linter.unusedSimpArgs false
namespace Go.Idl
noncomputable section
def pCount : List IVal -> Option IVal
 | [.str s, .str [c]] => some (.int .i64 (Lib.countByte s c))
 | _ => none
def pRepeat : List IVal -> Option IVal
 | [.str s, .int .i64 n] => if 2 <= n /\ 0 < s.length /\ s.length * n.toNat <= 140737488355328 then some (.str (Lib.repeatL s n.toNat)) else none
 | _ => none
def pFields : List IVal -> Option IVal
 | [.str s] => if s.length < 4294967281 /\ s.all (fun b => b.toNat < 128) = true /\ (Lib.fields s).isEmpty = false then some (.sl 0 false ((Lib.fields s).map .str)) else none
 | _ => none
def pCut : List IVal -> Option IVal
 | [.str s, .str t] => if s.length < 4294967281 then some (.tup [.str (Lib.cut s t).1, .str (Lib.cut s t).2.1, .bool (Lib.cut s t).2.2]) else none
 | _ => none
def pClone : List IVal -> Option IVal
 | [.str s] => if s.length <= 281474976710656 then some (.str s) else none
 | _ => none
def pRange (t : TypeId) (b o : Nat) : List IVal -> Option IVal
 | [.str f, .str s] => if s.length <= 281474976710656 then some (.pv false [.str f, .str s, .iface t (.prim (.pointer (some ⟨b, o, none⟩)))] 0) else none
 | _ => none
def slowQ (p : List IVal -> Option IVal) (l : U) (K : U -> Ans) : Ans := @Option.rec IVal (fun _ => Ans) false (fun v => frU (rep v) K) (p (toL l))
theorem slowQ_ok (p : List IVal -> Option IVal) : LibQ p (slowQ p) := by
 intro l K h
 unfold slowQ at h
 cases hp : p (toL l) with
 | none => rw [hp] at h; cases h
 | some v =>
   rw [hp] at h
   have h : frU (rep v) K = true := h
   rw [frU_eq] at h
   exact ⟨rep v, by rw [rep_ok], h⟩
def cntN (c n : Nat) : Nat -> Nat -> (Nat -> Ans) -> Ans := @Nat.rec (fun _ => Nat -> Nat -> (Nat -> Ans) -> Ans) (fun _ a K => K a)
 (fun _ ih x a K => fN (Nat.div x 256) fun y => fN (@Bool.rec (fun _ => Nat) a (Nat.succ a) (Nat.beq (Nat.mod x 256) c)) fun a => ih y a K) n
theorem cntN_true {c : Nat} (hc : c < 256) : ∀ {n x a : Nat} {K : Nat -> Ans}, cntN c n x a K = true -> K (a + (unpk n x).count (UInt8.ofNat c)) = true := by
 intro n
 induction n with
 | zero => intro x a K h; exact h
 | succ n ih =>
   intro x a K h
   have h : fN (Nat.div x 256) (fun y => fN (@Bool.rec (fun _ => Nat) a (Nat.succ a) (Nat.beq (Nat.mod x 256) c)) fun a => cntN c n y a K) = true := h
   rw [fN_eq, fN_eq] at h
   have h := ih h
   rw [unpk_succ, List.count_append]
   have e : List.count (UInt8.ofNat c) [UInt8.ofNat x] = if x % 256 = c then 1 else 0 := by
     rw [List.count_singleton]
     by_cases hx : x % 256 = c
     . rw [if_pos hx, if_pos]
       rw [beq_iff_eq]
       exact u8_mod (by rw [hx, Nat.mod_eq_of_lt hc])
     . rw [if_neg hx, if_neg]
       rw [beq_iff_eq]
       intro e
       have := congrArg UInt8.toNat e
       simp only [UInt8.toNat_ofNat'] at this
       omega
   rw [e]
   have e2 : @Bool.rec (fun _ => Nat) a (Nat.succ a) (Nat.beq (Nat.mod x 256) c) = a + if x % 256 = c then 1 else 0 := by
     cases hb : Nat.beq (Nat.mod x 256) c with
     | true => rw [if_pos (show x % 256 = c from zN hb)]
     | false => rw [if_neg (show ¬ x % 256 = c from zE hb)]; rfl
   rw [e2] at h
   have e3 : a + ((unpk n (x / 256)).count (UInt8.ofNat c) + if x % 256 = c then 1 else 0) = a + (if x % 256 = c then 1 else 0) + (unpk n (Nat.div x 256)).count (UInt8.ofNat c) := by
     rw [ndiv]; omega
   rw [e3]; exact h
def cntQ (l : U) (K : U -> Ans) : Ans := uC l false fun a r => uC r false fun b r => endK r (uS a fun n x => uS b fun m c => tst (Nat.beq m 1) (fN (Nat.mod c 256) fun c => cntN c n x 0 fun k => fN (Nat.add k 18446744073709551616) fun k => K (.i 3 k)))
theorem cntQ_ok : LibQ pCount cntQ := by
 intro l K h
 rcases uC_true (show uC l false (fun a r => uC r false fun b r => endK r (uS a fun n x => uS b fun m c => tst (Nat.beq m 1) (fN (Nat.mod c 256) fun c => cntN c n x 0 fun k => fN (Nat.add k 18446744073709551616) fun k => K (.i 3 k)))) = true from h) with ⟨_, h2⟩ | ⟨a, r, rfl, h2⟩
 . cases h2
 rcases uC_true h2 with ⟨_, h3⟩ | ⟨b, r, rfl, h3⟩
 . cases h3
 obtain ⟨rfl, h4⟩ := endK_true h3
 obtain ⟨n, x, rfl, h5⟩ := uS_true h4
 obtain ⟨m, c, rfl, h6⟩ := uS_true h5
 obtain ⟨h7, h8⟩ := tst_true h6
 have := zN h7; subst this
 rw [fN_eq] at h8
 have h9 := cntN_true (Nat.mod_lt _ (by omega)) h8
 rw [fN_eq, Nat.zero_add] at h9
 refine ⟨_, ?_, h9⟩
 have e : unpk 1 c = [UInt8.ofNat c] := by rw [unpk_succ]; rfl
 have e2 : UInt8.ofNat (c % 256) = UInt8.ofNat c := u8_mod (by omega)
 rw [toL_cn, toL_cn, toL_nl, toI_s, toI_s, e, toI_code, e2]
 rfl
def repN (b x n : Nat) : Nat -> (Nat -> Ans) -> Ans := @Nat.rec (fun _ => Nat -> (Nat -> Ans) -> Ans) (fun a K => K a) (fun _ ih a K => fN (Nat.add (Nat.mul a b) x) fun a => ih a K) n
theorem repeatL_tail (l : List UInt8) (c : Nat) : Lib.repeatL l (c + 1) = l ++ Lib.repeatL l c := rfl
theorem repN_true {l x : Nat} (hx : x < 256 ^ l) : ∀ {n m a : Nat} {K : Nat -> Ans}, repN (256 ^ l) x n a K = true -> ∃ y, unpk (m + l * n) y = unpk m a ++ Lib.repeatL (unpk l x) n /\ K y = true := by
 intro n
 induction n with
 | zero => intro m a K h; exact ⟨a, by simp [Lib.repeatL], h⟩
 | succ n ih =>
   intro m a K h
   have h : fN (Nat.add (Nat.mul a (256 ^ l)) x) (fun a => repN (256 ^ l) x n a K) = true := h
   rw [fN_eq] at h
   obtain ⟨y, h1, h2⟩ := ih (m := m + l) h
   refine ⟨y, ?_, h2⟩
   have e : m + l * (n + 1) = m + l + l * n := by rw [Nat.mul_succ]; omega
   rw [e, h1, repeatL_tail, <- zS, unpk_append m l a x, Nat.mod_eq_of_lt hx]
   rfl
def repQ (l : U) (K : U -> Ans) : Ans := uC l false fun u r => uC r false fun v r => endK r (uS u fun n x => uI v fun k c => tst (Nat.beq k 3) (tst (Nat.ble 18446744073709551618 c) (fN (Nat.sub c 18446744073709551616) fun c => tst (Nat.blt 0 n) (tst (Nat.ble (Nat.mul n c) 140737488355328) (fN (Nat.pow 256 n) fun b => fN (Nat.mod x b) fun x =>
 repN b x c 0 fun y => fN (Nat.mul n c) fun m => K (.s m y))))))
theorem repQ_ok : LibQ pRepeat repQ := by
 intro l K h
 rcases uC_true (show uC l false (fun u r => uC r false fun v r => endK r (uS u fun n x => uI v fun k c => tst (Nat.beq k 3) (tst (Nat.ble 18446744073709551618 c) (fN (Nat.sub c 18446744073709551616) fun c => tst (Nat.blt 0 n) (tst (Nat.ble (Nat.mul n c) 140737488355328) (fN (Nat.pow 256 n) fun b => fN (Nat.mod x b) fun x =>
   repN b x c 0 fun y => fN (Nat.mul n c) fun m => K (.s m y))))))) = true from h) with ⟨_, h2⟩ | ⟨u, r, rfl, h2⟩
 . cases h2
 rcases uC_true h2 with ⟨_, h3⟩ | ⟨v, r, rfl, h3⟩
 . cases h3
 obtain ⟨rfl, h4⟩ := endK_true h3
 obtain ⟨n, x, rfl, h5⟩ := uS_true h4
 obtain ⟨k, c, rfl, h6⟩ := uI_true h5
 obtain ⟨h7, h8⟩ := tst_true h6
 have := zN h7; subst this
 obtain ⟨h9, h10⟩ := tst_true h8
 have h9 := ble_iff.1 h9
 rw [fN_eq] at h10
 obtain ⟨h11, h12⟩ := tst_true h10
 have h11 := blt_true h11
 obtain ⟨h13, h14⟩ := tst_true h12
 have h13 := ble_iff.1 h13
 rw [fN_eq, fN_eq] at h14
 have hx : Nat.mod x (Nat.pow 256 n) < 256 ^ n := Nat.mod_lt _ (Nat.pow_pos (by omega))
 obtain ⟨y, h15, h16⟩ := repN_true (m := 0) hx h14
 rw [fN_eq] at h16
 refine ⟨_, ?_, h16⟩
 have ek : kd 3 = .i64 := rfl
 have hc : ((c : Int) - 18446744073709551616).toNat = Nat.sub c 18446744073709551616 := by rw [nsub]; omega
 rw [toL_cn, toL_cn, toL_nl, toI_s, toI_i, ek]
 simp only [pRepeat, unpk_length, hc]
 rw [if_pos ⟨by omega, h11, h13⟩, toI_s]
 rw [Nat.zero_add] at h15
 have e0 : unpk 0 0 = [] := rfl
 rw [e0, List.nil_append] at h15
 have e1 : Nat.mul n (Nat.sub c 18446744073709551616) = n * Nat.sub c 18446744073709551616 := rfl
 rw [e1, h15]
 have e2 : Nat.mod x (Nat.pow 256 n) = x % 256 ^ n := rfl
 rw [e2, unpk_mod]
end
end Go.Idl
namespace Go.Idl
open Go.RowKit (Below)
variable [Globs] {P : Program}
theorem libOK_below {f : FuncId} {p : List IVal -> Option IVal} (hc : Callable P f)
   (h : ∀ args v, p args = some v -> ∀ (g : Gh) (rl : List Value) (w : World), args.length = rl.length -> (∀ q ∈ args.zip rl, V g q.1 q.2) -> (∀ k vs, Globs.vals k = some vs -> ∀ (i : Nat) c, vs[i]? = some c -> w.cell? ⟨k, i, none⟩ = some c) ->
     Calls P f rl.toArray w fun e w' => ∃ v', e = .returned v' /\ V g v v' /\ own3 v v' = [] /\ Below w.heap.size w w') : LibOK P f p := by
 intro args v hp
 refine ⟨hc, fun g O σ rargs w hl hR => callsIn_wide.2 ?_⟩
 have hG : ∀ k vs, Globs.vals k = some vs -> ∀ (i : Nat) c, vs[i]? = some c -> w.cell? ⟨k, i, none⟩ = some c := fun k vs hk i c hi => by
   have := hR.claim k (0 + i) c (hR.glob k vs hk i c hi)
   rwa [Nat.zero_add] at this
 have := h args v hp g rargs.toList w hl (fun q hq => hR.vals q hq) hG
 rw [Array.toArray_toList] at this
 refine this.mono ?_
 rintro e w' ⟨v', rfl, hv, ho, hb⟩
 have h0 : R g O [] σ w := R.drops (l' := []) (by simpa using hR)
 exact ⟨v', g, O, rfl, ⟨hb.size, fun b hb' _ => ⟨hb.block b hb', rfl, fun _ => rfl⟩, fun _ _ _ h => h, fun _ _ h => h, fun _ h => .inl h, rfl, hb.os, hb.tape, hb.output, fun _ => Nat.le_refl _⟩,
   (h0.world hb.size hb.block).push hv ho⟩
theorem szL (s : ByteArray) : s.size = s.data.toList.length := by rw [Array.length_toList]; rfl
theorem strInv {g : Gh} {l : List UInt8} {v : Value} (h : V g (.str l) v) : ∃ s : ByteArray, v = .string s /\ s.data.toList = l := by
 cases h with
 | str s => exact ⟨s, rfl, rfl⟩
theorem intInv {g : Gh} {k : IntKind} {n : Int} {v : Value} (h : V g (.int k n) v) : v = .int k n := by
 cases h; rfl
theorem V.strL {g : Gh} (l : List UInt8) : V g (.str l) (.string ⟨l.toArray⟩) := by
 have := V.str (g := g) ⟨l.toArray⟩
 simpa using this
theorem count_ok {f : FuncId} (hc : Callable P f) (h : ∀ (s : ByteArray) (c : UInt8) (w : World), Calls P f #[.string s, .string ⟨#[c]⟩] w fun e w' => e = .returned (.int .i64 (Lib.countByte s.data.toList c)) /\ w' = w) : LibOK P f pCount := by
 refine libOK_below hc fun args v hp g rl w hl hV _ => ?_
 unfold pCount at hp
 split at hp
 . rename_i s c
   simp only [zO] at hp
   subst hp
   match rl, hl with
   | [a, b], _ =>
     obtain ⟨s, rfl, rfl⟩ := strInv (hV (IVal.str s, a) (by simp))
     obtain ⟨t, rfl, ht⟩ := strInv (hV (IVal.str [c], b) (by simp))
     have : t = ⟨#[c]⟩ := by
       obtain ⟨d⟩ := t
       obtain ⟨d⟩ := d
       simp only at ht
       subst ht
       rfl
     subst this
     refine (h s c w).mono ?_
     rintro e w' ⟨rfl, rfl⟩
     exact ⟨_, rfl, .int _ _, rfl, Below.refl _ _⟩
 . cases hp
theorem repeat_ok {f : FuncId} (hc : Callable P f) (h : ∀ (s : ByteArray) (c : Nat) (w : World), c <= 9223372036854775807 -> s.size * c <= 140737488355328 ->
   Calls P f #[.string s, .int .i64 c] w fun e w' => e = .returned (.string ⟨(Lib.repeatL s.data.toList c).toArray⟩) /\ Below w.heap.size w w') : LibOK P f pRepeat := by
 refine libOK_below hc fun args v hp g rl w hl hV _ => ?_
 unfold pRepeat at hp
 split at hp
 . rename_i s n
   split at hp
   . rename_i hcond
     simp only [zO] at hp
     subst hp
     match rl, hl with
     | [a, b], _ =>
       obtain ⟨s, rfl, rfl⟩ := strInv (hV (IVal.str s, a) (by simp))
       have hb := intInv (hV (IVal.int .i64 n, b) (by simp))
       subst hb
       obtain ⟨h1, h2, h3⟩ := hcond
       have hsz := szL s
       have hn : ((n.toNat : Nat) : Int) = n := Int.toNat_of_nonneg (by omega)
       have hle : n.toNat <= s.data.toList.length * n.toNat := Nat.le_mul_of_pos_left _ h2
       have := h s n.toNat w (by omega) (by rw [hsz]; exact h3)
       rw [hn] at this
       refine this.mono ?_
       rintro e w' ⟨rfl, hb⟩
       exact ⟨_, rfl, V.strL _, rfl, hb⟩
   . cases hp
 . cases hp
theorem clone_ok {f : FuncId} (hc : Callable P f) (h : ∀ (s : ByteArray) (w : World), s.size <= 281474976710656 -> Calls P f #[.string s] w fun e w' => e = .returned (.string s) /\ Below w.heap.size w w') : LibOK P f pClone := by
 refine libOK_below hc fun args v hp g rl w hl hV _ => ?_
 unfold pClone at hp
 split at hp
 . rename_i s
   split at hp
   . rename_i hcond
     simp only [zO] at hp
     subst hp
     match rl, hl with
     | [a], _ =>
       obtain ⟨s, rfl, rfl⟩ := strInv (hV (IVal.str s, a) (by simp))
       refine (h s w (by rw [szL]; exact hcond)).mono ?_
       rintro e w' ⟨rfl, hb⟩
       exact ⟨_, rfl, .str _, rfl, hb⟩
   . cases hp
 . cases hp
theorem cut_ok {f : FuncId} {k : Nat} {m : Int} (hk : Globs.vals k = some [.int .i64 m]) (hc : Callable P f) (h : ∀ (s sep : ByteArray) (m : Int) (w : World), s.size < 4294967281 -> w.cell? ⟨k, 0, none⟩ = some (.int .i64 m) ->
   Calls P f #[.string s, .string sep] w fun e w' => e = .returned (.tuple #[.string ⟨(Lib.cut s.data.toList sep.data.toList).1.toArray⟩, .string ⟨(Lib.cut s.data.toList sep.data.toList).2.1.toArray⟩, .bool (Lib.cut s.data.toList sep.data.toList).2.2]) /\ ∃ n, w' = w.drewN n) : LibOK P f pCut := by
 refine libOK_below hc fun args v hp g rl w hl hV hG => ?_
 unfold pCut at hp
 split at hp
 . rename_i s t
   split at hp
   . rename_i hcond
     simp only [zO] at hp
     subst hp
     match rl, hl with
     | [a, b], _ =>
       obtain ⟨s, rfl, rfl⟩ := strInv (hV (IVal.str s, a) (by simp))
       obtain ⟨t, rfl, rfl⟩ := strInv (hV (IVal.str t, b) (by simp))
       refine (h s t m w (by rw [szL]; exact hcond) (hG k _ hk 0 _ rfl)).mono ?_
       rintro e w' ⟨rfl, n, rfl⟩
       refine ⟨_, rfl, .tup _ _ rfl (fun i x v hx hv => ?_) (fun x hx => ?_), ?_, ?_⟩
       . match i with
         | 0 => simp at hx hv; subst hx; subst hv; exact V.strL _
         | 1 => simp at hx hv; subst hx; subst hv; exact V.strL _
         | 2 => simp at hx hv; subst hx; subst hv; exact .bool _
         | i + 3 => simp at hx
       . simp at hx
         rcases hx with rfl | rfl | rfl <;> rfl
       . rfl
       . exact ⟨rfl, rfl, rfl, Nat.le_refl _, fun _ _ => rfl⟩
   . cases hp
 . cases hp
theorem fields_ok {f : FuncId} {k : Nat} {el : TypeId} (hk : Globs.vals k = some (Lib.asciiSpaceTab.map fun n => .int .u8 n)) (hc : Callable P f) (h : ∀ (s : ByteArray) (w : World), s.size < 4294967281 -> (∀ (j : Nat) b, s.data.toList[j]? = some b -> b.toNat < 128) ->
   (∀ c : Nat, c < 256 -> w.cell? ⟨k, c, none⟩ = some (.int .u8 (Lib.asciiSpaceTab.getD c 0))) ->
   Calls P f #[.string s] w fun e w' => e = .returned (.slice (some ⟨w.heap.size, 0, none⟩) (Lib.fields s.data.toList).length (Lib.fields s.data.toList).length) /\ w' = w.alloc (.cells ((Lib.fields s.data.toList).map fun l => Value.string ⟨l.toArray⟩).toArray el)) : LibOK P f pFields := by
 intro args v hp
 refine ⟨hc, fun g O σ rargs w hl hR => callsIn_wide.2 ?_⟩
 have hG : ∀ k vs, Globs.vals k = some vs -> ∀ (i : Nat) c, vs[i]? = some c -> w.cell? ⟨k, i, none⟩ = some c := fun k vs hk i c hi => by
   have := hR.claim k (0 + i) c (hR.glob k vs hk i c hi)
   rwa [Nat.zero_add] at this
 unfold pFields at hp
 split at hp
 . rename_i s
   split at hp
   . rename_i hcond
     obtain ⟨h1, h2, h3⟩ := hcond
     simp only [zO] at hp
     subst hp
     obtain ⟨rl⟩ := rargs
     match rl, hl with
     | [a], _ =>
       obtain ⟨s, rfl, rfl⟩ := strInv (hR.vals (IVal.str s, a) (by simp))
       refine (h s w (by rw [szL]; exact h1) (fun j b hb => by simpa using List.all_eq_true.1 h2 b (zM hb)) (fun c hc => ?_)).mono ?_
       . refine hG k _ hk c _ ?_
         rw [List.getElem?_map, List.getElem?_eq_getElem (by rw [Lib.asciiSpaceTab_length]; exact hc), List.getD_eq_getElem?_getD, List.getElem?_eq_getElem (by rw [Lib.asciiSpaceTab_length]; exact hc)]
         rfl
       rintro e w' ⟨rfl, rfl⟩
       have h0 : R g O [] σ w := R.drops (l' := []) (by simpa using hR)
       have hfl : flatV ((Lib.fields s.data.toList).map fun l => Value.string ⟨l.toArray⟩) = (Lib.fields s.data.toList).map fun l => Value.string ⟨l.toArray⟩ := by
         unfold flatV
         generalize Lib.fields s.data.toList = q
         induction q with
         | nil => rfl
         | cons a q ih => simp only [List.map_cons, List.flatMap_cons, ih]; rfl
       obtain ⟨g', O', hR', hg, _⟩ := h0.newSlice (xs := (Lib.fields s.data.toList).map IVal.str) (vs := (Lib.fields s.data.toList).map fun l => Value.string ⟨l.toArray⟩) (esz := 1) (cap := (Lib.fields s.data.toList).length) (own := 0) (rf := false)
         (c := ((Lib.fields s.data.toList).map fun l => Value.string ⟨l.toArray⟩).toArray) (el := el) (fz := (0, 0)) (by simp)
         (fun i x v hx hv => by
           rw [List.getElem?_map] at hx hv
           cases hq : (Lib.fields s.data.toList)[i]? with
           | none => rw [hq] at hx; cases hx
           | some q =>
             rw [hq] at hx hv
             simp only [Option.map_some, zO] at hx hv
             subst hx; subst hv
             exact V.strL q)
         (fun x hx => by obtain ⟨q, _, rfl⟩ := List.mem_map.1 hx; exact ⟨rfl, rfl⟩)
         (fun _ x hx => by obtain ⟨q, _, rfl⟩ := List.mem_map.1 hx; rfl)
         (fun v hv => by obtain ⟨q, _, rfl⟩ := List.mem_map.1 hv; rfl)
         (fun i v hv => by rw [hfl] at hv; simpa using hv) (by simp) (by simp) (.inl rfl) (fun h => absurd rfl h) (by rw [hfl]; simp)
       rw [List.length_map] at hR'
       exact ⟨_, g', O', rfl, hg, hR'⟩
   . cases hp
 . cases hp
theorem range_ok {f : FuncId} {k b o : Nat} {t el : TypeId} (hk : Globs.vals k = some [.iface t (.pointer (some ⟨b, o, none⟩))]) (hc : Callable P f) (h : ∀ (fn s : ByteArray) (ev : Value) (w : World), s.size <= 281474976710656 -> w.cell? ⟨k, 0, none⟩ = some ev -> (ev = .nilIface \/ ∃ te pe, ev = .iface te pe) ->
   Calls P f #[.string fn, .string s] w fun e w' => ∃ N, e = .returned (.pointer (some ⟨N, 0, none⟩)) /\ w.heap.size <= N /\ w'.heap[N]? = some (.cells #[.string fn, .string s, ev] el (0, 0)) /\ Below w.heap.size w w') : LibOK P f (pRange t b o) := by
 intro args v hp
 refine ⟨hc, fun g O σ rargs w hl hR => callsIn_wide.2 ?_⟩
 have hG : ∀ k vs, Globs.vals k = some vs -> ∀ (i : Nat) c, vs[i]? = some c -> w.cell? ⟨k, i, none⟩ = some c := fun k vs hk i c hi => by
   have := hR.claim k (0 + i) c (hR.glob k vs hk i c hi)
   rwa [Nat.zero_add] at this
 unfold pRange at hp
 split at hp
 . rename_i q s
   split at hp
   . rename_i hcond
     simp only [zO] at hp
     subst hp
     obtain ⟨rl⟩ := rargs
     match rl, hl with
     | [a, c], _ =>
       obtain ⟨q, rfl, rfl⟩ := strInv (hR.vals (IVal.str q, a) (by simp))
       obtain ⟨s, rfl, rfl⟩ := strInv (hR.vals (IVal.str s, c) (by simp))
       refine (h q s _ w (by rw [szL]; exact hcond) (hG k _ hk 0 _ rfl) (.inr ⟨_, _, rfl⟩)).mono ?_
       rintro e w' ⟨N, rfl, hN, hcell, hb⟩
       have h0 : R g O [] σ w := R.drops (l' := []) (by simpa using hR)
       have hNO : N ∉ O := fun hm => by have := h0.lt _ hm; omega
       have hNM : ∀ o, g.M N o = none := fun o => by
         cases hm : g.M N o with
         | none => rfl
         | some v =>
           have := h0.claim N o v hm
           unfold World.cell? at this
           rw [Array.getElem?_eq_none (by exact hN)] at this
           cases this
       have h1 : R (g.claim N [.string q, .string s, .iface t (.pointer (some ⟨b, o, none⟩))] none) O [] σ w' := by
         refine (h0.world hb.size hb.block).ghost hNO rfl rfl (fun b o hb => by simp [Gh.claim, hb]) (fun o c hm => ?_) (fun b hb => by simp [Gh.claim, hb]) (fun o v hm => ?_)
         . rw [hNM o] at hm; cases hm
         . simp only [Gh.claim, if_true] at hm
           simp only [World.cell?]
           rw [hcell]
           simpa using hm
       refine ⟨_, g.claim N [.string q, .string s, .iface t (.pointer (some ⟨b, o, none⟩))] none, O, rfl, ?_, h1.push ?_ rfl⟩
       . refine ⟨hb.size, fun b hb' _ => ⟨hb.block b hb', by simp [Gh.claim]; omega, fun o => by simp [Gh.claim]; omega⟩, fun b o v hm => ?_, fun _ _ h => h, fun _ h => .inl h, rfl, hb.os, hb.tape, hb.output, fun _ => Nat.le_refl _⟩
         have : b ≠ N := fun e => by subst e; rw [hNM o] at hm; cases hm
         simp [Gh.claim, this, hm]
       . refine V.pv_mk (vs := [.string q, .string s, .iface t (.pointer (some ⟨b, o, none⟩))]) (b := N) (e := 0) 0 rfl (fun i x v hx hv => ?_) (fun x hx => ?_) (fun _ x hx => ?_) (fun k c hk => by simpa [Gh.claim] using hk)
         . match i with
           | 0 => simp at hx hv; subst hx; subst hv; exact .str _
           | 1 => simp at hx hv; subst hx; subst hv; exact .str _
           | 2 => simp at hx hv; subst hx; subst hv; exact .iface _ _ _ (.prim _ rfl) ⟨rfl, rfl⟩
           | i + 3 => simp at hx
         . simp at hx
           rcases hx with rfl | rfl | rfl <;> exact ⟨rfl, rfl⟩
         . simp at hx
           rcases hx with rfl | rfl | rfl <;> rfl
   . cases hp
 . cases hp
end Go.Idl
