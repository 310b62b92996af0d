/-
  Operations that touch no memory, by kind: each is met by the model's.
-/
import Derived.Test.YtkjcgfadojfeeaaIdlPurA
import Derived.Laws.BytesString
import Derived.Laws.Runes
import Derived.Stop.Asserts
set_option linter.unusedSectionVars false
set_option linter.unusedVariables false
set_option linter.unusedSimpArgs false
namespace Go.Idl
variable [Globs]

variable {P : Program} {o : Oper} {a : Act} {g : Gh} {O : List Nat} {w : World} {s : St} {res : Res} {cf : CallF}

/-- What is to be shown of one. -/
def PurSim (P : Program) (o : Oper) (a : Act) (k : PurK) (rs : List Operand) : Prop :=
  ∀ (g : Gh) (w : World) (vs : List IVal) (v : IVal), vs.length = rs.length → (∀ (i : Nat) x r, vs[i]? = some x → rs[i]? = some r → V g x (a.eval r)) → (∀ b o c, g.M b o = some c → w.cell? ⟨b, o, none⟩ = some c) → purI k vs = some v →
    ∃ u, (execOp a.eval o).run P w = .ok (.value u) w ∧ V g v u ∧ own3 v u = []

theorem sim_pur {k : PurK} {xs : List Opd} {rs : List Operand} (hx : opdsOK xs rs = true) (hp : PurSim P o a k rs) (hs : stepOp cf (.pur k xs) s = some res)
    (hl : WT s.ts a.tmps) (hR : R g O (s.ts.roots a.tmps) s.σ w) : SimV P o a g O w s res := by
  simp only [stepOp] at hs
  split at hs
  · rename_i vs ts h
    split at hs
    · rename_i v hv
      simp only [rv, Option.some.injEq] at hs
      subst hs
      obtain ⟨h1, h2, h3⟩ := getAll_sim (l := []) hx h hl hR
      simp only [List.length_map] at h3
      obtain ⟨u, hu, hV, ho⟩ := hp g w vs v h3 (fun i x r hx hr => h1.vals (x, a.eval r) (List.mem_append_left _ (List.mem_of_getElem? (i := i) (by simp [List.getElem?_zip_eq_some, hx, hr])))) h1.claim hv
      exact SimV.same hu ((R.drops h1).push hV ho) h2
    · cases hs
  · cases hs

theorem one_of {vs : List IVal} {x : IVal} (h : vs = [x]) : vs[0]? = some x := by subst h; rfl

/-! ### structs, arrays -/
def eqOp (neg : Bool) : BinOp := if neg then .neq else .eql

theorem run_eqa {neg : Bool} {T : TypeId} {us vs : Array Value} {r : Bool} (h : (Op.equalIn 10000 T (.agg us) (.agg vs)).run P w = .ok r w) : (binOp (eqOp neg) T (.agg us) (.agg vs)).run P w = .ok (.bool (r != neg)) w := by
  cases neg
  · simp only [eqOp, Bool.false_eq_true, if_false]; rw [run_eql_struct, h]; cases r <;> rfl
  · simp only [eqOp, if_true]; rw [run_neq_struct, h]; cases r <;> rfl

theorem len1 {α : Type} {vs : List α} (h : vs.length = 1) : ∃ x, vs = [x] := by
  rcases vs with _ | ⟨x, _ | ⟨y, vs⟩⟩ <;> simp at h
  exact ⟨x, rfl⟩
theorem len2 {α : Type} {vs : List α} (h : vs.length = 2) : ∃ x y, vs = [x, y] := by
  rcases vs with _ | ⟨x, _ | ⟨y, _ | ⟨z, vs⟩⟩⟩ <;> simp at h
  exact ⟨x, y, rfl⟩

theorem pur_eqa {neg : Bool} {ks : List Nat} {T T' : TypeId} {rx ry : Operand} (hop : o.op = .binOp (eqOp neg) T rx ry T') (hT : flatT P 1000 T = some ks) (hag : (pnT P T).isSome = true) (hg : P.eqGuardType P.depth T = false) :
    PurSim P o a (.eqa neg ks) [rx, ry] := by
  intro g w vs v hl hV hm hv
  obtain ⟨x, y, rfl⟩ := len2 hl
  cases x <;> cases y <;> simp only [purI] at hv <;> try (cases hv; done)
  rename_i xs ys
  split at hv
  · rename_i hlen
    split at hv
    · rename_i r hr
      simp only [Option.some.injEq] at hv
      subst hv
      have hx := hV 0 _ rx rfl rfl
      have hy := hV 1 _ ry rfl rfl
      obtain ⟨us, e1, a1, a2, a3⟩ := hx.agg_inv
      obtain ⟨vs, e2, b1, b2, b3⟩ := hy.agg_inv
      obtain ⟨n, hn⟩ := Option.isSome_iff_exists.1 hag
      obtain ⟨-, i, -, hi2, hi3⟩ := flatT_tyN hT
      rw [hn] at hi2
      simp only [Option.getD_some] at hi2
      have hq := eq_flat 1000 T ks hT 10000 (by omega) w (.agg xs) (.agg ys) (a.eval rx) (a.eval ry) r hx hy (by rw [hn]; exact ⟨xs, rfl, by omega⟩) (by rw [hn]; exact ⟨ys, rfl, by omega⟩) (by simpa [IVal.cells] using hr)
      rw [e1, e2] at hq
      refine ⟨.bool (r != neg), ?_, .bool _, rfl⟩
      have hb := run_eqa (neg := neg) hq
      have hgd := run_eqGuard_agg (P := P) w (eqOp neg) T rx ry us vs hg
      simp [execOp, hop, e1, e2, hgd, hb]
    · cases hv
  · cases hv

/-! ### bytes, runes as text -/
theorem toBytes_ints : ∀ {xs : List IVal} {l : List UInt8}, toBytes xs = some l → ∃ ns : List Int, xs = ns.map (.int .u8) ∧ l = ns.map fun n => UInt8.ofNat n.toNat := by
  intro xs
  induction xs with
  | nil => intro l h; simp [toBytes] at h; exact ⟨[], rfl, h⟩
  | cons x xs ih =>
    intro l h
    unfold toBytes at h
    split at h
    · cases ‹_ = []›
    · rename_i n ys e
      cases e
      split at h
      · rename_i l' h'
        simp only [Option.some.injEq] at h
        obtain ⟨ns, rfl, rfl⟩ := ih h'
        exact ⟨n :: ns, rfl, h.symm⟩
      · cases h
    · cases h

theorem foldl_push (ns : List Int) : ∀ (b : ByteArray), (ns.foldl (fun r n => r.push (UInt8.ofNat n.toNat)) b).data.toList = b.data.toList ++ ns.map fun n => UInt8.ofNat n.toNat := by
  induction ns with
  | nil => intro b; simp
  | cons n ns ih => intro b; simp only [List.foldl_cons, List.map_cons]; rw [ih]; simp [ByteArray.push]

theorem vals_ints {xs : List IVal} {vs : List Value} {ns : List Int} (hx : xs = ns.map (.int .u8)) (hl : xs.length = vs.length) (hv : ∀ (i : Nat) x v, xs[i]? = some x → vs[i]? = some v → V g x v) : vs = ns.map (.int .u8) := by
  apply List.ext_getElem?
  intro i
  subst hx
  simp only [List.length_map] at hl
  by_cases hi : i < ns.length
  · have h1 : (ns.map (IVal.int .u8))[i]? = some (.int .u8 ns[i]) := by simp [hi]
    have h2 : vs[i]? = some (vs[i]'(by omega)) := by simp
    have := (hv i _ _ h1 h2).int_inv
    rw [h2, this]
    simp [hi]
  · rw [List.getElem?_eq_none (by omega), List.getElem?_eq_none (by simp; omega)]

theorem pur_text {S T e : TypeId} {r : Operand} (hop : o.op = .convert S T r) (hS : P.underlying S = some (.slice e)) (he : P.underlying e = some (.int .u8)) (hT : P.underlying T = some .string) : PurSim P o a .text [r] := by
  intro g w vs v hl hV hm hv
  obtain ⟨x, rfl⟩ := len1 hl
  cases x <;> simp only [purI] at hv <;> try (cases hv; done)
  rename_i own rf xs
  split at hv
  · rename_i l hb
    simp only [Option.some.injEq] at hv
    subst hv
    obtain ⟨ns, hns, rfl⟩ := toBytes_ints hb
    have hx := hV 0 _ r rfl rfl
    have key : ∀ t : ByteArray, (execOp a.eval o).run P w = .ok (.value (.string t)) w → t.data.toList = ns.map (fun n => UInt8.ofNat n.toNat) → ∃ u, (execOp a.eval o).run P w = .ok (.value u) w ∧ V g (.str (ns.map fun n => UInt8.ofNat n.toNat)) u ∧ own3 (.str (ns.map fun n => UInt8.ofNat n.toNat)) u = [] := by
      intro t h1 h2
      refine ⟨_, h1, ?_, rfl⟩
      rw [← h2]; exact .str t
    generalize hu : a.eval r = u at hx
    cases hx with
    | nil =>
      have : ns = [] := by cases ns <;> simp at hns ⊢
      subst this
      refine key .empty ?_ rfl
      have := run_convert_bytes_string (P := P) w S T e none 0 0 hS he hT
      simp [execOp, hop, hu, this, Conv.bytesToString]
    | sl _ _ _ vs ad cap esz hs' hc hl' hv' hf hr hz hcl ho =>
      have hvs := vals_ints hns hl' hv'
      have hfl : flatV vs = vs := by rw [hvs]; clear hvs hns hb hv' hl' key hl; induction ns with
        | nil => rfl
        | cons n ns ih => simp only [flatV, List.map_cons, List.flatMap_cons] at ih ⊢; rw [ih]; rfl
      refine key (ns.foldl (fun r n => r.push (UInt8.ofNat n.toNat)) ByteArray.empty) ?_ (by rw [foldl_push]; rfl)
      have hload : (loadCells ad xs.length).run P w = .ok (ns.map (Value.int .u8)).toArray w := by
        have hlen : xs.length = (ns.map (Value.int .u8)).length := by rw [hns]; simp
        rw [hlen]
        refine run_loadCells_list (P := P) (w := w) ad (ns.map (Value.int .u8)) (fun j c hj => ?_)
        have had : 0 < cap := by have := lt_of_get hj; simp at this; rw [hns] at hc; simp at hc; omega
        have hsp := hs' had
        have hadd : ad.add j = ⟨ad.block, ad.off + j, none⟩ := by
          cases ad; simp at hsp; subst hsp; exact addr_add _ _ _
        rw [hadd]
        refine hm _ _ _ (hcl j c ?_)
        rw [hfl, hvs]; exact hj
      have h1 := run_convert_bytes_string (P := P) w S T e (some ad) xs.length cap hS he hT
      have h2 := run_bytesToString (P := P) w ad xs.length cap ns hload
      simp [execOp, hop, hu, h1, h2]
  · cases hv

theorem pur_rune {S T : TypeId} {r : Operand} (hop : o.op = .convert S T r) (hS : (P.underlying S).isSome = true) (hT : P.underlying T = some .string) : PurSim P o a .rune [r] := by
  intro g w vs v hl hV hm hv
  obtain ⟨x, rfl⟩ := len1 hl
  cases x <;> simp only [purI] at hv <;> try (cases hv; done)
  rename_i k n
  split at hv
  · rename_i hn
    simp only [Option.some.injEq] at hv
    subst hv
    have hx := (hV 0 _ r rfl rfl).int_inv
    have he : Utf8.encode n = ⟨#[UInt8.ofNat n.toNat]⟩ := by
      have hv : Utf8.valid n = true := by simp [Utf8.valid]; omega
      have hc : n.toNat < 0x80 := by omega
      simp [Utf8.encode, hv, hc]
    refine ⟨.string (Utf8.encode n), ?_, ?_, rfl⟩
    · simp [execOp, hop, hx, run_convert_int_string (P := P) w S T k n hS hT]
    · rw [he]; exact .str (g := g) ⟨#[UInt8.ofNat n.toNat]⟩
  · cases hv

/-! ### type assertions -/
theorem flat_own {x : IVal} {v : Value} (h : Flat x) : own3 x v = [] := own3_flat h v

theorem ok_V {ok : Bool} {x : IVal} {v : Value} (hV : V g x v) (hf : Flat x) : V g (withOk ok x) (if ok then .tuple #[v, .bool true] else v) ∧ own3 (withOk ok x) (if ok then .tuple #[v, .bool true] else v) = [] := by
  cases ok
  · exact ⟨hV, own3_flat hf v⟩
  · simp only [withOk, if_true]
    refine ⟨.tup _ _ rfl (fun i y u hy hu => ?_) (fun y hy => ?_), ?_⟩
    · rcases i with _ | _ | i <;> simp at hy hu
      · subst hy hu; exact hV
      · subst hy hu; exact .bool true
    · simp at hy; rcases hy with rfl | rfl
      · exact hf.2
      · rfl
    · have : own2 x v = [] := by rw [← own3_nt hf.2]; exact own3_flat hf v
      show (own2 x v ++ []) = []
      rw [this]; rfl

theorem tup_V {x : IVal} {v : Value} (hV : V g x v) (hn : nt x = true) (ho : own3 x v = []) : V g (.tup [x, .bool false]) (.tuple #[v, .bool false]) ∧ own3 (.tup [x, .bool false]) (.tuple #[v, .bool false]) = [] := by
  refine ⟨.tup _ _ rfl (fun i y u hy hu => ?_) (fun y hy => ?_), ?_⟩
  · rcases i with _ | _ | i <;> simp at hy hu
    · subst hy hu; exact hV
    · subst hy hu; exact .bool false
  · simp at hy; rcases hy with rfl | rfl
    · exact hn
    · rfl
  · rw [own3_nt hn] at ho
    show (own2 x v ++ []) = []
    rw [ho]; rfl

theorem V.nilI_inv {v : Value} (h : V g (.prim .nilIface) v) : v = .nilIface := by cases h; rfl

theorem pur_tyC {r : Operand} {xT A : TypeId} {ok : Bool} {z : IVal} {d : TypeDesc} {i : TypeInfo} {zv : Value} (hop : o.op = .typeAssert r xT A ok) (hA : P.underlying A = some d) (hd : ∀ ms, d ≠ .interface ms) (hi : P.info? A = some i) (hz : i.zero = some zv) (hc : cOK z zv = true) : PurSim P o a (.tyC A ok z) [r] := by
  intro g w vs v hl hV hm hv
  obtain ⟨x, rfl⟩ := len1 hl
  have hzero : (zeroValue A).run P w = .ok zv w := by simp [zeroValue, typeInfo, hi, hz]
  have hno : ∀ (x : Value), (∀ t u, x = .iface t u → t ≠ A) → (x = .nilIface ∨ ∃ t u, x = .iface t u) → (Instr.typeAssert x xT A true).run P w = .ok (.tuple #[zv, .bool false]) w := by
    intro x h1 h2
    rcases h2 with rfl | ⟨t, u, rfl⟩
    · cases d <;> simp [Instr.typeAssert, run_und hA, hzero]
    · have := h1 t u rfl
      cases d <;> simp [Instr.typeAssert, run_und hA, hzero, this] <;> exact absurd rfl (hd _)
  cases x <;> simp only [purI] at hv <;> try (cases hv; done)
  · rename_i pv
    cases pv <;> simp only at hv <;> try (cases hv; done)
    split at hv
    · rename_i hc2
      simp only [Bool.and_eq_true] at hc2
      obtain ⟨rfl, hn⟩ := hc2
      simp only [Option.some.injEq] at hv
      subst hv
      have hx := (hV 0 _ r rfl rfl).nilI_inv
      obtain ⟨z1, z2⟩ := cOK_V g hc
      obtain ⟨k1, k2⟩ := tup_V z1 hn z2
      refine ⟨_, ?_, k1, k2⟩
      simp [execOp, hop, hx, hno .nilIface (fun _ _ h => by cases h) (.inl rfl)]
    · cases hv
  · rename_i t x
    obtain ⟨u, hu, hVu, hf⟩ := (hV 0 _ r rfl rfl).iface_inv
    split at hv
    · rename_i ht
      subst ht
      simp only [Option.some.injEq] at hv
      subst hv
      obtain ⟨k1, k2⟩ := ok_V (ok := ok) hVu hf
      refine ⟨_, ?_, k1, k2⟩
      have : (Instr.typeAssert (.iface t u) xT t ok).run P w = .ok (if ok then .tuple #[u, .bool true] else u) w := by
        cases d <;> cases ok <;> simp [Instr.typeAssert, run_und hA] <;> exact absurd rfl (hd _)
      simp [execOp, hop, hu, this]
    · rename_i ht
      split at hv
      · rename_i hc2
        simp only [Bool.and_eq_true] at hc2
        obtain ⟨rfl, hn⟩ := hc2
        simp only [Option.some.injEq] at hv
        subst hv
        obtain ⟨z1, z2⟩ := cOK_V g hc
        obtain ⟨k1, k2⟩ := tup_V z1 hn z2
        refine ⟨_, ?_, k1, k2⟩
        simp [execOp, hop, hu, hno (.iface t u) (fun t' u' h => by cases h; exact ht) (.inr ⟨_, _, rfl⟩)]
      · cases hv

theorem pur_tyI {r : Operand} {xT A : TypeId} {ok : Bool} {yes no : List TypeId} {want : Array (String × TypeId)} {j : TypeInfo} (hop : o.op = .typeAssert r xT A ok) (hA : P.underlying A = some (.interface want)) (hj : P.info? A = some j) (hz : j.zero = some .nilIface)
    (hy : ∀ t ∈ yes, ∃ i, P.info? t = some i ∧ lacking want i.methods = []) (hn : ∀ t ∈ no, ∃ i, P.info? t = some i ∧ lacking want i.methods ≠ []) : PurSim P o a (.tyI yes no ok) [r] := by
  intro g w vs v hl hV hm hv
  obtain ⟨x, rfl⟩ := len1 hl
  have hzero : (zeroValue A).run P w = .ok .nilIface w := by simp [zeroValue, typeInfo, hj, hz]
  obtain ⟨k1, k2⟩ := tup_V (g := g) (x := nilI) (v := .nilIface) (.prim _ rfl) rfl rfl
  cases x <;> simp only [purI] at hv <;> try (cases hv; done)
  · rename_i pv
    cases pv <;> simp only at hv <;> try (cases hv; done)
    split at hv
    · rename_i hok
      subst hok
      simp only [Option.some.injEq] at hv
      subst hv
      have hx := (hV 0 _ r rfl rfl).nilI_inv
      refine ⟨_, ?_, k1, k2⟩
      simp [execOp, hop, hx, Instr.typeAssert, run_und hA, hzero]
    · cases hv
  · rename_i t x
    have hxx := hV 0 _ r rfl rfl
    obtain ⟨u, hu, hVu, hf⟩ := hxx.iface_inv
    split at hv
    · rename_i ht
      simp only [List.contains_iff_mem] at ht
      simp only [Option.some.injEq] at hv
      subst hv
      obtain ⟨i, hi, hla⟩ := hy t ht
      have hfl : Flat (.iface t x) := ⟨rfl, rfl⟩
      rw [hu] at hxx
      obtain ⟨k1, k2⟩ := ok_V (ok := ok) hxx hfl
      refine ⟨_, ?_, k1, k2⟩
      have : (Instr.typeAssert (.iface t u) xT A ok).run P w = .ok (if ok then .tuple #[.iface t u, .bool true] else .iface t u) w := by
        cases ok <;> simp [Instr.typeAssert, run_und hA, typeInfo, hi, missingMethod_none hla]
      simp [execOp, hop, hu, this]
    · split at hv
      · rename_i hc2
        simp only [Bool.and_eq_true, List.contains_iff_mem] at hc2
        obtain ⟨rfl, ht⟩ := hc2
        simp only [Option.some.injEq] at hv
        subst hv
        obtain ⟨i, hi, hla⟩ := hn t ht
        refine ⟨_, ?_, k1, k2⟩
        simp [execOp, hop, hu, run_typeAssert_lacks (P := P) (w := w) (v := u) (xT := xT) hA hi hj hz hla]
      · cases hv

/-! ### tests -/
theorem pur_isnilS {neg : Bool} {T E : TypeId} {ra rb r : Operand} {T' : TypeId} (hop : o.op = .binOp (eqOp neg) T ra rb T') (hT : P.underlying T = some (.slice E)) (hn : (ra = r ∧ rb = .const (.slice none 0 0)) ∨ (rb = r ∧ ra = .const (.slice none 0 0))) : PurSim P o a (.isnilS neg) [r] := by
  intro g w vs v hl hV hm hv
  obtain ⟨x, rfl⟩ := len1 hl
  have key : (∃ ad n c, a.eval r = .slice (some ad) n c) → v = .bool neg → ∃ u, (execOp a.eval o).run P w = .ok (.value u) w ∧ V g v u ∧ own3 v u = [] := by
    rintro ⟨ad, n, c, hr⟩ rfl
    refine ⟨.bool neg, ?_, .bool _, rfl⟩
    have hg : ∀ (x y : Value) op, (x = .slice (some ad) n c ∨ x = .slice none 0 0) → (y = .slice (some ad) n c ∨ y = .slice none 0 0) → (eqGuard op T ra rb x y).run P w = .ok () w := by
      intro x y op h1 h2
      unfold eqGuard
      rcases h1 with rfl | rfl <;> rcases h2 with rfl | rfl <;> split <;> simp
    have he : ∀ d : Nat, (Op.equalIn (d + 1) T (.slice (some ad) n c) (.slice none 0 0)).run P w = .ok false w ∧ (Op.equalIn (d + 1) T (.slice none 0 0) (.slice (some ad) n c)).run P w = .ok false w := fun d => by
      constructor <;> simp [Op.equalIn, run_und hT]
    obtain ⟨e1, e2⟩ := he 9999
    have hc : a.eval (.const (.slice none 0 0)) = .slice none 0 0 := rfl
    rcases hn with ⟨rfl, rfl⟩ | ⟨rfl, rfl⟩
    · have hb : (binOp (eqOp neg) T (.slice (some ad) n c) (.slice none 0 0)).run P w = .ok (.bool neg) w := by
        cases neg <;> simp [eqOp, binOp, Op.equal, Op.maxDepth, e1]
      simp [execOp, hop, hr, hc, hg _ _ _ (.inl rfl) (.inr rfl), hb]
    · have hb : (binOp (eqOp neg) T (.slice none 0 0) (.slice (some ad) n c)).run P w = .ok (.bool neg) w := by
        cases neg <;> simp [eqOp, binOp, Op.equal, Op.maxDepth, e2]
      simp [execOp, hop, hr, hc, hg _ _ _ (.inr rfl) (.inl rfl), hb]
  have hx := hV 0 _ r rfl rfl
  cases x <;> simp only [purI] at hv <;> try (cases hv; done)
  · rename_i own rf xs
    cases xs with
    | nil => simp at hv
    | cons y ys =>
      simp only [Option.some.injEq] at hv
      refine key ?_ hv.symm
      generalize a.eval r = u at hx
      cases hx with
      | sl => exact ⟨_, _, _, rfl⟩
  · simp only [Option.some.injEq] at hv
    obtain ⟨b, cap, hb, -⟩ := hx.rs_inv
    exact key ⟨_, _, _, hb⟩ hv.symm

theorem pur_eqi {neg : Bool} {ks : List (TypeId × Nat)} {T : TypeId} {ms : Array (String × TypeId)} {rx ry : Operand} {T' : TypeId} (hop : o.op = .binOp (eqOp neg) T rx ry T') (hT : P.underlying T = some (.interface ms))
    (hk : ∀ p ∈ ks, ∃ i d, P.info? p.1 = some i ∧ i.comparable = true ∧ P.underlying p.1 = some d ∧ kindT d p.2 = true) : PurSim P o a (.eqi neg ks) [rx, ry] := by
  intro g w vs v hl hV hm hv
  obtain ⟨x, y, rfl⟩ := len2 hl
  have key : ∀ (r : Bool) (ux uy : Value), a.eval rx = ux → a.eval ry = uy → (Op.equalIn 10000 T ux uy).run P w = .ok r w → ((∃ t u, ux = .iface t u ∧ ((∃ t' u', uy = .iface t' u') ∨ uy = .nilIface)) ∨ (ux = .nilIface ∧ ∃ t u, uy = .iface t u)) → v = .bool (r != neg) → ∃ u, (execOp a.eval o).run P w = .ok (.value u) w ∧ V g v u ∧ own3 v u = [] := by
    rintro r ux uy ex ey hr h1 rfl
    refine ⟨.bool (r != neg), ?_, .bool _, rfl⟩
    have hgb : (eqGuard (eqOp neg) T rx ry ux uy).run P w = .ok () w ∧ (binOp (eqOp neg) T ux uy).run P w = .ok (.bool (r != neg)) w := by
      rcases h1 with ⟨t, u, rfl, ⟨t', u', rfl⟩ | rfl⟩ | ⟨rfl, t, u, rfl⟩ <;> refine ⟨by unfold eqGuard; split <;> simp, ?_⟩ <;> cases neg <;> cases r <;> simp [eqOp, binOp, Op.equal, Op.maxDepth, hr]
    simp [execOp, hop, ex, ey, hgb.1, hgb.2]
  have hxx := hV 0 _ rx rfl rfl
  have hyy := hV 1 _ ry rfl rfl
  cases x <;> cases y <;> simp only [purI] at hv <;> try (cases hv; done)
  · rename_i pv t y
    cases pv <;> simp only at hv <;> try (cases hv; done)
    simp only [Option.some.injEq] at hv
    obtain ⟨u, hu, -⟩ := hyy.iface_inv
    refine key false _ _ hxx.nilI_inv hu ?_ (.inr ⟨rfl, _, _, rfl⟩) (by rw [← hv]; cases neg <;> rfl)
    have hd : ∀ d : Nat, (Op.equalIn (d + 1) T (.nilIface) (.iface t u)).run P w = .ok false w ∧ (Op.equalIn (d + 1) T (.iface t u) (.nilIface)).run P w = .ok false w := fun d => by constructor <;> simp [Op.equalIn, run_und hT]
    exact (hd 9999).1
  · rename_i t x pv
    cases pv <;> simp only at hv <;> try (cases hv; done)
    simp only [Option.some.injEq] at hv
    obtain ⟨u, hu, -⟩ := hxx.iface_inv
    refine key false _ _ hu hyy.nilI_inv ?_ (.inl ⟨_, _, rfl, .inr rfl⟩) (by rw [← hv]; cases neg <;> rfl)
    have hd : ∀ d : Nat, (Op.equalIn (d + 1) T (.nilIface) (.iface t u)).run P w = .ok false w ∧ (Op.equalIn (d + 1) T (.iface t u) (.nilIface)).run P w = .ok false w := fun d => by constructor <;> simp [Op.equalIn, run_und hT]
    exact (hd 9999).2
  · rename_i t x t' y
    obtain ⟨u, hu, hVu, hfu⟩ := hxx.iface_inv
    obtain ⟨u', hu', hVu', hfu'⟩ := hyy.iface_inv
    split at hv
    · rename_i ht
      subst ht
      split at hv
      · rename_i t1 k hf
        split at hv
        · rename_i hkk
          split at hv
          · rename_i r hr
            simp only [Option.some.injEq] at hv
            have hmem := List.mem_of_find?_eq_some hf
            have hpt := List.find?_some hf
            simp only [beq_iff_eq] at hpt
            subst hpt
            obtain ⟨i, d, k1, k2, k3, k4⟩ := hk _ hmem
            refine key r _ _ hu hu' ?_ (.inl ⟨_, _, rfl, .inl ⟨_, _, rfl⟩⟩) hv.symm
            have hc := eq_cell (d := 9998) (w := w) k3 k4 hVu hVu' hkk hr
            have hd : ∀ d : Nat, (Op.equalIn (d + 1) T (.iface t1 u) (.iface t1 u')).run P w = (Op.equalIn d t1 u u').run P w := by
              intro d
              conv => lhs; unfold Op.equalIn
              simp [run_und hT, typeInfo, k1, k2]
            exact (hd 9999).trans hc
          · cases hv
        · cases hv
      · cases hv
    · rename_i ht
      simp only [Option.some.injEq] at hv
      refine key false _ _ hu hu' ?_ (.inl ⟨_, _, rfl, .inl ⟨_, _, rfl⟩⟩) (by rw [← hv]; cases neg <;> rfl)
      have hd : ∀ d : Nat, (Op.equalIn (d + 1) T (.iface t u) (.iface t' u')).run P w = .ok false w := fun d => by simp [Op.equalIn, run_und hT, ht]
      exact hd 9999

end Go.Idl
