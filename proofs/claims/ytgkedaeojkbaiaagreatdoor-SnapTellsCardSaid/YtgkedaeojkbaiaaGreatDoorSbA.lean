/- SnapTells: what the ideal machine makes of its functions, part A; no conditions. -/
import Derived.Test.YtgkedaeojkbaiaaGreatDoorIdlE
set_option linter.defProp false
set_option linter.unusedSectionVars false
set_option linter.unusedVariables false
set_option linter.unusedSimpArgs false
namespace Go.Idl.Sb
open Go Go.Idl
def Z55 : List IVal := [(.int .i64 0), (.int .i64 0), (.int .i64 0), (.int .i64 0), (.int .i32 0), (.int .i32 0), (.int .i32 0), (.int .i32 0), (.int .i32 0), (.int .i32 0), (.int .i32 0), (.int .i32 0), (.int .i32 0), (.sl 1 true []), (.sl 1 true []), (.int .i64 0), (.sl 3 true []), (.int .u8 0), (.int .u8 0), (.int .u8 0), (.int .i64 0), (.int .u8 0), (.int .u8 0), (.int .u8 0), (.int .u8 0), (.int .u8 0), (.int .u8 0), (.int .u8 0), (.int .u8 0), (.int .i64 0), (.int .u8 0), (.int .u8 0), (.int .u8 0), (.int .u8 0), (.int .u8 0), (.int .u8 0), (.int .u8 0), (.int .u8 0), (.bool false), (.int .u8 0), (.int .u8 0), (.int .u16 0), (.int .u16 0), (.int .u16 0), (.int .u16 0), (.int .u16 0), (.int .u16 0), (.int .u8 0), (.int .u8 0), (.int .u8 0), (.int .u64 0), (.int .u64 0), (.int .i64 0), (.int .i64 0), (.int .i64 0)]
abbrev oD (a b : Nat) : IOper := ⟨(some a), .mv (.t b), none⟩
abbrev oE (a b : Nat) : IOper := ⟨(some a), .mv (.m b), none⟩
abbrev oF (a b c : Nat) : IOper := ⟨(some a), .fieldAddr b (.m c), none⟩
abbrev oG (a b : Nat) : IOper := ⟨(some a), .load false none (.m b), none⟩
abbrev oH (a b : Nat) : IOper := ⟨(some a), .nilCheck (.m b), none⟩
abbrev oI (a b c : Nat) : IOper := ⟨(some a), .fieldAddr b (.t c), none⟩
abbrev oJ (a b c : Nat) : IOper := ⟨none, .store a (.m b) (.m c), none⟩
abbrev oK (a b c : Nat) : IOper := ⟨(some a), .call b [(.m c)], none⟩
abbrev oL (a b c : Nat) : IOper := ⟨(some a), .pick (.m b) (.t c) (.c (.bool false)), none⟩
abbrev oM (a b c : Nat) : IOper := ⟨(some a), .load false none (.t b), some (c, true)⟩
abbrev oN (a b c d : Nat) : IOper := ⟨(some a), .fieldAddr b (.t c), some (d, true)⟩
abbrev oO (a : Nat) (b : Int) : IOper := ⟨(some a), .mv (.c (.int .i64 b)), none⟩
abbrev oP (a b : Nat) : IOper := ⟨(some a), .bin .add (.m b) (.c (.int .i64 1)), none⟩
abbrev oQ (a b c : Nat) : IOper := ⟨(some a), .mv (.t b), some (c, true)⟩
abbrev oR (a b c : Nat) : IOper := ⟨(some a), .bin .add (.m b) (.m c), none⟩
abbrev oS (a : Nat) : IOper := ⟨(some a), .mv (.c (.bool false)), none⟩
abbrev oT (a b c : Nat) : IOper := ⟨(some a), .extract (.m b) c, none⟩
abbrev oU (a b : Nat) : IOper := ⟨(some a), .lenL (.t b), none⟩
abbrev oV (a b c d : Nat) : IOper := ⟨(some a), .call b [(.m c), (.m d)], none⟩
abbrev oW (a b c d : Nat) : IOper := ⟨(some a), .idxAddr b (.t c) (.m d), none⟩
abbrev oX (a b : Nat) : IOper := ⟨(some a), .conv (.int .u64) (.m b), none⟩
abbrev oY (a : Nat) : IOper := ⟨(some a), .alloc [(.int .u8 0), (.int .u8 0), (.int .u8 0), (.int .i64 0), (.int .u8 0), (.int .u8 0), (.int .u8 0), (.int .u8 0), (.int .u8 0), (.int .u8 0), (.int .u8 0), (.int .u8 0), (.int .i64 0), (.int .u8 0), (.int .u8 0), (.int .u8 0), (.int .u8 0), (.int .u8 0), (.int .u8 0), (.int .u8 0), (.int .u8 0), (.bool false), (.int .u8 0), (.int .u8 0), (.int .u16 0), (.int .u16 0), (.int .u16 0), (.int .u16 0), (.int .u16 0), (.int .u16 0), (.int .u8 0), (.int .u8 0)], none⟩
abbrev oZ (a b c : Nat) : IOper := ⟨(some a), .load false (some b) (.m c), none⟩
abbrev oa (a b c : Nat) : IOper := ⟨(some a), .bin .lss (.m b) (.m c), none⟩
abbrev oc (a b c : Nat) (d : Int) : IOper := ⟨(some a), .call b [(.m c), (.c (.int .i64 d))], none⟩
abbrev od (a b c : Nat) : IOper := ⟨(some a), .isnil false b (.m c), none⟩
abbrev oe (a b : Nat) : IOper := ⟨(some a), .boxv (.t b), none⟩
abbrev oh (a b c : Nat) : IOper := ⟨(some a), .load false (some b) (.t c), none⟩
abbrev oi (a b : Nat) : IOper := ⟨(some a), .load true none (.m b), none⟩
abbrev oj (a b c d : Nat) : IOper := ⟨(some a), .bin .eql (.t b) (.t c), some (d, true)⟩
abbrev ol (a b c : Nat) : IOper := ⟨(some a), .mv (.t b), some (c, false)⟩
abbrev om (a b : Nat) : IOper := ⟨(some a), .conv (.int .i64) (.m b), none⟩
abbrev oq (a : Nat) : IOper := ⟨(some a), .alloc Z55, none⟩
abbrev ot (a : Nat) : IOper := ⟨(some a), .mv (.c (.int .u64 0)), none⟩
abbrev ou (a b c d e : Nat) : IOper := ⟨(some a), .idxAddrA b c (.t d) (.m e), none⟩
abbrev ov (a b c d : Nat) : IOper := ⟨(some a), .call b [(.t c)], some (d, true)⟩
abbrev ow (a b c : Nat) : IOper := ⟨(some a), .load true (some b) (.m c), none⟩
abbrev ox (a b c : Nat) : IOper := ⟨(some a), .buildSl b [(.m c)], none⟩
abbrev oy (a b : Nat) (c : Int) : IOper := ⟨(some a), .bin .sub (.m b) (.c (.int .i64 c)), none⟩
abbrev oz (a b : Nat) : IOper := ⟨(some a), .bin .eql (.m b) (.c (.int .i64 0)), none⟩
abbrev o5 (a b c d e : Nat) : IOper := ⟨(some a), .inv [(64, b, .same), (128, c, .same)] (.m d) [(.m e)], none⟩
abbrev o7 (a b c : Nat) : IOper := ⟨(some a), .bin .lss (.t b) (.t c), none⟩
abbrev o8 (a b c d e : Nat) : IOper := ⟨(some a), .append false false b c (.m d) (.m e), none⟩
abbrev o9 (a b c d : Nat) : IOper := ⟨(some a), .load false (some b) (.t c), some (d, true)⟩
abbrev uG (a b c : Nat) : IOper := ⟨(some a), .pick (.m b) (.c (.bool true)) (.t c), none⟩
abbrev uH (a b : Nat) (c : Int) : IOper := ⟨(some a), .bin .lss (.m b) (.c (.int .i64 c)), none⟩
abbrev uJ (a b : Nat) : IOper := ⟨(some a), .mv (.c (.sl b true [])), none⟩
abbrev uK (a b c : Nat) : IOper := ⟨(some a), .nilCheck (.t b), some (c, true)⟩
abbrev uL (a b c : Nat) (d : Int) : IOper := ⟨(some a), .call b [(.m c), (.c (.int .u64 d))], none⟩
abbrev uM (a b d : Nat) (c : Int) : IOper := ⟨(some a), .bin .eql (.t b) (.c (.int .i64 c)), some (d, true)⟩
abbrev uN (a : Nat) : IOper := ⟨(some a), .mv (.c (.bool true)), none⟩
abbrev uP (a b c : Nat) : IOper := ⟨(some a), .build [(.int .i64 0), (.int .u8 0), (.int .u8 0), (.int .u8 0), (.int .u8 0), (.int .u8 0), (.int .u8 0), (.int .u8 0), (.int .u8 0)] [(0, 1, (.m b)), (1, 8, (.m c))], none⟩
abbrev uQ (a b : Nat) (c : Int) : IOper := ⟨(some a), .idxAddrA 2 3 (.t b) (.c (.int .i64 c)), none⟩
abbrev uR (a b c d : Nat) : IOper := ⟨(some a), .buildSl 1 [(.m b), (.m c), (.m d)], none⟩
abbrev uT (a b c : Nat) : IOper := ⟨(some a), .idxAddr 1 (.t b) (.t c), none⟩
abbrev uU (a b c d e : Nat) : IOper := ⟨(some a), .call b [(.t c), (.t d)], some (e, true)⟩
abbrev uV (a b : Nat) : IOper := ⟨(some a), .load false none (.t b), none⟩
abbrev uW (a b c e : Nat) (d : Int) : IOper := ⟨(some a), .call b [(.m c), (.c (.int .i64 d)), (.m e)], none⟩
abbrev uX (a c : Nat) (b : Int) : IOper := ⟨(some a), .bin .mul (.c (.int .i64 b)) (.m c), none⟩
abbrev uY (a b : Nat) (c : Int) : IOper := ⟨(some a), .bin .rem (.m b) (.c (.int .u64 c)), none⟩
abbrev uZ (a b : Nat) (c : Int) : IOper := ⟨(some a), .minmax false [(.m b), (.c (.int .i64 c))], none⟩
abbrev uc (a : Nat) : IOper := ⟨(some a), .alloc [(.int .i64 0), (.int .u8 0), (.int .u8 0), (.int .u8 0), (.int .u8 0), (.int .u8 0), (.int .u8 0), (.int .u8 0), (.int .u8 0)], none⟩
abbrev ud (a b c d : Nat) : IOper := ⟨(some a), .sliceL b (.m c) none (some (.t d)) none, none⟩
abbrev ue (a b : Nat) : IOper := ⟨(some a), .pur (.invX [(186, (.aKind 1 [(83, 2), (143, 22), (80, 20), (145, 22), (186, 25), (64, 22), (128, 25)]), (.fld 0 none))]) [(.m b)], none⟩
abbrev ug (a b c d f : Nat) (e : Int) : IOper := ⟨(some a), .call b [(.m c), (.m d), (.c (.int .i64 e)), (.c (.fn (.func f) [] []))], none⟩
abbrev uh (a b : Nat) : IOper := ⟨(some a), .pur (.nilM [64, 128] "plover/snap.bytes") [(.t b)], none⟩
abbrev ui (a b c d e : Nat) : IOper := ⟨(some a), .append true false b c (.m d) (.m e), none⟩
abbrev uj (a b c d e : Nat) : IOper := ⟨(some a), .call b [(.m c), (.m d), (.m e)], none⟩
abbrev uk (a b : Nat) : IOper := ⟨(some a), .pur .text [(.m b)], none⟩
abbrev uo (a b c : Nat) : IOper := ⟨(some a), .load false none (.t b), some (c, false)⟩
abbrev uq (a b c : Nat) : IOper := ⟨(some a), .build [(.int .i64 0), (.int .i64 0)] [(0, 1, (.m b)), (1, 1, (.m c))], none⟩
abbrev ur (a b c : Nat) : IOper := ⟨(some a), .mkIface b (.m c), none⟩
abbrev ut (a b c : Nat) : IOper := ⟨(some a), .bin .neq (.m b) (.m c), none⟩
abbrev uw (a b : Nat) : IOper := ⟨(some a), .pur (.mkM "plover/snap.bytes") [(.m b)], none⟩
abbrev uz (a b : Nat) (c : Int) : IOper := ⟨(some a), .bin .rem (.m b) (.c (.int .i64 c)), none⟩
abbrev wG (a b c : Nat) : IOper := ⟨(some a), .inv [(64, 100, .same), (128, 113, .same)] (.m b) [(.m c), (.c (.int .u64 1152921504606846975))], none⟩
abbrev wH (a b c : Nat) : IOper := ⟨(some a), .idxS (.m b) (.m c), none⟩
abbrev wI (a b c d e f g h i j k : Nat) : IOper := ⟨(some a), .buildSl 1 [(.m b), (.m c), (.m d), (.m e), (.m f), (.m g), (.m h), (.m i), (.m j), (.m k)], none⟩
abbrev wJ : IOper := ⟨(some 2), .mv (.c (.int .u8 0)), none⟩
abbrev wK (a b c d : Nat) : IOper := ⟨(some a), .bin .gtr (.t b) (.t c), some (d, false)⟩
abbrev wL (a : Nat) : IOper := ⟨(some a), .alloc [(.int .i64 0), (.int .i64 0)], none⟩
abbrev wM (a : Nat) : IOper := ⟨(some a), .mv (.c (.prim .nilIface)), none⟩
abbrev wN (a b d : Nat) (c : Int) : IOper := ⟨(some a), .bin .leq (.t b) (.c (.int .i64 c)), some (d, true)⟩
abbrev wO (a b : Nat) : IOper := ⟨(some a), .inv [(143, 124, .same)] (.m b) [], none⟩
abbrev wP (a b : Nat) : IOper := ⟨(some a), .vOf 1 [(83, 2), (143, 22), (80, 20), (145, 22), (186, 25), (64, 22), (128, 25)] (.m b), none⟩
abbrev wQ (a b : Nat) : IOper := ⟨(some a), .build [(.int .i64 0), (.int .i64 0)] [(0, 1, (.c (.int .i64 4))), (1, 1, (.m b))], none⟩
abbrev wR (a b : Nat) : IOper := ⟨(some a), .un .not (.m b), none⟩
abbrev wT (a b c : Nat) : IOper := ⟨(some a), .buildSl 1 [(.m b), (.m c)], none⟩
abbrev wU (a b c : Nat) : IOper := ⟨(some a), .nilCheck (.t b), some (c, false)⟩
abbrev wV (a b : Nat) : IOper := ⟨(some a), .conv (.int .u16) (.m b), none⟩
abbrev wW : IOper := ⟨(some 1), .box (.t 0), none⟩
abbrev wX : IOper := ⟨(some 19), .inv [(64, 100, .same), (128, 113, .same)] (.m 16) [(.t 8), (.m 18)], none⟩
abbrev wY (a b : Nat) (c : Int) : IOper := ⟨(some a), .bin .lss (.m b) (.c (.int .u64 c)), none⟩
abbrev wZ (a b : Nat) (c : Int) : IOper := ⟨(some a), .bin .quo (.m b) (.c (.int .u64 c)), none⟩
abbrev wa (a b : Nat) : IOper := ⟨(some a), .bin .neq (.m b) (.c (.int .i64 0)), none⟩
abbrev wc (a c : Nat) (b : Int) : IOper := ⟨(some a), .bin .mul (.c (.int .u64 b)) (.m c), none⟩
abbrev wg (a b : Nat) (c : Int) : IOper := ⟨(some a), .bin .shr (.m b) (.c (.int .u64 c)), none⟩
abbrev wh (a b : Nat) : IOper := ⟨(some a), .pur (.tyI [] [83, 143, 80, 145, 186, 64, 128] true) [(.m b)], none⟩
abbrev wl (a b : Nat) : IOper := ⟨(some a), .pur (.tyI [] [83, 143, 80, 145, 186, 64, 128] true) [(.t b)], none⟩
abbrev wm (a b : Nat) : IOper := ⟨(some a), .bin .geq (.m b) (.c (.int .i64 0)), none⟩
abbrev wo (a b : Nat) : IOper := ⟨(some a), .lenS (.t b), none⟩
abbrev wp (a b : Nat) : IOper := ⟨(some a), .pur (.tyI [143] [83, 80, 145, 186, 64, 128] true) [(.t b)], none⟩
abbrev wq (a b c d : Nat) : IOper := ⟨(some a), .callv (.m b) [(.m c), (.m d)], none⟩
abbrev wu : IOper := ⟨(some 2), .mv (.c (.prim (.pointer none))), none⟩
abbrev wx (a b : Nat) : IOper := ⟨(some a), .box (.m b), none⟩
abbrev wz (a b : Nat) : IOper := ⟨(some a), .pur (.nilM [64, 128] "plover/snap.number") [(.t b)], none⟩
abbrev w9 (a b c : Nat) : IOper := ⟨(some a), .call b [(.t c)], some (25, false)⟩
abbrev xA (a b : Nat) : IOper := ⟨(some a), .pur (.nilM [64, 128] "plover/snap.truth") [(.t b)], none⟩
abbrev xB (a : Nat) : IOper := ⟨(some a), .alloc [(.int .i64 0), (.int .i64 0), (.bool false)], none⟩
abbrev xC (a b c d : Nat) : IOper := ⟨(some a), .sliceL 1 (.m b) none (some (.t c)) (some (.t d)), none⟩
abbrev xD (a b c : Nat) : IOper := ⟨(some a), .un .not (.t b), some (c, true)⟩
abbrev xE (a b c d : Nat) : IOper := ⟨(some a), .pick (.t b) (.c (.bool true)) (.t c), some (d, true)⟩
abbrev xF (a b c : Nat) : IOper := ⟨(some a), .mkFn (.func b) [] [(.m c)], none⟩
abbrev xG (a b : Nat) : IOper := ⟨(some a), .build [(.prim (.pointer none))] [(0, 1, (.m b))], none⟩
abbrev xH (a b : Nat) : IOper := ⟨(some a), .load true (some 55) (.t b), none⟩
abbrev xI (a b c : Nat) : IOper := ⟨(some a), .bin .geq (.m b) (.m c), none⟩
abbrev xJ (a b c : Nat) : IOper := ⟨(some a), .bin .add (.t b) (.c (.int .i64 1)), some (c, true)⟩
abbrev xK (a b c : Nat) : IOper := ⟨(some a), .bin .neq (.t b) (.c (.int .i64 0)), some (c, true)⟩
abbrev xL (a b c : Nat) : IOper := ⟨(some a), .bin .xor (.m b) (.m c), none⟩
abbrev xM (a b c d : Nat) : IOper := ⟨(some a), .sliceS (.t b) none (some (.t c)), some (d, true)⟩
abbrev xN (a : Nat) : IOper := ⟨(some a), .build Z55 [], none⟩
abbrev xO (a b c : Nat) : IOper := ⟨(some a), .bin .eql (.m b) (.m c), none⟩
abbrev xP (a b : Nat) : IOper := ⟨(some a), .conv (.int .u8) (.m b), none⟩
abbrev xQ (a b c : Nat) : IOper := ⟨(some a), .callv (.m b) [(.m c)], none⟩
abbrev xR (a b c : Nat) : IOper := ⟨(some a), .lenS (.t b), some (c, true)⟩
abbrev xS (a b c d : Nat) : IOper := ⟨(some a), .pur (.invX []) [(.t b), (.t c)], some (d, true)⟩
abbrev xU (a b : Nat) : IOper := ⟨(some a), .pur (.mkM "plover/snap.number") [(.m b)], none⟩
abbrev xV : IOper := ⟨(some 9), .bin .gtr (.t 8) (.c (.int .i64 0)), some (6, true)⟩
abbrev xW (a b c : Nat) : IOper := ⟨(some a), .bin .leq (.m b) (.m c), none⟩
abbrev xX (a b : Nat) : IOper := ⟨(some a), .pur (.mkM "plover/snap.truth") [(.m b)], none⟩
abbrev xY (a : Nat) : IOper := ⟨(some a), .alloc [(.int .u64 0)], none⟩
abbrev xZ (a b c d : Nat) : IOper := ⟨(some a), .load false (some b) (.t c), some (d, false)⟩
abbrev xe (a b : Nat) : IOper := ⟨(some a), .pur (.ext (.typeOf 186 1)) [(.m b)], none⟩
abbrev xf (a b : Nat) : IOper := ⟨(some a), .bin .lss (.t b) (.c (.int .i64 8)), none⟩
abbrev xg (a b : Nat) : IOper := ⟨(some a), .bin .add (.m b) (.c (.int .u64 1)), none⟩
abbrev xh (a b c : Nat) : IOper := ⟨(some a), .conv (.int .i64) (.t b), some (c, true)⟩
abbrev xi (a b : Nat) : IOper := ⟨(some a), .bin .eql (.m b) (.c (.int .u8 1)), none⟩
abbrev xj (a b : Nat) : IOper := ⟨(some a), .un .neg (.m b), none⟩
abbrev xk : IOper := ⟨(some 23), .minmax false [(.m 20), (.m 22)], none⟩
abbrev xm (a b c : Nat) : IOper := ⟨(some a), .fieldAddr b (.t c), some (29, false)⟩
abbrev xn : IOper := ⟨none, .store 1 (.m 5) (.c (.bool false)), none⟩
abbrev xp (a b : Nat) : IOper := ⟨(some a), .boxv (.m b), none⟩
abbrev xq : IOper := ⟨(some 4), .pur (.isnilS false) [(.t 3)], none⟩
abbrev xr (a : Nat) : IOper := ⟨none, .panic (.m a), none⟩
abbrev xu (a : Nat) : IOper := ⟨(some a), .mv (.c (.int .i32 0)), none⟩
abbrev xw (a : Nat) : IOper := ⟨(some a), .alloc [(.int .i64 0)], none⟩
abbrev xx (a : Nat) : IOper := ⟨none, .store 55 (.t 1) (.m a), none⟩
/- plover/ploverlaw28.near -/
def VV : ICode := (.seq (.ops [o7 28 27 26])
 (.seq (.cond (.t 28) .skip (.exit 0))
 (.seq (.block 1 (.seq (.ops [uT 29 25 27, oG 30 29, oE 4 30])
 (.ops [oD 31 4, oD 32 4, oH 33 32, oG 34 33, uz 35 34 1152921504606846976, oH 36 31, oJ 1 36 35])))
 (.ops [oP 37 27, oE 27 37]))))
def VW : ICode := (.seq (.seq (.ops [oD 54 6, oD 55 5, oU 56 55, oa 57 54 56])
 (.cond (.t 57) .skip (.exit 2)))
 (.seq (.block 3 (.draw [(0, oI 60 16 1), (1, oi 61 60), (2, oD 62 5), (3, oD 63 6), (4, oW 64 3 62 63), (5, oF 65 0 64), (6, oG 66 65), (7, uz 67 66 100), (8, oD 68 5), (9, oD 69 6), (10, oW 70 3 68 69), (11, oF 71 1 70), (12, oG 72 71), (13, uz 73 72 100), (14, oD 74 5), (15, oD 75 6), (16, oW 76 3 74 75), (17, oF 77 2 76), (18, oG 78 77), (19, ⟨(some 79), .build [(.int .i64 0), (.int .i64 0), (.bool false)] [(0, 1, (.m 67)), (1, 1, (.m 73)), (2, 1, (.m 78))], none⟩), (20, ox 80 3 79), (21, o8 81 3 24 61 80), (22, oI 82 16 1), (23, oJ 1 82 81)] [(6, 1), (12, 1), (18, 1)]))
 (.ops [oE 58 6, oP 59 58, oE 6 59])))
def ir5 : IFunc := ⟨84, 28, 23, 6, (.seq (.ops [wW, oq 2])
 (.seq (.ops [xH 7 1, oK 8 6 7, xx 8])
 (.seq (.seq (.ops [oI 9 0 1, oI 10 1 1, oI 11 2 1, oI 12 3 1, oI 13 15 1, oI 14 52 1, oI 15 53 1, oI 16 54 1, oI 17 17 1, oF 18 3 17, oF 19 0 18, oF 20 0 19, oI 21 17 1, oF 22 3 21, oF 23 9 22, oF 24 0 23, wI 25 9 10 11 12 13 14 15 16 20 24, oU 26 25, oO 27 0])
 (.block 0 (.loop VV)))
 (.seq (.ops [oI 38 50 1, oG 39 38, uY 40 39 1152921504606846976, oI 41 50 1, oJ 1 41 40])
 (.seq (.ops [oI 42 51 1, oG 43 42, uY 44 43 1152921504606846976, oI 45 51 1, oJ 1 45 44])
 (.seq (.ops [oI 46 16 1, oG 47 46, oI 48 16 1, oG 49 48, oU 50 49, uZ 51 50 8, ud 52 3 47 51, oE 5 52])
 (.seq (.ops [oI 53 16 1, ⟨none, .store 1 (.m 53) (.c (.sl 3 true [])), none⟩])
 (.seq (.seq (.ops [oO 6 0])
 (.block 2 (.loop VW)))
 (.seq (.ops [ow 83 55 1, oJ 55 2 83])
 .ret))))))))), [.cell 2 (some 55)]⟩
/- plover/snap.Encode -/
def ir4 : IFunc := ⟨20, 4, 5, 4, (.seq (.ops [wW, ⟨(some 2), .mv (.c (.str [])), none⟩])
 (.seq (.ops [⟨(some 4), .build [(.sl 1 true []), (.bool false)] [], none⟩, wx 5 4, oE 3 5])
 (.seq (.ops [xH 6 1, oK 7 11 6, xx 7])
 (.seq (.ops [oD 8 3, ur 9 64 8, ⟨(some 10), .call 12 [(.m 9), (.t 1)], none⟩])
 (.seq (.seq (.ops [oD 11 3, oH 12 11, oF 13 1 12, oG 14 13])
 (.cond (.t 14) (.seq (.ops [⟨(some 2), .mv (.c (.str [])), none⟩])
 .ret) .skip))
 (.seq (.ops [oE 15 3, oH 16 15, oF 17 0 16, oG 18 17, uk 19 18, oE 2 19])
 .ret)))))), [.t 2]⟩
/- plover/snap.Decode -/
def jdH : IFunc := ⟨20, 7, 4, 4, (.seq (.ops [oq 2, wM 3])
 (.seq (.ops [oD 7 0, oK 8 41 7, oE 4 8])
 (.seq (.ops [oq 5])
 (.seq (.ops [oD 9 4, xG 10 9, ur 11 128 10, ⟨(some 12), .call 12 [(.m 11), (.t 5)], none⟩])
 (.seq (.seq (.ops [oD 13 4, oK 14 42 13, oE 6 14])
 (.seq (.ops [oD 15 6, ⟨(some 16), .isnil true 1 (.m 15), none⟩])
 (.cond (.t 16) (.seq (.ops [xN 17, oE 18 6, oJ 55 2 17, oE 3 18])
 .ret) .skip)))
 (.seq (.ops [ow 19 55 5, oJ 55 2 19, wM 3])
 .ret)))))), [.cell 2 (some 55), .t 3]⟩
/- plover/ploverlaw28.few -/
def ir6 : IFunc := ⟨28, 3, 8, 4, (.seq (.ops [wW, oq 2])
 (.seq (.ops [oI 3 13 1, oi 4 3, oI 5 13 1, oi 6 5, oU 7 6, uZ 8 7 40, ud 9 1 4 8, oI 10 13 1, oJ 1 10 9])
 (.seq (.ops [oI 11 14 1, oi 12 11, oI 13 14 1, oi 14 13, oU 15 14, uZ 16 15 40, ud 17 1 12 16, oI 18 14 1, oJ 1 18 17])
 (.seq (.ops [oI 19 16 1, oi 20 19, oI 21 16 1, oi 22 21, oU 23 22, uZ 24 23 9, ud 25 3 20 24, oI 26 16 1, oJ 1 26 25])
 (.seq (.ops [ow 27 55 1, oJ 55 2 27])
 .ret))))), [.cell 2 (some 55)]⟩
/- plover/snap.own -/
def jf5 : IFunc := ⟨16, 3, 12, 4, (.seq (.ops [wW, oq 2])
 (.seq (.draw [(0, oI 3 13 1), (1, oG 4 3), (3, oI 6 14 1), (4, oG 7 6), (6, oI 9 16 1), (7, oG 10 9), (2, oK 5 29 4), (9, oI 12 13 1), (5, oK 8 29 7), (8, oK 11 30 10), (10, oJ 1 12 5), (11, oI 13 14 1), (12, oJ 1 13 8), (13, oI 14 16 1), (14, oJ 1 14 11)] [(4, 2), (7, 2), (7, 5)])
 (.seq (.ops [ow 15 55 1, oJ 55 2 15])
 .ret))), [.cell 2 (some 55)]⟩
/- plover/snap.state -/
def Kn : ICode := (.seq (.ops [xf 27 26])
 (.seq (.cond (.t 27) .skip (.exit 0))
 (.seq (.block 1 (.seq (.ops [oD 28 26, oE 4 28])
 (.ops [oD 29 0, oD 30 1, oD 31 4, oH 32 30, oF 33 5 32, ou 34 8 1 33 31, oV 35 32 29 34])))
 (.ops [oP 36 26, oE 26 36]))))
def jcZ : IFunc := ⟨171, 27, 18, 6, (.seq (.draw [(0, oD 6 0), (1, oD 7 1), (2, oH 8 7), (3, oF 9 0 8), (4, oD 10 1), (5, oH 11 10), (6, oF 12 1 11), (7, oD 13 1), (8, oH 14 13), (9, oF 15 2 14), (10, oD 16 1), (11, oH 17 16), (12, oF 18 3 17), (13, ⟨(some 19), .buildSl 1 [(.m 9), (.m 12), (.m 15), (.m 18)], none⟩), (14, oV 20 31 6 19)] [])
 (.seq (.ops [oD 21 0, oD 22 1, oH 23 22, oF 24 4 23, oV 25 32 21 24])
 (.seq (.seq (.ops [oO 26 0])
 (.block 0 (.loop Kn)))
 (.seq (.ops [oD 37 0, oD 38 1, oH 39 38, oF 40 13 39, ug 41 33 37 40 32 512])
 (.seq (.ops [oD 42 0, oD 43 1, oH 44 43, oF 45 14 44, ug 46 33 42 45 32 8000])
 (.seq (.ops [oD 47 0, oD 48 1, oH 49 48, oF 50 15 49, ox 51 1 50, oV 52 31 47 51])
 (.seq (.ops [oD 53 0, oD 54 1, oH 55 54, oF 56 16 55, ug 57 34 53 56 35 8])
 (.seq (.ops [oD 58 1, oH 59 58, oF 60 17 59, oE 5 60])
 (.seq (.draw [(0, oD 61 0), (1, oD 62 5), (2, oH 63 62), (3, oF 64 0 63), (4, oF 65 0 64), (5, oD 66 5), (6, oH 67 66), (7, oF 68 0 67), (8, oF 69 1 68), (9, oD 70 5), (10, oH 71 70), (11, oF 72 0 71), (12, oF 73 2 72), (13, uR 74 65 69 73), (14, uw 75 61), (15, uh 76 75), (16, oE 77 61), (17, o5 78 99 112 77 74)] [])
 (.seq (.ops [oD 79 0, oD 80 5, oH 81 80, oF 82 3 81, oF 83 0 82, oV 84 36 79 83])
 (.seq (.ops [oD 85 0, oD 86 5, oH 87 86, oF 88 3 87, oF 89 9 88, oV 90 36 85 89])
 (.seq (.draw [(0, oD 91 0), (1, oD 92 5), (2, oH 93 92), (3, oF 94 3 93), (4, oF 95 18 94), (5, xX 96 91), (6, xA 97 96), (7, oE 98 91), (8, o5 99 101 114 98 95)] [])
 (.seq (.draw [(0, oD 100 0), (1, oD 101 5), (2, oH 102 101), (3, oF 103 3 102), (4, oF 104 19 103), (5, oD 105 5), (6, oH 106 105), (7, oF 107 3 106), (8, oF 108 20 107), (9, wT 109 104 108), (10, uw 110 100), (11, uh 111 110), (12, oE 112 100), (13, o5 113 99 112 112 109)] [])
 (.seq (.ops [oD 114 0, oD 115 5, oH 116 115, oF 117 24 116, uQ 118 117 0, oV 119 37 114 118])
 (.seq (.ops [oD 120 0, oD 121 5, oH 122 121, oF 123 24 122, uQ 124 123 1, oV 125 37 120 124])
 (.seq (.draw [(0, oD 126 0), (1, oD 127 5), (2, oH 128 127), (3, oF 129 30 128), (4, oF 130 0 129), (5, oD 131 5), (6, oH 132 131), (7, oF 133 30 132), (8, oF 134 1 133), (9, oD 135 1), (10, oH 136 135), (11, oF 137 49 136), (12, uR 138 130 134 137), (13, uw 139 126), (14, uh 140 139), (15, oE 141 126), (16, o5 142 99 112 141 138)] [])
 (.seq (.draw [(0, oD 143 0), (1, oD 144 1), (2, oH 145 144), (3, oF 146 50 145), (4, xU 147 143), (5, wz 148 147), (6, oE 149 143), (7, wG 150 149 146)] [])
 (.seq (.draw [(0, oD 151 0), (1, oD 152 1), (2, oH 153 152), (3, oF 154 51 153), (4, xU 155 151), (5, wz 156 155), (6, oE 157 151), (7, wG 158 157 154)] [])
 (.draw [(0, oD 159 0), (1, oD 160 1), (2, oH 161 160), (3, oF 162 52 161), (4, oD 163 1), (5, oH 164 163), (6, oF 165 53 164), (7, oD 166 1), (8, oH 167 166), (9, oF 168 54 167), (10, uR 169 162 165 168), (11, oV 170 31 159 169)] []))))))))))))))))))), []⟩
/- plover/wire.New -/
def je3 : IFunc := ⟨6, 3, 3, 3, (.seq (.ops [wu])
 (.seq (.ops [oE 3 0, ⟨(some 4), .build [(.str []), (.int .i64 0), (.prim .nilIface)] [(0, 1, (.m 3))], none⟩, wx 5 4, oE 2 5])
 .ret)), [.t 2]⟩
/- (*plover/wire.In).End -/
def jc1 : IFunc := ⟨20, 3, 8, 4, (.seq (.ops [wM 2])
 (.seq (.seq (.ops [oD 3 0, oK 4 61 3, wR 5 4, oE 6 5, oQ 7 0 6, ov 8 62 7 6, xV, oL 10 6 9])
 (.cond (.t 10) (.seq (.ops [oE 11 0, oH 12 11, oF 13 1 12, oG 14 13, wQ 15 14, xp 16 15, ur 17 143 16, oE 2 17])
 .ret) .skip))
 (.seq (.ops [oE 18 0, oK 19 63 18, oE 2 19])
 .ret))), [.t 2]⟩
/- slices.Clone[[]int32,int32] -/
def jbt : IFunc := ⟨8, 3, 3, 3, (.seq (.ops [uJ 2 1])
 (.seq (.seq (.ops [oD 3 0, xq])
 (.cond (.t 4) (.seq (.ops [uJ 2 1])
 .ret) .skip))
 (.seq (.ops [⟨(some 5), .buildRs 1 [], none⟩, oE 6 0, ui 7 1 4 5 6, oE 2 7])
 .ret))), [.t 2]⟩
/- slices.Clone[[]plover/api.Ran,plover/api.Ran] -/
def jbu : IFunc := ⟨8, 3, 3, 3, (.seq (.ops [uJ 2 3])
 (.seq (.seq (.ops [oD 3 0, xq])
 (.cond (.t 4) (.seq (.ops [uJ 2 3])
 .ret) .skip))
 (.seq (.ops [⟨(some 5), .buildRs 3 [], none⟩, oE 6 0, ui 7 3 24 5 6, oE 2 7])
 .ret))), [.t 2]⟩
/- plover/snap.places -/
def Kt : ICode := (.seq (.ops [o7 10 9 8])
 (.seq (.cond (.t 10) .skip (.exit 0))
 (.seq (.block 1 (.seq (.ops [uT 11 7 9, oG 12 11, oE 5 12])
 (.seq (.ops [oD 13 5, oH 14 13, oG 15 14, xw 6, oJ 1 6 15])
 (.seq (.ops [oD 16 0, ⟨(some 17), .inv [(64, 102, .same), (128, 115, .same)] (.m 16) [(.t 6), (.c (.int .i64 (-1152921504606846976))), (.c (.int .i64 1152921504606846976))], none⟩])
 (.ops [oD 18 5, uV 19 6, oH 20 18, oJ 1 20 19])))))
 (.ops [oP 21 9, oE 9 21]))))
def Qa : IFunc := ⟨22, 10, 3, 4, (.seq (.ops [oD 7 1, oU 8 7, oO 9 0])
 (.block 0 (.loop Kt))), []⟩
/- plover/snap.word -/
def Q4 : IFunc := ⟨15, 5, 4, 4, (.seq (.ops [oD 5 1, oH 6 5, oG 7 6, om 8 7, xw 4, oJ 1 4 8])
 (.seq (.ops [oD 9 0, ⟨(some 10), .inv [(64, 102, .same), (128, 115, .same)] (.m 9) [(.t 4), (.c (.int .i64 (-2147483648))), (.c (.int .i64 2147483647))], none⟩])
 (.ops [oD 11 1, uV 12 4, ⟨(some 13), .conv (.int .i32) (.m 12), none⟩, oH 14 11, oJ 1 14 13]))), []⟩
/- plover/snap.list[int32] -/
def qO : ICode := (.seq (.ops [o7 26 25 24])
 (.seq (.cond (.t 26) .skip (.exit 0))
 (.seq (.block 1 (.seq (.ops [oD 27 25, oE 9 27])
 (.seq (.seq (.ops [oD 28 9, oD 29 1, oH 30 29, oG 31 30, oU 32 31, xO 33 28 32])
 (.cond (.t 33) (.seq (.ops [xu 10])
 (.ops [oD 34 1, oD 35 1, oH 36 35, oG 37 36, oD 38 10, ox 39 1 38, ui 40 1 4 37 39, oH 41 34, oJ 1 41 40])) .skip))
 (.ops [oD 42 3, oD 43 0, oD 44 1, oH 45 44, oG 46 45, oD 47 9, oW 48 1 46 47, wq 49 42 43 48]))))
 (.ops [oP 50 25, oE 25 50]))))
def X5 : IFunc := ⟨51, 26, 8, 6, (.seq (.ops [oD 11 1, oH 12 11, oG 13 12, oU 14 13, oX 15 14, xY 8, oJ 1 8 15])
 (.seq (.ops [oD 16 0, oD 17 2, oX 18 17, wX])
 (.seq (.ops [uV 20 8, oD 21 2, oX 22 21, xk, om 24 23, oO 25 0])
 (.block 0 (.loop qO))))), []⟩
/- plover/snap.list[plover/api.Ran] -/
def qC : ICode := (.seq (.ops [o7 26 25 24])
 (.seq (.cond (.t 26) .skip (.exit 0))
 (.seq (.block 1 (.seq (.ops [oD 27 25, oE 9 27])
 (.seq (.seq (.ops [oD 28 9, oD 29 1, oH 30 29, oG 31 30, oU 32 31, xO 33 28 32])
 (.cond (.t 33) (.seq (.ops [xB 10])
 (.draw [(0, oD 34 1), (1, oD 35 1), (2, oH 36 35), (3, oG 37 36), (4, oh 38 3 10), (5, ox 39 3 38), (6, ui 40 3 24 37 39), (7, oH 41 34), (8, oJ 1 41 40)] [])) .skip))
 (.ops [oD 42 3, oD 43 0, oD 44 1, oH 45 44, oG 46 45, oD 47 9, oW 48 3 46 47, wq 49 42 43 48]))))
 (.ops [oP 50 25, oE 25 50]))))
def XF : IFunc := ⟨51, 26, 8, 6, (.seq (.ops [oD 11 1, oH 12 11, oG 13 12, oU 14 13, oX 15 14, xY 8, oJ 1 8 15])
 (.seq (.ops [oD 16 0, oD 17 2, oX 18 17, wX])
 (.seq (.ops [uV 20 8, oD 21 2, oX 22 21, xk, om 24 23, oO 25 0])
 (.block 0 (.loop qC))))), []⟩
/- plover/snap.ran -/
def X6 : IFunc := ⟨21, 2, 9, 4, (.seq (.draw [(0, oD 4 0), (1, oD 5 1), (2, oH 6 5), (3, oF 7 0 6), (4, oD 8 1), (5, oH 9 8), (6, oF 10 1 9), (7, wT 11 7 10), (8, oV 12 31 4 11)] [])
 (.draw [(0, oD 13 0), (1, oD 14 1), (2, oH 15 14), (3, oF 16 2 15), (4, xX 17 13), (5, xA 18 17), (6, oE 19 13), (7, o5 20 101 114 19 16)] [])), []⟩
/- plover/snap.queue -/
def Ku : ICode := (.seq (.ops [xf 12 11])
 (.seq (.cond (.t 12) .skip (.exit 0))
 (.seq (.block 1 (.seq (.ops [oD 13 11, oE 4 13])
 (.draw [(0, oD 14 0), (1, oD 15 1), (2, oD 16 4), (3, oH 17 15), (4, oF 18 1 17), (5, ou 19 8 1 18 16), (6, ox 20 1 19), (7, uw 21 14), (8, uh 22 21), (9, oE 23 14), (10, o5 24 99 112 23 20)] [])))
 (.ops [oP 25 11, oE 11 25]))))
def jaG : IFunc := ⟨26, 12, 11, 5, (.seq (.ops [oD 5 0, oD 6 1, oH 7 6, oF 8 0 7, ox 9 1 8, oV 10 31 5 9])
 (.seq (.ops [oO 11 0])
 (.block 0 (.loop Ku)))), []⟩
/- plover/snap.clock -/
def Kv : ICode := (.seq (.ops [o7 19 18 17])
 (.seq (.cond (.t 19) .skip (.exit 0))
 (.seq (.block 1 (.seq (.ops [uT 20 16 18, oG 21 20, oE 5 21])
 (.seq (.ops [oD 22 5, oH 23 22, oG 24 23, oX 25 24, xY 6, oJ 1 6 25])
 (.seq (.ops [oD 26 0, ⟨(some 27), .inv [(64, 100, .same), (128, 113, .same)] (.m 26) [(.t 6), (.c (.int .u64 65535))], none⟩])
 (.ops [oD 28 5, uV 29 6, wV 30 29, oH 31 28, oJ 1 31 30])))))
 (.ops [oP 32 18, oE 18 32]))))
def jaH : IFunc := ⟨33, 19, 4, 5, (.seq (.draw [(0, oD 7 1), (1, oH 8 7), (2, oF 9 0 8), (3, oD 10 1), (4, oH 11 10), (5, oF 12 1 11), (6, oD 13 1), (7, oH 14 13), (8, oF 15 2 14), (9, uR 16 9 12 15), (10, oU 17 16), (11, oO 18 0)] [])
 (.block 0 (.loop Kv))), []⟩
/- (*plover/wire.In).bad -/
def K3 : IFunc := ⟨16, 5, 8, 4, (.seq (.ops [oS 2])
 (.seq (.seq (.ops [oD 5 0, od 6 0 5])
 (.cond (.t 6) (.seq (.ops [uN 2])
 .ret) .skip))
 (.seq (.ops [oD 8 0, oH 9 8, oF 10 2 9, oG 11 10, ⟨(some 12), .pur (.tyC 143 true (.prim (.pointer none))) [(.m 11)], none⟩, oE 7 12, oT 13 7 0, oT 14 7 1, oE 3 13, oE 4 14])
 (.seq (.ops [oE 15 4, oE 2 15])
 .ret)))), [.t 2]⟩
/- (*plover/wire.In).Left -/
def Qx : IFunc := ⟨15, 3, 10, 4, (.seq (.ops [oO 2 0])
 (.seq (.seq (.ops [oD 3 0, od 4 0 3])
 (.cond (.t 4) (.seq (.ops [oO 2 0])
 .ret) .skip))
 (.seq (.draw [(0, oD 5 0), (1, oH 6 5), (2, oF 7 0 6), (3, oG 8 7), (4, wo 9 8), (5, oD 10 0), (6, oH 11 10), (7, oF 12 1 11), (8, oG 13 12), (9, ⟨(some 14), .bin .sub (.m 9) (.m 13), none⟩), (10, oE 2 14)] [])
 .ret))), [.t 2]⟩
/- (*plover/wire.In).Err -/
def Zf : IFunc := ⟨12, 3, 4, 3, (.seq (.ops [wM 2])
 (.seq (.seq (.ops [oD 3 0, od 4 0 3])
 (.cond (.t 4) (.seq (.ops [⟨(some 5), .build [(.int .i64 0), (.int .i64 0)] [(0, 1, (.c (.int .i64 1)))], none⟩, xp 6 5, ur 7 143 6, oE 2 7])
 .ret) .skip))
 (.seq (.ops [oE 8 0, oH 9 8, oF 10 2 9, oG 11 10, oE 2 11])
 .ret))), [.t 2]⟩
/- (*plover/snap.lays).bytes -/
def Kz : ICode := (.seq (.ops [o7 9 8 7])
 (.seq (.cond (.t 9) .skip (.exit 0))
 (.seq (.block 1 (.seq (.ops [uT 10 6 8, oG 11 10, oE 5 11])
 (.draw [(0, oD 12 0), (1, oD 13 0), (2, oH 14 13), (3, oF 15 0 14), (4, oi 16 15), (5, oD 17 5), (6, oH 18 17), (7, oG 19 18), (8, ox 20 1 19), (9, o8 21 1 1 16 20), (10, oH 22 12), (11, oF 23 0 22), (12, oJ 1 23 21)] [(7, 4)])))
 (.ops [oP 24 8, oE 8 24]))))
def jhs : IFunc := ⟨25, 9, 12, 5, (.seq (.ops [oD 6 1, oU 7 6, oO 8 0])
 (.block 0 (.loop Kz))), []⟩
/- (*plover/snap.lays).number -/
def Z8 : IFunc := ⟨31, 3, 14, 5, (.seq (.ops [oD 6 0, oD 7 0, oH 8 7, oF 9 1 8, oi 10 9, oE 11 10, ol 12 1 11, wU 13 12 11, uo 14 13 11, ol 15 2 11, wK 16 14 15 11, uG 17 11 16, oH 18 6, oF 19 1 18, oJ 1 19 17])
 (.draw [(0, oD 20 0), (1, oD 21 0), (2, oH 22 21), (3, oF 23 0 22), (4, oi 24 23), (5, oD 25 1), (6, oH 26 25), (7, oG 27 26), (8, oV 28 103 24 27), (9, oH 29 20), (10, oF 30 0 29), (11, oJ 1 30 28)] [(7, 4)])), []⟩
/- (*plover/snap.lays).truth -/
def Z9 : IFunc := ⟨15, 2, 11, 4, (.draw [(0, oD 4 0), (1, oD 5 0), (2, oH 6 5), (3, oF 7 0 6), (4, oi 8 7), (5, oD 9 1), (6, oH 10 9), (7, oG 11 10), (8, oV 12 104 8 11), (9, oH 13 4), (10, oF 14 0 13), (11, oJ 1 14 12)] [(7, 4)]), []⟩
/- (*plover/snap.lays).whole -/
def jaa : IFunc := ⟨40, 4, 21, 5, (.seq (.ops [oD 8 0, oD 9 0, oH 10 9, oF 11 1 10, oi 12 11, oE 13 12, ol 14 1 13, wU 15 14 13, uo 16 15 13, ol 17 2 13, ⟨(some 18), .bin .lss (.t 16) (.t 17), some (13, false)⟩, uG 19 13 18, oE 20 19, ol 21 1 20, wU 22 21 20, uo 23 22 20, ol 24 3 20, wK 25 23 24 20, uG 26 20 25, oH 27 8, oF 28 1 27, oJ 1 28 26])
 (.draw [(0, oD 29 0), (1, oD 30 0), (2, oH 31 30), (3, oF 32 0 31), (4, oi 33 32), (5, oD 34 1), (6, oH 35 34), (7, oG 36 35), (8, oV 37 105 33 36), (9, oH 38 29), (10, oF 39 0 38), (11, oJ 1 39 37)] [(7, 4)])), []⟩
/- plover/wire.P -/
def zF : ICode := (.seq (.seq (.ops [oD 29 6, wm 30 29])
 (.cond (.t 30) .skip (.exit 0)))
 (.seq (.block 1 (.ops [oE 33 0, oD 34 1, oD 35 6, uX 36 35 8, ⟨(some 37), .bin .shr (.m 34) (.m 36), none⟩, xP 38 37, ox 39 1 38, o8 40 1 1 33 39, oE 0 40]))
 (.ops [oE 31 6, oy 32 31 1, oE 6 32])))
def QZ : IFunc := ⟨42, 7, 9, 5, (.seq (.ops [uJ 4 1])
 (.seq (.ops [oE 7 1, ⟨(some 8), .bin .and (.m 7) (.c (.int .u64 4611686018427387903)), none⟩, oE 1 8])
 (.seq (.ops [oD 9 1, oK 10 106 9, oE 5 10])
 (.seq (.ops [oE 11 1, oD 12 5, oX 13 12, oD 14 5, oK 15 107 14, uX 16 15 8, oy 17 16 2, ⟨(some 18), .bin .shl (.m 13) (.m 17), none⟩, ⟨(some 19), .bin .or (.m 11) (.m 18), none⟩, oE 1 19])
 (.seq (.ops [oE 20 0, oE 21 0, oU 22 21, oE 23 0, oU 24 23, xC 25 20 22 24, oE 0 25])
 (.seq (.seq (.ops [oD 26 5, oK 27 107 26, oy 28 27 1, oE 6 28])
 (.block 0 (.loop zF)))
 (.seq (.ops [oE 41 0, oE 4 41])
 .ret))))))), [.t 4]⟩
/- plover/wire.PT -/
def XW : IFunc := ⟨18, 5, 6, 4, (.seq (.ops [uJ 4 1])
 (.seq (.ops [oE 5 0, oE 6 0, oU 7 6, oE 8 0, oU 9 8, xC 10 5 7 9, oE 0 10])
 (.seq (.seq (.ops [oD 11 1])
 (.cond (.t 11) (.seq (.ops [oE 12 0, ⟨(some 13), .buildSl 1 [(.c (.int .u8 1))], none⟩, o8 14 1 1 12 13, oE 4 14])
 .ret) .skip))
 (.seq (.ops [oE 15 0, ⟨(some 16), .buildSl 1 [(.c (.int .u8 0))], none⟩, o8 17 1 1 15 16, oE 4 17])
 .ret)))), [.t 4]⟩
/- plover/wire.PI -/
def XX : IFunc := ⟨14, 5, 9, 4, (.seq (.ops [uJ 4 1])
 (.seq (.ops [oE 5 0, oE 6 1, oX 7 6, ⟨(some 8), .bin .shl (.m 7) (.c (.int .u64 1)), none⟩, oE 9 1, wg 10 9 63, oX 11 10, xL 12 8 11, oV 13 103 5 12, oE 4 13])
 .ret)), [.t 4]⟩
/- plover/wire.sort -/
def yF : ICode := (.seq (.seq (.ops [oD 4 3, uH 5 4 3, oE 6 5, oQ 7 0 6, oQ 8 3 6, ov 9 107 8 6, ⟨(some 10), .bin .mul (.c (.int .i64 8)) (.t 9), some (6, true)⟩, ⟨(some 11), .bin .sub (.t 10) (.c (.int .i64 2)), some (6, true)⟩, ⟨(some 12), .bin .shr (.t 7) (.t 11), some (6, true)⟩, ⟨(some 13), .bin .gtr (.t 12) (.c (.int .u64 0)), some (6, true)⟩, oL 14 6 13])
 (.cond (.t 14) .skip (.exit 0)))
 (.block 1 (.ops [oE 15 3, oP 16 15, oE 3 16])))
def yU : IFunc := ⟨18, 4, 11, 4, (.seq (.ops [oO 2 0])
 (.seq (.ops [oO 3 0])
 (.seq (.block 0 (.loop yF))
 (.seq (.ops [oE 17 3, oE 2 17])
 .ret)))), [.t 2]⟩
/- plover/wire.bytes -/
def yf : IFunc := ⟨6, 3, 3, 3, (.seq (.ops [oO 2 0])
 (.seq (.ops [⟨(some 3), .build [(.int .i64 0), (.int .i64 0), (.int .i64 0), (.int .i64 0)] [(0, 1, (.c (.int .i64 1))), (1, 1, (.c (.int .i64 2))), (2, 1, (.c (.int .i64 4))), (3, 1, (.c (.int .i64 8)))], none⟩, oE 4 0, ⟨(some 5), .idxA 4 1 none (.m 3) (.m 4), none⟩, oE 2 5])
 .ret)), [.t 2]⟩
/- (*plover/wire.In).B -/
def Jp : IFunc := ⟨31, 3, 9, 4, (.seq (.ops [wJ])
 (.seq (.seq (.ops [oD 3 0, oK 4 61 3])
 (.cond (.t 4) (.seq (.ops [wJ])
 .ret) .skip))
 (.seq (.seq (.ops [oD 5 0, oK 6 62 5, oz 7 6])
 (.cond (.t 7) (.seq (.ops [oD 8 0, oD 9 0, oH 10 9, oF 11 1 10, oG 12 11, uW 13 116 8 12 3])
 (.seq (.ops [wJ])
 .ret)) .skip))
 (.seq (.draw [(0, oD 14 0), (1, oH 15 14), (2, oF 16 0 15), (3, oG 17 16), (4, oD 18 0), (5, oH 19 18), (6, oF 20 1 19), (7, oG 21 20), (8, wH 22 17 21), (9, oE 2 22)] [])
 (.seq (.ops [oD 23 0, oH 24 23, oF 25 1 24, oG 26 25, oP 27 26, oH 28 23, oF 29 1 28, oJ 1 29 27])
 (.seq (.ops [oE 30 2, oE 2 30])
 .ret)))))), [.t 2]⟩
/- (plover/snap.reads).bytes -/
def zG : ICode := (.seq (.ops [o7 9 8 7])
 (.seq (.cond (.t 9) .skip (.exit 0))
 (.seq (.block 1 (.seq (.ops [uT 10 6 8, oG 11 10, oE 5 11])
 (.ops [oD 12 5, oI 13 0 2, oG 14 13, oK 15 111 14, oH 16 12, oJ 1 16 15])))
 (.ops [oP 17 8, oE 8 17]))))
def XY : IFunc := ⟨18, 9, 5, 4, (.seq (.ops [oe 2 0])
 (.seq (.ops [oD 6 1, oU 7 6, oO 8 0])
 (.block 0 (.loop zG)))), []⟩
/- (plover/snap.reads).number -/
def VT : IFunc := ⟨23, 8, 6, 4, (.seq (.ops [oe 3 0])
 (.seq (.ops [oI 8 0 3, oG 9 8, oK 10 117 9, oE 6 10])
 (.seq (.ops [oI 11 0 3, oG 12 11, oK 13 118 12, oE 7 13])
 (.seq (.ops [oh 14 1 3, oD 15 7, oD 16 2, xW 17 15 16, oD 18 6, uj 19 119 14 17 18])
 (.cond (.t 19) (.ops [oD 20 1, oD 21 7, oH 22 20, oJ 1 22 21]) .skip))))), []⟩
/- (plover/snap.reads).truth -/
def XZ : IFunc := ⟨9, 3, 5, 4, (.seq (.ops [oe 2 0])
 (.ops [oD 4 1, oI 5 0 2, oG 6 5, oK 7 120 6, oH 8 4, oJ 1 8 7])), []⟩
/- (plover/snap.reads).whole -/
def X0 : IFunc := ⟨30, 10, 11, 5, (.seq (.ops [oe 4 0])
 (.seq (.ops [oI 10 0 4, oG 11 10, oK 12 117 11, oE 8 12])
 (.seq (.ops [oI 13 0 4, oG 14 13, oK 15 121 14, oE 9 15])
 (.seq (.ops [oh 16 1 4, oD 17 9, oD 18 2, xI 19 17 18, oE 20 19, oQ 21 9 20, oQ 22 3 20, ⟨(some 23), .bin .leq (.t 21) (.t 22), some (20, true)⟩, oL 24 20 23, oD 25 8, uj 26 119 16 24 25])
 (.cond (.t 26) (.ops [oD 27 1, oD 28 9, oH 29 27, oJ 1 29 28]) .skip))))), []⟩
/- (*plover/wire.In).Fail -/
def vK : IFunc := ⟨21, 3, 8, 4, (.seq (.ops [oD 6 0, oK 7 61 6, wR 8 7, oE 9 8, oQ 10 1 9, xK 11 10 9, oL 12 9 11])
 (.cond (.t 12) (.ops [oD 13 0, oD 14 1, oD 15 2, uq 16 14 15, xp 17 16, ur 18 143 17, oH 19 13, oF 20 2 19, oJ 1 20 18]) .skip)), []⟩
/- (*plover/wire.In).Place -/
def Q0 : IFunc := ⟨9, 3, 4, 3, (.seq (.ops [oO 2 0])
 (.seq (.seq (.ops [oD 3 0, od 4 0 3])
 (.cond (.t 4) (.seq (.ops [oO 2 0])
 .ret) .skip))
 (.seq (.ops [oE 5 0, oH 6 5, oF 7 1 6, oG 8 7, oE 2 8])
 .ret))), [.t 2]⟩
/- (*plover/wire.In).U -/
def Kk : IFunc := ⟨30, 6, 8, 4, (.seq (.ops [ot 2])
 (.seq (.seq (.ops [oD 6 0, oK 7 61 6])
 (.cond (.t 7) (.seq (.ops [ot 2])
 .ret) .skip))
 (.seq (.ops [oD 9 0, oK 10 122 9, oE 8 10, oT 11 8 0, oT 12 8 1, oT 13 8 2, oE 3 11, oE 4 12, oE 5 13])
 (.seq (.ops [oD 14 0, oD 15 5, oD 16 0, oH 17 16, oF 18 1 17, oG 19 18, uj 20 116 14 15 19])
 (.seq (.ops [oD 21 0, oH 22 21, oF 23 1 22, oG 24 23, oD 25 4, oR 26 24 25, oH 27 21, oF 28 1 27, oJ 1 28 26])
 (.seq (.ops [oE 29 3, oE 2 29])
 .ret)))))), [.t 2]⟩
/- (plover/snap.reads).within -/
def Kl : IFunc := ⟨23, 7, 8, 4, (.seq (.ops [oe 3 0, oS 6])
 (.seq (.seq (.ops [oI 7 0 3, oG 8 7, oK 9 63 8, od 10 1 9, oE 11 10, oQ 12 1 11, xD 13 12 11, oL 14 11 13])
 (.cond (.t 14) (.ops [oI 15 0 3, oG 16 15, oD 17 2, uW 18 116 16 17 4]) .skip))
 (.seq (.ops [oF 19 0 3, oG 20 19, oK 21 63 20, od 22 1 21, oE 6 22])
 .ret))), [.t 6]⟩
/- (*plover/wire.In).T -/
def Km : IFunc := ⟨32, 3, 20, 5, (.seq (.ops [oS 2])
 (.seq (.seq (.draw [(0, oD 3 0), (1, oK 4 61 3), (2, wR 5 4), (3, oE 6 5), (4, oQ 7 0 6), (5, ov 8 62 7 6), (6, xV), (7, oL 10 6 9), (8, oE 11 10), (9, oQ 12 0 11), (10, uK 13 12 11), (11, oN 14 0 13 11), (12, oM 15 14 11), (13, oQ 16 0 11), (14, uK 17 16 11), (15, oN 18 1 17 11), (16, oM 19 18 11), (17, ⟨(some 20), .idxS (.t 15) (.t 19), some (11, true)⟩), (18, ⟨(some 21), .bin .gtr (.t 20) (.c (.int .u8 1)), some (11, true)⟩), (19, oL 22 11 21)] [])
 (.cond (.t 22) (.ops [oD 23 0, oD 24 0, oH 25 24, oF 26 1 25, oG 27 26, uW 28 116 23 27 5]) .skip))
 (.seq (.ops [oE 29 0, oK 30 111 29, xi 31 30, oE 2 31])
 .ret))), [.t 2]⟩
/- (*plover/wire.In).I -/
def VU : IFunc := ⟨14, 4, 8, 4, (.seq (.ops [oO 2 0])
 (.seq (.ops [oD 4 0, oK 5 118 4, oE 3 5])
 (.seq (.ops [oE 6 3, wg 7 6 1, om 8 7, oE 9 3, ⟨(some 10), .bin .and (.m 9) (.c (.int .u64 1)), none⟩, om 11 10, xj 12 11, xL 13 8 12, oE 2 13])
 .ret))), [.t 2]⟩
/- (*plover/wire.In).number -/
def zH : ICode := (.seq (.ops [o7 46 45 44])
 (.seq (.cond (.t 46) .skip (.exit 0))
 (.seq (.block 1 (.seq (.ops [uT 47 43 45, oG 48 47, oE 7 48])
 (.ops [oE 49 2, ⟨(some 50), .bin .shl (.m 49) (.c (.int .u64 8)), none⟩, oD 51 7, oX 52 51, ⟨(some 53), .bin .or (.m 50) (.m 52), none⟩, oE 2 53])))
 (.ops [oP 54 45, oE 45 54]))))
def Jq : IFunc := ⟨69, 46, 8, 6, (.seq (.ops [ot 2, oO 3 0, oO 4 0])
 (.seq (.seq (.ops [oD 8 0, oK 9 62 8, oz 10 9])
 (.cond (.t 10) (.seq (.ops [ot 2, oO 3 0, oO 4 3])
 .ret) .skip))
 (.seq (.draw [(0, oD 11 0), (1, oH 12 11), (2, oF 13 0 12), (3, oG 14 13), (4, oD 15 0), (5, oH 16 15), (6, oF 17 1 16), (7, oG 18 17), (8, wH 19 14 18), (9, wg 20 19 6), (10, om 21 20), (11, oE 5 21)] [])
 (.seq (.seq (.ops [oD 22 5, oK 23 107 22, oE 3 23])
 (.seq (.ops [oD 24 0, oK 25 62 24, oD 26 3, oa 27 25 26])
 (.cond (.t 27) (.seq (.ops [ot 2, oO 3 0, oO 4 3])
 .ret) .skip)))
 (.seq (.seq (.draw [(0, oD 28 0), (1, oH 29 28), (2, oF 30 0 29), (3, oG 31 30), (4, oD 32 0), (5, oH 33 32), (6, oF 34 1 33), (7, oG 35 34), (8, oD 36 0), (9, oH 37 36), (10, oF 38 1 37), (11, oG 39 38), (12, oD 40 3), (13, oR 41 39 40), (14, ⟨(some 42), .sliceS (.m 31) (some (.t 35)) (some (.t 41)), none⟩), (15, ⟨(some 43), .conv .bytes (.m 42), none⟩), (16, oU 44 43), (17, oO 45 0)] [])
 (.block 0 (.loop zH)))
 (.seq (.seq (.ops [oE 55 2, oD 56 5, oX 57 56, oD 58 3, uX 59 58 8, oy 60 59 2, ⟨(some 61), .bin .shl (.m 57) (.m 60), none⟩, ⟨(some 62), .bin .andNot (.m 55) (.m 61), none⟩, oE 2 62])
 (.seq (.ops [oD 63 2, oK 64 106 63, oD 65 5, ut 66 64 65])
 (.cond (.t 66) (.seq (.ops [ot 2, oO 3 0, oO 4 5])
 .ret) .skip)))
 (.seq (.ops [oE 67 2, oE 68 3, oE 2 67, oE 3 68, oO 4 0])
 .ret))))))), [.t 2, .t 3, .t 4]⟩
end Go.Idl.Sb
namespace Go.Idl.Sb
open Go Go.Idl
/- plover/ploverref28.Encode -/
def VX : ICode := (.seq (.seq (.ops [oD 31 4, uH 32 31 8])
 (.cond (.t 32) .skip (.exit 0)))
 (.seq (.block 1 (.ops [oE 35 3, oD 36 4, oI 37 5 1, ou 38 8 1 37 36, oG 39 38, om 40 39, oK 41 14 40, oR 42 35 41, oE 3 42]))
 (.ops [oE 33 4, oP 34 33, oE 4 34])))
def VY : ICode := (.seq (.seq (.ops [oD 62 5, oI 63 16 1, oG 64 63, oU 65 64, oa 66 62 65])
 (.cond (.t 66) .skip (.exit 2)))
 (.seq (.block 3 (.draw [(0, oE 69 3), (1, oI 70 16 1), (2, oG 71 70), (3, oD 72 5), (4, oW 73 3 71 72), (5, oF 74 0 73), (6, oG 75 74), (9, oI 78 16 1), (10, oG 79 78), (11, oD 80 5), (12, oW 81 3 79 80), (13, oF 82 1 81), (14, oG 83 82), (17, oI 86 16 1), (18, oG 87 86), (19, oD 88 5), (20, oW 89 3 87 88), (21, oF 90 2 89), (22, oG 91 90), (7, oK 76 14 75), (8, oR 77 69 76), (15, oK 84 14 83), (16, oR 85 77 84), (23, oK 92 17 91), (24, oR 93 85 92), (25, oE 3 93)] [(10, 7), (14, 7), (18, 7), (18, 15), (22, 7), (22, 15)]))
 (.ops [oE 67 5, oP 68 67, oE 5 68])))
def VZ : ICode := (.seq (.seq (.ops [oD 133 7, uH 134 133 2])
 (.cond (.t 134) .skip (.exit 4)))
 (.seq (.block 5 (.draw [(0, oE 137 3), (1, oD 138 7), (2, oI 139 24 6), (3, ou 140 2 3 139 138), (4, oF 141 0 140), (5, oG 142 141), (6, oX 143 142), (9, oD 146 7), (10, oI 147 24 6), (11, ou 148 2 3 147 146), (12, oF 149 1 148), (13, oG 150 149), (14, oX 151 150), (17, oD 154 7), (18, oI 155 24 6), (19, ou 156 2 3 155 154), (20, oF 157 2 156), (21, oG 158 157), (22, oX 159 158), (7, oK 144 16 143), (8, oR 145 137 144), (15, oK 152 16 151), (16, oR 153 145 152), (23, oK 160 16 159), (24, oR 161 153 160), (25, oE 3 161)] [(13, 7), (21, 7), (21, 15)]))
 (.ops [oE 135 7, oP 136 135, oE 7 136])))
def ir7 : IFunc := ⟨195, 8, 37, 6, (.seq (.ops [wW, ⟨(some 2), .mv (.c (.str [])), none⟩])
 (.seq (.seq (.ops [oh 8 55 1, oK 9 13 8, wR 10 9])
 (.cond (.t 10) (.seq (.ops [⟨(some 2), .mv (.c (.str [])), none⟩])
 .ret) .skip))
 (.seq (.draw [(0, oI 11 0 1), (1, oG 12 11), (3, oI 14 1 1), (4, oG 15 14), (7, oI 18 2 1), (8, oG 19 18), (11, oI 22 3 1), (12, oG 23 22), (15, oI 26 4 1), (16, oG 27 26), (17, om 28 27), (2, oK 13 14 12), (5, oK 16 14 15), (6, oR 17 13 16), (9, oK 20 14 19), (10, oR 21 17 20), (13, oK 24 14 23), (14, oR 25 21 24), (18, oK 29 14 28), (19, oR 30 25 29), (20, oE 3 30)] [(4, 2), (8, 2), (8, 5), (12, 2), (12, 5), (12, 9), (16, 2), (16, 5), (16, 9), (16, 13)])
 (.seq (.seq (.ops [oO 4 0])
 (.block 0 (.loop VX)))
 (.seq (.draw [(0, oE 43 3), (1, oI 44 13 1), (2, oG 45 44), (5, oI 48 14 1), (6, oG 49 48), (9, oI 52 15 1), (10, oG 53 52), (13, oI 56 16 1), (14, oG 57 56), (15, oU 58 57), (16, oX 59 58), (3, oK 46 15 45), (4, oR 47 43 46), (7, oK 50 15 49), (8, oR 51 47 50), (11, oK 54 14 53), (12, oR 55 51 54), (17, oK 60 16 59), (18, oR 61 55 60), (19, oE 3 61)] [(6, 3), (10, 3), (10, 7), (14, 3), (14, 7), (14, 11)])
 (.seq (.seq (.ops [oO 5 0])
 (.block 2 (.loop VY)))
 (.seq (.ops [oI 94 17 1, ow 95 32 94, oY 6, oJ 32 6 95])
 (.seq (.draw [(0, oE 96 3), (1, oI 97 0 6), (2, oF 98 0 97), (3, oG 99 98), (4, oI 100 0 6), (5, oF 101 1 100), (6, oG 102 101), (7, oI 103 0 6), (8, oF 104 2 103), (9, oG 105 104), (10, uR 106 99 102 105), (11, uk 107 106), (12, oR 108 96 107), (13, oI 109 3 6), (14, oF 110 0 109), (15, oZ 111 9 110), (18, oI 114 3 6), (19, oF 115 9 114), (20, oZ 116 9 115), (23, oI 119 3 6), (24, oF 120 18 119), (25, oG 121 120), (28, oI 124 3 6), (29, oF 125 19 124), (30, oG 126 125), (31, oI 127 3 6), (32, oF 128 20 127), (33, oG 129 128), (34, wT 130 126 129), (35, uk 131 130), (16, oK 112 18 111), (17, oR 113 108 112), (21, oK 117 18 116), (22, oR 118 113 117), (26, oK 122 17 121), (27, oR 123 118 122), (36, oR 132 123 131), (37, oE 3 132)] [(3, 16), (3, 21), (3, 26), (6, 16), (6, 21), (6, 26), (9, 16), (9, 21), (9, 26), (20, 16), (25, 16), (25, 21), (30, 16), (30, 21), (30, 26), (33, 16), (33, 21), (33, 26)])
 (.seq (.seq (.ops [oO 7 0])
 (.block 4 (.loop VZ)))
 (.seq (.draw [(0, oE 162 3), (1, oI 163 30 6), (2, oF 164 0 163), (3, oG 165 164), (4, oI 166 30 6), (5, oF 167 1 166), (6, oG 168 167), (7, oI 169 49 1), (8, oG 170 169), (9, uR 171 165 168 170), (10, uk 172 171), (11, oR 173 162 172), (12, oI 174 50 1), (13, oG 175 174), (16, oI 178 51 1), (17, oG 179 178), (14, oK 176 16 175), (15, oR 177 173 176), (18, oK 180 16 179), (19, oR 181 177 180), (20, oE 3 181)] [(3, 14), (3, 18), (6, 14), (6, 18), (8, 14), (8, 18), (17, 14)])
 (.seq (.draw [(0, oD 182 3), (1, oI 183 52 1), (2, oG 184 183), (5, oI 187 53 1), (6, oG 188 187), (9, oI 191 54 1), (10, oG 192 191), (3, oK 185 14 184), (4, oR 186 182 185), (7, oK 189 14 188), (8, oR 190 186 189), (11, oK 193 14 192), (12, oR 194 190 193), (13, oE 2 194)] [(6, 3), (10, 3), (10, 7)])
 .ret))))))))))), [.t 2]⟩
/- plover/ploverlaw28.as -/
def ir8 : IFunc := ⟨83, 5, 34, 6, (.seq (.ops [wW, oq 2])
 (.seq (.ops [oI 5 17 1, oF 6 0 5, oZ 7 3 6, oI 8 17 1, oF 9 30 8, oZ 10 2 9, ⟨(some 11), .build [(.int .u8 0), (.int .u8 0), (.int .u8 0), (.int .i64 0), (.int .u8 0), (.int .u8 0), (.int .u8 0), (.int .u8 0), (.int .u8 0), (.int .u8 0), (.int .u8 0), (.int .u8 0), (.int .i64 0), (.int .u8 0), (.int .u8 0), (.int .u8 0), (.int .u8 0), (.int .u8 0), (.int .u8 0), (.int .u8 0), (.int .u8 0), (.bool false), (.int .u8 0), (.int .u8 0), (.int .u16 0), (.int .u16 0), (.int .u16 0), (.int .u16 0), (.int .u16 0), (.int .u16 0), (.int .u8 0), (.int .u8 0)] [(0, 3, (.m 7)), (30, 2, (.m 10))], none⟩, oY 3, oJ 32 3 11])
 (.seq (.draw [(0, oI 12 17 1), (1, oF 13 24 12), (2, uQ 14 13 0), (3, oZ 15 3 14), (4, oI 16 17 1), (5, oF 17 24 16), (6, uQ 18 17 1), (7, oZ 19 3 18), (8, oI 20 24 3), (9, uQ 21 20 0), (10, oJ 3 21 15), (11, oI 22 24 3), (12, uQ 23 22 1), (13, oJ 3 23 19)] [(7, 10)])
 (.seq (.ops [oI 24 17 1, oF 25 3 24, ow 26 21 25, ⟨(some 4), .alloc [(.int .i64 0), (.int .u8 0), (.int .u8 0), (.int .u8 0), (.int .u8 0), (.int .u8 0), (.int .u8 0), (.int .u8 0), (.int .u8 0), (.int .i64 0), (.int .u8 0), (.int .u8 0), (.int .u8 0), (.int .u8 0), (.int .u8 0), (.int .u8 0), (.int .u8 0), (.int .u8 0), (.bool false), (.int .u8 0), (.int .u8 0)], none⟩, oJ 21 4 26])
 (.seq (.ops [oI 27 0 4, oF 28 0 27, oG 29 28, oI 30 0 4, oF 31 1 30, oZ 32 8 31, uP 33 29 32, oI 34 9 4, oF 35 0 34, oG 36 35, oI 37 9 4, oF 38 1 37, oZ 39 8 38, uP 40 36 39, oI 41 18 4, oG 42 41, oI 43 19 4, oG 44 43, oI 45 20 4, oG 46 45, ⟨(some 47), .build [(.int .i64 0), (.int .u8 0), (.int .u8 0), (.int .u8 0), (.int .u8 0), (.int .u8 0), (.int .u8 0), (.int .u8 0), (.int .u8 0), (.int .i64 0), (.int .u8 0), (.int .u8 0), (.int .u8 0), (.int .u8 0), (.int .u8 0), (.int .u8 0), (.int .u8 0), (.int .u8 0), (.bool false), (.int .u8 0), (.int .u8 0)] [(0, 9, (.m 33)), (9, 9, (.m 40)), (18, 1, (.m 42)), (19, 1, (.m 44)), (20, 1, (.m 46))], none⟩, oI 48 3 3, oJ 21 48 47])
 (.seq (.ops [oF 49 0 1, oG 50 49, oF 51 1 1, oG 52 51, oF 53 2 1, oG 54 53, oF 55 3 1, oG 56 55, oF 57 4 1, oG 58 57, oF 59 5 1, oZ 60 8 59, oF 61 13 1, oG 62 61, oF 63 14 1, oG 64 63, oF 65 15 1, oG 66 65, oF 67 16 1, oG 68 67, oZ 69 32 3, oF 70 49 1, oG 71 70, oF 72 50 1, oG 73 72, oF 74 51 1, oG 75 74, oF 76 52 1, oG 77 76, oF 78 53 1, oG 79 78, oF 80 54 1, oG 81 80, ⟨(some 82), .build Z55 [(0, 1, (.m 50)), (1, 1, (.m 52)), (2, 1, (.m 54)), (3, 1, (.m 56)), (4, 1, (.m 58)), (5, 8, (.m 60)), (13, 1, (.m 62)), (14, 1, (.m 64)), (15, 1, (.m 66)), (16, 1, (.m 68)), (17, 32, (.m 69)), (49, 1, (.m 71)), (50, 1, (.m 73)), (51, 1, (.m 75)), (52, 1, (.m 77)), (53, 1, (.m 79)), (54, 1, (.m 81))], none⟩, oJ 55 2 82])
 .ret)))))), [.cell 2 (some 55)]⟩
/- plover/ploverlaw28.reads -/
def ir9 : IFunc := ⟨26, 7, 9, 5, (.seq (.ops [oS 2])
 (.seq (.ops [oD 8 0, oK 9 19 8, oE 7 9, oT 10 7 0, oT 11 7 1, oq 3, oJ 55 3 10, oE 4 11])
 (.seq (.ops [oD 13 0, oK 14 20 13, oE 12 14, oT 15 12 0, oT 16 12 1, oq 5, wL 6, oJ 55 5 15, oJ 2 6 16])
 (.seq (.draw [(0, oE 17 4), (1, oZ 18 2 6), (2, oV 19 21 17 18), (3, oE 20 19), (4, o9 21 55 3 20), (6, o9 23 55 5 20), (5, ov 22 8 21 20), (7, uU 24 22 22 23 20), (8, oL 25 20 24), (9, oE 2 25)] [(6, 5)])
 .ret)))), [.t 2]⟩
/- plover/ploverref28.Told -/
def Jr : ICode := (.seq (.seq (.ops [oD 60 5, oI 61 16 1, oG 62 61, oU 63 62, oa 64 60 63])
 (.cond (.t 64) .skip (.exit 0)))
 (.seq (.block 1 (.draw [(0, oE 67 4), (1, oI 68 16 1), (2, oG 69 68), (3, oD 70 5), (4, oW 71 3 69 70), (5, oF 72 0 71), (6, oG 73 72), (7, oI 74 16 1), (8, oG 75 74), (9, oD 76 5), (10, oW 77 3 75 76), (11, oF 78 1 77), (12, oG 79 78), (13, wT 80 73 79), (14, o8 81 1 8 67 80), (15, oE 4 81)] []))
 (.ops [oE 65 5, oP 66 65, oE 5 66])))
def zh : ICode := (.seq (.seq (.ops [oD 82 6, oD 83 4, oU 84 83, oa 85 82 84])
 (.cond (.t 85) .skip (.exit 2)))
 (.seq (.block 3 (.ops [oE 88 3, oE 89 88, oQ 90 4 89, oQ 91 6 89, ⟨(some 92), .idxAddr 1 (.t 90) (.t 91), some (89, true)⟩, oM 93 92 89, ov 94 38 93 89, oL 95 89 94, oE 3 95]))
 (.ops [oE 86 6, oP 87 86, oE 6 87])))
def jdF (K : Int) : IFunc := ⟨97, 7, 27, 6, (.seq (.ops [oe 1 0, oS 2])
 (.seq (.ops [oI 7 13 1, oG 8 7, oU 9 8, ⟨(some 10), .bin .leq (.m 9) (.c (.int .i64 512)), none⟩, oE 11 10, oN 12 14 1 11, oM 13 12 11, ⟨(some 14), .lenL (.t 13), some (11, true)⟩, wN 15 14 11 8000, oL 16 11 15, oE 17 16, oN 18 16 1 17, oM 19 18 17, ⟨(some 20), .lenL (.t 19), some (17, true)⟩, wN 21 20 17 8, oL 22 17 21, oE 23 22, oN 24 50 1 23, oM 25 24 23, ⟨(some 26), .bin .lss (.t 25) (.c (.int .u64 K)), some (23, true)⟩, oL 27 23 26, oE 28 27, oN 29 51 1 28, oM 30 29 28, ⟨(some 31), .bin .lss (.t 30) (.c (.int .u64 K)), some (28, true)⟩, oL 32 28 31, oE 3 32])
 (.seq (.ops [oI 33 0 1, oG 34 33, oI 35 1 1, oG 36 35, oI 37 2 1, oG 38 37, oI 39 3 1, oG 40 39, oI 41 15 1, oG 42 41, oI 43 52 1, oG 44 43, oI 45 53 1, oG 46 45, oI 47 54 1, oG 48 47, oI 49 17 1, oF 50 3 49, oF 51 0 50, oF 52 0 51, oG 53 52, oI 54 17 1, oF 55 3 54, oF 56 9 55, oF 57 0 56, oG 58 57, wI 59 34 36 38 40 42 44 46 48 53 58, oE 4 59])
 (.seq (.seq (.ops [oO 5 0])
 (.block 0 (.loop Jr)))
 (.seq (.seq (.ops [oO 6 0])
 (.block 2 (.loop zh)))
 (.seq (.ops [oE 96 3, oE 2 96])
 .ret)))))), [.t 2]⟩
def jjn : IFunc := jdF 1152921504606846976
/- plover/ploverref28.whole -/
def jdG : IFunc := ⟨5, 3, 2, 3, (.seq (.ops [⟨(some 2), .mv (.c (.str [])), none⟩])
 (.seq (.ops [oE 3 0, oK 4 39 3, oE 2 4])
 .ret)), [.t 2]⟩
/- plover/ploverref28.words -/
def Ko : ICode := (.seq (.seq (.ops [oD 9 4, oD 10 0, oU 11 10, oa 12 9 11])
 (.cond (.t 12) .skip (.exit 0)))
 (.seq (.block 1 (.ops [oE 15 3, oD 16 0, oD 17 4, oW 18 1 16 17, oG 19 18, om 20 19, oK 21 39 20, oR 22 15 21, oE 3 22]))
 (.ops [oE 13 4, oP 14 13, oE 4 14])))
def jhp : IFunc := ⟨24, 5, 8, 4, (.seq (.ops [⟨(some 2), .mv (.c (.str [])), none⟩])
 (.seq (.ops [oD 5 0, oU 6 5, oX 7 6, oK 8 16 7, oE 3 8])
 (.seq (.seq (.ops [oO 4 0])
 (.block 0 (.loop Ko)))
 (.seq (.ops [oE 23 3, oE 2 23])
 .ret)))), [.t 2]⟩
/- plover/ploverref01.Num -/
def Kp : ICode := (.seq (.seq (.ops [oD 12 5, oD 13 3, oa 14 12 13])
 (.cond (.t 14) .skip (.exit 0)))
 (.seq (.block 1 (.ops [oE 17 4, xg 18 17, oE 4 18]))
 (.ops [oE 15 5, uX 16 15 2, oE 5 16])))
def Kq : ICode := (.seq (.seq (.ops [oD 19 7, oD 20 3, oa 21 19 20])
 (.cond (.t 21) .skip (.exit 2)))
 (.seq (.block 3 (.seq (.ops [oD 24 0, uY 25 24 256, xP 26 25, ox 27 1 26, uk 28 27, oE 29 6, oR 30 28 29, oE 6 30])
 (.ops [oE 31 0, wZ 32 31 256, oE 0 32])))
 (.ops [oE 22 7, oP 23 22, oE 7 23])))
def Zc : IFunc := ⟨44, 8, 11, 5, (.seq (.ops [⟨(some 2), .mv (.c (.str [])), none⟩])
 (.seq (.ops [oE 8 0, uY 9 8 4611686018427387904, oE 0 9])
 (.seq (.ops [oD 10 0, oK 11 40 10, oE 3 11])
 (.seq (.ops [ot 4])
 (.seq (.seq (.ops [oO 5 1])
 (.block 0 (.loop Kp)))
 (.seq (.ops [⟨(some 6), .mv (.c (.str [])), none⟩])
 (.seq (.seq (.ops [oO 7 0])
 (.block 2 (.loop Kq)))
 (.seq (.draw [(0, oD 33 6), (1, ⟨(some 34), .idxS (.m 33) (.c (.int .i64 0)), none⟩), (2, oD 35 4), (3, wc 36 35 64), (4, xP 37 36), (5, oR 38 34 37), (6, ox 39 1 38), (7, uk 40 39), (8, oD 41 6), (9, ⟨(some 42), .sliceS (.m 41) (some (.c (.int .i64 1))) none, none⟩), (10, oR 43 40 42), (11, oE 2 43)] [])
 .ret)))))))), [.t 2]⟩
/- plover/ploverref01.Truth -/
def jf6 : IFunc := ⟨4, 3, 1, 3, (.seq (.ops [⟨(some 2), .mv (.c (.str [])), none⟩])
 (.seq (.seq (.ops [oD 3 0])
 (.cond (.t 3) (.seq (.ops [⟨(some 2), .mv (.c (.str [1])), none⟩])
 .ret) .skip))
 (.seq (.ops [⟨(some 2), .mv (.c (.str [0])), none⟩])
 .ret))), [.t 2]⟩
/- plover/ploverref28.queue -/
def jhq : IFunc := ⟨10, 3, 7, 4, (.seq (.ops [oe 1 0, ⟨(some 2), .mv (.c (.str [])), none⟩])
 (.seq (.draw [(0, oI 3 0 1), (1, oG 4 3), (3, oI 6 1 1), (4, ⟨(some 7), .pur (.slA 8) [(.m 6)], none⟩), (5, uk 8 7), (2, oK 5 14 4), (6, oR 9 5 8), (7, oE 2 9)] [])
 .ret)), [.t 2]⟩
/- plover/ploverref28.Decode -/
def Kr : ICode := (.seq (.seq (.ops [oD 32 6, uH 33 32 8])
 (.cond (.t 33) .skip (.exit 0)))
 (.seq (.block 1 (.ops [oD 36 6, oD 37 4, oK 38 44 37, oI 39 5 5, ou 40 8 1 39 36, oJ 1 40 38]))
 (.ops [oE 34 6, oP 35 34, oE 6 35])))
def zi : ICode := (.seq (.seq (.ops [oD 55 8, oD 56 7, oa 57 55 56, oE 58 57, oQ 59 4 58, uK 60 59 58, oN 61 0 60 58, oM 62 61 58, uK 63 62 58, oN 64 2 63 58, oN 65 0 64 58, oM 66 65 58, uM 67 66 58 0, oL 68 58 67])
 (.cond (.t 68) .skip (.exit 2)))
 (.seq (.block 3 (.seq (.ops [oD 71 4, oK 72 43 71, ⟨(some 73), .build [(.int .i64 0), (.int .i64 0), (.bool false)] [(0, 1, (.m 72))], none⟩, xB 9, oJ 3 9 73])
 (.seq (.ops [oD 74 4, oK 75 43 74, oI 76 1 9, oJ 1 76 75])
 (.seq (.ops [oD 77 4, oH 78 77, oF 79 0 78, oG 80 79, oK 81 47 80, oI 82 2 9, oJ 1 82 81])
 (.ops [oI 83 16 5, oi 84 83, oh 85 3 9, ox 86 3 85, o8 87 3 24 84 86, oI 88 16 5, oJ 1 88 87])))))
 (.ops [oE 69 8, oP 70 69, oE 8 70])))
def Ks : ICode := (.seq (.seq (.ops [oD 147 10, uH 148 147 2])
 (.cond (.t 148) .skip (.exit 4)))
 (.seq (.block 5 (.seq (.ops [oD 151 10, oD 152 4, uL 153 50 152 65535, wV 154 153, oI 155 17 5, oF 156 24 155, ou 157 2 3 156 151, oF 158 0 157, oJ 1 158 154])
 (.seq (.ops [oD 159 10, oD 160 4, uL 161 50 160 65535, wV 162 161, oI 163 17 5, oF 164 24 163, ou 165 2 3 164 159, oF 166 1 165, oJ 1 166 162])
 (.ops [oD 167 10, oD 168 4, uL 169 50 168 65535, wV 170 169, oI 171 17 5, oF 172 24 171, ou 173 2 3 172 167, oF 174 2 173, oJ 1 174 170]))))
 (.ops [oE 149 10, oP 150 149, oE 10 150])))
def Zd : ICode := (.seq (.ops [oD 175 4, oH 176 175, oF 177 0 176, oG 178 177, oK 179 48 178, oI 180 17 5, oF 181 30 180, oF 182 0 181, oJ 1 182 179])
 (.seq (.ops [oD 183 4, oH 184 183, oF 185 0 184, oG 186 185, oK 187 48 186, oI 188 17 5, oF 189 30 188, oF 190 1 189, oJ 1 190 187])
 (.seq (.ops [oD 191 4, oH 192 191, oF 193 0 192, oG 194 193, oK 195 48 194, oI 196 49 5, oJ 1 196 195])
 (.seq (.ops [oD 197 4, uL 198 50 197 1152921504606846975, oI 199 50 5, oJ 1 199 198])
 (.seq (.ops [oD 200 4, uL 201 50 200 1152921504606846975, oI 202 51 5, oJ 1 202 201])
 (.seq (.ops [oD 203 4, oK 204 43 203, oI 205 52 5, oJ 1 205 204])
 (.seq (.ops [oD 206 4, oK 207 43 206, oI 208 53 5, oJ 1 208 207])
 (.seq (.ops [oD 209 4, oK 210 43 209, oI 211 54 5, oJ 1 211 210])
 (.seq (.ops [oD 212 4, oH 213 212, oF 214 0 213, oG 215 214, oK 216 51 215, wL 11, oJ 2 11 216])
 (.seq (.seq (.ops [oI 217 0 11, oG 218 217, wa 219 218])
 (.cond (.t 219) (.seq (.draw [(0, xN 220), (1, oZ 221 2 11), (2, oJ 55 2 220), (3, oJ 2 3 221)] [(1, 2)])
 .ret) .skip))
 (.seq (.ops [ow 222 55 5, ⟨(some 223), .build [(.int .i64 0), (.int .i64 0)] [], none⟩, oJ 55 2 222, oJ 2 3 223])
 .ret)))))))))))
def jbs : ICode := (.seq (.ops [oD 89 4, oH 90 89, oF 91 0 90, oG 92 91, oK 93 48 92, oI 94 17 5, oF 95 0 94, oF 96 0 95, oJ 1 96 93])
 (.seq (.ops [oD 97 4, oH 98 97, oF 99 0 98, oG 100 99, oK 101 48 100, oI 102 17 5, oF 103 0 102, oF 104 1 103, oJ 1 104 101])
 (.seq (.ops [oD 105 4, oH 106 105, oF 107 0 106, oG 108 107, oK 109 48 108, oI 110 17 5, oF 111 0 110, oF 112 2 111, oJ 1 112 109])
 (.seq (.ops [oD 113 4, oK 114 49 113, oI 115 17 5, oF 116 3 115, oF 117 0 116, oJ 9 117 114])
 (.seq (.ops [oD 118 4, oK 119 49 118, oI 120 17 5, oF 121 3 120, oF 122 9 121, oJ 9 122 119])
 (.seq (.ops [oD 123 4, oH 124 123, oF 125 0 124, oG 126 125, oK 127 47 126, oI 128 17 5, oF 129 3 128, oF 130 18 129, oJ 1 130 127])
 (.seq (.ops [oD 131 4, oH 132 131, oF 133 0 132, oG 134 133, oK 135 48 134, oI 136 17 5, oF 137 3 136, oF 138 19 137, oJ 1 138 135])
 (.seq (.ops [oD 139 4, oH 140 139, oF 141 0 140, oG 142 141, oK 143 48 142, oI 144 17 5, oF 145 3 144, oF 146 20 145, oJ 1 146 143])
 (.seq (.seq (.ops [oO 10 0])
 (.block 4 (.loop Ks)))
 Zd)))))))))
def jbr : ICode := (.seq (.ops [oD 41 4, oc 42 45 41 512, oI 43 13 5, oJ 1 43 42])
 (.seq (.ops [oD 44 4, oc 45 45 44 8000, oI 46 14 5, oJ 1 46 45])
 (.seq (.ops [oD 47 4, oK 48 43 47, oI 49 15 5, oJ 1 49 48])
 (.seq (.ops [oD 50 4, oH 51 50, oF 52 0 51, oG 53 52, oc 54 46 53 8, oE 7 54])
 (.seq (.seq (.ops [oO 8 0])
 (.block 2 (.loop zi)))
 jbs)))))
def Ze : ICode := (.seq (.ops [oD 17 4, oK 18 43 17, oI 19 0 5, oJ 1 19 18])
 (.seq (.ops [oD 20 4, oK 21 43 20, oI 22 1 5, oJ 1 22 21])
 (.seq (.ops [oD 23 4, oK 24 43 23, oI 25 2 5, oJ 1 25 24])
 (.seq (.ops [oD 26 4, oK 27 43 26, oI 28 3 5, oJ 1 28 27])
 (.seq (.ops [oD 29 4, oK 30 44 29, oI 31 4 5, oJ 1 31 30])
 (.seq (.seq (.ops [oO 6 0])
 (.block 0 (.loop Kr)))
 jbr))))))
def jig : IFunc := ⟨224, 12, 14, 5, (.seq (.ops [oq 2, wL 3])
 (.seq (.ops [oD 12 0, ⟨(some 13), .build [(.str []), (.int .i64 0), (.int .i64 0), (.int .i64 0)] [(0, 1, (.m 12))], none⟩, wx 14 13, xG 15 14, wx 16 15, oE 4 16])
 (.seq (.ops [oq 5])
 Ze))), [.cell 2 (some 55), .cell 3 (some 2)]⟩
/- plover/ploverlaw28.told -/
def je2 : IFunc := ⟨28, 6, 17, 5, (.seq (.ops [oe 3 1, oS 4])
 (.seq (.seq (.ops [oI 6 0 3, oG 7 6, oz 8 7])
 (.cond (.t 8) (.seq (.ops [oE 9 0, od 10 1 9, oE 4 10])
 .ret) .skip))
 (.seq (.ops [⟨(some 5), .alloc [(.prim (.pointer none))], none⟩])
 (.seq (.draw [(0, oE 11 0), (1, ur 12 145 5), (2, oV 13 52 11 12), (3, oE 14 13), (4, oM 15 5 14), (5, uK 16 15 14), (6, o9 17 2 16 14), (7, o9 18 2 3 14), (8, ⟨(some 19), .pur (.eqa false [0, 0]) [(.t 17), (.t 18)], some (14, true)⟩), (9, oL 20 14 19), (10, oE 21 20), (11, oQ 22 0 21), (12, oN 23 0 3 21), (13, oM 24 23 21), (14, ⟨(some 25), .mkIface 83 (.t 24), some (21, true)⟩), (15, uU 26 53 22 25 21), (16, oL 27 21 26), (17, oE 4 27)] [])
 .ret)))), [.t 4]⟩
/- plover/ploverref24.Same -/
def jhr : IFunc := ⟨122, 5, 117, 7, (.seq (.ops [oe 2 0, oe 3 1, oS 4])
 (.seq (.ops [oF 5 0 2, oG 6 5, oF 7 0 3, oG 8 7, xO 9 6 8, oE 10 9, oN 11 1 2 10, oM 12 11 10, oN 13 1 3 10, oM 14 13 10, oj 15 12 14 10, oL 16 10 15, oE 17 16, oN 18 2 2 17, oM 19 18 17, oN 20 2 3 17, oM 21 20 17, oj 22 19 21 17, oL 23 17 22, oE 24 23, oN 25 3 2 24, oM 26 25 24, oN 27 3 3 24, oM 28 27 24, oj 29 26 28 24, oL 30 24 29, oE 31 30, oN 32 4 2 31, oM 33 32 31, oN 34 4 3 31, oM 35 34 31, oj 36 33 35 31, oL 37 31 36, oE 38 37, oN 39 5 2 38, o9 40 8 39 38, oN 41 5 3 38, o9 42 8 41 38, ⟨(some 43), .pur (.eqa false [0, 0, 0, 0, 0, 0, 0, 0]) [(.t 40), (.t 42)], some (38, true)⟩, oL 44 38 43, oE 45 44, oN 46 13 2 45, oM 47 46 45, oN 48 13 3 45, oM 49 48 45, uU 50 54 47 49 45, oL 51 45 50, oE 52 51, oN 53 14 2 52, oM 54 53 52, oN 55 14 3 52, oM 56 55 52, uU 57 54 54 56 52, oL 58 52 57, oE 59 58, oN 60 15 2 59, oM 61 60 59, oN 62 15 3 59, oM 63 62 59, oj 64 61 63 59, oL 65 59 64, oE 66 65, oN 67 16 2 66, oM 68 67 66, oN 69 16 3 66, oM 70 69 66, uU 71 55 68 70 66, oL 72 66 71, oE 73 72, oN 74 17 2 73, o9 75 32 74 73, oN 76 17 3 73, o9 77 32 76 73, ⟨(some 78), .pur (.eqa false [0, 0, 0, 0, 0, 0, 0, 0, 0, 0, 0, 0, 0, 0, 0, 0, 0, 0, 0, 0, 0, 2, 0, 0, 0, 0, 0, 0, 0, 0, 0, 0]) [(.t 75), (.t 77)], some (73, true)⟩, oL 79 73 78, oE 80 79, oN 81 49 2 80, oM 82 81 80, oN 83 49 3 80, oM 84 83 80, oj 85 82 84 80, oL 86 80 85, oE 87 86, oN 88 50 2 87, oM 89 88 87, oN 90 50 3 87, oM 91 90 87, oj 92 89 91 87, oL 93 87 92, oE 94 93, oN 95 51 2 94, oM 96 95 94, oN 97 51 3 94, oM 98 97 94, oj 99 96 98 94, oL 100 94 99, oE 101 100, oN 102 52 2 101, oM 103 102 101, oN 104 52 3 101, oM 105 104 101, oj 106 103 105 101, oL 107 101 106, oE 108 107, oN 109 53 2 108, oM 110 109 108, oN 111 53 3 108, oM 112 111 108, oj 113 110 112 108, oL 114 108 113, oE 115 114, oN 116 54 2 115, oM 117 116 115, oN 118 54 3 115, oM 119 118 115, oj 120 117 119 115, oL 121 115 120, oE 4 121])
 .ret)), [.t 4]⟩
/- plover/ploverref28.near -/
def jc0 : IFunc := ⟨9, 3, 6, 4, (.seq (.ops [oS 2])
 (.seq (.ops [oE 3 0, ⟨(some 4), .bin .geq (.m 3) (.c (.int .i64 (-1152921504606846976))), none⟩, oE 5 4, oQ 6 0 5, wN 7 6 5 1152921504606846976, oL 8 5 7, oE 2 8])
 .ret)), [.t 2]⟩
/- plover/ploverref01.Int -/
def jab : IFunc := ⟨16, 3, 7, 4, (.seq (.ops [⟨(some 2), .mv (.c (.str [])), none⟩])
 (.seq (.seq (.ops [oD 3 0, wm 4 3])
 (.cond (.t 4) (.seq (.ops [oE 5 0, oX 6 5, wc 7 6 2, oK 8 16 7, oE 2 8])
 .ret) .skip))
 (.seq (.ops [oE 9 0, oP 10 9, xj 11 10, oX 12 11, wc 13 12 2, xg 14 13, oK 15 16 14, oE 2 15])
 .ret))), [.t 2]⟩
/- plover/ploverref01.size -/
def yX : IFunc := ⟨9, 3, 2, 3, (.seq (.ops [oO 2 0])
 (.seq (.seq (.ops [oD 3 0, wY 4 3 64])
 (.cond (.t 4) (.seq (.ops [oO 2 1])
 .ret) .skip))
 (.seq (.seq (.ops [oD 5 0, wY 6 5 16384])
 (.cond (.t 6) (.seq (.ops [oO 2 2])
 .ret) .skip))
 (.seq (.seq (.ops [oD 7 0, wY 8 7 1073741824])
 (.cond (.t 8) (.seq (.ops [oO 2 4])
 .ret) .skip))
 (.seq (.ops [oO 2 8])
 .ret))))), [.t 2]⟩
/- (*plover/ploverref28.in).place -/
def jf7 : IFunc := ⟨5, 3, 2, 3, (.seq (.ops [oO 2 0])
 (.seq (.ops [oE 3 0, ⟨(some 4), .call 64 [(.m 3), (.c (.int .i64 (-1152921504606846976))), (.c (.int .i64 1152921504606846976))], none⟩, oE 2 4])
 .ret)), [.t 2]⟩
/- (*plover/ploverref28.in).word -/
def je4 : IFunc := ⟨6, 3, 3, 3, (.seq (.ops [xu 2])
 (.seq (.ops [oE 3 0, ⟨(some 4), .call 64 [(.m 3), (.c (.int .i64 (-2147483648))), (.c (.int .i64 2147483647))], none⟩, ⟨(some 5), .conv (.int .i32) (.m 4), none⟩, oE 2 5])
 .ret)), [.t 2]⟩
/- (*plover/ploverref28.in).words -/
def Js : ICode := (.seq (.seq (.ops [oD 14 7, oD 15 6, oa 16 14 15, oE 17 16, oQ 18 0 17, uK 19 18 17, oN 20 0 19 17, oM 21 20 17, uK 22 21 17, oN 23 2 22 17, oN 24 0 23 17, oM 25 24 17, uM 26 25 17 0, oL 27 17 26])
 (.cond (.t 27) .skip (.exit 0)))
 (.seq (.block 1 (.ops [oE 30 5, oD 31 0, oK 32 44 31, ox 33 1 32, o8 34 1 4 30 33, oE 5 34]))
 (.ops [oE 28 7, oP 29 28, oE 7 29])))
def jii : IFunc := ⟨36, 8, 14, 5, (.seq (.ops [uJ 4 1])
 (.seq (.ops [uJ 5 1])
 (.seq (.ops [oD 8 0, oH 9 8, oF 10 0 9, oG 11 10, oD 12 1, oV 13 46 11 12, oE 6 13])
 (.seq (.seq (.ops [oO 7 0])
 (.block 0 (.loop Js)))
 (.seq (.ops [oE 35 5, oE 4 35])
 .ret))))), [.t 4]⟩
/- (*plover/ploverref01.In).Many -/
def je5 : IFunc := ⟨37, 7, 16, 5, (.seq (.ops [oO 4 0])
 (.seq (.ops [oD 7 0, oH 8 7, oF 9 1 8, oG 10 9, oE 5 10])
 (.seq (.ops [oD 11 0, oK 12 65 11, oE 6 12])
 (.seq (.seq (.ops [oD 13 0, oH 14 13, oF 15 2 14, oF 16 0 15, oG 17 16, oz 18 17, oE 19 18, oQ 20 1 19, ⟨(some 21), .bin .lss (.t 20) (.c (.int .i64 0)), some (19, true)⟩, oQ 22 21 19, ol 23 6 22, ol 24 1 22, ⟨(some 25), .conv (.int .u64) (.t 24), some (22, false)⟩, wK 26 23 25 22, xE 27 22 26 19, oL 28 19 27])
 (.cond (.t 28) (.seq (.ops [oD 29 0, oD 30 5, oH 31 29, oF 32 1 31, oJ 1 32 30])
 (.seq (.ops [oD 33 0, oc 34 66 33 4])
 (.seq (.ops [oO 4 0])
 .ret))) .skip))
 (.seq (.ops [oE 35 6, om 36 35, oE 4 36])
 .ret))))), [.t 4]⟩
/- (*plover/ploverref01.In).T -/
def jdJ : IFunc := ⟨21, 5, 4, 4, (.seq (.ops [oS 2])
 (.seq (.ops [oD 5 0, oH 6 5, oF 7 1 6, oG 8 7, oE 3 8])
 (.seq (.ops [oD 9 0, oK 10 48 9, oE 4 10])
 (.seq (.seq (.ops [oD 11 4, ⟨(some 12), .bin .gtr (.m 11) (.c (.int .u8 1)), none⟩])
 (.cond (.t 12) (.seq (.ops [oD 13 0, oD 14 3, oH 15 13, oF 16 1 15, oJ 1 16 14])
 (.ops [oD 17 0, oc 18 66 17 5])) .skip))
 (.seq (.ops [oE 19 4, xi 20 19, oE 2 20])
 .ret))))), [.t 2]⟩
/- (*plover/ploverref01.In).B -/
def jbv : IFunc := ⟨38, 3, 10, 4, (.seq (.ops [wJ])
 (.seq (.seq (.ops [oD 3 0, oH 4 3, oF 5 2 4, oF 6 0 5, oG 7 6, wa 8 7])
 (.cond (.t 8) (.seq (.ops [wJ])
 .ret) .skip))
 (.seq (.seq (.draw [(0, oD 9 0), (1, oH 10 9), (2, oF 11 1 10), (3, oG 12 11), (4, oD 13 0), (5, oH 14 13), (6, oF 15 0 14), (7, oG 16 15), (8, wo 17 16), (9, xI 18 12 17)] [])
 (.cond (.t 18) (.seq (.ops [oD 19 0, oc 20 66 19 3])
 (.seq (.ops [wJ])
 .ret)) .skip))
 (.seq (.ops [oD 21 0, oH 22 21, oF 23 1 22, oG 24 23, oP 25 24, oH 26 21, oF 27 1 26, oJ 1 27 25])
 (.seq (.draw [(0, oD 28 0), (1, oH 29 28), (2, oF 30 0 29), (3, oG 31 30), (4, oD 32 0), (5, oH 33 32), (6, oF 34 1 33), (7, oG 35 34), (8, oy 36 35 1), (9, wH 37 31 36), (10, oE 2 37)] [])
 .ret))))), [.t 2]⟩
/- (*plover/ploverref28.in).queue -/
def Kw : ICode := (.seq (.seq (.ops [oD 8 4, uH 9 8 8])
 (.cond (.t 9) .skip (.exit 0)))
 (.seq (.block 1 (.ops [oD 12 4, oD 13 0, oH 14 13, oF 15 0 14, oG 16 15, oK 17 48 16, oI 18 1 3, ou 19 8 1 18 12, oJ 1 19 17]))
 (.ops [oE 10 4, oP 11 10, oE 4 11])))
def jij : IFunc := ⟨21, 5, 8, 4, (.seq (.ops [uc 2])
 (.seq (.ops [oD 5 0, oK 6 43 5, ⟨(some 7), .build [(.int .i64 0), (.int .u8 0), (.int .u8 0), (.int .u8 0), (.int .u8 0), (.int .u8 0), (.int .u8 0), (.int .u8 0), (.int .u8 0)] [(0, 1, (.m 6))], none⟩, uc 3, oJ 9 3 7])
 (.seq (.seq (.ops [oO 4 0])
 (.block 0 (.loop Kw)))
 (.seq (.ops [ow 20 9 3, oJ 9 2 20])
 .ret)))), [.cell 2 (some 9)]⟩
/- (*plover/ploverref28.in).num -/
def je6 : IFunc := ⟨47, 7, 14, 5, (.seq (.ops [ot 4])
 (.seq (.ops [oD 7 0, oH 8 7, oF 9 0 8, oG 10 9, oH 11 10, oF 12 1 11, oG 13 12, oE 5 13])
 (.seq (.ops [oD 14 0, oH 15 14, oF 16 0 15, oG 17 16, oK 18 65 17, oE 6 18])
 (.seq (.seq (.ops [oD 19 0, oH 20 19, oF 21 0 20, oG 22 21, oH 23 22, oF 24 2 23, oF 25 0 24, oG 26 25, oz 27 26, oE 28 27, oQ 29 6 28, oQ 30 1 28, ⟨(some 31), .bin .gtr (.t 29) (.t 30), some (28, true)⟩, oL 32 28 31])
 (.cond (.t 32) (.seq (.ops [oD 33 0, oH 34 33, oF 35 0 34, oG 36 35, oD 37 5, oH 38 36, oF 39 1 38, oJ 1 39 37])
 (.seq (.ops [oD 40 0, oH 41 40, oF 42 0 41, oG 43 42, oD 44 5, uW 45 67 43 44 4])
 (.seq (.ops [ot 4])
 .ret))) .skip))
 (.seq (.ops [oE 46 6, oE 4 46])
 .ret))))), [.t 4]⟩
/- (*plover/ploverref01.In).End -/
def jf8 : IFunc := ⟨30, 3, 18, 5, (.seq (.ops [wL 2])
 (.seq (.seq (.draw [(0, oD 3 0), (1, oH 4 3), (2, oF 5 2 4), (3, oF 6 0 5), (4, oG 7 6), (5, oz 8 7), (6, oE 9 8), (7, oQ 10 0 9), (8, uK 11 10 9), (9, oN 12 1 11 9), (10, oM 13 12 9), (11, oQ 14 0 9), (12, uK 15 14 9), (13, oN 16 0 15 9), (14, oM 17 16 9), (15, xR 18 17 9), (16, ⟨(some 19), .bin .lss (.t 13) (.t 18), some (9, true)⟩), (17, oL 20 9 19)] [])
 (.cond (.t 20) (.seq (.ops [oE 21 0, oH 22 21, oF 23 1 22, oG 24 23, wQ 25 24, oJ 2 2 25])
 .ret) .skip))
 (.seq (.ops [oE 26 0, oH 27 26, oF 28 2 27, ow 29 2 28, oJ 2 2 29])
 .ret))), [.cell 2 (some 2)]⟩
/- errors.As -/
def je7 : IFunc := ⟨42, 8, 9, 5, (.seq (.ops [oS 4])
 (.seq (.seq (.ops [oD 8 0, od 9 1 8])
 (.cond (.t 9) (.seq (.ops [oS 4])
 .ret) .skip))
 (.seq (.seq (.ops [oD 10 1, od 11 1 10])
 (.cond (.t 11) (.ops [⟨(some 12), .mkIface 9 (.c (.str [101, 114, 114, 111, 114, 115, 58, 32, 116, 97, 114, 103, 101, 116, 32, 99, 97, 110, 110, 111, 116, 32, 98, 101, 32, 110, 105, 108])), none⟩, xr 12]) .skip))
 (.seq (.ops [oD 13 1, wP 14 13, ⟨(some 5), .alloc [(.prim (.pointer none)), (.prim (.pointer none)), (.int .u64 0)], none⟩, oJ 3 5 14])
 (.seq (.ops [oh 15 3 5, ⟨(some 16), .pur (.ext (.vType 186 1)) [(.m 15)], none⟩, oE 6 16])
 (.seq (.seq (.ops [oD 17 6, ue 18 17, ⟨(some 19), .bin .neq (.m 18) (.c (.int .u8 22)), none⟩, oE 20 19, xZ 21 3 5 20, ⟨(some 22), .pur (.ext (.vIsNil 1 [83, 143, 80, 145, 64])) [(.t 21)], some (20, false)⟩, uG 23 20 22])
 (.cond (.t 23) (.ops [⟨(some 24), .mkIface 9 (.c (.str [101, 114, 114, 111, 114, 115, 58, 32, 116, 97, 114, 103, 101, 116, 32, 109, 117, 115, 116, 32, 98, 101, 32, 97, 32, 110, 111, 110, 45, 110, 105, 108, 32, 112, 111, 105, 110, 116, 101, 114])), none⟩, xr 24]) .skip))
 (.seq (.ops [oD 25 6, ⟨(some 26), .pur (.invX [(186, (.rElem 186 1 [(143, 85), (145, 143), (64, 66)]), .same)]) [(.m 25)], none⟩, oE 7 26])
 (.seq (.seq (.ops [oD 27 7, ue 28 27, ⟨(some 29), .bin .neq (.m 28) (.c (.int .u8 20)), none⟩, oE 30 29, oQ 31 7 30, ⟨(some 32), .load false none (.c (.pv false [(.iface 186 (.agg [(.prim (.pointer (some ⟨1, 80, none⟩)))]))] 0)), some (30, true)⟩, ⟨(some 33), .pur (.invX [(186, (.rImpl 1 [((83, 80), true), ((143, 80), true), ((145, 80), false), ((186, 80), false), ((64, 80), false), ((128, 80), false)]), .same)]) [(.t 31), (.t 32)], some (30, true)⟩, xD 34 33 30, oL 35 30 34])
 (.cond (.t 35) (.ops [⟨(some 36), .mkIface 9 (.c (.str [101, 114, 114, 111, 114, 115, 58, 32, 42, 116, 97, 114, 103, 101, 116, 32, 109, 117, 115, 116, 32, 98, 101, 32, 105, 110, 116, 101, 114, 102, 97, 99, 101, 32, 111, 114, 32, 105, 109, 112, 108, 101, 109, 101, 110, 116, 32, 101, 114, 114, 111, 114])), none⟩, xr 36]) .skip))
 (.seq (.ops [oE 37 0, oE 38 1, oZ 39 3 5, oE 40 7, ⟨(some 41), .call 71 [(.m 37), (.m 38), (.m 39), (.m 40)], none⟩, oE 4 41])
 .ret))))))))), [.t 4]⟩
/- errors.Is -/
def je8 : IFunc := ⟨22, 6, 6, 4, (.seq (.ops [oS 4])
 (.seq (.seq (.ops [oD 6 0, od 7 1 6, oE 8 7, ol 9 1 8, ⟨(some 10), .isnil false 1 (.t 9), some (8, false)⟩, uG 11 8 10])
 (.cond (.t 11) (.seq (.ops [oE 12 0, oE 13 1, ⟨(some 14), .pur (.eqi false [(83, 0)]) [(.m 12), (.m 13)], none⟩, oE 4 14])
 .ret) .skip))
 (.seq (.ops [oD 15 1, xe 16 15, ⟨(some 17), .pur (.invX [(186, (.rCmp 1 [(83, true), (143, true), (80, true), (145, true), (186, true), (64, true), (128, true)]), .same)]) [(.m 16)], none⟩, oE 5 17])
 (.seq (.ops [oE 18 0, oE 19 1, oE 20 5, uj 21 73 18 19 20, oE 4 21])
 .ret)))), [.t 4]⟩
/- plover/ploverref24.Words -/
def vL : ICode := (.seq (.seq (.ops [oD 11 5, oD 12 0, oU 13 12, oa 14 11 13])
 (.cond (.t 14) .skip (.exit 0)))
 (.seq (.block 1 (.seq (.draw [(0, oD 17 0), (1, oD 18 5), (2, oW 19 1 17 18), (3, oG 20 19), (4, oD 21 1), (5, oD 22 5), (6, oW 23 1 21 22), (7, oG 24 23), (8, ut 25 20 24)] [])
 (.cond (.t 25) (.seq (.ops [oS 4])
 .ret) .skip)))
 (.ops [oE 15 5, oP 16 15, oE 5 16])))
def jf9 : IFunc := ⟨26, 6, 9, 4, (.seq (.ops [oS 4])
 (.seq (.seq (.ops [oD 6 0, oU 7 6, oD 8 1, oU 9 8, ut 10 7 9])
 (.cond (.t 10) (.seq (.ops [oS 4])
 .ret) .skip))
 (.seq (.seq (.ops [oO 5 0])
 (.block 0 (.loop vL)))
 (.seq (.ops [uN 4])
 .ret)))), [.t 4]⟩
/- plover/ploverref24.Rans -/
def vM : ICode := (.seq (.seq (.ops [oD 11 5, oD 12 0, oU 13 12, oa 14 11 13])
 (.cond (.t 14) .skip (.exit 0)))
 (.seq (.block 1 (.seq (.draw [(0, oD 17 0), (1, oD 18 5), (2, oW 19 3 17 18), (3, oZ 20 3 19), (4, oD 21 1), (5, oD 22 5), (6, oW 23 3 21 22), (7, oZ 24 3 23), (8, ⟨(some 25), .pur (.eqa true [0, 0, 2]) [(.m 20), (.m 24)], none⟩)] [])
 (.cond (.t 25) (.seq (.ops [oS 4])
 .ret) .skip)))
 (.ops [oE 15 5, oP 16 15, oE 5 16])))
def jga : IFunc := ⟨26, 6, 9, 4, (.seq (.ops [oS 4])
 (.seq (.seq (.ops [oD 6 0, oU 7 6, oD 8 1, oU 9 8, ut 10 7 9])
 (.cond (.t 10) (.seq (.ops [oS 4])
 .ret) .skip))
 (.seq (.seq (.ops [oO 5 0])
 (.block 0 (.loop vM)))
 (.seq (.ops [uN 4])
 .ret)))), [.t 4]⟩
/- (*plover/ploverref28.in).whole -/
def X7 : IFunc := ⟨54, 9, 19, 5, (.seq (.ops [oO 6 0])
 (.seq (.ops [oD 9 0, oH 10 9, oF 11 0 10, oG 12 11, oH 13 12, oF 14 1 13, oG 15 14, oE 7 15])
 (.seq (.ops [oD 16 0, oH 17 16, oF 18 0 17, oG 19 18, oK 20 76 19, oE 8 20])
 (.seq (.seq (.ops [oD 21 0, oH 22 21, oF 23 0 22, oG 24 23, oH 25 24, oF 26 2 25, oF 27 0 26, oG 28 27, oz 29 28, oE 30 29, oQ 31 8 30, oQ 32 1 30, ⟨(some 33), .bin .lss (.t 31) (.t 32), some (30, true)⟩, oQ 34 33 30, ol 35 8 34, ol 36 2 34, wK 37 35 36 34, xE 38 34 37 30, oL 39 30 38])
 (.cond (.t 39) (.seq (.ops [oD 40 0, oH 41 40, oF 42 0 41, oG 43 42, oD 44 7, oH 45 43, oF 46 1 45, oJ 1 46 44])
 (.seq (.ops [oD 47 0, oH 48 47, oF 49 0 48, oG 50 49, oD 51 7, uW 52 67 50 51 4])
 (.seq (.ops [oO 6 0])
 .ret))) .skip))
 (.seq (.ops [oE 53 8, oE 6 53])
 .ret))))), [.t 6]⟩
/- (*plover/ploverref01.In).U -/
def Kx : ICode := (.seq (.seq (.draw [(0, oD 25 4), (1, oD 26 0), (2, oH 27 26), (3, oF 28 0 27), (4, oG 29 28), (5, oD 30 0), (6, oH 31 30), (7, oF 32 1 31), (8, oG 33 32), (9, wH 34 29 33), (10, ⟨(some 35), .bin .quo (.m 34) (.c (.int .u8 64)), none⟩), (11, om 36 35), (12, oa 37 25 36)] [])
 (.cond (.t 37) .skip (.exit 0)))
 (.seq (.block 1 (.ops [oE 40 3, uX 41 40 2, oE 3 41]))
 (.ops [oE 38 4, oP 39 38, oE 4 39])))
def Ky : ICode := (.seq (.seq (.ops [oD 67 6, oD 68 3, oa 69 67 68])
 (.cond (.t 69) .skip (.exit 2)))
 (.seq (.block 3 (.draw [(0, oE 72 5), (1, ⟨(some 73), .bin .mul (.m 72) (.c (.int .u64 256)), none⟩), (2, oD 74 0), (3, oH 75 74), (4, oF 76 0 75), (5, oG 77 76), (6, oD 78 0), (7, oH 79 78), (8, oF 80 1 79), (9, oG 81 80), (10, oD 82 6), (11, oR 83 81 82), (12, wH 84 77 83), (13, oX 85 84), (14, oR 86 73 85), (15, oE 5 86)] []))
 (.ops [oE 70 6, oP 71 70, oE 6 71])))
def Q5 : IFunc := ⟨103, 7, 15, 5, (.seq (.ops [ot 2])
 (.seq (.seq (.ops [oD 7 0, oH 8 7, oF 9 2 8, oF 10 0 9, oG 11 10, wa 12 11])
 (.cond (.t 12) (.seq (.ops [ot 2])
 .ret) .skip))
 (.seq (.seq (.draw [(0, oD 13 0), (1, oH 14 13), (2, oF 15 1 14), (3, oG 16 15), (4, oD 17 0), (5, oH 18 17), (6, oF 19 0 18), (7, oG 20 19), (8, wo 21 20), (9, xI 22 16 21)] [])
 (.cond (.t 22) (.seq (.ops [oD 23 0, oc 24 66 23 3])
 (.seq (.ops [ot 2])
 .ret)) .skip))
 (.seq (.ops [oO 3 1])
 (.seq (.seq (.ops [oO 4 0])
 (.block 0 (.loop Kx)))
 (.seq (.seq (.draw [(0, oD 42 0), (1, oH 43 42), (2, oF 44 0 43), (3, oG 45 44), (4, wo 46 45), (5, oD 47 0), (6, oH 48 47), (7, oF 49 1 48), (8, oG 50 49), (9, ⟨(some 51), .bin .sub (.m 46) (.m 50), none⟩), (10, oD 52 3), (11, oa 53 51 52)] [])
 (.cond (.t 53) (.seq (.ops [oD 54 0, oc 55 66 54 3])
 (.seq (.ops [ot 2])
 .ret)) .skip))
 (.seq (.draw [(0, oD 56 0), (1, oH 57 56), (2, oF 58 0 57), (3, oG 59 58), (4, oD 60 0), (5, oH 61 60), (6, oF 62 1 61), (7, oG 63 62), (8, wH 64 59 63), (9, ⟨(some 65), .bin .rem (.m 64) (.c (.int .u8 64)), none⟩), (10, oX 66 65), (11, oE 5 66)] [])
 (.seq (.seq (.ops [oO 6 1])
 (.block 2 (.loop Ky)))
 (.seq (.seq (.ops [oD 87 5, oK 88 40 87, oD 89 3, ut 90 88 89])
 (.cond (.t 90) (.seq (.ops [oD 91 0, oc 92 66 91 5])
 (.seq (.ops [ot 2])
 .ret)) .skip))
 (.seq (.ops [oD 93 0, oD 94 0, oH 95 94, oF 96 1 95, oG 97 96, oD 98 3, oR 99 97 98, oH 100 93, oF 101 1 100, oJ 1 101 99])
 (.seq (.ops [oE 102 5, oE 2 102])
 .ret))))))))))), [.t 2]⟩
/- (*plover/ploverref01.In).fail -/
def Qb : IFunc := ⟨13, 2, 9, 4, (.ops [oD 4 0, oD 5 1, oD 6 0, oH 7 6, oF 8 1 7, oG 9 8, uq 10 5 9, oH 11 4, oF 12 2 11, oJ 2 12 10]), []⟩
/- (*plover/ploverref01.In).Fail -/
def X8 : IFunc := ⟨22, 3, 10, 4, (.seq (.ops [oD 6 0, oH 7 6, oF 8 2 7, oF 9 0 8, oG 10 9, oz 11 10, oE 12 11, oQ 13 1 12, xK 14 13 12, oL 15 12 14])
 (.cond (.t 15) (.ops [oD 16 0, oD 17 1, oD 18 2, uq 19 17 18, oH 20 16, oF 21 2 20, oJ 2 21 19]) .skip)), []⟩
/- errors.as -/
def jgc : ICode := (.seq (.ops [o7 51 50 49])
 (.seq (.cond (.t 51) .skip (.exit 3))
 (.seq (.block 4 (.seq (.ops [uT 52 48 50, oG 53 52, oE 14 53])
 (.seq (.seq (.ops [oD 54 14, od 55 1 54])
 (.cond (.t 55) (.exit 4) .skip))
 (.seq (.ops [oD 56 14, oD 57 1, oh 58 3 6, oD 59 3, ⟨(some 60), .call 71 [(.m 56), (.m 57), (.m 58), (.m 59)], none⟩])
 (.cond (.t 60) (.seq (.ops [uN 8])
 .ret) .skip)))))
 (.ops [oP 61 50, oE 50 61]))))
def jbw : ICode := (.block 1 (.seq (.seq (.ops [oD 16 0, xe 17 16, oD 18 3, ⟨(some 19), .pur (.invX [(186, (.rAsg 1 [((83, 83), true), ((83, 143), false), ((83, 80), true), ((83, 145), false), ((83, 186), false), ((83, 64), false), ((83, 128), false), ((143, 83), false), ((143, 143), true), ((143, 80), true), ((143, 145), false), ((143, 186), false), ((143, 64), false), ((143, 128), false), ((80, 83), false), ((80, 143), false), ((80, 145), false), ((80, 186), false), ((80, 64), false), ((80, 128), false), ((145, 83), false), ((145, 143), false), ((145, 80), false), ((145, 145), true), ((145, 186), false), ((145, 64), false), ((145, 128), false), ((186, 83), false), ((186, 143), false), ((186, 80), false), ((186, 145), false), ((186, 186), true), ((186, 64), false), ((186, 128), false), ((64, 83), false), ((64, 143), false), ((64, 80), false), ((64, 145), false), ((64, 186), false), ((64, 64), true), ((64, 128), false), ((128, 83), false), ((128, 143), false), ((128, 80), false), ((128, 145), false), ((128, 186), false), ((128, 64), false), ((128, 128), true)]), .same)]) [(.m 17), (.m 18)], none⟩])
 (.cond (.t 19) (.seq (.ops [oh 20 3 6, ⟨(some 21), .pur (.ext (.vElem 1 [(143, (85, 25)), (145, (143, 22)), (64, (66, 25))])) [(.m 20)], none⟩, oD 22 0, wP 23 22, ⟨(some 24), .vSet 1 [83, 143, 80, 145, 64] (.m 21) (.m 23), none⟩])
 (.seq (.ops [uN 8])
 .ret)) .skip))
 (.seq (.seq (.ops [oD 26 0, wh 27 26, oE 25 27, oT 28 25 0, oT 29 25 1, oE 9 28, oE 10 29])
 (.seq (.ops [oD 30 10, oE 31 30, oQ 32 9 31, oQ 33 1 31, xS 34 32 33 31, oL 35 31 34])
 (.cond (.t 35) (.seq (.ops [uN 8])
 .ret) .skip)))
 (.seq (.ops [oD 36 0])
 (.block 2 (.seq (.ops [wp 37 36, oT 38 37 1, oT 39 37 0])
 (.cond (.t 38) (.seq (.ops [oD 11 39])
 (.seq (.ops [oD 40 11, wO 41 40, oE 0 41])
 (.seq (.ops [oD 42 0, od 43 1 42])
 (.cond (.t 43) (.seq (.ops [oS 8])
 .ret) .skip)))) (.seq (.ops [wl 44 36, oT 45 44 1, oT 46 44 0])
 (.cond (.t 45) (.seq (.ops [oD 12 46])
 (.seq (.seq (.ops [oD 47 12, wO 48 47, oU 49 48, oO 50 0])
 (.block 3 (.loop jgc)))
 (.seq (.ops [oS 8])
 .ret))) (.seq (.ops [oD 15 36])
 (.seq (.ops [oS 8])
 .ret)))))))))))
def jdK : IFunc := ⟨62, 51, 5, 6, (.seq (.ops [oe 6 2, oS 8])
 (.block 0 (.loop jbw))), [.t 8]⟩
/- errors.is -/
def jgd : ICode := (.seq (.ops [o7 46 45 44])
 (.seq (.cond (.t 46) .skip (.exit 3))
 (.seq (.block 4 (.seq (.ops [uT 47 43 45, oG 48 47, oE 12 48])
 (.seq (.ops [oD 49 12, oD 50 1, oD 51 2, uj 52 73 49 50 51])
 (.cond (.t 52) (.seq (.ops [uN 6])
 .ret) .skip))))
 (.ops [oP 53 45, oE 45 53]))))
def jbx : ICode := (.block 1 (.seq (.seq (.ops [oD 14 2, oE 15 14, oQ 16 0 15, oQ 17 1 15, ⟨(some 18), .pur (.eqi false [(83, 0)]) [(.t 16), (.t 17)], some (15, true)⟩, oL 19 15 18])
 (.cond (.t 19) (.seq (.ops [uN 6])
 .ret) .skip))
 (.seq (.seq (.ops [oD 21 0, wh 22 21, oE 20 22, oT 23 20 0, oT 24 20 1, oE 7 23, oE 8 24])
 (.seq (.ops [oD 25 8, oE 26 25, oQ 27 7 26, oQ 28 1 26, xS 29 27 28 26, oL 30 26 29])
 (.cond (.t 30) (.seq (.ops [uN 6])
 .ret) .skip)))
 (.seq (.ops [oD 31 0])
 (.block 2 (.seq (.ops [wp 32 31, oT 33 32 1, oT 34 32 0])
 (.cond (.t 33) (.seq (.ops [oD 9 34])
 (.seq (.ops [oD 35 9, wO 36 35, oE 0 36])
 (.seq (.ops [oD 37 0, od 38 1 37])
 (.cond (.t 38) (.seq (.ops [oS 6])
 .ret) .skip)))) (.seq (.ops [wl 39 31, oT 40 39 1, oT 41 39 0])
 (.cond (.t 40) (.seq (.ops [oD 10 41])
 (.seq (.seq (.ops [oD 42 10, wO 43 42, oU 44 43, oO 45 0])
 (.block 3 (.loop jgd)))
 (.seq (.ops [oS 6])
 .ret))) (.seq (.ops [oD 13 31])
 (.seq (.ops [oS 6])
 .ret)))))))))))
def jdL : IFunc := ⟨54, 46, 4, 6, (.seq (.ops [oS 6])
 (.block 0 (.loop jbx))), [.t 6]⟩
/- (*plover/ploverref01.In).I -/
def Zg : IFunc := ⟨17, 4, 5, 4, (.seq (.ops [oO 2 0])
 (.seq (.ops [oD 4 0, oK 5 65 4, oE 3 5])
 (.seq (.seq (.ops [oD 6 3, uY 7 6 2, ⟨(some 8), .bin .eql (.m 7) (.c (.int .u64 0)), none⟩])
 (.cond (.t 8) (.seq (.ops [oE 9 3, wZ 10 9 2, om 11 10, oE 2 11])
 .ret) .skip))
 (.seq (.ops [oE 12 3, wZ 13 12 2, om 14 13, xj 15 14, oy 16 15 1, oE 2 16])
 .ret)))), [.t 2]⟩
/- (*plover/api.Fault).Unwrap -/
def K9 : IFunc := ⟨8, 3, 5, 4, (.seq (.ops [wM 2])
 (.seq (.ops [oE 3 0, oH 4 3, oF 5 0 4, oG 6 5, ur 7 83 6, oE 2 7])
 .ret)), [.t 2]⟩
end Go.Idl.Sb
namespace Go.Idl.Sb
open Go Go.Idl Go.Idl.En
variable {F : jn}
abbrev I (n : Int) : IVal := .int .i64 n
abbrev J (n : Int) : IVal := .int .i32 n
abbrev Q (n : Int) : IVal := .int .u64 n
abbrev B (n : Nat) : IVal := .int .u8 n
theorem get_app {σ l : List IObj} (k : Nat) : (σ ++ l)[σ.length + k]? = l[k]? := by rw [rV (by omega)]; congr 1; omega
theorem get_app0 {σ l : List IObj} : (σ ++ l)[σ.length]? = l[0]? := get_app 0
theorem set_app {σ l : List IObj} (k : Nat) (x : IObj) : (σ ++ l).set (σ.length + k) x = σ ++ l.set k x := by rw [tY _ _ (by omega)]; congr 2; omega
theorem set_app0 {σ l : List IObj} (x : IObj) : (σ ++ l).set σ.length x = σ ++ l.set 0 x := set_app 0 x
theorem ja {σ : List IObj} {id : Nat} {o : IObj} (h : σ[id]? = some o) : id < σ.length := by
 rcases Nat.lt_or_ge id σ.length with h2 | h2
 . exact h2
 . rw [rY h2] at h; cases h
theorem jm {σ : List IObj} {id : Nat} {o : IObj} (h : σ[id]? = some o) (l : List IObj) : (σ ++ l)[id]? = some o := by rw [List.getElem?_append_left (ja h), h]
theorem take_app {σ l : List IObj} : (σ ++ l).take σ.length = σ := by simp
theorem jF {σ l : List IObj} {id : Nat} {o : IObj} (h : id < σ.length) : (σ ++ l).set id o = σ.set id o ++ l := List.set_append_left _ _ h
theorem get_set {σ : List IObj} {i j : Nat} {o x : IObj} (h : σ[i]? = some o) (hne : j ≠ i) : (σ.set j x)[i]? = some o := by rw [rD hne, h]
theorem jx {σ : List IObj} {i : Nat} {o : IObj} (h : σ[i]? = some o) : σ.set i o = σ := by
 have h2 := ja h
 rw [rJ h2] at h; cases h
 exact List.set_getElem_self h2
theorem dlt (n k : Nat) (h : 0 < k) : decide (n < n + k) = true := rE (by omega)
theorem dge (n k : Nat) (h : 0 < k) : decide (n + k < n) = false := rH (by omega)
theorem dle (n k : Nat) : decide (n <= n + k) = true := rE (by omega)
theorem isNil_p (a b : Nat) : isNil 0 (.ptr a b) = some false := rfl
theorem isNil_n : isNil 0 (.prim (.pointer none)) = some true := rfl
theorem isNil_i : isNil 1 (.prim .nilIface) = some true := rfl
theorem isNil_f (t : TypeId) (v : IVal) : isNil 1 (.iface t v) = some false := rfl
theorem bff : (false != false) = false := rfl
theorem btt : (true != true) = false := rfl
theorem btf2 : (false != true) = true := rfl
theorem jP {n : Int} (h : -9223372036854775808 <= n) (h2 : n < 9223372036854775808) : IntKind.wrap .i64 n = n := by
 simp only [IntKind.wrap, IntKind.bits, IntKind.signed]; simp; omega
theorem jt {n : Int} (h : 0 <= n) (h2 : n < 18446744073709551616) : IntKind.u64.wrap n = n := by
 simp only [IntKind.wrap, IntKind.bits, IntKind.signed]; simp; omega
theorem Vv (n : Int) : IntKind.u64.wrap n = n % 18446744073709551616 := by
 simp only [IntKind.wrap, IntKind.bits, IntKind.signed]; simp
theorem Vw (n : Int) : IntKind.u8.wrap n = n % 256 := by
 simp only [IntKind.wrap, IntKind.bits, IntKind.signed]; simp
theorem kM {n : Nat} (h : n < 1000000) : IntKind.i64.wrap ((n : Int) + 1) = ((n + 1 : Nat) : Int) := by rw [jP (by omega) (by omega)]; omega
theorem nilOwn_nil (e o : Nat) : nilOwn e (.sl o true []) = .sl e true [] := rfl
theorem nilOwn_rs (e a b c d : Nat) : nilOwn e (.rs a b c d) = .rs a b c d := rfl
theorem ext_nil : ext [] = false := rfl
theorem cells_agg (xs : List IVal) : IVal.cells (.agg xs) = xs := rfl
theorem un2_agg (xs : List IVal) : un2 (.agg xs) = .agg (xs.map un1) := rfl
theorem nr2_agg (xs : List IVal) : nr2 (.agg xs) = xs.all nr1 := rfl
theorem tk2_0 (a b : IVal) : jd none [a, b] 0 = some a := rfl
theorem tk2_1 (a b : IVal) : jd none [a, b] 1 = some b := rfl
theorem tk3_0 (a b c : IVal) : jd none [a, b, c] 0 = some a := rfl
theorem tk3_1 (a b c : IVal) : jd none [a, b, c] 1 = some b := rfl
theorem tk3_2 (a b c : IVal) : jd none [a, b, c] 2 = some c := rfl
theorem st2_0 (a b x : IVal) : [a, b].set 0 x = [x, b] := rfl
theorem st2_1 (a b x : IVal) : [a, b].set 1 x = [a, x] := rfl
theorem st3_0 (a b c x : IVal) : [a, b, c].set 0 x = [x, b, c] := rfl
theorem st3_1 (a b c x : IVal) : [a, b, c].set 1 x = [a, x, c] := rfl
theorem st3_2 (a b c x : IVal) : [a, b, c].set 2 x = [a, b, x] := rfl
theorem nt_fn (g : Fn) (xs ys : List IVal) : nt (.fn g xs ys) = true := rfl
theorem nt_pv (r : Bool) (cs : List IVal) (o : Nat) : nt (.pv r cs o) = true := rfl
theorem un2_fn (g : Fn) (xs ys : List IVal) : un2 (.fn g xs ys) = .fn g xs ys := rfl
theorem un1_fn (g : Fn) (xs ys : List IVal) : un1 (.fn g xs ys) = .fn g xs ys := rfl
theorem un2_pv (r : Bool) (cs : List IVal) (o : Nat) : un2 (.pv r cs o) = .pv r cs o := rfl
theorem un1_pv (r : Bool) (cs : List IVal) (o : Nat) : un1 (.pv r cs o) = .pv r cs o := rfl
theorem cells_fn (g : Fn) (xs ys : List IVal) : (IVal.fn g xs ys).cells = [.fn g xs ys] := rfl
theorem cells_pv (r : Bool) (cs : List IVal) (o : Nat) : (IVal.pv r cs o).cells = [.pv r cs o] := rfl
theorem isCell_fn (g : Fn) (xs ys : List IVal) : (IVal.fn g xs ys).isCell = true := rfl
theorem isCell_pv (r : Bool) (cs : List IVal) (o : Nat) : (IVal.pv r cs o).isCell = true := rfl
theorem nr3_fn (g : Fn) (y : IVal) (xs ys : List IVal) : nr3 (.fn g xs (y :: ys)) = false := by cases xs <;> rfl
theorem nr2_fn (g : Fn) (y : IVal) (xs ys : List IVal) : nr2 (.fn g xs (y :: ys)) = false := by cases xs <;> rfl
theorem nr1_fn (g : Fn) (y : IVal) (xs ys : List IVal) : nr1 (.fn g xs (y :: ys)) = false := by cases xs <;> rfl
theorem nt_if (t : TypeId) (v : IVal) : nt (.iface t v) = true := rfl
theorem un3_if (t : TypeId) (v : IVal) : un3 (.iface t v) = .iface t v := rfl
theorem un2_if (t : TypeId) (v : IVal) : un2 (.iface t v) = .iface t v := rfl
theorem un1_if (t : TypeId) (v : IVal) : un1 (.iface t v) = .iface t v := rfl
theorem cells_if (t : TypeId) (v : IVal) : (IVal.iface t v).cells = [.iface t v] := rfl
theorem isCell_if (t : TypeId) (v : IVal) : (IVal.iface t v).isCell = true := rfl
theorem nr1_if (t : TypeId) (r : Bool) (cs : List IVal) (o : Nat) : nr1 (.iface t (.pv r cs o)) = !r := rfl
theorem nr2_if (t : TypeId) (r : Bool) (cs : List IVal) (o : Nat) : nr2 (.iface t (.pv r cs o)) = !r := rfl
theorem nr3_if (t : TypeId) (r : Bool) (cs : List IVal) (o : Nat) : nr3 (.iface t (.pv r cs o)) = !r := rfl
theorem nt_prim (v : Value) : nt (.prim v) = true := rfl
theorem cells_prim (v : Value) : (IVal.prim v).cells = [.prim v] := rfl
theorem isCell_prim (v : Value) : (IVal.prim v).isCell = true := rfl
theorem nr1_prim (v : Value) : nr1 (.prim v) = true := rfl
theorem nr2_prim (v : Value) : nr2 (.prim v) = true := rfl
theorem nr3_prim (v : Value) : nr3 (.prim v) = true := rfl
theorem un1_prim (v : Value) : un1 (.prim v) = .prim v := rfl
theorem un2_prim (v : Value) : un2 (.prim v) = .prim v := rfl
def srt (n : Nat) : Nat := if n < 64 then 0 else if n < 16384 then 1 else if n < 1073741824 then 2 else 3
theorem Xv (n : Nat) : srt n < 4 := by unfold srt; split; omega; split; omega; split <;> omega
def be (m : Nat) : Nat -> List Nat
 | 0 => []
 | k + 1 => m / 256 ^ k % 256 :: be m k
def lay (n : Nat) : Nat := n + srt n * 2 ^ (8 * 2 ^ srt n - 2)
def nb (n : Nat) : List Nat := be (lay n) (2 ^ srt n)
theorem YY (m : Nat) : ∀ k, (be m k).length = k
 | 0 => rfl
 | k + 1 => by rw [be, tI, YY m k]
theorem jbU (n : Nat) : (nb n).length = 2 ^ srt n := YY _ _
def zS := And.intro (And.intro (And.intro (And.intro (And.intro (And.intro (And.intro (@nilOwn_self) (@nilOwn_nil)) (And.intro (@nilOwn_rs) (And.intro (@List.isEmpty_cons.{0}) (@ext_nil)))) (And.intro (And.intro (@get_app) (And.intro (@get_app0) (@set_app))) (And.intro (@set_app0) (And.intro (@cells_agg) (@un2_agg))))) (And.intro (And.intro (And.intro (@nr2_agg) (And.intro (@List.append_assoc.{0}) (@List.drop_zero.{0}))) (And.intro (@List.isEmpty_nil.{0}) (And.intro (@List.getElem?_cons_zero.{0}) (@List.getElem?_cons_succ.{0})))) (And.intro (And.intro (@List.set_cons_succ.{0}) (And.intro (@List.flatMap_nil.{0,0}) (@List.take_zero.{0}))) (And.intro (@Nat.zero_le) (And.intro (@Nat.le_refl) (@Nat.lt_irrefl)))))) (And.intro (And.intro (And.intro (And.intro (@List.nil_append.{0}) (@List.length_append.{0})) (And.intro (@dlt) (And.intro (@dge) (@dle)))) (And.intro (And.intro (@take_app) (And.intro (@isNil_p) (@isNil_n))) (And.intro (@bff) (And.intro (@btt) (@btf2))))) (And.intro (And.intro (And.intro (@tk2_0) (And.intro (@tk2_1) (@tk3_0))) (And.intro (@tk3_1) (And.intro (@tk3_2) (@st2_0)))) (And.intro (And.intro (@st2_1) (And.intro (@st3_0) (@st3_1))) (And.intro (@st3_2) (And.intro (@isNil_i) (@isNil_f))))))) (And.intro (And.intro (And.intro (And.intro (And.intro (@List.take_length.{0}) (@evw_draw)) (And.intro (@Bool.true_or) (And.intro (@Bool.or_true) (@Bool.false_or)))) (And.intro (And.intro (@Bool.or_false) (And.intro (@bne_self_eq_false.{0}) (@Nat.lt_add_one))) (And.intro (@Nat.lt_succ_self) (And.intro (@entry_E) (@E_ds))))) (And.intro (And.intro (And.intro (@List.map_nil.{0,0}) (And.intro (@List.map_cons.{0,0}) (@List.all_nil.{0}))) (And.intro (@List.all_cons.{0}) (And.intro (@nt_int) (@nt_bool)))) (And.intro (And.intro (@nt_str) (And.intro (@nt_rs) (@nt_ptr))) (And.intro (@nt_sl) (And.intro (@nt_agg) (@nr3_int)))))) (And.intro (And.intro (And.intro (And.intro (@nr3_bool) (@nr3_str)) (And.intro (@nr3_sl) (And.intro (@nr3_rs) (@nr3_ptr)))) (And.intro (And.intro (@nr3_tup) (And.intro (@nr3_agg) (@nr2_int))) (And.intro (@nr2_bool) (And.intro (@nr2_str) (@nr2_sl))))) (And.intro (And.intro (And.intro (@nr2_rs) (And.intro (@nr2_ptr) (@Bool.and_true))) (And.intro (@Bool.true_and) (And.intro (@Bool.false_and) (@Bool.and_false)))) (And.intro (And.intro (@Bool.not_false) (And.intro (@Bool.not_true) (@List.filter_nil.{0}))) (And.intro (@List.filter_cons.{0}) (And.intro (@Bool.false_eq_true) (@evw_cond)))))))) (And.intro (And.intro (And.intro (And.intro (And.intro (And.intro (@evw_seq) (@evw_ops)) (And.intro (@evw_ret) (And.intro (@evw_skip) (@evw_exit)))) (And.intro (And.intro (@evw_block) (And.intro (@evw_scope) (@evw_label))) (And.intro (@E_get?) (And.intro (@E_set) (@upd_get))))) (And.intro (And.intro (And.intro (@base_get) (And.intro (@ins_base) (@ins_eq))) (And.intro (@ins_lt) (And.intro (@ins_gt) (@cells_int)))) (And.intro (And.intro (@cells_bool) (And.intro (@cells_str) (@cells_rs))) (And.intro (@cells_ptr) (And.intro (@cells_sl) (@List.length_range)))))) (And.intro (And.intro (And.intro (And.intro (@isCell_int) (@isCell_bool)) (And.intro (@isCell_str) (And.intro (@isCell_rs) (@isCell_ptr)))) (And.intro (And.intro (@isCell_sl) (And.intro (@nr1_int) (@nr1_bool))) (And.intro (@nr1_str) (And.intro (@nr1_rs) (@nr1_ptr))))) (And.intro (And.intro (And.intro (@nr1_sl) (And.intro (@List.set_cons_zero.{0}) (@un3_int))) (And.intro (@un3_bool) (And.intro (@un3_str) (@un3_rs)))) (And.intro (And.intro (@un3_ptr) (And.intro (@un3_map) (@un3_iface))) (And.intro (@un3_prim) (And.intro (@un3_fn) (@un3_yl))))))) (And.intro (And.intro (And.intro (And.intro (And.intro (@un3_sl) (@un3_agg)) (And.intro (@un3_tup) (And.intro (@un3_pv) (@un2_int)))) (And.intro (And.intro (@un2_bool) (And.intro (@un2_str) (@un2_rs))) (And.intro (@un2_ptr) (And.intro (@un2_sl) (@un1_int))))) (And.intro (And.intro (And.intro (@un1_bool) (And.intro (@un1_str) (@un1_rs))) (And.intro (@un1_ptr) (And.intro (@un1_sl) (@Int.cast_ofNat_Int)))) (And.intro (And.intro (@Nat.zero_add) (And.intro (@Nat.add_zero) (@Nat.mul_one))) (And.intro (@bft) (And.intro (@btf) (@beq_self_eq_true.{0})))))) (And.intro (And.intro (And.intro (And.intro (@true_and) (And.intro (@and_true) (@and_self))) (And.intro (@if_true.{0}) (And.intro (@if_false.{0}) (@ite_true.{0})))) (And.intro (And.intro (@ite_false.{0}) (And.intro (@c0) (@c1))) (And.intro (@not_true_eq_false) (And.intro (@not_false_eq_true) (@Bool.true_eq_false))))) (And.intro (And.intro (And.intro (@Option.some.injEq.{0}) (And.intro (@Prod.mk.injEq.{0,0}) (@exists_eq_left.{0}))) (And.intro (@List.length_map.{0,0}) (And.intro (@List.getElem?_map.{0,0}) (@Option.map_some.{0,0})))) (And.intro (And.intro (@List.cons_append.{0}) (And.intro (@List.length_cons.{0}) (@List.length_nil.{0}))) (And.intro (@List.append_nil.{0}) (And.intro (@decide_true) (@decide_false))))))))
def zD := And.intro (And.intro (And.intro (And.intro (And.intro (And.intro (And.intro (@libOf.eq_1) (And.intro (@libOf.eq_2) (@purI.eq_1))) (And.intro (@purI.eq_2) (And.intro (@purI.eq_3) (@purI.eq_4)))) (And.intro (And.intro (@purI.eq_5) (And.intro (@purI.eq_6) (@purI.eq_7))) (And.intro (And.intro (@purI.eq_8) (@purI.eq_9)) (And.intro (@purI.eq_10) (@purI.eq_11))))) (And.intro (And.intro (And.intro (@purI.eq_12) (And.intro (@purI.eq_13) (@purI.eq_14))) (And.intro (And.intro (@purI.eq_15) (@purI.eq_16)) (And.intro (@purI.eq_17) (@purI.eq_18)))) (And.intro (And.intro (@purI.eq_19) (And.intro (@purI.eq_20) (@loadCell.eq_1))) (And.intro (And.intro (@elemsOf.eq_1) (@elemsOf.eq_2)) (And.intro (@elemsOf.eq_3) (@elemsOf.eq_4)))))) (And.intro (And.intro (And.intro (And.intro (@appR.eq_1) (And.intro (@drawEnd.eq_1) (@drawEnd.eq_2))) (And.intro (@undefI.eq_1) (And.intro (@runDraw.eq_1) (@runDraw.eq_2)))) (And.intro (And.intro (@stepD.eq_1) (And.intro (@noRs.eq_1) (@noRs.eq_2))) (And.intro (And.intro (@noRs.eq_3) (@noRs.eq_4)) (And.intro (@opdsOf.eq_1) (@opdsOf.eq_2))))) (And.intro (And.intro (And.intro (@opdsOf.eq_3) (And.intro (@opdsOf.eq_4) (@opdsOf.eq_5))) (And.intro (And.intro (@opdsOf.eq_6) (@opdsOf.eq_7)) (And.intro (@opdsOf.eq_8) (@opdsOf.eq_9)))) (And.intro (And.intro (@opdsOf.eq_10) (And.intro (@opdsOf.eq_11) (@opdsOf.eq_12))) (And.intro (And.intro (@opdsOf.eq_13) (@opdsOf.eq_14)) (And.intro (@opdsOf.eq_15) (@opdsOf.eq_16))))))) (And.intro (And.intro (And.intro (And.intro (And.intro (@opdsOf.eq_17) (And.intro (@opdsOf.eq_18) (@opdsOf.eq_19))) (And.intro (@opdsOf.eq_20) (And.intro (@opdsOf.eq_21) (@opdsOf.eq_22)))) (And.intro (And.intro (@opdsOf.eq_23) (And.intro (@opdsOf.eq_24) (@opdsOf.eq_25))) (And.intro (And.intro (@opdsOf.eq_26) (@opdsOf.eq_27)) (And.intro (@opdsOf.eq_28) (@opdsOf.eq_29))))) (And.intro (And.intro (And.intro (@opdsOf.eq_30) (And.intro (@opdsOf.eq_31) (@opdsOf.eq_32))) (And.intro (And.intro (@opdsOf.eq_33) (@opdsOf.eq_34)) (And.intro (@opdsOf.eq_35) (@opdsOf.eq_36)))) (And.intro (And.intro (@opdsOf.eq_37) (And.intro (@opdsOf.eq_38) (@opdsOf.eq_39))) (And.intro (And.intro (@opdsOf.eq_40) (@opdsOf.eq_41)) (And.intro (@opdsOf.eq_42) (@opdsOf.eq_43)))))) (And.intro (And.intro (And.intro (And.intro (@opdsOf.eq_44) (And.intro (@opdsOf.eq_45) (@opdsOf.eq_46))) (And.intro (@opdsOf.eq_47) (And.intro (@opdsOf.eq_48) (@pairsOK.eq_1)))) (And.intro (And.intro (@okPair.eq_1) (And.intro (@rdOf.eq_1) (@rdOf.eq_2))) (And.intro (And.intro (@rdOf.eq_3) (@rdOf.eq_4)) (And.intro (@rdOf.eq_5) (@quiet.eq_1))))) (And.intro (And.intro (And.intro (@quiet.eq_2) (And.intro (@quiet.eq_3) (@quiet.eq_4))) (And.intro (And.intro (@quiet.eq_5) (@quiet.eq_6)) (And.intro (@quiet.eq_7) (@quiet.eq_8)))) (And.intro (And.intro (@quiet.eq_9) (And.intro (@quiet.eq_10) (@quiet.eq_11))) (And.intro (And.intro (@quiet.eq_12) (@quiet.eq_13)) (And.intro (@quiet.eq_14) (@quiet.eq_15)))))))) (And.intro (And.intro (And.intro (And.intro (And.intro (And.intro (@quiet.eq_16) (And.intro (@quiet.eq_17) (@quiet.eq_18))) (And.intro (@callI.eq_1) (And.intro (@Ts.fill.eq_1) (@Ts.fill.eq_2)))) (And.intro (And.intro (@retI.eq_1) (And.intro (@shut.eq_1) (@shut.eq_2))) (And.intro (And.intro (@readRes.eq_1) (@readRes.eq_2)) (And.intro (@readRes.eq_3) (@tupV.eq_1))))) (And.intro (And.intro (And.intro (@tupV.eq_2) (And.intro (@finish.eq_1) (@runOps.eq_1))) (And.intro (And.intro (@runOps.eq_2) (@wantedI.eq_1)) (And.intro (@wantedI.eq_2) (@stepOp.eq_1)))) (And.intro (And.intro (@stepOp.eq_2) (And.intro (@stepOp.eq_3) (@stepOp.eq_4))) (And.intro (And.intro (@stepOp.eq_5) (@stepOp.eq_6)) (And.intro (@stepOp.eq_7) (@stepOp.eq_8)))))) (And.intro (And.intro (And.intro (And.intro (@stepOp.eq_9) (And.intro (@stepOp.eq_10) (@stepOp.eq_11))) (And.intro (@stepOp.eq_12) (And.intro (@stepOp.eq_13) (@stepOp.eq_14)))) (And.intro (And.intro (@stepOp.eq_15) (And.intro (@stepOp.eq_16) (@stepOp.eq_17))) (And.intro (And.intro (@stepOp.eq_18) (@stepOp.eq_19)) (And.intro (@stepOp.eq_20) (@stepOp.eq_21))))) (And.intro (And.intro (And.intro (@stepOp.eq_22) (And.intro (@stepOp.eq_23) (@stepOp.eq_24))) (And.intro (And.intro (@stepOp.eq_25) (@stepOp.eq_26)) (And.intro (@stepOp.eq_27) (@stepOp.eq_28)))) (And.intro (And.intro (@stepOp.eq_29) (And.intro (@stepOp.eq_30) (@stepOp.eq_31))) (And.intro (And.intro (@stepOp.eq_32) (@stepOp.eq_33)) (And.intro (@stepOp.eq_34) (@stepOp.eq_35))))))) (And.intro (And.intro (And.intro (And.intro (And.intro (@stepOp.eq_36) (And.intro (@stepOp.eq_37) (@stepOp.eq_38))) (And.intro (@stepOp.eq_39) (And.intro (@stepOp.eq_40) (@stepOp.eq_41)))) (And.intro (And.intro (@stepOp.eq_42) (And.intro (@stepOp.eq_43) (@stepOp.eq_44))) (And.intro (And.intro (@stepOp.eq_45) (@stepOp.eq_46)) (And.intro (@stepOp.eq_47) (@stepOp.eq_48))))) (And.intro (And.intro (And.intro (@getAll.eq_1) (And.intro (@getAll.eq_2) (@stepCall.eq_1))) (And.intro (And.intro (@addOut.eq_1) (@unI.eq_1)) (And.intro (@unI.eq_2) (@unI.eq_3)))) (And.intro (And.intro (@unI.eq_4) (And.intro (@Opd.get.eq_1) (@Opd.get.eq_2))) (And.intro (And.intro (@Opd.get.eq_3) (@slotN.eq_1)) (And.intro (@tag.eq_1) (@tag.eq_2)))))) (And.intro (And.intro (And.intro (And.intro (@markW.eq_1) (And.intro (@putCells.eq_1) (@putCells.eq_2))) (And.intro (@putT.eq_1) (And.intro (@putT.eq_2) (@rv.eq_1)))) (And.intro (And.intro (@bin.eq_1) (And.intro (@bin.eq_2) (@bin.eq_3))) (And.intro (And.intro (@bin.eq_4) (@bin.eq_5)) (And.intro (@binI.eq_1) (@binI.eq_2))))) (And.intro (And.intro (And.intro (@binI.eq_3) (And.intro (@binI.eq_4) (@binI.eq_5))) (And.intro (And.intro (@binI.eq_6) (@binI.eq_7)) (And.intro (@binI.eq_8) (@binI.eq_9)))) (And.intro (And.intro (@binI.eq_10) (And.intro (@binI.eq_11) (@binI.eq_12))) (And.intro (And.intro (@binI.eq_13) (@binI.eq_14)) (And.intro (@binI.eq_15) (@binI.eq_16))))))))
def zV := And.intro (And.intro (And.intro (And.intro (@nt_fn) (And.intro (@nt_pv) (@un2_fn))) (And.intro (And.intro (@un1_fn) (@un2_pv)) (And.intro (@un1_pv) (@cells_fn)))) (And.intro (And.intro (And.intro (@cells_pv) (@isCell_fn)) (And.intro (@isCell_pv) (@nr3_fn))) (And.intro (And.intro (@nr2_fn) (@nr1_fn)) (And.intro (@nt_if) (@un2_if))))) (And.intro (And.intro (And.intro (@un1_if) (And.intro (@un3_if) (@cells_if))) (And.intro (And.intro (@isCell_if) (@nr1_if)) (And.intro (@nr2_if) (@nr3_if)))) (And.intro (And.intro (And.intro (@nt_prim) (@cells_prim)) (And.intro (@isCell_prim) (@nr1_prim))) (And.intro (And.intro (@nr2_prim) (@nr3_prim)) (And.intro (@un1_prim) (@un2_prim)))))
theorem QQ (h : F 107 = some yf) {s : Nat} (hs : s < 4) (σ : List IObj) : cfw F (.f 107) [I s] σ = some ⟨false, I ((2 ^ s : Nat) : Int), σ, []⟩ := by
 rw [jj yf h, callI]
 have f4 : qw [.int .i64 0, .int .i64 0, .int .i64 0, .int .i64 0] [(0, 1, I 1), (1, 1, I 2), (2, 1, I 4), (3, 1, I 8)] = some [I 1, I 2, I 4, I 8] := rfl
 have d1 : (0 : Int) <= (s : Int) := by omega
 have d2 : (s : Int) < ((4 : Nat) : Int) := by omega
 have d2' : (s : Int) < 4 := by omega
 have t1 : jd none [I 1, I 2, I 4, I 8] (s * 1) = some (I ((2 ^ s : Nat) : Int)) := by
   match s, hs with
   | 0, _ => rfl
   | 1, _ => rfl
   | 2, _ => rfl
   | 3, _ => rfl
 have t2 : jd none [I 1, I 2, I 4, I 8] s = some (I ((2 ^ s : Nat) : Int)) := by rw [<- t1, Nat.mul_one]
 simp only [yf, f4, d1, d2, d2', t1, t2, rL, tJ, tU, zV, zS, zD, simprocAttr]
end Go.Idl.Sb
namespace Go.Idl.Sb
open Go Go.Idl Go.Idl.En
variable {F : jn}
theorem pw (k : Nat) : ((2 : Int) ^ k) = ((2 ^ k : Nat) : Int) := by simp
theorem fd (n k : Nat) : (n : Int).fdiv ((2 : Int) ^ k) = ((n / 2 ^ k : Nat) : Int) := by
 rw [pw, Int.fdiv_eq_ediv_of_nonneg _ (Int.natCast_nonneg _)]; rfl
theorem gt0 (n : Nat) : decide ((n : Int) > 0) = decide (0 < n) := by simp
theorem w6 : IntKind.i64.wrap 6 = 6 := rfl
theorem w8 : IntKind.i64.wrap 8 = 8 := rfl
theorem ji8 {n s : Nat} (hs : s < 3) : decide (0 < n / 2 ^ (8 * 2 ^ s - 2)) = decide (s < srt n) := by
 rw [decide_eq_decide]
 match s, hs with
 | 0, _ => simp only [srt]; split; omega; split; omega; split <;> omega
 | 1, _ => simp only [srt]; split; omega; split; omega; split <;> omega
 | 2, _ => simp only [srt]; split; omega; split; omega; split <;> omega
theorem shw {s : Nat} (hs : s < 4) : IntKind.i64.wrap (8 * ((2 ^ s : Nat) : Int)) = ((8 * 2 ^ s : Nat) : Int) /\ IntKind.i64.wrap (((8 * 2 ^ s : Nat) : Int) - 2) = ((8 * 2 ^ s - 2 : Nat) : Int) /\ min ((((8 * 2 ^ s - 2 : Nat) : Int)).toNat) IntKind.u64.bits = 8 * 2 ^ s - 2 := by
 match s, hs with
 | 0, _ => exact ⟨rfl, rfl, rfl⟩
 | 1, _ => exact ⟨rfl, rfl, rfl⟩
 | 2, _ => exact ⟨rfl, rfl, rfl⟩
 | 3, _ => exact ⟨rfl, rfl, rfl⟩
theorem vQ (n : Nat) : ((n : Int) < 0) = False := by simp
theorem jiE (h81 : F 107 = some yf) {n : Nat} {σ : List IObj} : ∀ (d s : Nat) (f0 : Nat -> Option (Nat × IVal)) (R : Option (IExit × St)), evw F (.loop yF) ⟨E 4 11 4 [] (base f0), σ, []⟩ = R -> s + d = srt n -> f0 0 = some (0, Q n) -> f0 3 = some (3, I s) ->
   ∃ f1, R = some (.exit 0, ⟨E 4 11 4 [] (base f1), σ, []⟩) /\ f1 3 = some (3, I (srt n)) := by
 intro d
 induction d with
 | zero =>
   intro s f0 R hE hs e0 e3
   have hs4 := Xv n
   rw [Nat.add_zero] at hs
   rw [jc] at hE
   subst hE
   by_cases h3 : s < 3
   . have b0 := fun σ => QQ h81 (s := s) (by omega) σ
     obtain ⟨v1, v2, v3⟩ := shw (s := s) (by omega)
     have l0 : decide ((s : Int) < 3) = true := rE (by omega)
     have st := ji8 (n := n) h3
     have s0 : decide (s < srt n) = false := rH (by omega)
     simp only [yF, e0, e3, b0, l0, v1, v2, v3, st, s0, fd, gt0, qV, vQ, zV, zS, zD, simprocAttr]
     exact ⟨_, rfl, by rw [<- hs]; exact (by first | exact e3 | rfl)⟩
   . have l0 : decide ((s : Int) < 3) = false := rH (by omega)
     simp only [yF, e0, e3, l0, zV, zS, zD, simprocAttr]
     exact ⟨_, rfl, by rw [<- hs]; exact (by first | exact e3 | rfl)⟩
 | succ d ih =>
   intro s f0 R hE hs e0 e3
   have hs4 := Xv n
   have h3 : s < 3 := by omega
   have b0 := fun σ => QQ h81 (s := s) (by omega) σ
   obtain ⟨v1, v2, v3⟩ := shw (s := s) (by omega)
   have l0 : decide ((s : Int) < 3) = true := rE (by omega)
   have st := ji8 (n := n) h3
   have s0 : decide (s < srt n) = true := rE (by omega)
   have w1 := kM (n := s) (by omega)
   rw [jc] at hE
   simp only [yF, e0, e3, b0, l0, v1, v2, v3, st, s0, w1, fd, gt0, qV, vQ, zV, zS, zD, simprocAttr] at hE
   exact ih (s + 1) _ R hE (by omega) (by first | exact e0 | rfl) (by rfl)
theorem jfo (h : F 106 = some yU) (h81 : F 107 = some yf) (n : Nat) (σ : List IObj) : cfw F (.f 106) [Q n] σ = some ⟨false, I (srt n), σ, []⟩ := by
 rw [jj yU h, callI]
 simp only [yU, zV, zS, zD, simprocAttr]
 generalize hE : evw F (ICode.loop yF) _ = R
 obtain ⟨f1, rfl, a3⟩ := jiE h81 (n := n) (srt n) 0 _ R hE (by omega) (by rfl) (by rfl)
 simp only [a3, zV, zS, zD, simprocAttr]
theorem jfG (n : Nat) : IntKind.u64.wrap (((BitVec.ofInt IntKind.u64.bits (n : Int) &&& BitVec.ofInt IntKind.u64.bits 4611686018427387903).toNat : Nat) : Int) = ((n % 4611686018427387904 : Nat) : Int) := by
 have e1 : (BitVec.ofInt IntKind.u64.bits (n : Int) &&& BitVec.ofInt IntKind.u64.bits 4611686018427387903).toNat = n % 4611686018427387904 := by
   rw [BitVec.toNat_and]
   have a1 : (BitVec.ofInt IntKind.u64.bits (n : Int)).toNat = n % 2 ^ 64 := by
     show (BitVec.ofInt 64 (n : Int)).toNat = _
     rw [BitVec.toNat_ofInt]; omega
   have a2 : (BitVec.ofInt IntKind.u64.bits 4611686018427387903).toNat = 2 ^ 62 - 1 := rfl
   rw [a1, a2, Nat.and_two_pow_sub_one_eq_mod]
   omega
 rw [e1, jt (by omega) (by omega)]
theorem jiU {n s : Nat} (hs : s < 4) (hn : n < 2 ^ (8 * 2 ^ s - 2)) : IntKind.u64.wrap (((BitVec.ofInt IntKind.u64.bits (n : Int) ||| BitVec.ofInt IntKind.u64.bits (IntKind.u64.wrap (((s : Nat) : Int) * (2 : Int) ^ (8 * 2 ^ s - 2)))).toNat : Nat) : Int) = ((n + s * 2 ^ (8 * 2 ^ s - 2) : Nat) : Int) := by
 have hb : s * 2 ^ (8 * 2 ^ s - 2) + n < 2 ^ 64 := by
   match s, hs, hn with
   | 0, _, hn => simp at hn ⊢; omega
   | 1, _, hn => simp at hn ⊢; omega
   | 2, _, hn => simp at hn ⊢; omega
   | 3, _, hn => simp at hn ⊢; omega
 rw [pw]
 have e1 : IntKind.u64.wrap (((s : Nat) : Int) * ((2 ^ (8 * 2 ^ s - 2) : Nat) : Int)) = ((s * 2 ^ (8 * 2 ^ s - 2) : Nat) : Int) := by
   rw [<- Int.natCast_mul, jt (by omega) (by omega)]
 rw [e1]
 have e2 : (BitVec.ofInt IntKind.u64.bits (n : Int) ||| BitVec.ofInt IntKind.u64.bits ((s * 2 ^ (8 * 2 ^ s - 2) : Nat) : Int)).toNat = n + s * 2 ^ (8 * 2 ^ s - 2) := by
   rw [BitVec.toNat_or]
   have a1 : (BitVec.ofInt IntKind.u64.bits (n : Int)).toNat = n := by
     show (BitVec.ofInt 64 (n : Int)).toNat = _
     rw [BitVec.toNat_ofInt]; omega
   have a2 : (BitVec.ofInt IntKind.u64.bits ((s * 2 ^ (8 * 2 ^ s - 2) : Nat) : Int)).toNat = s * 2 ^ (8 * 2 ^ s - 2) := by
     show (BitVec.ofInt 64 _).toNat = _
     rw [BitVec.toNat_ofInt]; omega
   rw [a1, a2, Nat.or_comm, <- Nat.shiftLeft_eq, <- Nat.shiftLeft_add_eq_or_of_lt hn, Nat.add_comm]
 rw [e2, jt (by omega) (by omega)]
theorem Xu {n : Nat} (h : n < 4611686018427387904) : n < 2 ^ (8 * 2 ^ srt n - 2) := by
 unfold srt
 split
 . simpa using by omega
 split
 . simpa using by omega
 split
 . simpa using by omega
 . simpa using by omega
theorem Jc (n : Nat) : srt n = 0 \/ srt n = 1 \/ srt n = 2 \/ srt n = 3 := by have := Xv n; omega
theorem jiA {m : Nat} {σ : List IObj} : ∀ (k : Nat) (f0 : Nat -> Option (Nat × IVal)) (R : Option (IExit × St)) (r : Bool) (bs : List Nat), evw F (.loop zF) ⟨E 7 9 5 [] (base f0), σ, []⟩ = R -> k <= 8 -> bs.length < 1000000 - k -> (!bs.isEmpty && r) = false -> f0 0 = some (0, .sl 1 r (bs.map B)) -> f0 1 = some (1, Q m) -> f0 6 = some (6, I ((k : Int) - 1)) ->
   ∃ f1 r', R = some (.exit 0, ⟨E 7 9 5 [] (base f1), σ, []⟩) /\ f1 0 = some (0, .sl 1 r' ((bs ++ be m k).map B)) /\ (r = false \/ 0 < k -> r' = false) := by
 intro k
 induction k with
 | zero =>
   intro f0 R r bs hE _ _ hr e0 e1 e6
   have e6 : f0 6 = some (6, I (-1)) := e6
   have d1 : decide ((-1 : Int) ≥ 0) = false := rfl
   rw [jc] at hE
   subst hE
   simp only [zF, e0, e1, e6, d1, be, rP, zV, zS, zD, simprocAttr]
   exact ⟨_, r, rfl, (by first | exact e0 | rfl), fun h => h.elim id (fun h => by cases h)⟩
 | succ k ih =>
   intro f0 R r bs hE hk hb hr e0 e1 e6
   have w0 : ((k + 1 : Nat) : Int) - 1 = (k : Int) := by omega
   rw [w0] at e6
   have d0 : decide ((k : Int) ≥ 0) = true := rE (by omega)
   have v1 : IntKind.i64.wrap (8 * (k : Int)) = ((8 * k : Nat) : Int) := by rw [jP (by omega) (by omega)]; omega
   have v2 : min ((((8 * k : Nat) : Int)).toNat) IntKind.u64.bits = 8 * k := by
     show min ((((8 * k : Nat) : Int)).toNat) 64 = 8 * k
     omega
   have v3 : IntKind.u8.wrap (((m / 2 ^ (8 * k) : Nat) : Int)) = ((m / 256 ^ k % 256 : Nat) : Int) := by
     have e : 2 ^ (8 * k) = 256 ^ k := by rw [Nat.pow_mul]
     rw [Vw, e]; omega
   have v4 : IntKind.i64.wrap ((k : Int) - 1) = (k : Int) - 1 := jP (by omega) (by omega)
   have q1 : bs.length <= 1099511627775 := by omega
   have q3 : (bs.map B).isEmpty = bs.isEmpty := by cases bs <;> rfl
   rw [jc] at hE
   simp only [zF, e0, e1, e6, d0, v1, v2, v3, v4, q1, q3, hr, fd, qV, vQ, zV, zS, zD, simprocAttr] at hE
   obtain ⟨f1, r', h1, h2, h3⟩ := ih _ R false (bs ++ [m / 256 ^ k % 256]) hE (by omega) (by simp; omega) (by simp) (by rw [List.map_append]; exact (by rfl)) (by first | exact e1 | rfl) (by rfl)
   refine ⟨f1, r', h1, ?_, fun _ => ?_⟩
   . rw [h2, be, rO, List.singleton_append]
   . exact h3 (.inl rfl)
abbrev BS (r : Bool) (bs : List Nat) : IVal := .sl 1 r (bs.map B)
theorem P77 (h : F 103 = some QZ) (h80 : F 106 = some yU) (h81 : F 107 = some yf) {n : Nat} {r : Bool} {bs : List Nat} {σ : List IObj} (hb : bs.length < 900000) (hr : (!bs.isEmpty && r) = false) :
   cfw F (.f 103) [BS r bs, Q n] σ = some ⟨false, BS false (bs ++ nb (n % 4611686018427387904)), σ, []⟩ := by
 rw [jj QZ h, callI]
 generalize hm : n % 4611686018427387904 = m
 have hm2 : m < 4611686018427387904 := by omega
 have hs := Xv m
 have b0 := fun σ => QQ h81 hs σ
 have s0 := fun σ => jfo h80 h81 m σ
 have a1 := jfG n
 rw [hm] at a1
 obtain ⟨v1, v2, v3⟩ := shw hs
 have o1 := jiU hs (Xu hm2)
 have q1 : bs.length <= 1099511627776 := by omega
 have q3 : JI 1 (bs.map B) = true := by cases bs <;> rfl
 have w1 : IntKind.u64.wrap ((srt m : Nat) : Int) = ((srt m : Nat) : Int) := jt (by omega) (by omega)
 have w2 : IntKind.i64.wrap (((2 ^ srt m : Nat) : Int) - 1) = ((2 ^ srt m : Nat) : Int) - 1 := by
   rcases Jc m with e | e | e | e <;> rw [e] <;> rfl
 have q4 : (0 : Int) <= (bs.length : Int) := by omega
 have q5 : (bs.map B).take bs.length = bs.map B := by rw [rX]; simp
 rw [rL] at v3
 simp only [QZ, b0, s0, a1, v1, v2, v3, o1, q1, q3, q4, q5, w1, w2, qV, vQ, kD, nat, rL, zV, zS, zD, simprocAttr]
 generalize hE : evw F (ICode.loop zF) _ = R
 have r0 : (!bs.isEmpty && QK r 0 bs.length bs.length) = false := by
   cases bs with
   | nil => rfl
   | cons b bs =>
     have hr : r = false := by simpa using hr
     subst hr; rfl
 have k8 : 2 ^ srt m <= 8 := by rcases Jc m with e | e | e | e <;> rw [e] <;> decide
 have k0 : 0 < 2 ^ srt m := Nat.pow_pos (by decide)
 obtain ⟨f1, r', rfl, a0, rf⟩ := jiA (2 ^ srt m) _ R _ bs hE k8 (by omega) r0 (by rfl) (by rfl) (by rfl)
 rw [rf (.inr k0)] at a0
 simp only [a0, zV, zS, zD, simprocAttr]
 rfl
end Go.Idl.Sb
namespace Go.Idl.Sb
open Go Go.Idl Go.Idl.En
variable {F : jn}
def zz (n : Int) : Nat := if 0 <= n then (2 * n).toNat else (-2 * n - 1).toNat
def i64 (n : Int) : Prop := -9223372036854775808 <= n /\ n < 9223372036854775808
theorem jhl {n : Int} (h : i64 n) : IntKind.u64.wrap (((BitVec.ofInt IntKind.u64.bits (IntKind.u64.wrap (IntKind.u64.wrap n * 2 ^ 1)) ^^^ BitVec.ofInt IntKind.u64.bits (IntKind.u64.wrap (n.fdiv (2 ^ 63)))).toNat : Nat) : Int) = ((zz n : Nat) : Int) := by
 obtain ⟨h1, h2⟩ := h
 have e0 : (2 : Int) ^ 63 = 9223372036854775808 := by decide
 rw [Vv n, Vv (n % 18446744073709551616 * 2 ^ 1), Vv (n.fdiv (2 ^ 63)), e0, Int.fdiv_eq_ediv_of_nonneg _ (by decide)]
 unfold zz
 split
 . rename_i h0
   have e1 : n / 9223372036854775808 % 18446744073709551616 = 0 := by omega
   have e2 : n % 18446744073709551616 * 2 ^ 1 % 18446744073709551616 = 2 * n := by omega
   rw [e1, e2]
   have e3 : (BitVec.ofInt IntKind.u64.bits (2 * n) ^^^ BitVec.ofInt IntKind.u64.bits 0).toNat = (2 * n).toNat := by
     show (BitVec.ofInt 64 (2 * n) ^^^ 0#64).toNat = _
     rw [BitVec.xor_zero, BitVec.toNat_ofInt]; omega
   rw [e3, jt (by omega) (by omega)]
 . rename_i h0
   have e1 : n / 9223372036854775808 % 18446744073709551616 = 18446744073709551615 := by omega
   have e2 : n % 18446744073709551616 * 2 ^ 1 % 18446744073709551616 = 18446744073709551616 + 2 * n := by omega
   rw [e1, e2]
   have e3 : (BitVec.ofInt IntKind.u64.bits (18446744073709551616 + 2 * n) ^^^ BitVec.ofInt IntKind.u64.bits 18446744073709551615).toNat = (-2 * n - 1).toNat := by
     show (BitVec.ofInt 64 (18446744073709551616 + 2 * n) ^^^ BitVec.ofInt 64 18446744073709551615).toNat = _
     have e4 : BitVec.ofInt 64 18446744073709551615 = BitVec.allOnes 64 := by decide
     rw [e4, BitVec.xor_allOnes, BitVec.toNat_not, BitVec.toNat_ofInt]; omega
   rw [e3, jt (by omega) (by omega)]
theorem jkH (h : F 105 = some XX) (h77 : F 103 = some QZ) (h80 : F 106 = some yU) (h81 : F 107 = some yf) {n : Int} (hn : i64 n) {r : Bool} {bs : List Nat} {σ : List IObj} (hb : bs.length < 900000) (hr : (!bs.isEmpty && r) = false) :
   cfw F (.f 105) [BS r bs, I n] σ = some ⟨false, BS false (bs ++ nb (zz n % 4611686018427387904)), σ, []⟩ := by
 rw [jj XX h, callI]
 have p1 := fun σ => P77 h77 h80 h81 (n := zz n) (σ := σ) hb hr
 have z1 := jhl hn
 have m1 : min 1 IntKind.u64.bits = 1 := rfl
 have m63 : min 63 IntKind.i64.bits = 63 := rfl
 simp only [XX, p1, z1, m1, m63, qV, Int.reduceToNat, zV, zS, libOf, purI, loadCell, elemsOf, appR, drawEnd, undefI, runDraw, stepD, noRs, opdsOf, pairsOK, okPair, rdOf, quiet, callI, Ts.fill, retI, shut, readRes, tupV, finish, runOps, wantedI, stepOp, getAll, stepCall, addOut, unI, Opd.get, slotN, tag, markW, putCells, putT, rv, bin, binI, Nat.reduceAdd, Nat.reduceSub, Nat.reduceMul, Nat.reduceDiv, Nat.reduceMod, Nat.reducePow, Nat.reduceLT, Nat.reduceLeDiff, Nat.reduceEqDiff, Nat.reduceBEq, Nat.reduceBNe, reduceIte, Int.reduceEq, Int.reduceLT, Int.reduceLE, Int.reduceNeg, Int.reduceMul, Int.reduceAdd, Int.reduceSub, reduceCtorEq]
theorem jkI (h : F 104 = some XW) {b : Bool} {r : Bool} {bs : List Nat} {σ : List IObj} (hb : bs.length < 900000) (hr : (!bs.isEmpty && r) = false) :
   cfw F (.f 104) [BS r bs, .bool b] σ = some ⟨false, BS false (bs ++ [if b then 1 else 0]), σ, []⟩ := by
 rw [jj XW h, callI]
 have q1 : bs.length <= 1099511627775 := by omega
 have q3 : JI 1 (bs.map B) = true := by cases bs <;> rfl
 have q4 : (0 : Int) <= (bs.length : Int) := by omega
 have q5 : (bs.map B).take bs.length = bs.map B := by rw [rX]; simp
 have q6 : (bs.map B).isEmpty = bs.isEmpty := by cases bs <;> rfl
 have r0 : (!bs.isEmpty && QK r 0 bs.length bs.length) = false := by
   cases bs with
   | nil => rfl
   | cons b bs =>
     have hr : r = false := by simpa using hr
     subst hr; rfl
 have a1 (c : Nat) : BS false (bs ++ [c]) = .sl 1 false (bs.map B ++ [.int .u8 c]) := by simp [BS]
 cases b <;> simp only [a1, XW, q1, q3, q4, q5, q6, r0, kD, nat, rL, zV, zS, libOf, purI, loadCell, elemsOf, appR, drawEnd, undefI, runDraw, stepD, noRs, opdsOf, pairsOK, okPair, rdOf, quiet, callI, Ts.fill, retI, shut, readRes, tupV, finish, runOps, wantedI, stepOp, getAll, stepCall, addOut, unI, Opd.get, slotN, tag, markW, putCells, putT, rv, bin, binI, Nat.reduceAdd, Nat.reduceSub, Nat.reduceMul, Nat.reduceDiv, Nat.reduceMod, Nat.reducePow, Nat.reduceLT, Nat.reduceLeDiff, Nat.reduceEqDiff, Nat.reduceBEq, Nat.reduceBNe, reduceIte, Int.reduceEq, Int.reduceLT, Int.reduceLE, Int.reduceNeg, Int.reduceToNat, Int.reduceMul, Int.reduceAdd, Int.reduceSub, reduceCtorEq] <;> rfl
structure La where
 bs : List Nat
 far : Bool
def La.ob (w : La) : IObj := .cells [BS w.bs.isEmpty w.bs, .bool w.far]
def La.whole (w : La) (n lo hi : Int) : La := ⟨w.bs ++ nb (zz n % 4611686018427387904), w.far || (decide (n < lo) || decide (n > hi))⟩
def La.number (w : La) (n most : Nat) : La := ⟨w.bs ++ nb (n % 4611686018427387904), w.far || decide ((n : Int) > most)⟩
def La.truth (w : La) (b : Bool) : La := ⟨w.bs ++ [if b then 1 else 0], w.far⟩
def La.byte (w : La) (c : Nat) : La := ⟨w.bs ++ [c], w.far⟩
theorem kB {σ : List IObj} {x : Nat} {o : IObj} (h : x < σ.length) : (σ.set x o)[x]? = some o := by rw [rK h]
theorem Y4 (bs : List Nat) : (!bs.isEmpty && bs.isEmpty) = false := by cases bs <;> rfl
theorem jgD (bs : List Nat) (n : Nat) : (bs ++ nb n).isEmpty = false := by
 have : 0 < (nb n).length := by rw [jbU]; exact Nat.pow_pos (by decide)
 cases h : nb n with
 | nil => rw [h] at this; cases this
 | cons a l => cases bs <;> rfl
theorem take_set {σ : List IObj} {x : Nat} {o : IObj} : (σ.set x o).take σ.length = σ.set x o := by rw [rX]; simp
theorem jbD (h76 : F 102 = some jaa) (h79 : F 105 = some XX) (h77 : F 103 = some QZ) (h80 : F 106 = some yU) (h81 : F 107 = some yf) {x p o : Nat} {w : La} {cs : List IVal} {σ : List IObj} {n lo hi : Int}
   (hx : σ[x]? = some w.ob) (hp : σ[p]? = some (.cells cs)) (ho : cs[o]? = some (I n)) (hn : i64 n) (hb : w.bs.length < 900000) (hne : p ≠ x) :
   ∃ wr, cfw F (.f 102) [.ptr x 0, .ptr p o, I lo, I hi] σ = some ⟨false, .tup [], σ.set x (w.whole n lo hi).ob, wr⟩ /\ wr.all (fun q => !q.2 && q.1 == x) = true := by
 rw [jj jaa h76, callI]
 have p1 := fun σ => jkH h79 h77 h80 h81 hn (r := w.bs.isEmpty) (σ := σ) hb (Y4 _)
 have l0 := ja hx
 have l1 := fun o => kB (σ := σ) (o := o) l0
 have l2 := fun o => get_set (j := x) (x := o) hp (tR hne)
 have l3 := rE (ja hp)
 have l4 := rE l0
 have l5 : (x != p) = true := by simpa using hne.symm
 obtain ⟨bs, far⟩ := w
 rw [La.ob] at hx
 rw [La.ob, La.whole]
 cases far <;> cases hlo : decide (n < lo) <;> cases hhi : decide (n > hi) <;> simp only [jaa, jd, hx, hp, ho, p1, l0, l1, l2, l3, l4, l5, hlo, hhi, tE, rF, take_set, jgD, zV, zS, libOf, purI, loadCell, elemsOf, appR, drawEnd, undefI, runDraw, stepD, noRs, opdsOf, pairsOK, okPair, rdOf, quiet, callI, Ts.fill, retI, shut, readRes, tupV, finish, runOps, wantedI, stepOp, getAll, stepCall, addOut, unI, Opd.get, slotN, tag, markW, putCells, putT, rv, bin, binI, Nat.reduceAdd, Nat.reduceSub, Nat.reduceMul, Nat.reduceDiv, Nat.reduceMod, Nat.reducePow, Nat.reduceLT, Nat.reduceLeDiff, Nat.reduceEqDiff, Nat.reduceBEq, Nat.reduceBNe, reduceIte, Int.reduceEq, Int.reduceLT, Int.reduceLE, Int.reduceNeg, Int.reduceToNat, Int.reduceMul, Int.reduceAdd, Int.reduceSub, reduceCtorEq]
 all_goals exact ⟨_, rfl, by simp⟩
end Go.Idl.Sb
namespace Go.Idl.Sb
open Go Go.Idl Go.Idl.En
variable {F : jn}
theorem jaf (h74 : F 100 = some Z8) (h77 : F 103 = some QZ) (h80 : F 106 = some yU) (h81 : F 107 = some yf) {x p o : Nat} {w : La} {cs : List IVal} {σ : List IObj} {n most : Nat}
   (hx : σ[x]? = some w.ob) (hp : σ[p]? = some (.cells cs)) (ho : cs[o]? = some (Q n)) (hb : w.bs.length < 900000) (hne : p ≠ x) :
   ∃ wr, cfw F (.f 100) [.ptr x 0, .ptr p o, Q most] σ = some ⟨false, .tup [], σ.set x (w.number n most).ob, wr⟩ /\ wr.all (fun q => !q.2 && q.1 == x) = true := by
 rw [jj Z8 h74, callI]
 have p1 := fun σ => P77 h77 h80 h81 (n := n) (r := w.bs.isEmpty) (σ := σ) hb (Y4 _)
 have l0 := ja hx
 have l1 := fun o => kB (σ := σ) (o := o) l0
 have l2 := fun o => get_set (j := x) (x := o) hp (tR hne)
 have l3 := rE (ja hp)
 have l4 := rE l0
 have l5 : (x != p) = true := by simpa using hne.symm
 obtain ⟨bs, far⟩ := w
 rw [La.ob] at hx
 rw [La.ob, La.number]
 cases far <;> cases hhi : decide ((n : Int) > most) <;> simp only [Z8, jd, hx, hp, ho, p1, l0, l1, l2, l3, l4, l5, hhi, tE, rF, take_set, jgD, zV, zS, zD, simprocAttr]
 all_goals exact ⟨_, rfl, by simp⟩
theorem jbC (h75 : F 101 = some Z9) (h78 : F 104 = some XW) {x p o : Nat} {w : La} {cs : List IVal} {σ : List IObj} {b : Bool}
   (hx : σ[x]? = some w.ob) (hp : σ[p]? = some (.cells cs)) (ho : cs[o]? = some (.bool b)) (hb : w.bs.length < 900000) (hne : p ≠ x) :
   ∃ wr, cfw F (.f 101) [.ptr x 0, .ptr p o] σ = some ⟨false, .tup [], σ.set x (w.truth b).ob, wr⟩ /\ wr.all (fun q => !q.2 && q.1 == x) = true := by
 rw [jj Z9 h75, callI]
 have p1 := fun σ => jkI h78 (b := b) (r := w.bs.isEmpty) (σ := σ) hb (Y4 _)
 have l0 := ja hx
 have l1 := fun o => kB (σ := σ) (o := o) l0
 have l2 := fun o => get_set (j := x) (x := o) hp (tR hne)
 have l3 := rE (ja hp)
 have l4 := rE l0
 have l5 : (x != p) = true := by simpa using hne.symm
 obtain ⟨bs, far⟩ := w
 rw [La.ob] at hx
 rw [La.ob, La.truth]
 have ne : ∀ c : Nat, (bs ++ [c]).isEmpty = false := fun c => by cases bs <;> rfl
 simp only [Z9, jd, hx, hp, ho, p1, l0, l1, l2, l3, l4, l5, ne, tE, rF, take_set, jgD, zV, zS, zD, simprocAttr]
 exact ⟨_, rfl, by simp⟩
abbrev Ps (p : Nat) (os : List Nat) : List IVal := os.map fun o => .ptr p o
def La.bytes (w : La) (cs : List IVal) : List Nat -> La
 | [] => w
 | o :: os => (w.byte (match cs[o]? with | some (.int _ n) => n.toNat | _ => 0)).bytes cs os
def isB (v : IVal) : Prop := ∃ n : Nat, v = B n /\ n < 256
theorem jiz {x p : Nat} {cs : List IVal} {σ : List IObj} (hp : σ[p]? = some (.cells cs)) (hne : p ≠ x) {e : Nat} {os : List Nat} (hos : ∀ o ∈ os, ∃ v, cs[o]? = some v /\ isB v) (hlen : os.length < 1000) : ∀ (d i : Nat) (f0 : Nat -> Option (Nat × IVal)) (w : La) (wr : List (Nat × Bool)) (R : Option (IExit × St)),
   evw F (.loop Kz) ⟨E 9 12 5 [] (base f0), σ.set x w.ob, wr⟩ = R -> i + d = os.length -> x < σ.length -> w.bs.length + d < 900000 -> wr.all (fun q => !q.2 && q.1 == x) = true ->
   f0 0 = some (0, .ptr x 0) -> f0 6 = some (6, .sl e true (Ps p os)) -> f0 7 = some (7, I os.length) -> f0 8 = some (8, I i) ->
   ∃ f1 wr', R = some (.exit 0, ⟨E 9 12 5 [] (base f1), σ.set x (w.bytes cs (os.drop i)).ob, wr'⟩) /\ wr'.all (fun q => !q.2 && q.1 == x) = true := by
 intro d
 induction d with
 | zero =>
   intro i f0 w wr R hE hi hx hb hw e0 e6 e7 e8
   have l0 : decide ((i : Int) < (os.length : Int)) = false := rH (by omega)
   rw [jc] at hE
   subst hE
   simp only [Kz, e0, e6, e7, e8, l0, zV, zS, zD, simprocAttr]
   rw [tV (by omega)]
   exact ⟨_, _, rfl, hw⟩
 | succ d ih =>
   intro i f0 w wr R hE hi hx hb hw e0 e6 e7 e8
   have l0 : decide ((i : Int) < (os.length : Int)) = true := rE (by omega)
   have hi2 : i < os.length := by omega
   obtain ⟨v, hv, n, rfl, hn⟩ := hos _ (List.getElem_mem hi2)
   have g1 : os[i]? = some os[i] := rJ hi2
   have d1 : (0 : Int) <= (i : Int) := by omega
   have w1 := kM (n := i) (by omega)
   have l1 := fun o => kB (σ := σ) (o := o) hx
   have l2 := fun o => get_set (j := x) (x := o) hp (tR hne)
   have l3 := rE (ja hp)
   have l5 : (x != p) = true := by simpa using hne.symm
   have q1 : w.bs.length <= 1099511627775 := by omega
   have q2 : (w.bs.map B).isEmpty = w.bs.isEmpty := by cases w.bs <;> rfl
   rw [tA hi2, La.bytes, hv]
   rw [jc] at hE
   obtain ⟨bs, far⟩ := w
   simp only [La.ob, Kz, jd, e0, e6, e7, e8, l0, l1, l2, l3, l5, g1, d1, w1, hv, q1, q2, Y4, rL, tE, rF, zV, zS, zD, simprocAttr] at hE
   have o2 : (La.byte ⟨bs, far⟩ n).ob = .cells [.sl 1 false (bs.map B ++ [.int .u8 n]), .bool far] := by
     have : (bs ++ [n]).isEmpty = false := by cases bs <;> rfl
     simp [La.ob, La.byte, BS, this]
   rw [<- o2] at hE
   have n2 : ((n : Int)).toNat = n := rfl
   simp only [n2]
   exact ih (i + 1) _ _ _ R hE (by omega) hx (by simp [La.byte]; simp only [] at hb; omega) (by simp [hw]) (by first | exact e0 | rfl) (by first | exact e6 | rfl) (by first | exact e7 | rfl) (by rfl)
theorem jbB (h73 : F 99 = some jhs) {x p e : Nat} {w : La} {cs : List IVal} {σ : List IObj} {os : List Nat} (hp : σ[p]? = some (.cells cs)) (hx : σ[x]? = some w.ob) (hne : p ≠ x) (hos : ∀ o ∈ os, ∃ v, cs[o]? = some v /\ isB v) (hlen : os.length < 1000) (hb : w.bs.length < 890000) :
   ∃ wr, cfw F (.f 99) [.ptr x 0, .sl e true (Ps p os)] σ = some ⟨false, .tup [], σ.set x (w.bytes cs os).ob, wr⟩ /\ wr.all (fun q => !q.2 && q.1 == x) = true := by
 rw [jj jhs h73, callI]
 simp only [jhs, zV, zS, zD, simprocAttr]
 generalize hE : evw F (ICode.loop Kz) _ = R
 have l0 := ja hx
 have s0 := jx hx
 rw [<- s0] at hE
 obtain ⟨f1, wr', rfl, hw⟩ := jiz hp hne hos hlen os.length 0 _ w _ R hE (by omega) l0 (by omega) (by rfl) (by rfl) (by rfl) (by rfl) (by rfl)
 simp only [rF, take_set, zV, zS, zD, simprocAttr]
 have w2 : (wr'.all fun q => !q.2 || decide (σ.length <= q.1)) = true := by
   rw [rG] at hw ⊢
   intro q hq; have := hw q hq; simp at this; simp [this]
 rw [if_pos w2]
 refine ⟨_, rfl, ?_⟩
 rw [rG] at hw ⊢
 intro q hq; exact hw q (List.mem_filter.mp hq).1
end Go.Idl.Sb
namespace Go.Idl.Sb
open Go Go.Idl Go.Idl.En
variable {F : jn}
structure Re where
 pos : Nat
 er : Option (Nat × Nat)
def erI : Option (Nat × Nat) -> IVal
 | none => .prim .nilIface
 | some (c, a) => .iface 143 (.pv false [I c, I a] 0)
def Re.ob (s : List UInt8) (w : Re) : IObj := .cells [.str s, I w.pos, erI w.er]
theorem jaW (h : F 61 = some K3) {s : List UInt8} {x : Nat} {w : Re} {σ : List IObj} (hx : σ[x]? = some (w.ob s)) :
   cfw F (.f 61) [.ptr x 0] σ = some ⟨false, .bool w.er.isSome, σ, []⟩ := by
 rw [jj K3 h, callI]
 obtain ⟨pos, er⟩ := w
 cases er with
 | none => simp only [K3, jd, hx, Re.ob, erI, JR, Option.isSome, zV, zS, zD, simprocAttr]
 | some p => obtain ⟨c, a⟩ := p; simp only [K3, jd, hx, Re.ob, erI, JR, Option.isSome, zV, zS, zD, simprocAttr]
theorem Zl (h : F 62 = some Qx) {s : List UInt8} {x : Nat} {w : Re} {σ : List IObj} (hx : σ[x]? = some (w.ob s)) (hs : s.length < 1000000) (hp : w.pos <= s.length) :
   cfw F (.f 62) [.ptr x 0] σ = some ⟨false, I ((s.length - w.pos : Nat) : Int), σ, []⟩ := by
 rw [jj Qx h, callI]
 have w1 : IntKind.i64.wrap ((s.length : Int) - (w.pos : Int)) = ((s.length - w.pos : Nat) : Int) := by rw [jP (by omega) (by omega)]; omega
 obtain ⟨pos, er⟩ := w
 simp only [Qx, jd, hx, Re.ob, w1, zV, zS, zD, simprocAttr]
theorem jfV (h : F 63 = some Zf) {s : List UInt8} {x : Nat} {w : Re} {σ : List IObj} (hx : σ[x]? = some (w.ob s)) :
   cfw F (.f 63) [.ptr x 0] σ = some ⟨false, erI w.er, σ, []⟩ := by
 rw [jj Zf h, callI]
 obtain ⟨pos, er⟩ := w
 cases er with
 | none => simp only [Zf, jd, hx, Re.ob, erI, zV, zS, zD, simprocAttr]
 | some p => obtain ⟨c, a⟩ := p; simp only [Zf, jd, hx, Re.ob, erI, zV, zS, zD, simprocAttr]
theorem jcd (h : F 117 = some Q0) {s : List UInt8} {x : Nat} {w : Re} {σ : List IObj} (hx : σ[x]? = some (w.ob s)) :
   cfw F (.f 117) [.ptr x 0] σ = some ⟨false, I w.pos, σ, []⟩ := by
 rw [jj Q0 h, callI]
 obtain ⟨pos, er⟩ := w
 simp only [Q0, jd, hx, Re.ob, zV, zS, zD, simprocAttr]
def Re.fail (w : Re) (c a : Nat) : Re := if w.er.isSome || decide (c = 0) then w else ⟨w.pos, some (c, a)⟩
theorem Y8 (h : F 116 = some vK) (h40 : F 61 = some K3) {s : List UInt8} {x c a : Nat} {w : Re} {σ : List IObj} (hx : σ[x]? = some (w.ob s)) :
   ∃ wr, cfw F (.f 116) [.ptr x 0, I c, I a] σ = some ⟨false, .tup [], σ.set x ((w.fail c a).ob s), wr⟩ /\ wr.all (fun q => !q.2 && q.1 == x) = true := by
 rw [jj vK h, callI]
 have b0 := jaW h40 hx
 have l0 := ja hx
 have l4 := rE l0
 obtain ⟨pos, er⟩ := w
 cases er with
 | none =>
   by_cases hc : c = 0
   . subst hc
     simp only [Int.natCast_zero, vK, jd, hx, b0, Option.isSome, zV, zS, zD, simprocAttr]
     exact ⟨[], by rw [Re.fail]; simp [jx hx], rfl⟩
   . have c1 : ((c : Int) != 0) = true := by simpa using (show (c : Int) ≠ 0 by omega)
     have c2 : (none : Option (Nat × Nat)).isSome = false := rfl
     have x2 : ext [I c, I a] = false := rfl
     have f2 : qw [.int .i64 0, .int .i64 0] [(0, 1, I c), (1, 1, I a)] = some [I c, I a] := rfl
     simp only [Re.fail, c2, hc, x2, Bool.false_or, vK, jd, hx, b0, c1, f2, l0, l4, Re.ob, erI, Option.isSome, tJ, tU, rF, take_set, zV, zS, zD, simprocAttr]
     exact ⟨_, rfl, by simp⟩
 | some p =>
   obtain ⟨c', a'⟩ := p
   simp only [vK, jd, hx, b0, Option.isSome, zV, zS, zD, simprocAttr]
   exact ⟨[], by rw [Re.fail]; simp [jx hx], rfl⟩
end Go.Idl.Sb
namespace Go.Idl.Sb
open Go Go.Idl Go.Idl.En
variable {F : jn}
def val : List UInt8 -> Nat -> Nat
 | [], a => a
 | x :: xs, a => val xs (a * 256 + x.toNat)
theorem QM : ∀ (xs : List UInt8) (a : Nat), val xs a = a * 256 ^ xs.length + val xs 0
 | [], a => by simp [val]
 | x :: xs, a => by
   rw [val, val, QM xs, QM xs (0 * 256 + x.toNat), tI, Nat.pow_succ', Nat.zero_mul, t7]
   rw [tO, Nat.mul_assoc, Nat.add_assoc]
theorem jcO : ∀ (xs : List UInt8), val xs 0 < 256 ^ xs.length
 | [] => by simp [val]
 | x :: xs => by
   rw [val, QM, tI, Nat.pow_succ']
   have h1 := jcO xs
   have h2 := x.toNat_lt
   have h3 : (x.toNat + 1) * 256 ^ xs.length <= 256 * 256 ^ xs.length := XB _ (by omega)
   rw [tO] at h3
   rw [Nat.zero_mul, t7]
   omega
theorem jgI {a c : Nat} (ha : a < 2 ^ 56) (hc : c < 256) : IntKind.u64.wrap (((BitVec.ofInt IntKind.u64.bits (IntKind.u64.wrap ((a : Int) * 2 ^ 8)) ||| BitVec.ofInt IntKind.u64.bits (IntKind.u64.wrap (c : Int))).toNat : Nat) : Int) = ((a * 256 + c : Nat) : Int) := by
 have e0 : (2 : Int) ^ 8 = 256 := by decide
 have w1 : IntKind.u64.wrap ((a : Int) * 256) = (a : Int) * 256 := jt (by omega) (by omega)
 have w2 : IntKind.u64.wrap (c : Int) = (c : Int) := jt (by omega) (by omega)
 rw [e0, w1, w2]
 have e2 : (BitVec.ofInt IntKind.u64.bits ((a : Int) * 256) ||| BitVec.ofInt IntKind.u64.bits (c : Int)).toNat = a * 256 + c := by
   rw [BitVec.toNat_or]
   have a1 : (BitVec.ofInt IntKind.u64.bits ((a : Int) * 256)).toNat = a * 256 := by
     show (BitVec.ofInt 64 _).toNat = _
     rw [BitVec.toNat_ofInt]; omega
   have a2 : (BitVec.ofInt IntKind.u64.bits (c : Int)).toNat = c := by
     show (BitVec.ofInt 64 _).toNat = _
     rw [BitVec.toNat_ofInt]; omega
   have e : a * 256 = a <<< 8 := by rw [Nat.shiftLeft_eq]
   rw [a1, a2, e, <- Nat.shiftLeft_add_eq_or_of_lt (by simpa using hc)]
 rw [e2, jt (by omega) (by omega)]
theorem jiG {xs : List UInt8} {σ : List IObj} (hl : xs.length <= 8) {e : Nat} : ∀ (d i a : Nat) (f0 : Nat -> Option (Nat × IVal)) (R : Option (IExit × St)),
   evw F (.loop zH) ⟨E 46 8 6 [] (base f0), σ, []⟩ = R -> i + d = xs.length -> a < 256 ^ i ->
   f0 2 = some (2, Q a) -> f0 43 = some (43, .sl e false (xs.map fun c => .int .u8 c.toNat)) -> f0 44 = some (44, I xs.length) -> f0 45 = some (45, I i) ->
   ∃ f1, R = some (.exit 0, ⟨E 46 8 6 [] (base f1), σ, []⟩) /\ f1 2 = some (2, Q (val (xs.drop i) a)) /\ (∀ j, (j = 0 \/ j = 3 \/ j = 5) -> f1 j = f0 j) := by
 intro d
 induction d with
 | zero =>
   intro i a f0 R hE hi ha e2 e3 e4 e5
   have l0 : decide ((i : Int) < (xs.length : Int)) = false := rH (by omega)
   rw [jc] at hE
   subst hE
   simp only [zH, e2, e3, e4, e5, l0, zV, zS, libOf, purI, loadCell, elemsOf, appR, drawEnd, undefI, runDraw, stepD, noRs, opdsOf, pairsOK, okPair, rdOf, quiet, callI, Ts.fill, retI, shut, readRes, tupV, finish, runOps, wantedI, stepOp, getAll, stepCall, addOut, unI, Opd.get, slotN, tag, markW, putCells, putT, rv, bin, binI, Nat.reduceAdd, Nat.reduceSub, Nat.reduceMul, Nat.reduceDiv, Nat.reduceMod, Nat.reducePow, Nat.reduceLT, Nat.reduceLeDiff, Nat.reduceEqDiff, Nat.reduceBEq, Nat.reduceBNe, reduceIte, Int.reduceEq, Int.reduceLT, Int.reduceLE, Int.reduceNeg, Int.reduceToNat, Int.reduceMul, Int.reduceAdd, Int.reduceSub, reduceCtorEq]
   rw [tV (by omega)]
   refine ⟨_, rfl, (by first | exact e2 | rfl), ?_⟩
   rintro j (rfl | rfl | rfl) <;> rfl
 | succ d ih =>
   intro i a f0 R hE hi ha e2 e3 e4 e5
   have l0 : decide ((i : Int) < (xs.length : Int)) = true := rE (by omega)
   have hi2 : i < xs.length := by omega
   have g1 : xs[i]? = some xs[i] := rJ hi2
   have d1 : (0 : Int) <= (i : Int) := by omega
   have w1 := kM (n := i) (by omega)
   have ha2 : a < 2 ^ 56 := by
     have : 256 ^ i <= 256 ^ 7 := Nat.pow_le_pow_right (by decide) (by omega)
     simp at this ⊢; omega
   have c2 := xs[i].toNat_lt
   have o1 := jgI ha2 (c := xs[i].toNat) (by omega)
   have m8 : min 8 IntKind.u64.bits = 8 := rfl
   rw [tA hi2, val]
   rw [jc] at hE
   simp only [zH, jd, e2, e3, e4, e5, l0, g1, d1, w1, o1, m8, qV, vQ, rL, zV, zS, libOf, purI, loadCell, elemsOf, appR, drawEnd, undefI, runDraw, stepD, noRs, opdsOf, pairsOK, okPair, rdOf, quiet, callI, Ts.fill, retI, shut, readRes, tupV, finish, runOps, wantedI, stepOp, getAll, stepCall, addOut, unI, Opd.get, slotN, tag, markW, putCells, putT, rv, bin, binI, Nat.reduceAdd, Nat.reduceSub, Nat.reduceMul, Nat.reduceDiv, Nat.reduceMod, Nat.reducePow, Nat.reduceLT, Nat.reduceLeDiff, Nat.reduceEqDiff, Nat.reduceBEq, Nat.reduceBNe, reduceIte, Int.reduceEq, Int.reduceLT, Int.reduceLE, Int.reduceNeg, Int.reduceToNat, Int.reduceMul, Int.reduceAdd, Int.reduceSub, reduceCtorEq] at hE
   obtain ⟨f1, h1, h2, h3⟩ := ih (i + 1) (a * 256 + xs[i].toNat) _ R hE (by omega) (by rw [Nat.pow_succ]; omega) (by rfl) (by first | exact e3 | rfl) (by first | exact e4 | rfl) (by rfl)
   refine ⟨f1, h1, h2, ?_⟩
   intro j hj
   rw [h3 j hj]
   rcases hj with rfl | rfl | rfl <;> rfl
theorem jaV {k t r : Nat} (hr : r < 2 ^ k) (hb : 2 ^ k * t + r < 2 ^ 64) : (BitVec.ofNat 64 (2 ^ k * t + r) &&& ~~~ BitVec.ofNat 64 (2 ^ k * t)).toNat = r := by
 have hr64 : r < 2 ^ 64 := by omega
 have e : BitVec.ofNat 64 (2 ^ k * t + r) &&& ~~~ BitVec.ofNat 64 (2 ^ k * t) = BitVec.ofNat 64 r := by
   apply BitVec.eq_of_getLsbD_eq
   intro i hi
   rw [BitVec.getLsbD_and, BitVec.getLsbD_not, BitVec.getLsbD_ofNat, BitVec.getLsbD_ofNat, BitVec.getLsbD_ofNat, Nat.testBit_two_pow_mul_add _ hr, Nat.testBit_two_pow_mul]
   simp only [hi, decide_true, Bool.true_and]
   by_cases h : i < k
   . have : decide (i ≥ k) = false := rH (by omega)
     simp only [h, if_true, this, Bool.false_and, Bool.not_false, Bool.and_true]
   . have h2 : decide (i ≥ k) = true := rE (by omega)
     have h3 : r.testBit i = false := Nat.testBit_lt_two_pow (Nat.lt_of_lt_of_le hr (Nat.pow_le_pow_right (by decide) (by omega)))
     simp only [h, if_false, h2, Bool.true_and, Bool.and_not_self, h3]
 rw [e, BitVec.toNat_ofNat, Nat.mod_eq_of_lt hr64]
theorem jkL {m t k : Nat} (hk : 2 ^ k * t + m % 2 ^ k = m) (hm : m < 2 ^ 64) : IntKind.u64.wrap (((BitVec.ofInt IntKind.u64.bits (m : Int) &&& ~~~ BitVec.ofInt IntKind.u64.bits (IntKind.u64.wrap ((t : Int) * 2 ^ k))).toNat : Nat) : Int) = ((m % 2 ^ k : Nat) : Int) := by
 have hr : m % 2 ^ k < 2 ^ k := Nat.mod_lt _ (Nat.pow_pos (by decide))
 have e1 : IntKind.u64.wrap ((t : Int) * 2 ^ k) = ((2 ^ k * t : Nat) : Int) := by
   rw [pw, <- Int.natCast_mul, jt (by omega) (by rw [Nat.mul_comm]; omega), Nat.mul_comm]
 have e2 : BitVec.ofInt IntKind.u64.bits (m : Int) = BitVec.ofNat 64 (2 ^ k * t + m % 2 ^ k) := by
   rw [hk]; exact BitVec.ofInt_natCast 64 m
 have e3 : BitVec.ofInt IntKind.u64.bits ((2 ^ k * t : Nat) : Int) = BitVec.ofNat 64 (2 ^ k * t) := BitVec.ofInt_natCast 64 _
 rw [e1, e2, e3]
 have e4 := jaV hr (by omega : 2 ^ k * t + m % 2 ^ k < 2 ^ 64)
 have e5 : ((BitVec.ofNat 64 (2 ^ k * t + m % 2 ^ k) &&& ~~~ BitVec.ofNat 64 (2 ^ k * t) : BitVec 64).toNat : Int) = ((m % 2 ^ k : Nat) : Int) := by rw [e4]
 refine Eq.trans (congrArg _ e5) ?_
 rw [jt (by omega) (by omega)]
def zn : List UInt8 -> Nat × Nat × Nat
 | [] => (0, 0, 3)
 | x :: xs =>
   let t := x.toNat / 64
   if xs.length + 1 < 2 ^ t then (0, 0, 3) else
   let n := val ((x :: xs).take (2 ^ t)) 0 % 2 ^ (8 * 2 ^ t - 2)
   if srt n = t then (n, 2 ^ t, 0) else (0, 0, 5)
theorem YN {x : UInt8} {xs : List UInt8} {t : Nat} (ht : x.toNat / 64 = t) (hl : ¬ xs.length + 1 < 2 ^ t) : 2 ^ (8 * 2 ^ t - 2) * t + val ((x :: xs).take (2 ^ t)) 0 % 2 ^ (8 * 2 ^ t - 2) = val ((x :: xs).take (2 ^ t)) 0 /\ val ((x :: xs).take (2 ^ t)) 0 < 2 ^ 64 := by
 have ht4 : t < 4 := by have := x.toNat_lt; omega
 have hp : 0 < 2 ^ t := Nat.pow_pos (by decide)
 obtain ⟨L, hL⟩ : ∃ L, 2 ^ t = L + 1 := ⟨2 ^ t - 1, by omega⟩
 have h8 : L + 1 <= 8 := by
   rw [<- hL]
   have : 2 ^ t <= 2 ^ 3 := Nat.pow_le_pow_right (by decide) (by omega)
   omega
 rw [hL, tD, val, QM]
 have l1 : (xs.take L).length = L := by rw [tL]; omega
 have v1 := jcO (xs.take L)
 rw [l1] at v1 ⊢
 have k1 : 8 * (L + 1) - 2 = 6 + 8 * L := by omega
 have k2 : 2 ^ (6 + 8 * L) = 64 * 256 ^ L := by rw [Nat.pow_add, Nat.pow_mul]
 have x1 : x.toNat = 64 * t + x.toNat % 64 := by omega
 have x2 : x.toNat % 64 < 64 := Nat.mod_lt _ (by decide)
 have b1 : x.toNat * 256 ^ L + val (xs.take L) 0 < 256 ^ (L + 1) := by
   have h3 : (x.toNat + 1) * 256 ^ L <= 256 * 256 ^ L := XB _ (by have := x.toNat_lt; omega)
   rw [tO] at h3
   rw [Nat.pow_succ']; omega
 have b2 : 256 ^ (L + 1) <= 256 ^ 8 := Nat.pow_le_pow_right (by decide) h8
 rw [Nat.zero_mul, t7, k1, k2]
 refine ⟨?_, by simp at b2 ⊢; omega⟩
 have e : x.toNat * 256 ^ L + val (xs.take L) 0 = 64 * 256 ^ L * t + (x.toNat % 64 * 256 ^ L + val (xs.take L) 0) := by
   conv => lhs; rw [x1]
   rw [tO, Nat.add_assoc, Nat.mul_right_comm]
 have r1 : x.toNat % 64 * 256 ^ L + val (xs.take L) 0 < 64 * 256 ^ L := by
   have h3 : (x.toNat % 64 + 1) * 256 ^ L <= 64 * 256 ^ L := XB _ (by omega)
   rw [tO] at h3; omega
 rw [e, Nat.mul_add_mod, Nat.mod_eq_of_lt r1]
end Go.Idl.Sb
namespace Go.Idl.Sb
open Go Go.Idl Go.Idl.En
variable {F : jn}
theorem jd0 (h : F 122 = some Jq) (h41 : F 62 = some Qx) (h80 : F 106 = some yU) (h81 : F 107 = some yf) {s : List UInt8} {x : Nat} {w : Re} {σ : List IObj} (hx : σ[x]? = some (w.ob s)) (hs : s.length < 1000000) (hp : w.pos <= s.length) :
   cfw F (.f 122) [.ptr x 0] σ = some ⟨false, .tup [Q (zn (s.drop w.pos)).1, I (zn (s.drop w.pos)).2.1, I (zn (s.drop w.pos)).2.2], σ, []⟩ := by
 rw [jj Jq h, callI]
 have lf := fun σ' (h' : σ'[x]? = some (w.ob s)) => Zl h41 h' hs hp
 have lf0 := lf σ hx
 have so := fun n σ => jfo h80 h81 n σ
 obtain ⟨pos, er⟩ := w
 simp only [] at hp lf0 ⊢
 by_cases h0 : pos = s.length
 . have d0 : s.drop pos = [] := by rw [tV (by omega)]
   have l0 : s.length - pos = 0 := by omega
   have z0 : (((0 : Nat) : Int) == 0) = true := rfl
   simp only [d0, zn, l0, lf0, z0, Jq, zV, zS, libOf, purI, loadCell, elemsOf, appR, drawEnd, undefI, runDraw, stepD, noRs, opdsOf, pairsOK, okPair, rdOf, quiet, callI, Ts.fill, retI, shut, readRes, tupV, finish, runOps, wantedI, stepOp, getAll, stepCall, addOut, unI, Opd.get, slotN, tag, markW, putCells, putT, rv, bin, binI, Nat.reduceAdd, Nat.reduceSub, Nat.reduceMul, Nat.reduceDiv, Nat.reduceMod, Nat.reducePow, Nat.reduceLT, Nat.reduceLeDiff, Nat.reduceEqDiff, Nat.reduceBEq, Nat.reduceBNe, reduceIte, Int.reduceEq, Int.reduceLT, Int.reduceLE, Int.reduceNeg, Int.reduceToNat, Int.reduceMul, Int.reduceAdd, Int.reduceSub, reduceCtorEq]
   try rfl
 . have hlt : pos < s.length := by omega
   have g1 : s[pos]? = some s[pos] := rJ hlt
   rw [tA hlt]
   generalize hc : s[pos] = c at *
   generalize ht : c.toNat / 64 = t
   have c2 := c.toNat_lt
   have ht4 : t < 4 := by omega
   have by81 := fun σ => QQ h81 ht4 σ
   have z0 : (((s.length - pos : Nat) : Int) == 0) = false := by simp; omega
   have k6 : min 6 IntKind.u8.bits = 6 := rfl
   have w1 : IntKind.i64.wrap ((t : Nat) : Int) = (t : Int) := jP (by omega) (by omega)
   have d1 : (0 : Int) <= (pos : Int) := by omega
   have f6 : (c.toNat : Int).fdiv (2 ^ 6) = ((t : Nat) : Int) := by rw [fd]; rw [<- ht]
   rw [zn]
   simp only [ht]
   by_cases hl : (s.drop (pos + 1)).length + 1 < 2 ^ t
   . have l1 : decide (((s.length - pos : Nat) : Int) < ((2 ^ t : Nat) : Int)) = true := by
       rw [List.length_drop] at hl
       exact rE (by omega)
     rw [if_pos hl]
     simp only [Jq, jd, hx, Re.ob, lf0, z0, g1, k6, w1, d1, f6, by81, l1, qV, vQ, rL, zV, zS, libOf, purI, loadCell, elemsOf, appR, drawEnd, undefI, runDraw, stepD, noRs, opdsOf, pairsOK, okPair, rdOf, quiet, callI, Ts.fill, retI, shut, readRes, tupV, finish, runOps, wantedI, stepOp, getAll, stepCall, addOut, unI, Opd.get, slotN, tag, markW, putCells, putT, rv, bin, binI, Nat.reduceAdd, Nat.reduceSub, Nat.reduceMul, Nat.reduceDiv, Nat.reduceMod, Nat.reducePow, Nat.reduceLT, Nat.reduceLeDiff, Nat.reduceEqDiff, Nat.reduceBEq, Nat.reduceBNe, reduceIte, Int.reduceEq, Int.reduceLT, Int.reduceLE, Int.reduceNeg, Int.reduceToNat, Int.reduceMul, Int.reduceAdd, Int.reduceSub, reduceCtorEq]
     try rfl
   . rw [if_neg hl]
     have hlen := hl
     rw [List.length_drop] at hlen
     have k8 : 2 ^ t <= 8 := by
       have : 2 ^ t <= 2 ^ 3 := Nat.pow_le_pow_right (by decide) (by omega)
       omega
     have ⟨l1, w2, d2, q1, q2⟩ : decide (((s.length - pos : Nat) : Int) < ((2 ^ t : Nat) : Int)) = false /\ IntKind.i64.wrap ((pos : Int) + ((2 ^ t : Nat) : Int)) = ((pos + 2 ^ t : Nat) : Int) /\ (0 : Int) <= ((pos + 2 ^ t : Nat) : Int) /\ pos <= pos + 2 ^ t /\ pos + 2 ^ t <= s.length := by
       clear by81 hl
       generalize 2 ^ t = M at *
       refine ⟨rH (by omega), by rw [jP (by omega) (by omega)]; omega, by omega, by omega, by omega⟩
     have sl : (s.take (pos + 2 ^ t)).drop pos = (c :: s.drop (pos + 1)).take (2 ^ t) := by
       rw [<- hc, <- tA hlt, List.drop_take]; congr 1; omega
     obtain ⟨v1, v2⟩ := YN ht hl
     have sll : ((c :: s.drop (pos + 1)).take (2 ^ t)).length = 2 ^ t := by rw [tL, tI, List.length_drop]; omega
     simp only [Jq, jd, hx, Re.ob, lf0, z0, g1, k6, w1, w2, d1, d2, q1, q2, f6, by81, l1, sl, Option.toList_some, Option.toList_none, kD, nat, qV, vQ, rL, zV, zS, libOf, purI, loadCell, elemsOf, appR, drawEnd, undefI, runDraw, stepD, noRs, opdsOf, pairsOK, okPair, rdOf, quiet, callI, Ts.fill, retI, shut, readRes, tupV, finish, runOps, wantedI, stepOp, getAll, stepCall, addOut, unI, Opd.get, slotN, tag, markW, putCells, putT, rv, bin, binI, Nat.reduceAdd, Nat.reduceSub, Nat.reduceMul, Nat.reduceDiv, Nat.reduceMod, Nat.reducePow, Nat.reduceLT, Nat.reduceLeDiff, Nat.reduceEqDiff, Nat.reduceBEq, Nat.reduceBNe, reduceIte, Int.reduceEq, Int.reduceLT, Int.reduceLE, Int.reduceNeg, Int.reduceToNat, Int.reduceMul, Int.reduceAdd, Int.reduceSub, reduceCtorEq]
     generalize hxs : (c :: s.drop (pos + 1)).take (2 ^ t) = xs at *
     generalize hE : evw F (ICode.loop zH) _ = R
     obtain ⟨f1, rfl, a2, ar⟩ := jiG (xs := xs) (by omega) xs.length 0 0 _ R hE (by omega) (by decide) (by rfl) (by rfl) (by rfl) (by rfl)
     have a3 : f1 3 = some (3, I ((2 ^ t : Nat) : Int)) := by rw [ar 3 (by simp)]; exact (by rfl)
     have a5 : f1 5 = some (5, I (t : Int)) := by rw [ar 5 (by simp)]; exact (by rfl)
     have u1 : IntKind.u64.wrap ((t : Nat) : Int) = ((t : Nat) : Int) := jt (by omega) (by omega)
     obtain ⟨y1, y2, y3⟩ := shw ht4
     rw [rL] at y3
     have an := jkL v1 v2
     rw [List.drop_zero] at a2
     generalize hn : val xs 0 % 2 ^ (8 * 2 ^ t - 2) = n at *
     have so2 := fun σ => so n σ
     by_cases hs2 : srt n = t
     . have z1 : (((srt n : Nat) : Int) != (t : Int)) = false := by simp [hs2]
       rw [if_pos hs2]
       simp only [a2, a3, a5, u1, y1, y2, y3, an, so2, z1, qV, vQ, rL, zV, zS, libOf, purI, loadCell, elemsOf, appR, drawEnd, undefI, runDraw, stepD, noRs, opdsOf, pairsOK, okPair, rdOf, quiet, callI, Ts.fill, retI, shut, readRes, tupV, finish, runOps, wantedI, stepOp, getAll, stepCall, addOut, unI, Opd.get, slotN, tag, markW, putCells, putT, rv, bin, binI, Nat.reduceAdd, Nat.reduceSub, Nat.reduceMul, Nat.reduceDiv, Nat.reduceMod, Nat.reducePow, Nat.reduceLT, Nat.reduceLeDiff, Nat.reduceEqDiff, Nat.reduceBEq, Nat.reduceBNe, reduceIte, Int.reduceEq, Int.reduceLT, Int.reduceLE, Int.reduceNeg, Int.reduceToNat, Int.reduceMul, Int.reduceAdd, Int.reduceSub, reduceCtorEq]
       try rfl
     . have z1 : (((srt n : Nat) : Int) != (t : Int)) = true := by simp; omega
       rw [if_neg hs2]
       simp only [a2, a3, a5, u1, y1, y2, y3, an, so2, z1, qV, vQ, rL, zV, zS, libOf, purI, loadCell, elemsOf, appR, drawEnd, undefI, runDraw, stepD, noRs, opdsOf, pairsOK, okPair, rdOf, quiet, callI, Ts.fill, retI, shut, readRes, tupV, finish, runOps, wantedI, stepOp, getAll, stepCall, addOut, unI, Opd.get, slotN, tag, markW, putCells, putT, rv, bin, binI, Nat.reduceAdd, Nat.reduceSub, Nat.reduceMul, Nat.reduceDiv, Nat.reduceMod, Nat.reducePow, Nat.reduceLT, Nat.reduceLeDiff, Nat.reduceEqDiff, Nat.reduceBEq, Nat.reduceBNe, reduceIte, Int.reduceEq, Int.reduceLT, Int.reduceLE, Int.reduceNeg, Int.reduceToNat, Int.reduceMul, Int.reduceAdd, Int.reduceSub, reduceCtorEq]
       try rfl
end Go.Idl.Sb
namespace Go.Idl.Sb
open Go Go.Idl Go.Idl.En
variable {F : jn}
theorem jbZ : ∀ (xs : List UInt8), (zn xs).2.1 <= xs.length
 | [] => rS _
 | x :: xs => by
   rw [zn]
   generalize x.toNat / 64 = t
   simp only []
   split
   . exact Nat.zero_le _
   . split
     . rename_i h _; rw [tI]; simp only []; omega
     . exact Nat.zero_le _
theorem jgG : ∀ (xs : List UInt8), (zn xs).1 < 4611686018427387904
 | [] => by decide
 | x :: xs => by
   rw [zn]
   have ht : x.toNat / 64 < 4 := by have := x.toNat_lt; omega
   generalize x.toNat / 64 = t at *
   simp only []
   split
   . decide
   . split
     . simp only []
       refine Nat.lt_of_lt_of_le (Nat.mod_lt _ (Nat.pow_pos (by decide))) ?_
       match t, ht with
       | 0, _ => decide
       | 1, _ => decide
       | 2, _ => decide
       | 3, _ => decide
     . decide
theorem jdx (w : Re) (c a : Nat) : (w.fail c a).pos = w.pos := by rw [Re.fail]; split <;> rfl
theorem jfY (w : Re) (c a : Nat) (s : List UInt8) : (w.fail c a).ob s = .cells [.str s, I w.pos, erI (w.fail c a).er] := by rw [Re.ob, jdx]
theorem kL {x n : Nat} {wr : List (Nat × Bool)} (h : wr.all (fun q => !q.2 && q.1 == x) = true) (hx : x < n) : wr.all (fun p => !p.2 || decide (n <= p.1)) = true /\ wr.filter (fun p => decide (p.1 < n)) = wr := by
 rw [rG] at h ⊢
 refine ⟨fun q hq => ?_, List.filter_eq_self.mpr fun q hq => ?_⟩
 . have := h q hq; simp at this; simp [this]
 . have := h q hq; simp at this; simp [this, hx]
def Re.u (s : List UInt8) (w : Re) : Re × Nat := if w.er.isSome then (w, 0) else (⟨w.pos + (zn (s.drop w.pos)).2.1, (w.fail (zn (s.drop w.pos)).2.2 w.pos).er⟩, (zn (s.drop w.pos)).1)
theorem u89 (h : F 118 = some Kk) (h87 : F 116 = some vK) (h40 : F 61 = some K3) (h93 : F 122 = some Jq) (h41 : F 62 = some Qx) (h80 : F 106 = some yU) (h81 : F 107 = some yf) {s : List UInt8} {x : Nat} {w : Re} {σ : List IObj} (hx : σ[x]? = some (w.ob s)) (hs : s.length < 1000000) (hp : w.pos <= s.length) :
   ∃ wr, cfw F (.f 118) [.ptr x 0] σ = some ⟨false, Q (w.u s).2, σ.set x ((w.u s).1.ob s), wr⟩ /\ wr.all (fun q => !q.2 && q.1 == x) = true := by
 rw [jj Kk h, callI]
 have b0 := jaW h40 hx
 have n0 := jd0 h93 h41 h80 h81 hx hs hp
 have l0 := ja hx
 have l4 := rE l0
 cases he : w.er with
 | some e =>
   rw [Re.u, he]
   rw [he] at b0
   simp only [Kk, b0, Option.isSome, zV, zS, zD, simprocAttr]
   exact ⟨[], by simp [jx hx], rfl⟩
 | none =>
   rw [he] at b0
   obtain ⟨wr, f0, hw⟩ := Y8 h87 h40 (c := (zn (s.drop w.pos)).2.2) (a := w.pos) hx
   obtain ⟨wp1, wp2⟩ := kL hw l0
   rw [jfY] at f0
   have l1 := fun o => kB (σ := σ) (o := o) l0
   have w1 : IntKind.i64.wrap ((w.pos : Int) + ((zn (s.drop w.pos)).2.1 : Int)) = ((w.pos + (zn (s.drop w.pos)).2.1 : Nat) : Int) := by
     have := jbZ (s.drop w.pos)
     rw [List.length_drop] at this
     rw [jP (by omega) (by omega)]; omega
   rw [Re.u, he]
   have e2 : (none : Option (Nat × Nat)).isSome = false := rfl
   simp only [e2, if_neg, tF, Re.ob]
   rw [Re.ob] at hx
   simp only [Kk, jd, hx, b0, n0, f0, l0, l1, l4, w1, wp1, wp2, tE, rF, take_set, rQ, List.filter_append, Option.isSome, zV, zS, zD, simprocAttr]
   exact ⟨_, rfl, by simp [hw]⟩
end Go.Idl.Sb
namespace Go.Idl.Sb
open Go Go.Idl Go.Idl.En
variable {F : jn}
def JD (n : Nat) : Int := if n % 2 = 0 then ((n / 2 : Nat) : Int) else -((n / 2 : Nat) : Int) - 1
theorem jkK (n : Nat) : IntKind.u64.wrap (((BitVec.ofInt IntKind.u64.bits (n : Int) &&& BitVec.ofInt IntKind.u64.bits 1).toNat : Nat) : Int) = ((n % 2 : Nat) : Int) := by
 have e1 : (BitVec.ofInt IntKind.u64.bits (n : Int) &&& BitVec.ofInt IntKind.u64.bits 1).toNat = n % 2 := by
   rw [BitVec.toNat_and]
   have a1 : (BitVec.ofInt IntKind.u64.bits (n : Int)).toNat = n % 2 ^ 64 := by
     show (BitVec.ofInt 64 (n : Int)).toNat = _
     rw [BitVec.toNat_ofInt]; omega
   have a2 : (BitVec.ofInt IntKind.u64.bits 1).toNat = 2 ^ 1 - 1 := rfl
   rw [a1, a2, Nat.and_two_pow_sub_one_eq_mod]
   omega
 rw [e1, jt (by omega) (by omega)]
theorem jcL {n : Nat} (h : n < 4611686018427387904) : IntKind.i64.wrap (((BitVec.ofInt IntKind.i64.bits (IntKind.i64.wrap ((n / 2 ^ 1 : Nat) : Int)) ^^^ BitVec.ofInt IntKind.i64.bits (IntKind.i64.wrap (0 - IntKind.i64.wrap ((n % 2 : Nat) : Int)))).toNat : Nat) : Int) = JD n := by
 have w1 : IntKind.i64.wrap ((n / 2 ^ 1 : Nat) : Int) = ((n / 2 : Nat) : Int) := jP (by omega) (by omega)
 have w2 : IntKind.i64.wrap ((n % 2 : Nat) : Int) = ((n % 2 : Nat) : Int) := jP (by omega) (by omega)
 have w3 : IntKind.i64.wrap (0 - ((n % 2 : Nat) : Int)) = -((n % 2 : Nat) : Int) := by rw [jP (by omega) (by omega)]; omega
 rw [w1, w2, w3]
 unfold JD
 split
 . rename_i h0
   rw [h0]
   have e3 : (BitVec.ofInt IntKind.i64.bits ((n / 2 : Nat) : Int) ^^^ BitVec.ofInt IntKind.i64.bits (-((0 : Nat) : Int))).toNat = n / 2 := by
     show (BitVec.ofInt 64 ((n / 2 : Nat) : Int) ^^^ 0#64).toNat = _
     rw [BitVec.xor_zero, BitVec.toNat_ofInt]; omega
   rw [e3, jP (by omega) (by omega)]
 . rename_i h0
   have h1 : n % 2 = 1 := by omega
   rw [h1]
   have e3 : (BitVec.ofInt IntKind.i64.bits ((n / 2 : Nat) : Int) ^^^ BitVec.ofInt IntKind.i64.bits (-((1 : Nat) : Int))).toNat = 18446744073709551615 - n / 2 := by
     show (BitVec.ofInt 64 ((n / 2 : Nat) : Int) ^^^ BitVec.ofInt 64 (-1)).toNat = _
     have e4 : BitVec.ofInt 64 (-1) = BitVec.allOnes 64 := by decide
     rw [e4, BitVec.xor_allOnes, BitVec.toNat_not, BitVec.toNat_ofInt]; omega
   rw [e3]
   have : IntKind.i64.wrap ((18446744073709551615 - n / 2 : Nat) : Int) = -((n / 2 : Nat) : Int) - 1 := by
     simp only [IntKind.wrap, IntKind.bits, IntKind.signed]; simp; omega
   exact this
theorem jje (s : List UInt8) (w : Re) : (w.u s).2 < 4611686018427387904 := by
 rw [Re.u]; split
 . show 0 < 4611686018427387904
   decide
 . exact jgG _
theorem i92 (h : F 121 = some VU) (h89 : F 118 = some Kk) (h87 : F 116 = some vK) (h40 : F 61 = some K3) (h93 : F 122 = some Jq) (h41 : F 62 = some Qx) (h80 : F 106 = some yU) (h81 : F 107 = some yf) {s : List UInt8} {x : Nat} {w : Re} {σ : List IObj} (hx : σ[x]? = some (w.ob s)) (hs : s.length < 1000000) (hp : w.pos <= s.length) :
   ∃ wr, cfw F (.f 121) [.ptr x 0] σ = some ⟨false, I (JD (w.u s).2), σ.set x ((w.u s).1.ob s), wr⟩ /\ wr.all (fun q => !q.2 && q.1 == x) = true := by
 rw [jj VU h, callI]
 obtain ⟨wr, u0, hw⟩ := u89 h89 h87 h40 h93 h41 h80 h81 hx hs hp
 have l0 := ja hx
 obtain ⟨wp1, wp2⟩ := kL hw l0
 have z1 := jcL (jje s w)
 have a1 := jkK (w.u s).2
 have m1 : min 1 IntKind.u64.bits = 1 := rfl
 simp only [VU, u0, z1, a1, m1, fd, wp1, wp2, qV, Int.reduceToNat, rF, take_set, zV, zS, libOf, purI, loadCell, elemsOf, appR, drawEnd, undefI, runDraw, stepD, noRs, opdsOf, pairsOK, okPair, rdOf, quiet, callI, Ts.fill, retI, shut, readRes, tupV, finish, runOps, wantedI, stepOp, getAll, stepCall, addOut, unI, Opd.get, slotN, tag, markW, putCells, putT, rv, bin, binI, Nat.reduceAdd, Nat.reduceSub, Nat.reduceMul, Nat.reduceDiv, Nat.reduceMod, Nat.reducePow, Nat.reduceLT, Nat.reduceLeDiff, Nat.reduceEqDiff, Nat.reduceBEq, Nat.reduceBNe, reduceIte, Int.reduceEq, Int.reduceLT, Int.reduceLE, Int.reduceNeg, Int.reduceMul, Int.reduceAdd, Int.reduceSub, reduceCtorEq]
 exact ⟨_, rfl, hw⟩
def Re.b (s : List UInt8) (w : Re) : Re × Nat := if w.er.isSome then (w, 0) else match s[w.pos]? with
 | none => (⟨w.pos, some (3, w.pos)⟩, 0)
 | some c => (⟨w.pos + 1, none⟩, c.toNat)
theorem b82 (h : F 111 = some Jp) (h87 : F 116 = some vK) (h40 : F 61 = some K3) (h41 : F 62 = some Qx) {s : List UInt8} {x : Nat} {w : Re} {σ : List IObj} (hx : σ[x]? = some (w.ob s)) (hs : s.length < 1000000) (hp : w.pos <= s.length) :
   ∃ wr, cfw F (.f 111) [.ptr x 0] σ = some ⟨false, B (w.b s).2, σ.set x ((w.b s).1.ob s), wr⟩ /\ wr.all (fun q => !q.2 && q.1 == x) = true := by
 rw [jj Jp h, callI]
 have b0 := jaW h40 hx
 have n0 := Zl h41 hx hs hp
 have l0 := ja hx
 have l4 := rE l0
 obtain ⟨pos, er⟩ := w
 cases er with
 | some e =>
   simp only [Jp, b0, Option.isSome, zV, zS, libOf, purI, loadCell, elemsOf, appR, drawEnd, undefI, runDraw, stepD, noRs, opdsOf, pairsOK, okPair, rdOf, quiet, callI, Ts.fill, retI, shut, readRes, tupV, finish, runOps, wantedI, stepOp, getAll, stepCall, addOut, unI, Opd.get, slotN, tag, markW, putCells, putT, rv, bin, binI, Nat.reduceAdd, Nat.reduceSub, Nat.reduceMul, Nat.reduceDiv, Nat.reduceMod, Nat.reducePow, Nat.reduceLT, Nat.reduceLeDiff, Nat.reduceEqDiff, Nat.reduceBEq, Nat.reduceBNe, reduceIte, Int.reduceEq, Int.reduceLT, Int.reduceLE, Int.reduceNeg, Int.reduceToNat, Int.reduceMul, Int.reduceAdd, Int.reduceSub, reduceCtorEq]
   exact ⟨[], by simp [Re.b, jx hx], rfl⟩
 | none =>
   obtain ⟨wr, f0, hw⟩ := Y8 h87 h40 (c := 3) (a := pos) hx
   have f0 : cfw F (.f 116) [.ptr x 0, I 3, I pos] σ = some ⟨false, .tup [], σ.set x (Re.ob s ⟨pos, some (3, pos)⟩), wr⟩ := f0
   obtain ⟨wp1, wp2⟩ := kL hw l0
   have l1 := fun o => kB (σ := σ) (o := o) l0
   have hx2 := hx
   rw [Re.ob] at hx
   simp only [] at hp hx n0
   by_cases h0 : pos = s.length
   . have g0 : s[pos]? = none := rY (by omega)
     have z0 : (((s.length - pos : Nat) : Int) == 0) = true := by simp; omega
     simp only [Jp, jd, b0, n0, hx, z0, f0, wp1, wp2, tE, rF, take_set, Option.isSome, zV, zS, libOf, purI, loadCell, elemsOf, appR, drawEnd, undefI, runDraw, stepD, noRs, opdsOf, pairsOK, okPair, rdOf, quiet, callI, Ts.fill, retI, shut, readRes, tupV, finish, runOps, wantedI, stepOp, getAll, stepCall, addOut, unI, Opd.get, slotN, tag, markW, putCells, putT, rv, bin, binI, Nat.reduceAdd, Nat.reduceSub, Nat.reduceMul, Nat.reduceDiv, Nat.reduceMod, Nat.reducePow, Nat.reduceLT, Nat.reduceLeDiff, Nat.reduceEqDiff, Nat.reduceBEq, Nat.reduceBNe, reduceIte, Int.reduceEq, Int.reduceLT, Int.reduceLE, Int.reduceNeg, Int.reduceToNat, Int.reduceMul, Int.reduceAdd, Int.reduceSub, reduceCtorEq]
     exact ⟨wr, by simp [Re.b, g0], hw⟩
   . have hlt : pos < s.length := by omega
     have g1 : s[pos]? = some s[pos] := rJ hlt
     have z0 : (((s.length - pos : Nat) : Int) == 0) = false := by simp; omega
     have w1 := kM (n := pos) (by omega)
     have d1 : (0 : Int) <= (pos : Int) := by omega
     simp only [Jp, jd, b0, n0, hx, z0, g1, d1, w1, l0, l1, l4, tE, rF, take_set, rL, Option.isSome, zV, zS, libOf, purI, loadCell, elemsOf, appR, drawEnd, undefI, runDraw, stepD, noRs, opdsOf, pairsOK, okPair, rdOf, quiet, callI, Ts.fill, retI, shut, readRes, tupV, finish, runOps, wantedI, stepOp, getAll, stepCall, addOut, unI, Opd.get, slotN, tag, markW, putCells, putT, rv, bin, binI, Nat.reduceAdd, Nat.reduceSub, Nat.reduceMul, Nat.reduceDiv, Nat.reduceMod, Nat.reducePow, Nat.reduceLT, Nat.reduceLeDiff, Nat.reduceEqDiff, Nat.reduceBEq, Nat.reduceBNe, reduceIte, Int.reduceEq, Int.reduceLT, Int.reduceLE, Int.reduceNeg, Int.reduceToNat, Int.reduceMul, Int.reduceAdd, Int.reduceSub, reduceCtorEq]
     exact ⟨_, by simp [Re.b, Re.ob, g1, erI]; rfl, by simp⟩
def Re.t (s : List UInt8) (w : Re) : Re × Bool := if w.er.isSome then (w, false) else match s[w.pos]? with
 | none => (⟨w.pos, some (3, w.pos)⟩, false)
 | some c => if c.toNat > 1 then (⟨w.pos, some (5, w.pos)⟩, false) else (⟨w.pos + 1, none⟩, c.toNat == 1)
theorem t91 (h : F 120 = some Km) (h82 : F 111 = some Jp) (h87 : F 116 = some vK) (h40 : F 61 = some K3) (h41 : F 62 = some Qx) {s : List UInt8} {x : Nat} {w : Re} {σ : List IObj} (hx : σ[x]? = some (w.ob s)) (hs : s.length < 1000000) (hp : w.pos <= s.length) :
   ∃ wr, cfw F (.f 120) [.ptr x 0] σ = some ⟨false, .bool (w.t s).2, σ.set x ((w.t s).1.ob s), wr⟩ /\ wr.all (fun q => !q.2 && q.1 == x) = true := by
 rw [jj Km h, callI]
 have b0 := jaW h40 hx
 have n0 := Zl h41 hx hs hp
 have l0 := ja hx
 have l4 := rE l0
 obtain ⟨wr2, bb, hw2⟩ := b82 h82 h87 h40 h41 hx hs hp
 obtain ⟨wp3, wp4⟩ := kL hw2 l0
 obtain ⟨pos, er⟩ := w
 cases er with
 | some e =>
   have e1 : Re.b s ⟨pos, some e⟩ = (⟨pos, some e⟩, 0) := rfl
   rw [e1] at bb
   have z1 : (((0 : Nat) : Int) == 1) = false := rfl
   simp only [Km, b0, bb, z1, wp3, wp4, undefI, rF, take_set, Option.isSome, zV, zS, libOf, purI, loadCell, elemsOf, appR, drawEnd, runDraw, stepD, noRs, opdsOf, pairsOK, okPair, rdOf, quiet, callI, Ts.fill, retI, shut, readRes, tupV, finish, runOps, wantedI, stepOp, getAll, stepCall, addOut, unI, Opd.get, slotN, tag, markW, putCells, putT, rv, bin, binI, Nat.reduceAdd, Nat.reduceSub, Nat.reduceMul, Nat.reduceDiv, Nat.reduceMod, Nat.reducePow, Nat.reduceLT, Nat.reduceLeDiff, Nat.reduceEqDiff, Nat.reduceBEq, Nat.reduceBNe, reduceIte, Int.reduceEq, Int.reduceLT, Int.reduceLE, Int.reduceNeg, Int.reduceToNat, Int.reduceMul, Int.reduceAdd, Int.reduceSub, reduceCtorEq]
   exact ⟨_, by simp [Re.t], hw2⟩
 | none =>
   obtain ⟨wr, f0, hw⟩ := Y8 h87 h40 (c := 5) (a := pos) hx
   have f0 : cfw F (.f 116) [.ptr x 0, I 5, I pos] σ = some ⟨false, .tup [], σ.set x (Re.ob s ⟨pos, some (5, pos)⟩), wr⟩ := f0
   obtain ⟨wp1, wp2⟩ := kL hw l0
   have l1 := fun o => kB (σ := σ) (o := o) l0
   have hx2 := hx
   rw [Re.ob] at hx
   simp only [] at hp hx n0
   by_cases h0 : pos = s.length
   . have g0 : s[pos]? = none := rY (by omega)
     have z0 : decide (((s.length - pos : Nat) : Int) > 0) = false := rH (by omega)
     have e1 : Re.b s ⟨pos, none⟩ = (⟨pos, some (3, pos)⟩, 0) := by simp [Re.b, g0]
     have e2 : Re.t s ⟨pos, none⟩ = (⟨pos, some (3, pos)⟩, false) := by simp [Re.t, g0]
     rw [e1] at bb
     have z1 : (((0 : Nat) : Int) == 1) = false := rfl
     rw [e2]
     simp only [Km, jd, b0, n0, hx, z0, bb, z1, wp3, wp4, undefI, tE, rF, take_set, Option.isSome, zV, zS, libOf, purI, loadCell, elemsOf, appR, drawEnd, runDraw, stepD, noRs, opdsOf, pairsOK, okPair, rdOf, quiet, callI, Ts.fill, retI, shut, readRes, tupV, finish, runOps, wantedI, stepOp, getAll, stepCall, addOut, unI, Opd.get, slotN, tag, markW, putCells, putT, rv, bin, binI, Nat.reduceAdd, Nat.reduceSub, Nat.reduceMul, Nat.reduceDiv, Nat.reduceMod, Nat.reducePow, Nat.reduceLT, Nat.reduceLeDiff, Nat.reduceEqDiff, Nat.reduceBEq, Nat.reduceBNe, reduceIte, Int.reduceEq, Int.reduceLT, Int.reduceLE, Int.reduceNeg, Int.reduceToNat, Int.reduceMul, Int.reduceAdd, Int.reduceSub, reduceCtorEq]
     exact ⟨_, rfl, hw2⟩
   . have hlt : pos < s.length := by omega
     have g1 : s[pos]? = some s[pos] := rJ hlt
     have z0 : decide (((s.length - pos : Nat) : Int) > 0) = true := rE (by omega)
     have d1 : (0 : Int) <= (pos : Int) := by omega
     generalize hc : s[pos] = c at *
     by_cases h1 : c.toNat > 1
     . have c1 : decide ((c.toNat : Int) > 1) = true := rE (by omega)
       obtain ⟨wr3, b3, hw3⟩ := b82 (σ := σ.set x (Re.ob s ⟨pos, some (5, pos)⟩)) (w := ⟨pos, some (5, pos)⟩) h82 h87 h40 h41 (l1 _) hs hp
       have e1 : Re.b s ⟨pos, some (5, pos)⟩ = (⟨pos, some (5, pos)⟩, 0) := rfl
       rw [e1, tE] at b3
       have e2 : Re.t s ⟨pos, none⟩ = (⟨pos, some (5, pos)⟩, false) := by simp [Re.t, g1, h1]
       have z1 : (((0 : Nat) : Int) == 1) = false := rfl
       obtain ⟨wp5, wp6⟩ := kL hw3 l0
       rw [e2]
       simp only [Km, jd, b0, n0, hx, z0, g1, d1, c1, f0, b3, z1, wp1, wp2, wp5, wp6, rQ, List.filter_append, rL, tE, rF, take_set, Option.isSome, zV, zS, libOf, purI, loadCell, elemsOf, appR, drawEnd, undefI, runDraw, stepD, noRs, opdsOf, pairsOK, okPair, rdOf, quiet, callI, Ts.fill, retI, shut, readRes, tupV, finish, runOps, wantedI, stepOp, getAll, stepCall, addOut, unI, Opd.get, slotN, tag, markW, putCells, putT, rv, bin, binI, Nat.reduceAdd, Nat.reduceSub, Nat.reduceMul, Nat.reduceDiv, Nat.reduceMod, Nat.reducePow, Nat.reduceLT, Nat.reduceLeDiff, Nat.reduceEqDiff, Nat.reduceBEq, Nat.reduceBNe, reduceIte, Int.reduceEq, Int.reduceLT, Int.reduceLE, Int.reduceNeg, Int.reduceToNat, Int.reduceMul, Int.reduceAdd, Int.reduceSub, reduceCtorEq]
       exact ⟨_, rfl, by simp [hw, hw3]⟩
     . have c1 : decide ((c.toNat : Int) > 1) = false := rH (by omega)
       have e1 : Re.b s ⟨pos, none⟩ = (⟨pos + 1, none⟩, c.toNat) := by simp [Re.b, g1]
       have e2 : Re.t s ⟨pos, none⟩ = (⟨pos + 1, none⟩, c.toNat == 1) := by simp [Re.t, g1, h1]
       rw [e1] at bb
       have z1 : ((c.toNat : Int) == 1) = (c.toNat == 1) := by
         rw [Bool.eq_iff_iff]; simp; omega
       rw [e2]
       simp only [Km, jd, b0, n0, hx, z0, g1, d1, c1, bb, z1, wp3, wp4, undefI, rL, tE, rF, take_set, Option.isSome, zV, zS, libOf, purI, loadCell, elemsOf, appR, drawEnd, runDraw, stepD, noRs, opdsOf, pairsOK, okPair, rdOf, quiet, callI, Ts.fill, retI, shut, readRes, tupV, finish, runOps, wantedI, stepOp, getAll, stepCall, addOut, unI, Opd.get, slotN, tag, markW, putCells, putT, rv, bin, binI, Nat.reduceAdd, Nat.reduceSub, Nat.reduceMul, Nat.reduceDiv, Nat.reduceMod, Nat.reducePow, Nat.reduceLT, Nat.reduceLeDiff, Nat.reduceEqDiff, Nat.reduceBEq, Nat.reduceBNe, reduceIte, Int.reduceEq, Int.reduceLT, Int.reduceLE, Int.reduceNeg, Int.reduceToNat, Int.reduceMul, Int.reduceAdd, Int.reduceSub, reduceCtorEq]
       exact ⟨_, rfl, hw2⟩
end Go.Idl.Sb
