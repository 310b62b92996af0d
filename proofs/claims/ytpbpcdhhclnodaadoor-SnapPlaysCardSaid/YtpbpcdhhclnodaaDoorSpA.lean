/- SnapPlays: what the ideal machine makes of its functions, part A; no conditions. -/
import Derived.Test.YtpbpcdhhclnodaaDoorIdlE
set_option linter.unusedSectionVars false
set_option linter.unusedVariables false
set_option linter.unusedSimpArgs false
namespace Go.Idl.Sp
open Go Go.Idl
abbrev I (n : Int) : IVal := .int .i64 n
/-- A state: what is listed, the stack, who runs; how many instructions, which cycle; all else is nothing. -/
def SC (g sk rn : IVal) (rt cy : Int) : List IVal := [.int .i64 0, .int .i64 0, .int .i64 0, .int .i64 0, .int .i32 0, .int .i32 0, .int .i32 0, .int .i32 0, .int .i32 0, .int .i32 0, .int .i32 0, .int .i32 0, .int .i32 0, g, sk, .int .i64 0, rn,
 .int .u8 0, .int .u8 0, .int .u8 0, .int .i64 0, .int .u8 0, .int .u8 0, .int .u8 0, .int .u8 0, .int .u8 0, .int .u8 0, .int .u8 0, .int .u8 0, .int .i64 0, .int .u8 0, .int .u8 0, .int .u8 0, .int .u8 0, .int .u8 0, .int .u8 0, .int .u8 0, .int .u8 0, .bool false, .int .u8 0, .int .u8 0,
 .int .u16 0, .int .u16 0, .int .u16 0, .int .u16 0, .int .u16 0, .int .u16 0, .int .u8 0, .int .u8 0, .int .u8 0, .int .u64 rt, .int .u64 0, .int .i64 cy, .int .i64 0, .int .i64 0]
abbrev Z55 : List IVal := SC (.sl 1 true []) (.sl 1 true []) (.sl 3 true []) 0 0
def Z32 : List IVal := [.int .u8 0, .int .u8 0, .int .u8 0, .int .i64 0, .int .u8 0, .int .u8 0, .int .u8 0, .int .u8 0, .int .u8 0, .int .u8 0, .int .u8 0, .int .u8 0, .int .i64 0, .int .u8 0, .int .u8 0, .int .u8 0, .int .u8 0, .int .u8 0, .int .u8 0, .int .u8 0, .int .u8 0, .bool false, .int .u8 0, .int .u8 0, .int .u16 0, .int .u16 0, .int .u16 0, .int .u16 0, .int .u16 0, .int .u16 0, .int .u8 0, .int .u8 0]
def Z21 : List IVal := [.int .i64 0, .int .u8 0, .int .u8 0, .int .u8 0, .int .u8 0, .int .u8 0, .int .u8 0, .int .u8 0, .int .u8 0, .int .i64 0, .int .u8 0, .int .u8 0, .int .u8 0, .int .u8 0, .int .u8 0, .int .u8 0, .int .u8 0, .int .u8 0, .bool false, .int .u8 0, .int .u8 0]
def Z9 : List IVal := [.int .i64 0, .int .u8 0, .int .u8 0, .int .u8 0, .int .u8 0, .int .u8 0, .int .u8 0, .int .u8 0, .int .u8 0]
/- plover/ploverlaw28.SnapPlays -/
def l1C : ICode := (.seq (.ops [⟨(some 41), .mv (.t 10), none⟩, ⟨(some 42), .mv (.t 1), none⟩, ⟨(some 43), .lenL (.t 42), none⟩, ⟨(some 44), .bin .lss (.m 41) (.m 43), none⟩, ⟨(some 45), .mv (.m 44), none⟩, ⟨(some 46), .mv (.t 10), some (45, true)⟩, ⟨(some 47), .bin .lss (.t 46) (.c (.int .i64 60)), some (45, true)⟩, ⟨(some 48), .pick (.m 45) (.t 47) (.c (.bool false)), none⟩, ⟨(some 49), .mv (.m 48), none⟩, ⟨(some 50), .mv (.t 8), some (49, true)⟩, ⟨(some 51), .isnil true 0 (.t 50), some (49, true)⟩, ⟨(some 52), .pick (.m 49) (.t 51) (.c (.bool false)), none⟩]) (.cond (.t 52) .skip (.exit 2)))
def l1A : ICode := (.ops [⟨(some 55), .mv (.t 1), none⟩, ⟨(some 56), .mv (.t 10), none⟩, ⟨(some 57), .idxAddr 4 (.t 55) (.m 56), none⟩, ⟨(some 58), .load true (some 4) (.m 57), none⟩, ⟨(some 11), .alloc [(.int .u8 0), (.int .u8 0), (.int .i16 0), (.int .i32 0)], none⟩, ⟨none, .store 4 (.m 11) (.m 58), none⟩])
def l1W : ICode := (.ops [⟨(some 59), .fieldAddr 0 (.t 11), none⟩, ⟨(some 60), .load false none (.m 59), none⟩, ⟨(some 61), .bin .rem (.m 60) (.c (.int .u8 7)), none⟩])
def jas : ICode := (.seq (.ops [⟨(some 99), .mv (.t 7), none⟩, ⟨(some 100), .fieldAddr 2 (.t 11), none⟩, ⟨(some 101), .load false none (.m 100), none⟩, ⟨(some 102), .conv (.int .i64) (.m 101), none⟩, ⟨(some 103), .call 6 [(.m 99), (.m 102)], none⟩]) (.ops [⟨(some 104), .mv (.t 8), none⟩, ⟨(some 105), .fieldAddr 2 (.t 11), none⟩, ⟨(some 106), .load false none (.m 105), none⟩, ⟨(some 107), .conv (.int .i64) (.m 106), none⟩, ⟨(some 108), .call 7 [(.m 104), (.m 107)], none⟩]))
def jgM : ICode := (.ops [⟨(some 62), .fieldAddr 52 (.t 9), none⟩, ⟨(some 63), .load false none (.m 62), none⟩, ⟨(some 64), .fieldAddr 1 (.t 11), none⟩, ⟨(some 65), .load false none (.m 64), none⟩, ⟨(some 66), .bin .rem (.m 65) (.c (.int .u8 6)), none⟩, ⟨(some 67), .conv (.int .i64) (.m 66), none⟩, ⟨(some 68), .bin .add (.m 63) (.m 67), none⟩, ⟨(some 69), .bin .sub (.m 68) (.c (.int .i64 1)), none⟩, ⟨(some 70), .fieldAddr 52 (.t 9), none⟩, ⟨none, .store 1 (.m 70) (.m 69), none⟩])
def jgN : ICode := (.ops [⟨(some 71), .fieldAddr 50 (.t 9), none⟩, ⟨(some 72), .load false none (.m 71), none⟩, ⟨(some 73), .fieldAddr 1 (.t 11), none⟩, ⟨(some 74), .load false none (.m 73), none⟩, ⟨(some 75), .bin .rem (.m 74) (.c (.int .u8 4)), none⟩, ⟨(some 76), .conv (.int .u64) (.m 75), none⟩, ⟨(some 77), .bin .add (.m 72) (.m 76), none⟩, ⟨(some 78), .fieldAddr 50 (.t 9), none⟩, ⟨none, .store 1 (.m 78) (.m 77), none⟩])
def jgO : ICode := (.ops [⟨(some 79), .fieldAddr 14 (.t 9), none⟩, ⟨(some 80), .load false none (.m 79), none⟩, ⟨(some 81), .mv (.t 10), none⟩, ⟨(some 82), .bin .rem (.m 81) (.c (.int .i64 3)), none⟩, ⟨(some 83), .fieldAddr 3 (.t 11), none⟩, ⟨(some 84), .load false none (.m 83), none⟩, ⟨(some 85), .idxAddr 1 (.t 80) (.m 82), none⟩, ⟨none, .store 1 (.m 85) (.m 84), none⟩])
def jgn : ICode := (.draw [(0, ⟨(some 86), .mv (.t 7), none⟩), (1, ⟨(some 87), .load false (some 55) (.t 9), none⟩), (3, ⟨(some 89), .mv (.t 8), none⟩), (4, ⟨(some 90), .load false (some 55) (.t 9), none⟩), (2, ⟨(some 88), .call 8 [(.m 86), (.m 87)], none⟩), (5, ⟨(some 91), .call 10 [(.m 90)], none⟩), (6, ⟨(some 92), .call 9 [(.m 89), (.m 91)], none⟩), (7, ⟨(some 93), .eqb true (.m 88) (.m 92), none⟩)] [(4, 2)])
def jgo : ICode := (.cond (.t 93) (.seq (.ops [⟨(some 4), .mv (.c (.bool false)), none⟩]) .ret) .skip)
def jb0 : ICode := .seq jgM (.seq jgN (.seq jgO (.seq jgn jgo)))
def jd9 : ICode := (.ops [⟨(some 53), .mv (.m 10), none⟩, ⟨(some 54), .bin .add (.m 53) (.c (.int .i64 1)), none⟩, ⟨(some 10), .mv (.m 54), none⟩])
def jat : ICode := (.seq (.ops [⟨(some 95), .bin .eql (.t 61) (.c (.int .u8 4)), none⟩, ⟨(some 94), .mv (.m 95), none⟩]) (.cond (.t 94) .skip (.ops [⟨(some 96), .bin .eql (.t 61) (.c (.int .u8 5)), none⟩, ⟨(some 94), .mv (.m 96), none⟩])))
def jeb : ICode := (.ops [⟨(some 98), .bin .eql (.t 61) (.c (.int .u8 6)), none⟩, ⟨(some 97), .mv (.m 98), none⟩])
def jgp : ICode := (.ops [⟨(some 110), .mv (.t 7), none⟩, ⟨(some 111), .fieldAddr 2 (.t 11), none⟩, ⟨(some 112), .load false none (.m 111), none⟩, ⟨(some 113), .conv (.int .i64) (.m 112), none⟩, ⟨(some 114), .call 11 [(.m 110), (.m 113)], none⟩, ⟨(some 109), .mv (.m 114), none⟩, ⟨(some 115), .extract (.m 109) 0, none⟩, ⟨(some 116), .extract (.m 109) 1, none⟩, ⟨(some 12), .alloc Z55, none⟩, ⟨none, .store 55 (.m 12) (.m 115), none⟩, ⟨(some 13), .mv (.m 116), none⟩])
def jgq : ICode := (.ops [⟨(some 118), .mv (.t 8), none⟩, ⟨(some 119), .fieldAddr 2 (.t 11), none⟩, ⟨(some 120), .load false none (.m 119), none⟩, ⟨(some 121), .conv (.int .i64) (.m 120), none⟩, ⟨(some 122), .call 12 [(.m 118), (.m 121)], none⟩, ⟨(some 117), .mv (.m 122), none⟩, ⟨(some 123), .extract (.m 117) 0, none⟩, ⟨(some 124), .extract (.m 117) 1, none⟩, ⟨(some 14), .alloc Z55, none⟩, ⟨none, .store 55 (.m 14) (.m 123), none⟩, ⟨(some 15), .mv (.m 124), none⟩])
def jgr : ICode := (.ops [⟨(some 126), .mv (.t 7), none⟩, ⟨(some 127), .fieldAddr 2 (.t 11), none⟩, ⟨(some 128), .load false none (.m 127), none⟩, ⟨(some 129), .conv (.int .u16) (.m 128), none⟩, ⟨(some 130), .conv (.int .u64) (.m 129), none⟩, ⟨(some 131), .call 13 [(.m 126), (.m 130)], none⟩, ⟨(some 125), .mv (.m 131), none⟩, ⟨(some 132), .extract (.m 125) 0, none⟩, ⟨(some 133), .extract (.m 125) 1, none⟩, ⟨(some 16), .alloc Z55, none⟩, ⟨none, .store 55 (.m 16) (.m 132), none⟩, ⟨(some 17), .mv (.m 133), none⟩])
def jgs : ICode := (.ops [⟨(some 135), .mv (.t 8), none⟩, ⟨(some 136), .fieldAddr 2 (.t 11), none⟩, ⟨(some 137), .load false none (.m 136), none⟩, ⟨(some 138), .conv (.int .u16) (.m 137), none⟩, ⟨(some 139), .conv (.int .u64) (.m 138), none⟩, ⟨(some 140), .call 14 [(.m 135), (.m 139)], none⟩, ⟨(some 134), .mv (.m 140), none⟩, ⟨(some 141), .extract (.m 134) 0, none⟩, ⟨(some 142), .extract (.m 134) 1, none⟩, ⟨(some 18), .alloc Z55, none⟩, ⟨none, .store 55 (.m 18) (.m 141), none⟩, ⟨(some 19), .mv (.m 142), none⟩])
def jfu : ICode := (.seq (.draw [(0, ⟨(some 143), .mv (.t 13), none⟩), (1, ⟨(some 144), .mv (.t 15), none⟩), (2, ⟨(some 145), .eqb true (.m 143) (.m 144), none⟩), (3, ⟨(some 146), .mv (.m 145), none⟩), (4, ⟨(some 147), .mv (.t 17), some (146, false)⟩), (5, ⟨(some 148), .mv (.t 19), some (146, false)⟩), (6, ⟨(some 149), .eqb true (.t 147) (.t 148), some (146, false)⟩), (7, ⟨(some 150), .pick (.m 146) (.c (.bool true)) (.t 149), none⟩), (8, ⟨(some 151), .mv (.m 150), none⟩), (9, ⟨(some 152), .load false (some 55) (.t 12), some (151, false)⟩), (11, ⟨(some 154), .load false (some 55) (.t 14), some (151, false)⟩), (10, ⟨(some 153), .call 10 [(.t 152)], some (151, false)⟩), (12, ⟨(some 155), .call 15 [(.t 153), (.t 154)], some (151, false)⟩), (13, ⟨(some 156), .un .not (.t 155), some (151, false)⟩), (14, ⟨(some 157), .pick (.m 151) (.c (.bool true)) (.t 156), none⟩), (15, ⟨(some 158), .mv (.m 157), none⟩), (16, ⟨(some 159), .load false (some 55) (.t 16), some (158, false)⟩), (18, ⟨(some 161), .load false (some 55) (.t 18), some (158, false)⟩), (17, ⟨(some 160), .call 10 [(.t 159)], some (158, false)⟩), (19, ⟨(some 162), .call 15 [(.t 160), (.t 161)], some (158, false)⟩), (20, ⟨(some 163), .un .not (.t 162), some (158, false)⟩), (21, ⟨(some 164), .pick (.m 158) (.c (.bool true)) (.t 163), none⟩), (22, ⟨(some 165), .mv (.m 164), none⟩), (23, ⟨(some 166), .mv (.t 7), some (165, false)⟩), (25, ⟨(some 168), .mv (.t 8), some (165, false)⟩), (26, ⟨(some 169), .nilCheck (.t 168), some (165, false)⟩), (27, ⟨(some 170), .fieldAddr 1 (.t 169), some (165, false)⟩), (28, ⟨(some 171), .load false none (.t 170), some (165, false)⟩), (29, ⟨(some 172), .lenL (.t 171), some (165, false)⟩), (24, ⟨(some 167), .call 16 [(.t 166)], some (165, false)⟩), (30, ⟨(some 173), .bin .neq (.t 167) (.t 172), some (165, false)⟩), (31, ⟨(some 174), .pick (.m 165) (.c (.bool true)) (.t 173), none⟩)] [(11, 10), (18, 17), (28, 24)]) (.cond (.t 174) (.seq (.ops [⟨(some 4), .mv (.c (.bool false)), none⟩]) .ret) .skip))
def jfv : ICode := (.seq (.ops [⟨(some 175), .mv (.t 13), none⟩, ⟨(some 176), .mv (.m 175), none⟩, ⟨(some 177), .fieldAddr 14 (.t 12), some (176, true)⟩, ⟨(some 178), .load false none (.t 177), some (176, true)⟩, ⟨(some 179), .lenL (.t 178), some (176, true)⟩, ⟨(some 180), .bin .gtr (.t 179) (.c (.int .i64 0)), some (176, true)⟩, ⟨(some 181), .pick (.m 176) (.t 180) (.c (.bool false)), none⟩]) (.cond (.t 181) (.ops [⟨(some 182), .fieldAddr 14 (.t 12), none⟩, ⟨(some 183), .load false none (.m 182), none⟩, ⟨(some 184), .idxAddr 1 (.t 183) (.c (.int .i64 0)), none⟩, ⟨none, .store 1 (.m 184) (.c (.int .i32 77)), none⟩]) .skip))
def jea : ICode := .block 4 (.seq jat (.cond (.t 94) .skip (.seq jeb (.cond (.t 97) jas jb0))))
def J4 : ICode := .seq l1C (.seq (.block 3 (.seq l1A (.seq (.seq l1W jea) (.seq jgp (.seq jgq (.seq jgr (.seq jgs (.seq jfu jfv)))))))) jd9)
def Qb : ICode := (.seq (.ops [⟨(some 28), .bin .lss (.t 27) (.c (.int .i64 2)), none⟩])
 (.seq (.cond (.t 28) .skip (.exit 0))
 (.seq (.block 1 (.seq (.ops [⟨(some 29), .idxA 2 1 none (.t 26) (.t 27), none⟩, ⟨(some 6), .mv (.m 29), none⟩])
 (.seq (.ops [⟨(some 30), .mv (.t 6), none⟩, ⟨(some 31), .call 4 [(.m 30)], none⟩, ⟨(some 32), .mv (.t 6), none⟩, ⟨(some 33), .call 5 [(.m 32)], none⟩, ⟨(some 7), .mv (.m 31), none⟩, ⟨(some 8), .mv (.m 33), none⟩])
 (.seq (.seq (.ops [⟨(some 34), .mv (.t 7), none⟩, ⟨(some 35), .isnil false 0 (.m 34), none⟩, ⟨(some 36), .mv (.t 8), none⟩, ⟨(some 37), .isnil false 0 (.m 36), none⟩, ⟨(some 38), .eqb true (.m 35) (.m 37), none⟩])
 (.cond (.t 38) (.seq (.ops [⟨(some 4), .mv (.c (.bool false)), none⟩])
 .ret) .skip))
 (.seq (.ops [⟨(some 9), .alloc Z55, none⟩])
 (.seq (.ops [⟨(some 39), .mkSl true 1 4 [(.int .i32 0)] (.c (.int .i64 3)) (.c (.int .i64 3)), none⟩, ⟨(some 40), .fieldAddr 14 (.t 9), none⟩, ⟨none, .store 1 (.m 40) (.m 39), none⟩])
 (.seq (.ops [⟨(some 10), .mv (.c (.int .i64 0)), none⟩])
 (.block 2 (.loop J4)))))))))
 (.ops [⟨(some 185), .bin .add (.m 27) (.c (.int .i64 1)), none⟩, ⟨(some 27), .mv (.m 185), none⟩]))))
def ir3 : IFunc := ⟨187, 98, 32, 8, (.seq (.ops [⟨(some 4), .mv (.c (.bool false)), none⟩])
 (.seq (.seq (.ops [⟨(some 20), .mv (.t 0), none⟩, ⟨(some 21), .mv (.t 0), none⟩, ⟨(some 22), .bin .rem (.m 21) (.c (.int .i64 9)), none⟩, ⟨(some 23), .bin .add (.m 22) (.c (.int .i64 9)), none⟩, ⟨(some 24), .bin .rem (.m 23) (.c (.int .i64 9)), none⟩, ⟨(some 25), .bin .add (.c (.int .i64 1)) (.m 24), none⟩, ⟨(some 26), .build [(.int .i64 0), (.int .i64 0)] [(0, 1, (.m 20)), (1, 1, (.m 25))], none⟩, ⟨(some 27), .mv (.c (.int .i64 0)), none⟩])
 (.block 0 (.loop Qb)))
 (.seq (.ops [⟨(some 186), .call 17 [], none⟩, ⟨(some 4), .mv (.m 186), none⟩])
 .ret))), [.t 4]⟩
/- plover/snap.New -/
def ir4 : IFunc := ⟨8, 3, 3, 3, (.seq (.ops [⟨(some 2), .mv (.c (.prim (.pointer none))), none⟩])
 (.seq (.seq (.ops [⟨(some 3), .mv (.t 0), none⟩, ⟨(some 4), .bin .lss (.m 3) (.c (.int .i64 1)), none⟩])
 (.cond (.t 4) (.seq (.ops [⟨(some 2), .mv (.c (.prim (.pointer none))), none⟩])
 .ret) .skip))
 (.seq (.ops [⟨(some 5), .mv (.m 0), none⟩, ⟨(some 6), .build [(.int .i64 0), (.sl 55 true [])] [(0, 1, (.m 5))], none⟩, ⟨(some 7), .box (.m 6), none⟩, ⟨(some 2), .mv (.m 7), none⟩])
 .ret))), [.t 2]⟩
/- plover/ploverref28.New -/
def ir5 : IFunc := ⟨8, 3, 3, 3, (.seq (.ops [⟨(some 2), .mv (.c (.prim (.pointer none))), none⟩])
 (.seq (.seq (.ops [⟨(some 3), .mv (.t 0), none⟩, ⟨(some 4), .bin .lss (.m 3) (.c (.int .i64 1)), none⟩])
 (.cond (.t 4) (.seq (.ops [⟨(some 2), .mv (.c (.prim (.pointer none))), none⟩])
 .ret) .skip))
 (.seq (.ops [⟨(some 5), .mv (.m 0), none⟩, ⟨(some 6), .build [(.int .i64 0), (.sl 55 true [])] [(0, 1, (.m 5))], none⟩, ⟨(some 7), .box (.m 6), none⟩, ⟨(some 2), .mv (.m 7), none⟩])
 .ret))), [.t 2]⟩
/- (*plover/snap.Snaps).Cut -/
def ir6 : IFunc := ⟨15, 4, 9, 4, (.seq (.ops [⟨(some 3), .boxv (.t 1), none⟩])
 (.seq (.ops [⟨(some 4), .mv (.t 0), none⟩, ⟨(some 5), .isnil true 0 (.m 4), none⟩])
 (.cond (.t 5) (.ops [⟨(some 6), .mv (.t 0), none⟩, ⟨(some 7), .mv (.t 0), none⟩, ⟨(some 8), .nilCheck (.m 7), none⟩, ⟨(some 9), .fieldAddr 1 (.m 8), none⟩, ⟨(some 10), .load true none (.m 9), none⟩, ⟨(some 11), .mkFn (.func 19) [] [(.t 3)], none⟩, ⟨(some 12), .call 18 [(.m 10), (.m 11)], none⟩, ⟨(some 13), .nilCheck (.m 6), none⟩, ⟨(some 14), .fieldAddr 1 (.m 13), none⟩, ⟨none, .store 1 (.m 14) (.m 12), none⟩]) .skip))), []⟩
/- (*plover/ploverref28.Snaps).Cut -/
def Jf : ICode := (.seq (.seq (.ops [⟨(some 6), .mv (.t 5), none⟩, ⟨(some 7), .mv (.t 0), none⟩, ⟨(some 8), .nilCheck (.m 7), none⟩, ⟨(some 9), .fieldAddr 1 (.m 8), none⟩, ⟨(some 10), .load false none (.m 9), none⟩, ⟨(some 11), .lenL (.t 10), none⟩, ⟨(some 12), .bin .lss (.m 6) (.m 11), none⟩])
 (.cond (.t 12) .skip (.exit 0)))
 (.seq (.block 1 (.seq (.ops [⟨(some 15), .mv (.t 0), none⟩, ⟨(some 16), .nilCheck (.m 15), none⟩, ⟨(some 17), .fieldAddr 1 (.m 16), none⟩, ⟨(some 18), .load false none (.m 17), none⟩, ⟨(some 19), .mv (.t 5), none⟩, ⟨(some 20), .idxAddr 55 (.t 18) (.m 19), none⟩, ⟨(some 21), .fieldAddr 52 (.m 20), none⟩, ⟨(some 22), .load false none (.m 21), none⟩, ⟨(some 23), .mv (.t 1), none⟩, ⟨(some 24), .bin .leq (.m 22) (.m 23), none⟩])
 (.cond (.t 24) (.ops [⟨(some 25), .mv (.m 4), none⟩, ⟨(some 26), .mv (.t 0), none⟩, ⟨(some 27), .nilCheck (.m 26), none⟩, ⟨(some 28), .fieldAddr 1 (.m 27), none⟩, ⟨(some 29), .load false none (.m 28), none⟩, ⟨(some 30), .mv (.t 5), none⟩, ⟨(some 31), .idxAddr 55 (.t 29) (.m 30), none⟩, ⟨(some 32), .load false (some 55) (.m 31), none⟩, ⟨(some 33), .buildSl 55 [(.m 32)], none⟩, ⟨(some 34), .append true false 55 264 (.m 25) (.m 33), none⟩, ⟨(some 4), .mv (.m 34), none⟩]) .skip)))
 (.ops [⟨(some 13), .mv (.m 5), none⟩, ⟨(some 14), .bin .add (.m 13) (.c (.int .i64 1)), none⟩, ⟨(some 5), .mv (.m 14), none⟩])))
def ir7 : IFunc := ⟨39, 6, 10, 5, (.seq (.ops [⟨(some 4), .mv (.c (.sl 55 true [])), none⟩])
 (.seq (.seq (.ops [⟨(some 5), .mv (.c (.int .i64 0)), none⟩])
 (.block 0 (.loop Jf)))
 (.ops [⟨(some 35), .mv (.t 0), none⟩, ⟨(some 36), .mv (.t 4), none⟩, ⟨(some 37), .nilCheck (.m 35), none⟩, ⟨(some 38), .fieldAddr 1 (.m 37), none⟩, ⟨none, .store 1 (.m 38) (.m 36), none⟩]))), []⟩
/- (*plover/snap.Snaps).Add -/
def ir8 : IFunc := ⟨51, 7, 15, 5, (.seq (.ops [⟨(some 3), .boxv (.t 1), none⟩, ⟨(some 4), .mv (.c (.bool false)), none⟩])
 (.seq (.seq (.ops [⟨(some 7), .mv (.t 0), none⟩, ⟨(some 8), .isnil false 0 (.m 7), none⟩])
 (.cond (.t 8) (.seq (.ops [⟨(some 4), .mv (.c (.bool false)), none⟩])
 .ret) .skip))
 (.seq (.seq (.ops [⟨(some 9), .mv (.t 0), none⟩, ⟨(some 10), .nilCheck (.m 9), none⟩, ⟨(some 11), .fieldAddr 1 (.m 10), none⟩, ⟨(some 12), .load false none (.m 11), none⟩, ⟨(some 13), .lenL (.t 12), none⟩, ⟨(some 5), .mv (.m 13), none⟩])
 (.seq (.ops [⟨(some 14), .mv (.t 5), none⟩, ⟨(some 15), .bin .gtr (.m 14) (.c (.int .i64 0)), none⟩])
 (.cond (.t 15) (.seq (.ops [⟨(some 16), .mv (.t 0), none⟩, ⟨(some 17), .nilCheck (.m 16), none⟩, ⟨(some 18), .fieldAddr 1 (.m 17), none⟩, ⟨(some 19), .load false none (.m 18), none⟩, ⟨(some 20), .mv (.t 5), none⟩, ⟨(some 21), .bin .sub (.m 20) (.c (.int .i64 1)), none⟩, ⟨(some 22), .idxAddr 55 (.t 19) (.m 21), none⟩, ⟨(some 23), .fieldAddr 52 (.m 22), none⟩, ⟨(some 24), .load false none (.m 23), none⟩, ⟨(some 6), .mv (.m 24), none⟩])
 (.seq (.draw [(0, ⟨(some 25), .fieldAddr 52 (.t 3), none⟩), (1, ⟨(some 26), .load false none (.m 25), none⟩), (2, ⟨(some 27), .mv (.t 6), none⟩), (3, ⟨(some 28), .bin .lss (.m 26) (.m 27), none⟩), (4, ⟨(some 29), .mv (.m 28), none⟩), (5, ⟨(some 30), .fieldAddr 52 (.t 3), some (29, false)⟩), (6, ⟨(some 31), .load false none (.t 30), some (29, false)⟩), (7, ⟨(some 32), .mv (.t 6), some (29, false)⟩), (8, ⟨(some 33), .bin .sub (.t 31) (.t 32), some (29, false)⟩), (9, ⟨(some 34), .mv (.t 0), some (29, false)⟩), (10, ⟨(some 35), .nilCheck (.t 34), some (29, false)⟩), (11, ⟨(some 36), .fieldAddr 0 (.t 35), some (29, false)⟩), (12, ⟨(some 37), .load false none (.t 36), some (29, false)⟩), (13, ⟨(some 38), .bin .lss (.t 33) (.t 37), some (29, false)⟩), (14, ⟨(some 39), .pick (.m 29) (.c (.bool true)) (.t 38), none⟩)] [])
 (.cond (.t 39) (.seq (.ops [⟨(some 4), .mv (.c (.bool false)), none⟩])
 .ret) .skip))) .skip)))
 (.seq (.draw [(0, ⟨(some 40), .mv (.t 0), none⟩), (1, ⟨(some 41), .mv (.t 0), none⟩), (2, ⟨(some 42), .nilCheck (.m 41), none⟩), (3, ⟨(some 43), .fieldAddr 1 (.m 42), none⟩), (4, ⟨(some 44), .load false none (.m 43), none⟩), (5, ⟨(some 45), .load false (some 55) (.t 3), none⟩), (6, ⟨(some 46), .call 20 [(.m 45)], none⟩), (7, ⟨(some 47), .buildSl 55 [(.m 46)], none⟩), (8, ⟨(some 48), .append true false 55 264 (.m 44) (.m 47), none⟩), (9, ⟨(some 49), .nilCheck (.m 40), none⟩), (10, ⟨(some 50), .fieldAddr 1 (.m 49), none⟩), (11, ⟨none, .store 1 (.m 50) (.m 48), none⟩)] [(4, 6)])
 (.seq (.ops [⟨(some 4), .mv (.c (.bool true)), none⟩])
 .ret))))), [.t 4]⟩
/- (*plover/ploverref28.Snaps).Add -/
def ir9 : IFunc := ⟨63, 5, 47, 6, (.seq (.ops [⟨(some 3), .boxv (.t 1), none⟩, ⟨(some 4), .mv (.c (.bool false)), none⟩])
 (.seq (.seq (.draw [(0, ⟨(some 5), .mv (.t 0), none⟩), (1, ⟨(some 6), .nilCheck (.m 5), none⟩), (2, ⟨(some 7), .fieldAddr 1 (.m 6), none⟩), (3, ⟨(some 8), .load false none (.m 7), none⟩), (4, ⟨(some 9), .lenL (.t 8), none⟩), (5, ⟨(some 10), .bin .gtr (.m 9) (.c (.int .i64 0)), none⟩), (6, ⟨(some 11), .mv (.m 10), none⟩), (7, ⟨(some 12), .fieldAddr 52 (.t 3), some (11, true)⟩), (8, ⟨(some 13), .load false none (.t 12), some (11, true)⟩), (9, ⟨(some 14), .mv (.t 0), some (11, true)⟩), (10, ⟨(some 15), .nilCheck (.t 14), some (11, true)⟩), (11, ⟨(some 16), .fieldAddr 1 (.t 15), some (11, true)⟩), (12, ⟨(some 17), .load false none (.t 16), some (11, true)⟩), (13, ⟨(some 18), .mv (.t 0), some (11, true)⟩), (14, ⟨(some 19), .nilCheck (.t 18), some (11, true)⟩), (15, ⟨(some 20), .fieldAddr 1 (.t 19), some (11, true)⟩), (16, ⟨(some 21), .load false none (.t 20), some (11, true)⟩), (17, ⟨(some 22), .lenL (.t 21), some (11, true)⟩), (18, ⟨(some 23), .bin .sub (.t 22) (.c (.int .i64 1)), some (11, true)⟩), (19, ⟨(some 24), .idxAddr 55 (.t 17) (.t 23), some (11, true)⟩), (20, ⟨(some 25), .fieldAddr 52 (.t 24), some (11, true)⟩), (21, ⟨(some 26), .load false none (.t 25), some (11, true)⟩), (22, ⟨(some 27), .bin .lss (.t 13) (.t 26), some (11, true)⟩), (23, ⟨(some 28), .mv (.t 27), some (11, true)⟩), (24, ⟨(some 29), .fieldAddr 52 (.t 3), some (28, false)⟩), (25, ⟨(some 30), .load false none (.t 29), some (28, false)⟩), (26, ⟨(some 31), .mv (.t 0), some (28, false)⟩), (27, ⟨(some 32), .nilCheck (.t 31), some (28, false)⟩), (28, ⟨(some 33), .fieldAddr 1 (.t 32), some (28, false)⟩), (29, ⟨(some 34), .load false none (.t 33), some (28, false)⟩), (30, ⟨(some 35), .mv (.t 0), some (28, false)⟩), (31, ⟨(some 36), .nilCheck (.t 35), some (28, false)⟩), (32, ⟨(some 37), .fieldAddr 1 (.t 36), some (28, false)⟩), (33, ⟨(some 38), .load false none (.t 37), some (28, false)⟩), (34, ⟨(some 39), .lenL (.t 38), some (28, false)⟩), (35, ⟨(some 40), .bin .sub (.t 39) (.c (.int .i64 1)), some (28, false)⟩), (36, ⟨(some 41), .idxAddr 55 (.t 34) (.t 40), some (28, false)⟩), (37, ⟨(some 42), .fieldAddr 52 (.t 41), some (28, false)⟩), (38, ⟨(some 43), .load false none (.t 42), some (28, false)⟩), (39, ⟨(some 44), .bin .sub (.t 30) (.t 43), some (28, false)⟩), (40, ⟨(some 45), .mv (.t 0), some (28, false)⟩), (41, ⟨(some 46), .nilCheck (.t 45), some (28, false)⟩), (42, ⟨(some 47), .fieldAddr 0 (.t 46), some (28, false)⟩), (43, ⟨(some 48), .load false none (.t 47), some (28, false)⟩), (44, ⟨(some 49), .bin .lss (.t 44) (.t 48), some (28, false)⟩), (45, ⟨(some 50), .pick (.t 28) (.c (.bool true)) (.t 49), some (11, true)⟩), (46, ⟨(some 51), .pick (.m 11) (.t 50) (.c (.bool false)), none⟩)] [])
 (.cond (.t 51) (.seq (.ops [⟨(some 4), .mv (.c (.bool false)), none⟩])
 .ret) .skip))
 (.seq (.draw [(0, ⟨(some 52), .mv (.t 0), none⟩), (1, ⟨(some 53), .mv (.t 0), none⟩), (2, ⟨(some 54), .nilCheck (.m 53), none⟩), (3, ⟨(some 55), .fieldAddr 1 (.m 54), none⟩), (4, ⟨(some 56), .load false none (.m 55), none⟩), (5, ⟨(some 57), .load false (some 55) (.t 3), none⟩), (6, ⟨(some 58), .call 21 [(.m 57)], none⟩), (7, ⟨(some 59), .buildSl 55 [(.m 58)], none⟩), (8, ⟨(some 60), .append true false 55 264 (.m 56) (.m 59), none⟩), (9, ⟨(some 61), .nilCheck (.m 52), none⟩), (10, ⟨(some 62), .fieldAddr 1 (.m 61), none⟩), (11, ⟨none, .store 1 (.m 62) (.m 60), none⟩)] [(4, 6)])
 (.seq (.ops [⟨(some 4), .mv (.c (.bool true)), none⟩])
 .ret)))), [.t 4]⟩
/- plover/ploverlaw28.as -/
def Zd : IFunc := ⟨83, 5, 34, 6, (.seq (.ops [⟨(some 1), .boxv (.t 0), none⟩, ⟨(some 2), .alloc Z55, none⟩])
 (.seq (.ops [⟨(some 5), .fieldAddr 17 (.t 1), none⟩, ⟨(some 6), .fieldAddr 0 (.m 5), none⟩, ⟨(some 7), .load false (some 3) (.m 6), none⟩, ⟨(some 8), .fieldAddr 17 (.t 1), none⟩, ⟨(some 9), .fieldAddr 30 (.m 8), none⟩, ⟨(some 10), .load false (some 2) (.m 9), none⟩, ⟨(some 11), .build Z32 [(0, 3, (.m 7)), (30, 2, (.m 10))], none⟩, ⟨(some 3), .alloc Z32, none⟩, ⟨none, .store 32 (.m 3) (.m 11), none⟩])
 (.seq (.draw [(0, ⟨(some 12), .fieldAddr 17 (.t 1), none⟩), (1, ⟨(some 13), .fieldAddr 24 (.m 12), none⟩), (2, ⟨(some 14), .idxAddrA 2 3 (.t 13) (.c (.int .i64 0)), none⟩), (3, ⟨(some 15), .load false (some 3) (.m 14), none⟩), (4, ⟨(some 16), .fieldAddr 17 (.t 1), none⟩), (5, ⟨(some 17), .fieldAddr 24 (.m 16), none⟩), (6, ⟨(some 18), .idxAddrA 2 3 (.t 17) (.c (.int .i64 1)), none⟩), (7, ⟨(some 19), .load false (some 3) (.m 18), none⟩), (8, ⟨(some 20), .fieldAddr 24 (.t 3), none⟩), (9, ⟨(some 21), .idxAddrA 2 3 (.t 20) (.c (.int .i64 0)), none⟩), (10, ⟨none, .store 3 (.m 21) (.m 15), none⟩), (11, ⟨(some 22), .fieldAddr 24 (.t 3), none⟩), (12, ⟨(some 23), .idxAddrA 2 3 (.t 22) (.c (.int .i64 1)), none⟩), (13, ⟨none, .store 3 (.m 23) (.m 19), none⟩)] [(7, 10)])
 (.seq (.ops [⟨(some 24), .fieldAddr 17 (.t 1), none⟩, ⟨(some 25), .fieldAddr 3 (.m 24), none⟩, ⟨(some 26), .load true (some 21) (.m 25), none⟩, ⟨(some 4), .alloc Z21, none⟩, ⟨none, .store 21 (.m 4) (.m 26), none⟩])
 (.seq (.ops [⟨(some 27), .fieldAddr 0 (.t 4), none⟩, ⟨(some 28), .fieldAddr 0 (.m 27), none⟩, ⟨(some 29), .load false none (.m 28), none⟩, ⟨(some 30), .fieldAddr 0 (.t 4), none⟩, ⟨(some 31), .fieldAddr 1 (.m 30), none⟩, ⟨(some 32), .load false (some 8) (.m 31), none⟩, ⟨(some 33), .build Z9 [(0, 1, (.m 29)), (1, 8, (.m 32))], none⟩, ⟨(some 34), .fieldAddr 9 (.t 4), none⟩, ⟨(some 35), .fieldAddr 0 (.m 34), none⟩, ⟨(some 36), .load false none (.m 35), none⟩, ⟨(some 37), .fieldAddr 9 (.t 4), none⟩, ⟨(some 38), .fieldAddr 1 (.m 37), none⟩, ⟨(some 39), .load false (some 8) (.m 38), none⟩, ⟨(some 40), .build Z9 [(0, 1, (.m 36)), (1, 8, (.m 39))], none⟩, ⟨(some 41), .fieldAddr 18 (.t 4), none⟩, ⟨(some 42), .load false none (.m 41), none⟩, ⟨(some 43), .fieldAddr 19 (.t 4), none⟩, ⟨(some 44), .load false none (.m 43), none⟩, ⟨(some 45), .fieldAddr 20 (.t 4), none⟩, ⟨(some 46), .load false none (.m 45), none⟩, ⟨(some 47), .build Z21 [(0, 9, (.m 33)), (9, 9, (.m 40)), (18, 1, (.m 42)), (19, 1, (.m 44)), (20, 1, (.m 46))], none⟩, ⟨(some 48), .fieldAddr 3 (.t 3), none⟩, ⟨none, .store 21 (.m 48) (.m 47), none⟩])
 (.seq (.ops [⟨(some 49), .fieldAddr 0 (.m 1), none⟩, ⟨(some 50), .load false none (.m 49), none⟩, ⟨(some 51), .fieldAddr 1 (.m 1), none⟩, ⟨(some 52), .load false none (.m 51), none⟩, ⟨(some 53), .fieldAddr 2 (.m 1), none⟩, ⟨(some 54), .load false none (.m 53), none⟩, ⟨(some 55), .fieldAddr 3 (.m 1), none⟩, ⟨(some 56), .load false none (.m 55), none⟩, ⟨(some 57), .fieldAddr 4 (.m 1), none⟩, ⟨(some 58), .load false none (.m 57), none⟩, ⟨(some 59), .fieldAddr 5 (.m 1), none⟩, ⟨(some 60), .load false (some 8) (.m 59), none⟩, ⟨(some 61), .fieldAddr 13 (.m 1), none⟩, ⟨(some 62), .load false none (.m 61), none⟩, ⟨(some 63), .fieldAddr 14 (.m 1), none⟩, ⟨(some 64), .load false none (.m 63), none⟩, ⟨(some 65), .fieldAddr 15 (.m 1), none⟩, ⟨(some 66), .load false none (.m 65), none⟩, ⟨(some 67), .fieldAddr 16 (.m 1), none⟩, ⟨(some 68), .load false none (.m 67), none⟩, ⟨(some 69), .load false (some 32) (.m 3), none⟩, ⟨(some 70), .fieldAddr 49 (.m 1), none⟩, ⟨(some 71), .load false none (.m 70), none⟩, ⟨(some 72), .fieldAddr 50 (.m 1), none⟩, ⟨(some 73), .load false none (.m 72), none⟩, ⟨(some 74), .fieldAddr 51 (.m 1), none⟩, ⟨(some 75), .load false none (.m 74), none⟩, ⟨(some 76), .fieldAddr 52 (.m 1), none⟩, ⟨(some 77), .load false none (.m 76), none⟩, ⟨(some 78), .fieldAddr 53 (.m 1), none⟩, ⟨(some 79), .load false none (.m 78), none⟩, ⟨(some 80), .fieldAddr 54 (.m 1), none⟩, ⟨(some 81), .load false none (.m 80), none⟩, ⟨(some 82), .build Z55 [(0, 1, (.m 50)), (1, 1, (.m 52)), (2, 1, (.m 54)), (3, 1, (.m 56)), (4, 1, (.m 58)), (5, 8, (.m 60)), (13, 1, (.m 62)), (14, 1, (.m 64)), (15, 1, (.m 66)), (16, 1, (.m 68)), (17, 32, (.m 69)), (49, 1, (.m 71)), (50, 1, (.m 73)), (51, 1, (.m 75)), (52, 1, (.m 77)), (53, 1, (.m 79)), (54, 1, (.m 81))], none⟩, ⟨none, .store 55 (.m 2) (.m 82), none⟩])
 .ret)))))), [.cell 2 (some 55)]⟩
/- (*plover/snap.Snaps).Before -/
def jaj : IFunc := ⟨11, 6, 5, 4, (.seq (.ops [⟨(some 3), .boxv (.t 1), none⟩, ⟨(some 4), .alloc Z55, none⟩, ⟨(some 5), .mv (.c (.bool false)), none⟩])
 (.seq (.ops [⟨(some 6), .mv (.m 0), none⟩, ⟨(some 7), .mkFn (.func 23) [] [(.m 3)], none⟩, ⟨(some 8), .call 22 [(.m 6), (.m 7)], none⟩, ⟨(some 9), .extract (.m 8) 0, none⟩, ⟨(some 10), .extract (.m 8) 1, none⟩, ⟨none, .store 55 (.m 4) (.m 9), none⟩, ⟨(some 5), .mv (.m 10), none⟩])
 .ret)), [.cell 4 (some 55), .t 5]⟩
/- (*plover/ploverref28.Snaps).Before -/
def zJ : ICode := (.seq (.seq (.ops [⟨(some 13), .mv (.t 6), none⟩, ⟨(some 14), .bin .geq (.m 13) (.c (.int .i64 0)), none⟩])
 (.cond (.t 14) .skip (.exit 0)))
 (.seq (.block 1 (.seq (.ops [⟨(some 17), .mv (.t 0), none⟩, ⟨(some 18), .nilCheck (.m 17), none⟩, ⟨(some 19), .fieldAddr 1 (.m 18), none⟩, ⟨(some 20), .load false none (.m 19), none⟩, ⟨(some 21), .mv (.t 6), none⟩, ⟨(some 22), .idxAddr 55 (.t 20) (.m 21), none⟩, ⟨(some 23), .fieldAddr 52 (.m 22), none⟩, ⟨(some 24), .load false none (.m 23), none⟩, ⟨(some 25), .mv (.t 1), none⟩, ⟨(some 26), .bin .leq (.m 24) (.m 25), none⟩])
 (.cond (.t 26) (.seq (.ops [⟨(some 27), .mv (.m 0), none⟩, ⟨(some 28), .nilCheck (.m 27), none⟩, ⟨(some 29), .fieldAddr 1 (.m 28), none⟩, ⟨(some 30), .load false none (.m 29), none⟩, ⟨(some 31), .mv (.m 6), none⟩, ⟨(some 32), .idxAddr 55 (.t 30) (.m 31), none⟩, ⟨(some 33), .load true (some 55) (.m 32), none⟩, ⟨(some 34), .call 21 [(.m 33)], none⟩, ⟨none, .store 55 (.m 4) (.m 34), none⟩, ⟨(some 5), .mv (.c (.bool true)), none⟩])
 .ret) .skip)))
 (.ops [⟨(some 15), .mv (.m 6), none⟩, ⟨(some 16), .bin .sub (.m 15) (.c (.int .i64 1)), none⟩, ⟨(some 6), .mv (.m 16), none⟩])))
def jbX : IFunc := ⟨36, 7, 10, 5, (.seq (.ops [⟨(some 4), .alloc Z55, none⟩, ⟨(some 5), .mv (.c (.bool false)), none⟩])
 (.seq (.seq (.ops [⟨(some 7), .mv (.t 0), none⟩, ⟨(some 8), .nilCheck (.m 7), none⟩, ⟨(some 9), .fieldAddr 1 (.m 8), none⟩, ⟨(some 10), .load false none (.m 9), none⟩, ⟨(some 11), .lenL (.t 10), none⟩, ⟨(some 12), .bin .sub (.m 11) (.c (.int .i64 1)), none⟩, ⟨(some 6), .mv (.m 12), none⟩])
 (.block 0 (.loop zJ)))
 (.seq (.ops [⟨(some 35), .build Z55 [], none⟩, ⟨none, .store 55 (.m 4) (.m 35), none⟩, ⟨(some 5), .mv (.c (.bool false)), none⟩])
 .ret))), [.cell 4 (some 55), .t 5]⟩
/- (*plover/snap.Snaps).Retired -/
def jak : IFunc := ⟨11, 6, 5, 4, (.seq (.ops [⟨(some 3), .boxv (.t 1), none⟩, ⟨(some 4), .alloc Z55, none⟩, ⟨(some 5), .mv (.c (.bool false)), none⟩])
 (.seq (.ops [⟨(some 6), .mv (.m 0), none⟩, ⟨(some 7), .mkFn (.func 24) [] [(.m 3)], none⟩, ⟨(some 8), .call 22 [(.m 6), (.m 7)], none⟩, ⟨(some 9), .extract (.m 8) 0, none⟩, ⟨(some 10), .extract (.m 8) 1, none⟩, ⟨none, .store 55 (.m 4) (.m 9), none⟩, ⟨(some 5), .mv (.m 10), none⟩])
 .ret)), [.cell 4 (some 55), .t 5]⟩
/- (*plover/ploverref28.Snaps).Retired -/
def zK : ICode := (.seq (.seq (.ops [⟨(some 13), .mv (.t 6), none⟩, ⟨(some 14), .bin .geq (.m 13) (.c (.int .i64 0)), none⟩])
 (.cond (.t 14) .skip (.exit 0)))
 (.seq (.block 1 (.seq (.ops [⟨(some 17), .mv (.t 0), none⟩, ⟨(some 18), .nilCheck (.m 17), none⟩, ⟨(some 19), .fieldAddr 1 (.m 18), none⟩, ⟨(some 20), .load false none (.m 19), none⟩, ⟨(some 21), .mv (.t 6), none⟩, ⟨(some 22), .idxAddr 55 (.t 20) (.m 21), none⟩, ⟨(some 23), .fieldAddr 50 (.m 22), none⟩, ⟨(some 24), .load false none (.m 23), none⟩, ⟨(some 25), .mv (.t 1), none⟩, ⟨(some 26), .bin .leq (.m 24) (.m 25), none⟩])
 (.cond (.t 26) (.seq (.ops [⟨(some 27), .mv (.m 0), none⟩, ⟨(some 28), .nilCheck (.m 27), none⟩, ⟨(some 29), .fieldAddr 1 (.m 28), none⟩, ⟨(some 30), .load false none (.m 29), none⟩, ⟨(some 31), .mv (.m 6), none⟩, ⟨(some 32), .idxAddr 55 (.t 30) (.m 31), none⟩, ⟨(some 33), .load true (some 55) (.m 32), none⟩, ⟨(some 34), .call 21 [(.m 33)], none⟩, ⟨none, .store 55 (.m 4) (.m 34), none⟩, ⟨(some 5), .mv (.c (.bool true)), none⟩])
 .ret) .skip)))
 (.ops [⟨(some 15), .mv (.m 6), none⟩, ⟨(some 16), .bin .sub (.m 15) (.c (.int .i64 1)), none⟩, ⟨(some 6), .mv (.m 16), none⟩])))
def jbY : IFunc := ⟨36, 7, 10, 5, (.seq (.ops [⟨(some 4), .alloc Z55, none⟩, ⟨(some 5), .mv (.c (.bool false)), none⟩])
 (.seq (.seq (.ops [⟨(some 7), .mv (.t 0), none⟩, ⟨(some 8), .nilCheck (.m 7), none⟩, ⟨(some 9), .fieldAddr 1 (.m 8), none⟩, ⟨(some 10), .load false none (.m 9), none⟩, ⟨(some 11), .lenL (.t 10), none⟩, ⟨(some 12), .bin .sub (.m 11) (.c (.int .i64 1)), none⟩, ⟨(some 6), .mv (.m 12), none⟩])
 (.block 0 (.loop zK)))
 (.seq (.ops [⟨(some 35), .build Z55 [], none⟩, ⟨none, .store 55 (.m 4) (.m 35), none⟩, ⟨(some 5), .mv (.c (.bool false)), none⟩])
 .ret))), [.cell 4 (some 55), .t 5]⟩
/- plover/ploverref24.Same -/
def jbo : IFunc := ⟨122, 5, 117, 7, (.seq (.ops [⟨(some 2), .boxv (.t 0), none⟩, ⟨(some 3), .boxv (.t 1), none⟩, ⟨(some 4), .mv (.c (.bool false)), none⟩])
 (.seq (.ops [⟨(some 5), .fieldAddr 0 (.m 2), none⟩, ⟨(some 6), .load false none (.m 5), none⟩, ⟨(some 7), .fieldAddr 0 (.m 3), none⟩, ⟨(some 8), .load false none (.m 7), none⟩, ⟨(some 9), .bin .eql (.m 6) (.m 8), none⟩, ⟨(some 10), .mv (.m 9), none⟩, ⟨(some 11), .fieldAddr 1 (.t 2), some (10, true)⟩, ⟨(some 12), .load false none (.t 11), some (10, true)⟩, ⟨(some 13), .fieldAddr 1 (.t 3), some (10, true)⟩, ⟨(some 14), .load false none (.t 13), some (10, true)⟩, ⟨(some 15), .bin .eql (.t 12) (.t 14), some (10, true)⟩, ⟨(some 16), .pick (.m 10) (.t 15) (.c (.bool false)), none⟩, ⟨(some 17), .mv (.m 16), none⟩, ⟨(some 18), .fieldAddr 2 (.t 2), some (17, true)⟩, ⟨(some 19), .load false none (.t 18), some (17, true)⟩, ⟨(some 20), .fieldAddr 2 (.t 3), some (17, true)⟩, ⟨(some 21), .load false none (.t 20), some (17, true)⟩, ⟨(some 22), .bin .eql (.t 19) (.t 21), some (17, true)⟩, ⟨(some 23), .pick (.m 17) (.t 22) (.c (.bool false)), none⟩, ⟨(some 24), .mv (.m 23), none⟩, ⟨(some 25), .fieldAddr 3 (.t 2), some (24, true)⟩, ⟨(some 26), .load false none (.t 25), some (24, true)⟩, ⟨(some 27), .fieldAddr 3 (.t 3), some (24, true)⟩, ⟨(some 28), .load false none (.t 27), some (24, true)⟩, ⟨(some 29), .bin .eql (.t 26) (.t 28), some (24, true)⟩, ⟨(some 30), .pick (.m 24) (.t 29) (.c (.bool false)), none⟩, ⟨(some 31), .mv (.m 30), none⟩, ⟨(some 32), .fieldAddr 4 (.t 2), some (31, true)⟩, ⟨(some 33), .load false none (.t 32), some (31, true)⟩, ⟨(some 34), .fieldAddr 4 (.t 3), some (31, true)⟩, ⟨(some 35), .load false none (.t 34), some (31, true)⟩, ⟨(some 36), .bin .eql (.t 33) (.t 35), some (31, true)⟩, ⟨(some 37), .pick (.m 31) (.t 36) (.c (.bool false)), none⟩, ⟨(some 38), .mv (.m 37), none⟩, ⟨(some 39), .fieldAddr 5 (.t 2), some (38, true)⟩, ⟨(some 40), .load false (some 8) (.t 39), some (38, true)⟩, ⟨(some 41), .fieldAddr 5 (.t 3), some (38, true)⟩, ⟨(some 42), .load false (some 8) (.t 41), some (38, true)⟩, ⟨(some 43), .pur (.eqa false [0, 0, 0, 0, 0, 0, 0, 0]) [(.t 40), (.t 42)], some (38, true)⟩, ⟨(some 44), .pick (.m 38) (.t 43) (.c (.bool false)), none⟩, ⟨(some 45), .mv (.m 44), none⟩, ⟨(some 46), .fieldAddr 13 (.t 2), some (45, true)⟩, ⟨(some 47), .load false none (.t 46), some (45, true)⟩, ⟨(some 48), .fieldAddr 13 (.t 3), some (45, true)⟩, ⟨(some 49), .load false none (.t 48), some (45, true)⟩, ⟨(some 50), .call 25 [(.t 47), (.t 49)], some (45, true)⟩, ⟨(some 51), .pick (.m 45) (.t 50) (.c (.bool false)), none⟩, ⟨(some 52), .mv (.m 51), none⟩, ⟨(some 53), .fieldAddr 14 (.t 2), some (52, true)⟩, ⟨(some 54), .load false none (.t 53), some (52, true)⟩, ⟨(some 55), .fieldAddr 14 (.t 3), some (52, true)⟩, ⟨(some 56), .load false none (.t 55), some (52, true)⟩, ⟨(some 57), .call 25 [(.t 54), (.t 56)], some (52, true)⟩, ⟨(some 58), .pick (.m 52) (.t 57) (.c (.bool false)), none⟩, ⟨(some 59), .mv (.m 58), none⟩, ⟨(some 60), .fieldAddr 15 (.t 2), some (59, true)⟩, ⟨(some 61), .load false none (.t 60), some (59, true)⟩, ⟨(some 62), .fieldAddr 15 (.t 3), some (59, true)⟩, ⟨(some 63), .load false none (.t 62), some (59, true)⟩, ⟨(some 64), .bin .eql (.t 61) (.t 63), some (59, true)⟩, ⟨(some 65), .pick (.m 59) (.t 64) (.c (.bool false)), none⟩, ⟨(some 66), .mv (.m 65), none⟩, ⟨(some 67), .fieldAddr 16 (.t 2), some (66, true)⟩, ⟨(some 68), .load false none (.t 67), some (66, true)⟩, ⟨(some 69), .fieldAddr 16 (.t 3), some (66, true)⟩, ⟨(some 70), .load false none (.t 69), some (66, true)⟩, ⟨(some 71), .call 26 [(.t 68), (.t 70)], some (66, true)⟩, ⟨(some 72), .pick (.m 66) (.t 71) (.c (.bool false)), none⟩, ⟨(some 73), .mv (.m 72), none⟩, ⟨(some 74), .fieldAddr 17 (.t 2), some (73, true)⟩, ⟨(some 75), .load false (some 32) (.t 74), some (73, true)⟩, ⟨(some 76), .fieldAddr 17 (.t 3), some (73, true)⟩, ⟨(some 77), .load false (some 32) (.t 76), some (73, true)⟩, ⟨(some 78), .pur (.eqa false [0, 0, 0, 0, 0, 0, 0, 0, 0, 0, 0, 0, 0, 0, 0, 0, 0, 0, 0, 0, 0, 2, 0, 0, 0, 0, 0, 0, 0, 0, 0, 0]) [(.t 75), (.t 77)], some (73, true)⟩, ⟨(some 79), .pick (.m 73) (.t 78) (.c (.bool false)), none⟩, ⟨(some 80), .mv (.m 79), none⟩, ⟨(some 81), .fieldAddr 49 (.t 2), some (80, true)⟩, ⟨(some 82), .load false none (.t 81), some (80, true)⟩, ⟨(some 83), .fieldAddr 49 (.t 3), some (80, true)⟩, ⟨(some 84), .load false none (.t 83), some (80, true)⟩, ⟨(some 85), .bin .eql (.t 82) (.t 84), some (80, true)⟩, ⟨(some 86), .pick (.m 80) (.t 85) (.c (.bool false)), none⟩, ⟨(some 87), .mv (.m 86), none⟩, ⟨(some 88), .fieldAddr 50 (.t 2), some (87, true)⟩, ⟨(some 89), .load false none (.t 88), some (87, true)⟩, ⟨(some 90), .fieldAddr 50 (.t 3), some (87, true)⟩, ⟨(some 91), .load false none (.t 90), some (87, true)⟩, ⟨(some 92), .bin .eql (.t 89) (.t 91), some (87, true)⟩, ⟨(some 93), .pick (.m 87) (.t 92) (.c (.bool false)), none⟩, ⟨(some 94), .mv (.m 93), none⟩, ⟨(some 95), .fieldAddr 51 (.t 2), some (94, true)⟩, ⟨(some 96), .load false none (.t 95), some (94, true)⟩, ⟨(some 97), .fieldAddr 51 (.t 3), some (94, true)⟩, ⟨(some 98), .load false none (.t 97), some (94, true)⟩, ⟨(some 99), .bin .eql (.t 96) (.t 98), some (94, true)⟩, ⟨(some 100), .pick (.m 94) (.t 99) (.c (.bool false)), none⟩, ⟨(some 101), .mv (.m 100), none⟩, ⟨(some 102), .fieldAddr 52 (.t 2), some (101, true)⟩, ⟨(some 103), .load false none (.t 102), some (101, true)⟩, ⟨(some 104), .fieldAddr 52 (.t 3), some (101, true)⟩, ⟨(some 105), .load false none (.t 104), some (101, true)⟩, ⟨(some 106), .bin .eql (.t 103) (.t 105), some (101, true)⟩, ⟨(some 107), .pick (.m 101) (.t 106) (.c (.bool false)), none⟩, ⟨(some 108), .mv (.m 107), none⟩, ⟨(some 109), .fieldAddr 53 (.t 2), some (108, true)⟩, ⟨(some 110), .load false none (.t 109), some (108, true)⟩, ⟨(some 111), .fieldAddr 53 (.t 3), some (108, true)⟩, ⟨(some 112), .load false none (.t 111), some (108, true)⟩, ⟨(some 113), .bin .eql (.t 110) (.t 112), some (108, true)⟩, ⟨(some 114), .pick (.m 108) (.t 113) (.c (.bool false)), none⟩, ⟨(some 115), .mv (.m 114), none⟩, ⟨(some 116), .fieldAddr 54 (.t 2), some (115, true)⟩, ⟨(some 117), .load false none (.t 116), some (115, true)⟩, ⟨(some 118), .fieldAddr 54 (.t 3), some (115, true)⟩, ⟨(some 119), .load false none (.t 118), some (115, true)⟩, ⟨(some 120), .bin .eql (.t 117) (.t 119), some (115, true)⟩, ⟨(some 121), .pick (.m 115) (.t 120) (.c (.bool false)), none⟩, ⟨(some 4), .mv (.m 121), none⟩])
 .ret)), [.t 4]⟩
/- (*plover/snap.Snaps).Len -/
def jal : IFunc := ⟨10, 3, 5, 4, (.seq (.ops [⟨(some 2), .mv (.c (.int .i64 0)), none⟩])
 (.seq (.seq (.ops [⟨(some 3), .mv (.t 0), none⟩, ⟨(some 4), .isnil false 0 (.m 3), none⟩])
 (.cond (.t 4) (.seq (.ops [⟨(some 2), .mv (.c (.int .i64 0)), none⟩])
 .ret) .skip))
 (.seq (.ops [⟨(some 5), .mv (.m 0), none⟩, ⟨(some 6), .nilCheck (.m 5), none⟩, ⟨(some 7), .fieldAddr 1 (.m 6), none⟩, ⟨(some 8), .load false none (.m 7), none⟩, ⟨(some 9), .lenL (.t 8), none⟩, ⟨(some 2), .mv (.m 9), none⟩])
 .ret))), [.t 2]⟩
/- slices.DeleteFunc[[]plover/vm.State,plover/vm.State] -/
def zQ : ICode := (.seq (.seq (.ops [⟨(some 16), .mv (.t 6), none⟩, ⟨(some 17), .mv (.t 0), none⟩, ⟨(some 18), .lenL (.t 17), none⟩, ⟨(some 19), .bin .lss (.m 16) (.m 18), none⟩])
 (.cond (.t 19) .skip (.exit 0)))
 (.seq (.block 1 (.seq (.ops [⟨(some 22), .mv (.t 0), none⟩, ⟨(some 23), .mv (.t 6), none⟩, ⟨(some 24), .idxAddr 55 (.t 22) (.m 23), none⟩, ⟨(some 25), .load true (some 55) (.m 24), none⟩, ⟨(some 7), .alloc Z55, none⟩, ⟨none, .store 55 (.m 7) (.m 25), none⟩])
 (.seq (.ops [⟨(some 26), .mv (.t 1), none⟩, ⟨(some 27), .load false (some 55) (.t 7), none⟩, ⟨(some 28), .callv (.m 26) [(.m 27)], none⟩, ⟨(some 29), .un .not (.m 28), none⟩])
 (.cond (.t 29) (.seq (.ops [⟨(some 30), .mv (.t 0), none⟩, ⟨(some 31), .mv (.t 5), none⟩, ⟨(some 32), .load true (some 55) (.t 7), none⟩, ⟨(some 33), .idxAddr 55 (.t 30) (.m 31), none⟩, ⟨none, .store 55 (.m 33) (.m 32), none⟩])
 (.ops [⟨(some 34), .mv (.m 5), none⟩, ⟨(some 35), .bin .add (.m 34) (.c (.int .i64 1)), none⟩, ⟨(some 5), .mv (.m 35), none⟩])) .skip))))
 (.ops [⟨(some 20), .mv (.m 6), none⟩, ⟨(some 21), .bin .add (.m 20) (.c (.int .i64 1)), none⟩, ⟨(some 6), .mv (.m 21), none⟩])))
def XI : IFunc := ⟨42, 8, 4, 4, (.seq (.ops [⟨(some 4), .mv (.c (.sl 55 true [])), none⟩])
 (.seq (.ops [⟨(some 8), .mv (.t 0), none⟩, ⟨(some 9), .mv (.t 1), none⟩, ⟨(some 10), .call 29 [(.m 8), (.m 9)], none⟩, ⟨(some 5), .mv (.m 10), none⟩])
 (.seq (.seq (.ops [⟨(some 11), .mv (.t 5), none⟩, ⟨(some 12), .bin .eql (.m 11) (.c (.int .i64 (-1))), none⟩])
 (.cond (.t 12) (.seq (.ops [⟨(some 13), .mv (.m 0), none⟩, ⟨(some 4), .mv (.m 13), none⟩])
 .ret) .skip))
 (.seq (.seq (.ops [⟨(some 14), .mv (.t 5), none⟩, ⟨(some 15), .bin .add (.m 14) (.c (.int .i64 1)), none⟩, ⟨(some 6), .mv (.m 15), none⟩])
 (.block 0 (.loop zQ)))
 (.seq (.ops [⟨(some 36), .mv (.t 0), none⟩, ⟨(some 37), .mv (.t 5), none⟩, ⟨(some 38), .sliceL 55 (.m 36) (some (.t 37)) none none, none⟩, ⟨none, .clear Z55 (.t 38), none⟩])
 (.seq (.ops [⟨(some 39), .mv (.m 0), none⟩, ⟨(some 40), .mv (.m 5), none⟩, ⟨(some 41), .sliceL 55 (.m 39) none (some (.t 40)) none, none⟩, ⟨(some 4), .mv (.m 41), none⟩])
 .ret)))))), [.t 4]⟩
/- (*plover/snap.Snaps).Cut$1 -/
def jam : IFunc := ⟨8, 4, 4, 4, (.seq (.ops [⟨(some 2), .boxv (.t 0), none⟩, ⟨(some 3), .mv (.c (.bool false)), none⟩])
 (.seq (.ops [⟨(some 4), .fieldAddr 52 (.m 2), none⟩, ⟨(some 5), .load false none (.m 4), none⟩, ⟨(some 6), .load false none (.m 1), none⟩, ⟨(some 7), .bin .gtr (.m 5) (.m 6), none⟩, ⟨(some 3), .mv (.m 7), none⟩])
 .ret)), [.t 3]⟩
/- plover/snap.own -/
def QE : IFunc := ⟨16, 3, 12, 4, (.seq (.ops [⟨(some 1), .box (.t 0), none⟩, ⟨(some 2), .alloc Z55, none⟩])
 (.seq (.draw [(0, ⟨(some 3), .fieldAddr 13 (.t 1), none⟩), (1, ⟨(some 4), .load false none (.m 3), none⟩), (3, ⟨(some 6), .fieldAddr 14 (.t 1), none⟩), (4, ⟨(some 7), .load false none (.m 6), none⟩), (6, ⟨(some 9), .fieldAddr 16 (.t 1), none⟩), (7, ⟨(some 10), .load false none (.m 9), none⟩), (2, ⟨(some 5), .call 30 [(.m 4)], none⟩), (9, ⟨(some 12), .fieldAddr 13 (.t 1), none⟩), (5, ⟨(some 8), .call 30 [(.m 7)], none⟩), (8, ⟨(some 11), .call 31 [(.m 10)], none⟩), (10, ⟨none, .store 1 (.m 12) (.m 5), none⟩), (11, ⟨(some 13), .fieldAddr 14 (.t 1), none⟩), (12, ⟨none, .store 1 (.m 13) (.m 8), none⟩), (13, ⟨(some 14), .fieldAddr 16 (.t 1), none⟩), (14, ⟨none, .store 1 (.m 14) (.m 11), none⟩)] [(4, 2), (7, 2), (7, 5)])
 (.seq (.ops [⟨(some 15), .load true (some 55) (.m 1), none⟩, ⟨none, .store 55 (.m 2) (.m 15), none⟩])
 .ret))), [.cell 2 (some 55)]⟩
/- (plover/ploverref24.State).Copied -/
def Qy : IFunc := ⟨19, 3, 5, 4, (.seq (.ops [⟨(some 1), .box (.t 0), none⟩, ⟨(some 2), .alloc Z55, none⟩])
 (.seq (.ops [⟨(some 3), .buildSl 1 [], none⟩, ⟨(some 4), .fieldAddr 13 (.t 1), none⟩, ⟨(some 5), .load true none (.m 4), none⟩, ⟨(some 6), .append false false 1 4 (.m 3) (.m 5), none⟩, ⟨(some 7), .fieldAddr 13 (.t 1), none⟩, ⟨none, .store 1 (.m 7) (.m 6), none⟩])
 (.seq (.ops [⟨(some 8), .buildSl 1 [], none⟩, ⟨(some 9), .fieldAddr 14 (.t 1), none⟩, ⟨(some 10), .load true none (.m 9), none⟩, ⟨(some 11), .append false false 1 4 (.m 8) (.m 10), none⟩, ⟨(some 12), .fieldAddr 14 (.t 1), none⟩, ⟨none, .store 1 (.m 12) (.m 11), none⟩])
 (.seq (.ops [⟨(some 13), .buildSl 3 [], none⟩, ⟨(some 14), .fieldAddr 16 (.t 1), none⟩, ⟨(some 15), .load true none (.m 14), none⟩, ⟨(some 16), .append false false 3 24 (.m 13) (.m 15), none⟩, ⟨(some 17), .fieldAddr 16 (.t 1), none⟩, ⟨none, .store 1 (.m 17) (.m 16), none⟩])
 (.seq (.ops [⟨(some 18), .load true (some 55) (.m 1), none⟩, ⟨none, .store 55 (.m 2) (.m 18), none⟩])
 .ret))))), [.cell 2 (some 55)]⟩
/- (*plover/snap.Snaps).last -/
def XJ : IFunc := ⟨24, 18, 3, 5, (.seq (.ops [⟨(some 3), .boxv (.t 1), none⟩, ⟨(some 4), .alloc Z55, none⟩, ⟨(some 5), .alloc [(.bool false)], none⟩])
 (.seq (.seq (.ops [⟨(some 8), .mv (.t 0), none⟩, ⟨(some 9), .isnil false 0 (.m 8), none⟩])
 (.cond (.t 9) (.seq (.ops [⟨(some 10), .build Z55 [], none⟩, ⟨none, .store 55 (.m 4) (.m 10), none⟩, ⟨none, .store 1 (.m 5) (.c (.bool false)), none⟩])
 .ret) .skip))
 (.seq (.seq (.ops [⟨(some 11), .mv (.t 0), none⟩, ⟨(some 12), .nilCheck (.m 11), none⟩, ⟨(some 13), .fieldAddr 1 (.m 12), none⟩, ⟨(some 14), .load false none (.m 13), none⟩, ⟨(some 15), .call 32 [(.m 14)], none⟩])
 (.block 0 (.rangeF (.t 15) [16, 17] (.ops [⟨(some 7), .alloc Z55, none⟩, ⟨none, .store 55 (.m 7) (.t 17), none⟩]) (.block 1 (.seq (.ops [⟨(some 18), .load false none (.t 3), none⟩, ⟨(some 19), .load false (some 55) (.t 7), none⟩, ⟨(some 20), .callv (.m 18) [(.m 19)], none⟩])
 (.cond (.t 20) (.seq (.ops [⟨(some 21), .load true (some 55) (.m 7), none⟩, ⟨(some 22), .call 20 [(.m 21)], none⟩, ⟨none, .store 55 (.m 4) (.m 22), none⟩, ⟨none, .store 1 (.m 5) (.c (.bool true)), none⟩])
 .ret) .skip))))))
 (.seq (.ops [⟨(some 23), .build Z55 [], none⟩, ⟨none, .store 55 (.m 4) (.m 23), none⟩, ⟨none, .store 1 (.m 5) (.c (.bool false)), none⟩])
 .ret)))), [.cell 4 (some 55), .cell 5 none]⟩
/- (*plover/snap.Snaps).Before$1 -/
def jda : IFunc := ⟨8, 4, 4, 4, (.seq (.ops [⟨(some 2), .boxv (.t 0), none⟩, ⟨(some 3), .mv (.c (.bool false)), none⟩])
 (.seq (.ops [⟨(some 4), .fieldAddr 52 (.m 2), none⟩, ⟨(some 5), .load false none (.m 4), none⟩, ⟨(some 6), .load false none (.m 1), none⟩, ⟨(some 7), .bin .leq (.m 5) (.m 6), none⟩, ⟨(some 3), .mv (.m 7), none⟩])
 .ret)), [.t 3]⟩
/- (*plover/snap.Snaps).Retired$1 -/
def jdb : IFunc := ⟨8, 4, 4, 4, (.seq (.ops [⟨(some 2), .boxv (.t 0), none⟩, ⟨(some 3), .mv (.c (.bool false)), none⟩])
 (.seq (.ops [⟨(some 4), .fieldAddr 50 (.m 2), none⟩, ⟨(some 5), .load false none (.m 4), none⟩, ⟨(some 6), .load false none (.m 1), none⟩, ⟨(some 7), .bin .leq (.m 5) (.m 6), none⟩, ⟨(some 3), .mv (.m 7), none⟩])
 .ret)), [.t 3]⟩
/- plover/ploverref24.Words -/
def XK : ICode := (.seq (.seq (.ops [⟨(some 11), .mv (.t 5), none⟩, ⟨(some 12), .mv (.t 0), none⟩, ⟨(some 13), .lenL (.t 12), none⟩, ⟨(some 14), .bin .lss (.m 11) (.m 13), none⟩])
 (.cond (.t 14) .skip (.exit 0)))
 (.seq (.block 1 (.seq (.draw [(0, ⟨(some 17), .mv (.t 0), none⟩), (1, ⟨(some 18), .mv (.t 5), none⟩), (2, ⟨(some 19), .idxAddr 1 (.t 17) (.m 18), none⟩), (3, ⟨(some 20), .load false none (.m 19), none⟩), (4, ⟨(some 21), .mv (.t 1), none⟩), (5, ⟨(some 22), .mv (.t 5), none⟩), (6, ⟨(some 23), .idxAddr 1 (.t 21) (.m 22), none⟩), (7, ⟨(some 24), .load false none (.m 23), none⟩), (8, ⟨(some 25), .bin .neq (.m 20) (.m 24), none⟩)] [])
 (.cond (.t 25) (.seq (.ops [⟨(some 4), .mv (.c (.bool false)), none⟩])
 .ret) .skip)))
 (.ops [⟨(some 15), .mv (.m 5), none⟩, ⟨(some 16), .bin .add (.m 15) (.c (.int .i64 1)), none⟩, ⟨(some 5), .mv (.m 16), none⟩])))
def ZC : IFunc := ⟨26, 6, 9, 4, (.seq (.ops [⟨(some 4), .mv (.c (.bool false)), none⟩])
 (.seq (.seq (.ops [⟨(some 6), .mv (.t 0), none⟩, ⟨(some 7), .lenL (.t 6), none⟩, ⟨(some 8), .mv (.t 1), none⟩, ⟨(some 9), .lenL (.t 8), none⟩, ⟨(some 10), .bin .neq (.m 7) (.m 9), none⟩])
 (.cond (.t 10) (.seq (.ops [⟨(some 4), .mv (.c (.bool false)), none⟩])
 .ret) .skip))
 (.seq (.seq (.ops [⟨(some 5), .mv (.c (.int .i64 0)), none⟩])
 (.block 0 (.loop XK)))
 (.seq (.ops [⟨(some 4), .mv (.c (.bool true)), none⟩])
 .ret)))), [.t 4]⟩
/- plover/ploverref24.Rans -/
def jan : ICode := (.seq (.seq (.ops [⟨(some 11), .mv (.t 5), none⟩, ⟨(some 12), .mv (.t 0), none⟩, ⟨(some 13), .lenL (.t 12), none⟩, ⟨(some 14), .bin .lss (.m 11) (.m 13), none⟩])
 (.cond (.t 14) .skip (.exit 0)))
 (.seq (.block 1 (.seq (.draw [(0, ⟨(some 17), .mv (.t 0), none⟩), (1, ⟨(some 18), .mv (.t 5), none⟩), (2, ⟨(some 19), .idxAddr 3 (.t 17) (.m 18), none⟩), (3, ⟨(some 20), .load false (some 3) (.m 19), none⟩), (4, ⟨(some 21), .mv (.t 1), none⟩), (5, ⟨(some 22), .mv (.t 5), none⟩), (6, ⟨(some 23), .idxAddr 3 (.t 21) (.m 22), none⟩), (7, ⟨(some 24), .load false (some 3) (.m 23), none⟩), (8, ⟨(some 25), .pur (.eqa true [0, 0, 2]) [(.m 20), (.m 24)], none⟩)] [])
 (.cond (.t 25) (.seq (.ops [⟨(some 4), .mv (.c (.bool false)), none⟩])
 .ret) .skip)))
 (.ops [⟨(some 15), .mv (.m 5), none⟩, ⟨(some 16), .bin .add (.m 15) (.c (.int .i64 1)), none⟩, ⟨(some 5), .mv (.m 16), none⟩])))
def jbZ : IFunc := ⟨26, 6, 9, 4, (.seq (.ops [⟨(some 4), .mv (.c (.bool false)), none⟩])
 (.seq (.seq (.ops [⟨(some 6), .mv (.t 0), none⟩, ⟨(some 7), .lenL (.t 6), none⟩, ⟨(some 8), .mv (.t 1), none⟩, ⟨(some 9), .lenL (.t 8), none⟩, ⟨(some 10), .bin .neq (.m 7) (.m 9), none⟩])
 (.cond (.t 10) (.seq (.ops [⟨(some 4), .mv (.c (.bool false)), none⟩])
 .ret) .skip))
 (.seq (.seq (.ops [⟨(some 5), .mv (.c (.int .i64 0)), none⟩])
 (.block 0 (.loop jan)))
 (.seq (.ops [⟨(some 4), .mv (.c (.bool true)), none⟩])
 .ret)))), [.t 4]⟩
/- slices.IndexFunc[[]plover/vm.State,plover/vm.State] -/
def zT : ICode := (.seq (.ops [⟨(some 9), .bin .lss (.t 8) (.t 7), none⟩])
 (.seq (.cond (.t 9) .skip (.exit 0))
 (.seq (.block 1 (.seq (.ops [⟨(some 10), .mv (.t 8), none⟩, ⟨(some 5), .mv (.m 10), none⟩])
 (.seq (.ops [⟨(some 11), .mv (.t 1), none⟩, ⟨(some 12), .mv (.t 0), none⟩, ⟨(some 13), .mv (.t 5), none⟩, ⟨(some 14), .idxAddr 55 (.t 12) (.m 13), none⟩, ⟨(some 15), .load false (some 55) (.m 14), none⟩, ⟨(some 16), .callv (.m 11) [(.m 15)], none⟩])
 (.cond (.t 16) (.seq (.ops [⟨(some 17), .mv (.m 5), none⟩, ⟨(some 4), .mv (.m 17), none⟩])
 .ret) .skip))))
 (.ops [⟨(some 18), .bin .add (.m 8) (.c (.int .i64 1)), none⟩, ⟨(some 8), .mv (.m 18), none⟩]))))
def XM : IFunc := ⟨19, 9, 6, 4, (.seq (.ops [⟨(some 4), .mv (.c (.int .i64 0)), none⟩])
 (.seq (.seq (.ops [⟨(some 6), .mv (.t 0), none⟩, ⟨(some 7), .lenL (.t 6), none⟩, ⟨(some 8), .mv (.c (.int .i64 0)), none⟩])
 (.block 0 (.loop zT)))
 (.seq (.ops [⟨(some 4), .mv (.c (.int .i64 (-1))), none⟩])
 .ret))), [.t 4]⟩
/- slices.Clone[[]int32,int32] -/
def KK : IFunc := ⟨8, 3, 3, 3, (.seq (.ops [⟨(some 2), .mv (.c (.sl 1 true [])), none⟩])
 (.seq (.seq (.ops [⟨(some 3), .mv (.t 0), none⟩, ⟨(some 4), .pur (.isnilS false) [(.t 3)], none⟩])
 (.cond (.t 4) (.seq (.ops [⟨(some 2), .mv (.c (.sl 1 true [])), none⟩])
 .ret) .skip))
 (.seq (.ops [⟨(some 5), .buildRs 1 [], none⟩, ⟨(some 6), .mv (.m 0), none⟩, ⟨(some 7), .append true false 1 4 (.m 5) (.m 6), none⟩, ⟨(some 2), .mv (.m 7), none⟩])
 .ret))), [.t 2]⟩
/- slices.Clone[[]plover/api.Ran,plover/api.Ran] -/
def Qz : IFunc := ⟨8, 3, 3, 3, (.seq (.ops [⟨(some 2), .mv (.c (.sl 3 true [])), none⟩])
 (.seq (.seq (.ops [⟨(some 3), .mv (.t 0), none⟩, ⟨(some 4), .pur (.isnilS false) [(.t 3)], none⟩])
 (.cond (.t 4) (.seq (.ops [⟨(some 2), .mv (.c (.sl 3 true [])), none⟩])
 .ret) .skip))
 (.seq (.ops [⟨(some 5), .buildSl 3 [], none⟩, ⟨(some 6), .mv (.m 0), none⟩, ⟨(some 7), .append false false 3 24 (.m 5) (.m 6), none⟩, ⟨(some 2), .mv (.m 7), none⟩])
 .ret))), [.t 2]⟩
/- slices.Backward[[]plover/vm.State,plover/vm.State] -/
def VT : IFunc := ⟨4, 3, 1, 3, (.seq (.ops [⟨(some 1), .boxv (.t 0), none⟩, ⟨(some 2), .mv (.c (.prim .nilFunc)), none⟩])
 (.seq (.ops [⟨(some 3), .mkFn (.func 38) [] [(.m 1)], none⟩, ⟨(some 2), .mv (.m 3), none⟩])
 .ret)), [.t 2]⟩
/- slices.Backward[[]plover/vm.State,plover/vm.State]$1 -/
def zU : ICode := (.seq (.seq (.ops [⟨(some 7), .mv (.t 3), none⟩, ⟨(some 8), .bin .geq (.m 7) (.c (.int .i64 0)), none⟩])
 (.cond (.t 8) .skip (.exit 0)))
 (.seq (.block 1 (.seq (.ops [⟨(some 11), .mv (.t 0), none⟩, ⟨(some 12), .mv (.t 3), none⟩, ⟨(some 13), .load false none (.t 1), none⟩, ⟨(some 14), .mv (.t 3), none⟩, ⟨(some 15), .idxAddr 55 (.t 13) (.m 14), none⟩, ⟨(some 16), .load false (some 55) (.m 15), none⟩, ⟨(some 17), .callv (.m 11) [(.m 12), (.m 16)], none⟩, ⟨(some 18), .un .not (.m 17), none⟩])
 (.cond (.t 18) .ret .skip)))
 (.ops [⟨(some 9), .mv (.m 3), none⟩, ⟨(some 10), .bin .sub (.m 9) (.c (.int .i64 1)), none⟩, ⟨(some 3), .mv (.m 10), none⟩])))
def Xv : IFunc := ⟨19, 4, 8, 4, (.seq (.ops [⟨(some 4), .load false none (.t 1), none⟩, ⟨(some 5), .lenL (.t 4), none⟩, ⟨(some 6), .bin .sub (.m 5) (.c (.int .i64 1)), none⟩, ⟨(some 3), .mv (.m 6), none⟩])
 (.block 0 (.loop zU))), []⟩
end Go.Idl.Sp
namespace Go.Idl.Sp
open Go Go.Idl Go.Idl.En
variable {F : vM}
abbrev J (n : Int) : IVal := .int .i32 n
abbrev nl1 : IVal := .sl 1 true []
abbrev nl3 : IVal := .sl 3 true []
abbrev n0 : IVal := .sl 0 true []
/-! ### the store -/
theorem jT {σ l : List IObj} (k : Nat) : (σ ++ l)[σ.length + k]? = l[k]? := by rw [List.getElem?_append_right (by omega)]; congr 1; omega
theorem jw {σ l : List IObj} : (σ ++ l)[σ.length]? = l[0]? := jT 0
theorem kC {σ l : List IObj} (k : Nat) (x : IObj) : (σ ++ l).set (σ.length + k) x = σ ++ l.set k x := by rw [List.set_append_right _ _ (by omega)]; congr 2; omega
theorem jL {σ l : List IObj} (x : IObj) : (σ ++ l).set σ.length x = σ ++ l.set 0 x := kC 0 x
theorem jj {σ : List IObj} {id : Nat} {o : IObj} (h : σ[id]? = some o) : id < σ.length := by
 rcases Nat.lt_or_ge id σ.length with h2 | h2
 . exact h2
 . rw [List.getElem?_eq_none h2] at h; cases h
theorem vk {σ : List IObj} {id : Nat} {o : IObj} (h : σ[id]? = some o) (l : List IObj) : (σ ++ l)[id]? = some o := by rw [List.getElem?_append_left (jj h), h]
theorem jN {σ l : List IObj} : (σ ++ l).take σ.length = σ := by simp
theorem dlt (n k : Nat) (h : 0 < k) : decide (n < n + k) = true := decide_eq_true (by omega)
theorem dge (n k : Nat) (h : 0 < k) : decide (n + k < n) = false := decide_eq_false (by omega)
theorem dle (n k : Nat) : decide (n <= n + k) = true := decide_eq_true (by omega)
theorem kJ (a b : Nat) : isNil 0 (.ptr a b) = some false := rfl
theorem kI : isNil 0 (.prim (.pointer none)) = some true := rfl
theorem bff : (false != false) = false := rfl
theorem btt : (true != true) = false := rfl
theorem vN : (false != true) = true := rfl
theorem yH {n : Int} (h : -9223372036854775808 <= n) (h2 : n < 9223372036854775808) : IntKind.wrap .i64 n = n := by
 simp only [IntKind.wrap, IntKind.bits, IntKind.signed]; simp; omega
theorem VS {n : Nat} (h : n < 1000000) : IntKind.i64.wrap ((n : Int) + 1) = ((n + 1 : Nat) : Int) := by rw [yH (by omega) (by omega)]; omega
/-! ### states -/
theorem kU (g sk rn : IVal) (rt cy : Int) : (SC g sk rn rt cy).length = 55 := rfl
theorem qA (g sk rn : IVal) (rt cy : Int) : vl (some 55) (SC g sk rn rt cy) 0 = some (.agg (SC g sk rn rt cy)) := rfl
theorem qZ (g sk rn : IVal) (rt cy : Int) : vl none (SC g sk rn rt cy) 13 = some g := rfl
theorem q9 (g sk rn : IVal) (rt cy : Int) : vl none (SC g sk rn rt cy) 14 = some sk := rfl
theorem va (g sk rn : IVal) (rt cy : Int) : vl none (SC g sk rn rt cy) 16 = some rn := rfl
theorem vf (g sk rn : IVal) (rt cy : Int) : vl none (SC g sk rn rt cy) 50 = some (.int .u64 rt) := rfl
theorem vg (g sk rn : IVal) (rt cy : Int) : vl none (SC g sk rn rt cy) 52 = some (I cy) := rfl
theorem jaT : ∀ (vs pre cs : List IVal), cs.length = vs.length -> jc (pre ++ cs) pre.length vs = pre ++ vs
 | [], pre, cs, h => by cases cs with
   | nil => rfl
   | cons c cs => cases h
 | v :: vs, pre, cs, h => by
   cases cs with
   | nil => cases h
   | cons c cs =>
     have h2 := jaT vs (pre ++ [v]) cs (by simpa using h)
     simp only [jc]
     rw [List.set_append_right _ _ (Nat.le_refl _), Nat.sub_self, List.set_cons_zero]
     simpa using h2
theorem XY {vs cs : List IVal} (h : cs.length = vs.length) : jc cs 0 vs = vs := jaT vs [] cs h
theorem vd (g sk rn : IVal) (rt cy : Int) (g' sk' rn' : IVal) (rt' cy' : Int) : jc (SC g sk rn rt cy) 0 (SC g' sk' rn' rt' cy') = SC g' sk' rn' rt' cy' := XY (by rw [kU, kU])
theorem qt (g sk rn : IVal) (rt cy : Int) (v : IVal) : jc (SC g sk rn rt cy) 13 [v] = SC v sk rn rt cy := rfl
theorem qu (g sk rn : IVal) (rt cy : Int) (v : IVal) : jc (SC g sk rn rt cy) 14 [v] = SC g v rn rt cy := rfl
theorem qw (g sk rn : IVal) (rt cy : Int) (v : IVal) : jc (SC g sk rn rt cy) 16 [v] = SC g sk v rt cy := rfl
theorem qx (g sk rn : IVal) (rt cy v : Int) : jc (SC g sk rn rt cy) 50 [.int .u64 v] = SC g sk rn v cy := rfl
theorem qy (g sk rn : IVal) (rt cy v : Int) : jc (SC g sk rn rt cy) 52 [.int .i64 v] = SC g sk rn rt v := rfl
theorem qB (g sk rn : IVal) (rt cy : Int) (v : IVal) : (SC g sk rn rt cy).set 13 v = SC v sk rn rt cy := rfl
theorem qC (g sk rn : IVal) (rt cy : Int) (v : IVal) : (SC g sk rn rt cy).set 14 v = SC g v rn rt cy := rfl
theorem qD (g sk rn : IVal) (rt cy : Int) (v : IVal) : (SC g sk rn rt cy).set 16 v = SC g sk v rt cy := rfl
theorem qE (g sk rn : IVal) (rt cy v : Int) : (SC g sk rn rt cy).set 50 (.int .u64 v) = SC g sk rn v cy := rfl
theorem qF (g sk rn : IVal) (rt cy v : Int) : (SC g sk rn rt cy).set 52 (.int .i64 v) = SC g sk rn rt v := rfl
theorem ve (g sk rn : IVal) (rt cy : Int) : (SC g sk rn rt cy).map un1 = SC (un1 g) (un1 sk) (un1 rn) rt cy := rfl
theorem kG (g sk rn : IVal) (rt cy : Int) : (SC g sk rn rt cy).all IVal.isCell = (g.isCell && (sk.isCell && rn.isCell)) := by
 simp only [SC, List.all_cons, List.all_nil, jf, jb, Bool.true_and, Bool.and_true]
theorem vb (g sk rn : IVal) (rt cy : Int) : (SC g sk rn rt cy).all nr1 = (nr1 g && (nr1 sk && nr1 rn)) := by
 simp only [SC, List.all_cons, List.all_nil, jW, jA, Bool.true_and, Bool.and_true]
theorem kH : ext [] = false := rfl
theorem jn (xs : List IVal) : IVal.cells (.agg xs) = xs := rfl
theorem kD (xs : List IVal) : un2 (.agg xs) = .agg (xs.map un1) := rfl
theorem kK (xs : List IVal) : nr2 (.agg xs) = xs.all nr1 := rfl
/-! ### a list's clone -/
theorem ZV (h : F 30 = some KK) (o : Nat) (σ : List IObj) : cfw F (.f 30) [.sl o true []] σ = some ⟨false, nl1, σ, []⟩ := by
 rw [vp KK h, kT]
 simp only [KK, qM, vw, Bool.true_bne, List.isEmpty_nil, kT, jZ, Ts.fill, vF, vL, vz, jP, List.map_nil, List.map_cons, List.all_nil, List.all_cons, vG, kN, qe, kh, qg, qQ, qf, qR, qd, kb, jG, ke, qc, qb, kc, kg, ka, jX, jF, j9, qa, k9, j8, Bool.and_true, Bool.true_and, Bool.false_and, Bool.and_false, Bool.not_false, Bool.not_true, Bool.or_true, Bool.true_or, List.take_length, List.filter_nil, List.filter_cons, Bool.false_eq_true, jB, jR, j0, j5, jD, jC, jo, jt, jr, kL, jQ, jd, getAll, stepCall, kM, unI, Opd.get, kV, qP, qL, je, ja, jE, kW, kY, kX, tag, qG, jk, jg, jq, jx, jp, jy, List.length_range, jf, jb, ji, jl, jh, jm, jW, jA, j7, kZ, j6, k8, jc, List.set_cons_zero, vr, rv, bin, vH, kv, jJ, ky, qp, kx, kw, ju, jK, qn, qr, qq, ku, kz, qo, jY, jI, kt, ql, kq, qm, kl, jH, kp, qh, ko, qk, Nat.reduceAdd, Nat.reduceSub, Nat.reduceMul, Nat.reduceDiv, Nat.reduceMod, Nat.reducePow, Nat.reduceLT, Nat.reduceLeDiff, Nat.reduceEqDiff, Nat.reduceBEq, Nat.reduceBNe, reduceIte, Int.reduceEq, Int.reduceLT, Int.reduceLE, Int.reduceNeg, Int.reduceToNat, Int.reduceMul, Int.reduceAdd, Int.reduceSub, Int.cast_ofNat_Int, reduceCtorEq, Nat.zero_add, Nat.add_zero, Nat.mul_one, bft, btf, beq_self_eq_true, true_and, and_true, and_self, if_true, if_false, ite_true, ite_false, c0, c1, not_true_eq_false, not_false_eq_true, Bool.true_eq_false, Option.some.injEq, Prod.mk.injEq, exists_eq_left, List.length_map, List.getElem?_map, Option.map_some, List.cons_append, List.nil_append, List.length_cons, List.length_nil, List.append_nil, decide_true, decide_false]
theorem Y2 (h : F 31 = some Qz) (o : Nat) (σ : List IObj) : cfw F (.f 31) [.sl o true []] σ = some ⟨false, nl3, σ, []⟩ := by
 rw [vp Qz h, kT]
 simp only [Qz, qM, vw, Bool.true_bne, List.isEmpty_nil, kT, jZ, Ts.fill, vF, vL, vz, jP, List.map_nil, List.map_cons, List.all_nil, List.all_cons, vG, kN, qe, kh, qg, qQ, qf, qR, qd, kb, jG, ke, qc, qb, kc, kg, ka, jX, jF, j9, qa, k9, j8, Bool.and_true, Bool.true_and, Bool.false_and, Bool.and_false, Bool.not_false, Bool.not_true, Bool.or_true, Bool.true_or, List.take_length, List.filter_nil, List.filter_cons, Bool.false_eq_true, jB, jR, j0, j5, jD, jC, jo, jt, jr, kL, jQ, jd, getAll, stepCall, kM, unI, Opd.get, kV, qP, qL, je, ja, jE, kW, kY, kX, tag, qG, jk, jg, jq, jx, jp, jy, List.length_range, jf, jb, ji, jl, jh, jm, jW, jA, j7, kZ, j6, k8, jc, List.set_cons_zero, vr, rv, bin, vH, kv, jJ, ky, qp, kx, kw, ju, jK, qn, qr, qq, ku, kz, qo, jY, jI, kt, ql, kq, qm, kl, jH, kp, qh, ko, qk, Nat.reduceAdd, Nat.reduceSub, Nat.reduceMul, Nat.reduceDiv, Nat.reduceMod, Nat.reducePow, Nat.reduceLT, Nat.reduceLeDiff, Nat.reduceEqDiff, Nat.reduceBEq, Nat.reduceBNe, reduceIte, Int.reduceEq, Int.reduceLT, Int.reduceLE, Int.reduceNeg, Int.reduceToNat, Int.reduceMul, Int.reduceAdd, Int.reduceSub, Int.cast_ofNat_Int, reduceCtorEq, Nat.zero_add, Nat.add_zero, Nat.mul_one, bft, btf, beq_self_eq_true, true_and, and_true, and_self, if_true, if_false, ite_true, ite_false, c0, c1, not_true_eq_false, not_false_eq_true, Bool.true_eq_false, Option.some.injEq, Prod.mk.injEq, exists_eq_left, List.length_map, List.getElem?_map, Option.map_some, List.cons_append, List.nil_append, List.length_cons, List.length_nil, List.append_nil, decide_true, decide_false]
theorem jfo (xs : List Int) : (xs.map J).flatMap (fun v => (un2 v).cells) = xs.map J := by induction xs with
 | nil => rfl
 | cons x xs ih => simp only [List.map_cons, List.flatMap_cons, ih]; rfl
theorem jbA (h : F 30 = some KK) {id n : Nat} {xs : List Int} {σ : List IObj} (hσ : σ[id]? = some (.cells (xs.map J))) (hn : xs.length = n) (hn2 : n < 1000) :
   cfw F (.f 30) [.rs 1 id 0 n] σ = some ⟨false, .rs 1 (σ.length + 1) 0 n, σ ++ [.dead, .cells (xs.map J)], []⟩ := by
 rw [vp KK h, kT]
 have p1 : n * 4 <= 1099511627776 := by omega
 have p2 : n <= 1099511627776 := by omega
 have p3 : (xs.map J).take n = xs.map J := by rw [List.take_of_length_le]; simp [hn]
 have h2 := vk hσ
 have p4 : n <= xs.length := by omega
 simp only [KK, qM, vw, jV, jv, h2, hσ, p1, p2, p3, p4, jfo, jT, jw, kC, jL, List.append_assoc, List.drop_zero, nilOwn, hn, List.flatMap_nil, List.getElem?_cons_zero, List.take_zero, Nat.zero_le, Nat.le_refl, List.nil_append, List.length_append, Nat.lt_irrefl, kT, jZ, Ts.fill, vF, vL, vz, jP, List.map_nil, List.map_cons, List.all_nil, List.all_cons, vG, kN, qe, kh, qg, qQ, qf, qR, qd, kb, jG, ke, qc, qb, kc, kg, ka, jX, jF, j9, qa, k9, j8, Bool.and_true, Bool.true_and, Bool.false_and, Bool.and_false, Bool.not_false, Bool.not_true, Bool.or_true, Bool.true_or, List.take_length, List.filter_nil, List.filter_cons, Bool.false_eq_true, jB, jR, j0, j5, jD, jC, jo, jt, jr, kL, jQ, jd, getAll, stepCall, kM, unI, Opd.get, kV, qP, qL, je, ja, jE, kW, kY, kX, tag, qG, jk, jg, jq, jx, jp, jy, List.length_range, jf, jb, ji, jl, jh, jm, jW, jA, j7, kZ, j6, k8, jc, List.set_cons_zero, vr, rv, bin, vH, kv, jJ, ky, qp, kx, kw, ju, jK, qn, qr, qq, ku, kz, qo, jY, jI, kt, ql, kq, qm, kl, jH, kp, qh, ko, qk, Nat.reduceAdd, Nat.reduceSub, Nat.reduceMul, Nat.reduceDiv, Nat.reduceMod, Nat.reducePow, Nat.reduceLT, Nat.reduceLeDiff, Nat.reduceEqDiff, Nat.reduceBEq, Nat.reduceBNe, reduceIte, Int.reduceEq, Int.reduceLT, Int.reduceLE, Int.reduceNeg, Int.reduceToNat, Int.reduceMul, Int.reduceAdd, Int.reduceSub, Int.cast_ofNat_Int, reduceCtorEq, Nat.zero_add, Nat.add_zero, Nat.mul_one, bft, btf, beq_self_eq_true, true_and, and_true, and_self, if_true, if_false, ite_true, ite_false, c0, c1, not_true_eq_false, not_false_eq_true, Bool.true_eq_false, Option.some.injEq, Prod.mk.injEq, exists_eq_left, List.length_map, List.getElem?_map, Option.map_some, List.cons_append, List.length_cons, List.length_nil, List.append_nil, decide_true, decide_false]
/-! ### a state of its own -/
theorem Vk (h : F 20 = some QE) (h30 : F 30 = some KK) (h31 : F 31 = some Qz) {id : Nat} {rt cy : Int} {xs : List Int} {a b : Nat} {σ : List IObj} (hσ : σ[id]? = some (.cells (xs.map J))) (hn : xs.length = 3) :
   ∃ o1 o2, cfw F (.f 20) [.agg (SC (.sl a true []) (.rs 1 id 0 3) (.sl b true []) rt cy)] σ = some ⟨false, .agg (SC nl1 (.rs 1 (σ.length + 3) 0 3) nl3 rt cy), σ ++ [o1, o2, .dead, .cells (xs.map J)], []⟩ := by
 rw [vp QE h, kT]
 have h2 := vk hσ
 have c1 := fun o σ => ZV h30 o σ
 have c2 := fun l => jbA h30 (h2 l) hn (by omega)
 have c3 := fun o σ => Y2 h31 o σ
 simp only [QE, qM, jv, c1, c2, c3, h2, jT, jw, kC, jL, kU, qA, qZ, q9, va, vd, qt, qu, qw, qB, qC, qD, ve, kG, vb, jn, kD, List.append_assoc, List.getElem?_cons_zero, List.getElem?_cons_succ, List.set_cons_succ, Nat.le_refl, Nat.lt_irrefl, dlt, dge, dle, jS, List.isEmpty_nil, jM, jz, qz, vy, jO, jU, kR, vt, qH, Bool.true_or, Bool.or_true, Bool.false_or, Bool.or_false, bne_self_eq_false, List.length_append, Nat.lt_add_one, Nat.lt_succ_self, kT, jZ, Ts.fill, vF, vL, vz, jP, List.map_nil, List.map_cons, List.all_nil, List.all_cons, vG, kN, qe, kh, qg, qQ, qf, qR, qd, kb, jG, ke, qc, qb, kc, kg, ka, jX, jF, j9, qa, k9, j8, Bool.and_true, Bool.true_and, Bool.false_and, Bool.and_false, Bool.not_false, Bool.not_true, List.take_length, List.filter_nil, List.filter_cons, Bool.false_eq_true, jB, jR, j0, j5, jD, jC, jo, jt, jr, kL, jQ, jd, getAll, stepCall, kM, unI, Opd.get, kV, qP, qL, je, ja, jE, kW, kY, kX, tag, qG, jk, jg, jq, jx, jp, jy, List.length_range, jf, jb, ji, jl, jh, jm, jW, jA, j7, kZ, j6, k8, jc, List.set_cons_zero, vr, rv, bin, vH, kv, jJ, ky, qp, kx, kw, ju, jK, qn, qr, qq, ku, kz, qo, jY, jI, kt, ql, kq, qm, kl, jH, kp, qh, ko, qk, Nat.reduceAdd, Nat.reduceSub, Nat.reduceMul, Nat.reduceDiv, Nat.reduceMod, Nat.reducePow, Nat.reduceLT, Nat.reduceLeDiff, Nat.reduceEqDiff, Nat.reduceBEq, Nat.reduceBNe, reduceIte, Int.reduceEq, Int.reduceLT, Int.reduceLE, Int.reduceNeg, Int.reduceToNat, Int.reduceMul, Int.reduceAdd, Int.reduceSub, Int.cast_ofNat_Int, reduceCtorEq, Nat.zero_add, Nat.add_zero, Nat.mul_one, bft, btf, beq_self_eq_true, true_and, and_true, and_self, if_true, if_false, ite_true, ite_false, c0, not_true_eq_false, not_false_eq_true, Bool.true_eq_false, Option.some.injEq, Prod.mk.injEq, exists_eq_left, List.length_map, List.getElem?_map, Option.map_some, List.cons_append, List.nil_append, List.length_cons, List.length_nil, List.append_nil, decide_true, decide_false]
 exact ⟨_, _, rfl⟩
end Go.Idl.Sp
namespace Go.Idl.Sp
open Go Go.Idl Go.Idl.En
variable {F : vM}
theorem jga (xs : List Int) : (xs.map J).map un2 = xs.map J := by simp [jY]
theorem je3 (xs : List Int) : (xs.map J).all nr2 = true := by simp [jX]
theorem jfx (xs : List Int) : (xs.map J).all (fun v => v.cells.length == 1) = true := by simp [jk]
theorem VF (h : F 21 = some Qy) {id : Nat} {rt cy : Int} {xs : List Int} {a b : Nat} {r r2 : Bool} {σ : List IObj} (hσ : σ[id]? = some (.cells (xs.map J))) (hn : xs.length = 3) :
   cfw F (.f 21) [.agg (SC (.sl a r []) (.rs 1 id 0 3) (.sl b r2 []) rt cy)] σ = some ⟨false, .agg (SC (.sl 1 false []) (.sl 1 false (xs.map J)) (.sl 3 false []) rt cy), σ, []⟩ := by
 rw [vp Qy h, kT]
 have h2 := vk hσ
 have p3 : (xs.map J).take 3 = xs.map J := by rw [List.take_of_length_le]; simp [hn]
 have p4 : (xs.map J).isEmpty = false := by cases xs with | nil => cases hn | cons x xs => rfl
 simp only [Qy, h2, hn, p3, p4, jga, je3, jfx, qM, vw, jv, jV, nilOwn, vI, kH, jT, jw, kC, jL, kU, qA, qZ, q9, va, vf, vg, vd, qt, qu, qw, qx, qy, qB, qC, qD, qE, qF, ve, kG, vb, jn, kD, kK, List.append_assoc, List.drop_zero, List.isEmpty_nil, List.getElem?_cons_zero, List.getElem?_cons_succ, List.set_cons_succ, List.flatMap_nil, List.take_zero, Nat.zero_le, Nat.le_refl, Nat.lt_irrefl, List.nil_append, List.length_append, dlt, dge, dle, jS, jN, kJ, kI, bff, btt, vN, jM, jz, qz, vy, jO, jU, kR, vt, qH, Bool.true_or, Bool.or_true, Bool.false_or, Bool.or_false, bne_self_eq_false, Nat.lt_add_one, Nat.lt_succ_self, kT, jZ, Ts.fill, vF, vL, vz, jP, List.map_nil, List.map_cons, List.all_nil, List.all_cons, vG, kN, qe, kh, qg, qQ, qf, qR, qd, kb, jG, ke, qc, qb, kc, kg, ka, jX, jF, j9, qa, k9, j8, Bool.and_true, Bool.true_and, Bool.false_and, Bool.and_false, Bool.not_false, Bool.not_true, List.take_length, List.filter_nil, List.filter_cons, Bool.false_eq_true, jB, jR, j0, j5, jD, jC, jo, jt, jr, kL, jQ, jd, getAll, stepCall, kM, unI, Opd.get, kV, qP, qL, je, ja, jE, kW, kY, kX, tag, qG, jk, jg, jq, jx, jp, jy, List.length_range, jf, jb, ji, jl, jh, jm, jW, jA, j7, kZ, j6, k8, jc, List.set_cons_zero, vr, rv, bin, vH, kv, jJ, ky, qp, kx, kw, ju, jK, qn, qr, qq, ku, kz, qo, jY, jI, kt, ql, kq, qm, kl, jH, kp, qh, ko, qk, Nat.reduceAdd, Nat.reduceSub, Nat.reduceMul, Nat.reduceDiv, Nat.reduceMod, Nat.reducePow, Nat.reduceLT, Nat.reduceLeDiff, Nat.reduceEqDiff, Nat.reduceBEq, Nat.reduceBNe, reduceIte, Int.reduceEq, Int.reduceLT, Int.reduceLE, Int.reduceNeg, Int.reduceToNat, Int.reduceMul, Int.reduceAdd, Int.reduceSub, Int.cast_ofNat_Int, reduceCtorEq, Nat.zero_add, Nat.add_zero, Nat.mul_one, bft, btf, beq_self_eq_true, true_and, and_true, and_self, if_true, if_false, ite_true, ite_false, c0, c1, not_true_eq_false, not_false_eq_true, Bool.true_eq_false, Option.some.injEq, Prod.mk.injEq, exists_eq_left, List.length_map, List.getElem?_map, Option.map_some, List.cons_append, List.length_cons, List.length_nil, List.append_nil, decide_true, decide_false]
/-! ### the program's state as the document's -/
def Z8 : List IVal := [.int .i32 0, .int .i32 0, .int .i32 0, .int .i32 0, .int .i32 0, .int .i32 0, .int .i32 0, .int .i32 0]
abbrev u3 : List IVal := [.int .u8 0, .int .u8 0, .int .u8 0]
abbrev t3 : List IVal := [.int .u16 0, .int .u16 0, .int .u16 0]
abbrev u8 : List IVal := [.int .u8 0, .int .u8 0, .int .u8 0, .int .u8 0, .int .u8 0, .int .u8 0, .int .u8 0, .int .u8 0]
section
variable (g sk rn : IVal) (rt cy : Int)
theorem jgu : vl none (SC g sk rn rt cy) 0 = some (I 0) := rfl
theorem jgv : vl none (SC g sk rn rt cy) 1 = some (I 0) := rfl
theorem jgw : vl none (SC g sk rn rt cy) 2 = some (I 0) := rfl
theorem jgx : vl none (SC g sk rn rt cy) 3 = some (I 0) := rfl
theorem jgy : vl none (SC g sk rn rt cy) 4 = some (.int .i32 0) := rfl
theorem jgz : vl (some 8) (SC g sk rn rt cy) 5 = some (.agg Z8) := rfl
theorem jcA : vl none (SC g sk rn rt cy) 15 = some (I 0) := rfl
theorem jfU : vl (some 3) (SC g sk rn rt cy) 17 = some (.agg u3) := rfl
theorem jfV : vl (some 21) (SC g sk rn rt cy) 20 = some (.agg Z21) := rfl
theorem jcB : vl (some 32) (SC g sk rn rt cy) 17 = some (.agg Z32) := rfl
theorem jfW : vl (some 3) (SC g sk rn rt cy) 41 = some (.agg t3) := rfl
theorem jfX : vl (some 3) (SC g sk rn rt cy) 44 = some (.agg t3) := rfl
theorem jfY : vl (some 2) (SC g sk rn rt cy) 47 = some (.agg [.int .u8 0, .int .u8 0]) := rfl
theorem jcC : vl none (SC g sk rn rt cy) 49 = some (.int .u8 0) := rfl
theorem jcD : vl none (SC g sk rn rt cy) 51 = some (.int .u64 0) := rfl
theorem jcE : vl none (SC g sk rn rt cy) 53 = some (I 0) := rfl
theorem jcF : vl none (SC g sk rn rt cy) 54 = some (I 0) := rfl
theorem f32 : JG Z32 [(0, 3, .agg u3), (30, 2, .agg [.int .u8 0, .int .u8 0])] = some Z32 := rfl
theorem f21 : JG Z21 [(0, 9, .agg Z9), (9, 9, .agg Z9), (18, 1, .bool false), (19, 1, .int .u8 0), (20, 1, .int .u8 0)] = some Z21 := rfl
theorem f9 : JG Z9 [(0, 1, I 0), (1, 8, .agg u8)] = some Z9 := rfl
theorem jdy : jc Z32 24 t3 = Z32 := rfl
theorem jdz : jc Z32 27 t3 = Z32 := rfl
theorem jgj : jc Z32 3 Z21 = Z32 := rfl
theorem jgi : jc Z32 0 Z32 = Z32 := by kernel_rfl
theorem KA : Z32.length = 32 := rfl
theorem jbj : Z21.length = 21 := rfl
theorem jdA : Z9.length = 9 := rfl
theorem Q8 : Z8.length = 8 := rfl
theorem KR : Z32.all IVal.isCell = true := rfl
theorem YT : Z21.all IVal.isCell = true := rfl
theorem jbm : Z9.all IVal.isCell = true := rfl
theorem YU : Z32.map un1 = Z32 := rfl
theorem jdx : Z21.map un1 = Z21 := rfl
theorem jgk : Z9.map un1 = Z9 := rfl
theorem jcZ : Z8.map un1 = Z8 := rfl
theorem jdw : jc Z21 0 Z21 = Z21 := rfl
theorem jgf : vl none Z21 0 = some (I 0) := rfl
theorem jgg : vl (some 8) Z21 1 = some (.agg u8) := rfl
theorem jgh : vl none Z21 9 = some (I 0) := rfl
theorem jds : vl (some 8) Z21 10 = some (.agg u8) := rfl
theorem jdt : vl none Z21 18 = some (.bool false) := rfl
theorem jdu : vl none Z21 19 = some (.int .u8 0) := rfl
theorem jdv : vl none Z21 20 = some (.int .u8 0) := rfl
theorem jbk : vl (some 32) Z32 0 = some (.agg Z32) := rfl
theorem jhF : jc (SC g sk rn rt cy) 0 [I 0] = SC g sk rn rt cy := rfl
theorem jhG : jc (SC g sk rn rt cy) 1 [I 0] = SC g sk rn rt cy := rfl
theorem jhH : jc (SC g sk rn rt cy) 2 [I 0] = SC g sk rn rt cy := rfl
theorem jhI : jc (SC g sk rn rt cy) 3 [I 0] = SC g sk rn rt cy := rfl
theorem jf1 : jc (SC g sk rn rt cy) 15 [I 0] = SC g sk rn rt cy := rfl
theorem jf5 : jc (SC g sk rn rt cy) 53 [I 0] = SC g sk rn rt cy := rfl
theorem jf6 : jc (SC g sk rn rt cy) 54 [I 0] = SC g sk rn rt cy := rfl
theorem jhJ : jc (SC g sk rn rt cy) 4 [.int .i32 0] = SC g sk rn rt cy := rfl
theorem jf3 : jc (SC g sk rn rt cy) 49 [.int .u8 0] = SC g sk rn rt cy := rfl
theorem jf4 : jc (SC g sk rn rt cy) 51 [.int .u64 0] = SC g sk rn rt cy := rfl
theorem jhK : jc (SC g sk rn rt cy) 5 Z8 = SC g sk rn rt cy := rfl
theorem jf2 : jc (SC g sk rn rt cy) 17 Z32 = SC g sk rn rt cy := by kernel_rfl
theorem jbl : Z8.all IVal.isCell = true := rfl
theorem jfl (a b : Nat) (r r2 : Bool) (id : Nat) : JG Z55 [(0, 1, I 0), (1, 1, I 0), (2, 1, I 0), (3, 1, I 0), (4, 1, .int .i32 0), (5, 8, .agg Z8), (13, 1, .sl a r []), (14, 1, .rs 1 id 0 3), (15, 1, I 0), (16, 1, .sl b r2 []), (17, 32, .agg Z32), (49, 1, .int .u8 0), (50, 1, .int .u64 rt), (51, 1, .int .u64 0), (52, 1, I cy), (53, 1, I 0), (54, 1, I 0)] = some (SC (.sl a r []) (.rs 1 id 0 3) (.sl b r2 []) rt cy) := by
 simp only [JG, jk, jy, jx, jn, jf, jm, jl, List.all_cons, List.all_nil, List.length_cons, List.length_nil, kU, Q8, KA, jbl, KR, jhF, jhG, jhH, jhI, jhJ, jhK, jf1, jf2, jf3, jf4, jf5, jf6, qt, qu, qw, qx, qy, Nat.reduceAdd, Nat.reduceLeDiff, Bool.and_true, and_self, if_true]
end
set_option maxHeartbeats 4000000 in
theorem je5 (h : F 10 = some Zd) {id : Nat} {rt cy : Int} {a b : Nat} {r r2 : Bool} {σ : List IObj} :
   ∃ e, cfw F (.f 10) [.agg (SC (.sl a r []) (.rs 1 id 0 3) (.sl b r2 []) rt cy)] σ = some ⟨false, .agg (SC (.sl 0 r []) (.rs 1 id 0 3) (.sl 0 r2 []) rt cy), σ ++ e, []⟩ := by
 rw [vp Zd h, kT]
 simp only [Zd, jgu, jgv, jgw, jgx, jgy, jgz, jcA, jfU, jfV, jcB, jfW, jfX, jfY, jcC, jcD, jcE, jcF, f32, f21, f9, jdy, jdz, jgj, jgi, KA, jbj, jdA, Q8, KR, YT, jbm, YU, jdx, jgk, jcZ, jdw, jgf, jgg, jgh, jds, jdt, jdu, jdv, jbk, jfl, List.zip_cons_cons, List.zip_nil_right, List.all_append, qM, vw, jv, jV, nilOwn, vI, kH, jT, jw, kC, jL, kU, qA, qZ, q9, va, vf, vg, vd, qt, qu, qw, qx, qy, qB, qC, qD, qE, qF, ve, kG, vb, jn, kD, kK, List.append_assoc, List.drop_zero, List.isEmpty_nil, List.getElem?_cons_zero, List.getElem?_cons_succ, List.set_cons_succ, List.flatMap_nil, List.take_zero, Nat.zero_le, Nat.le_refl, Nat.lt_irrefl, List.nil_append, List.length_append, dlt, dge, dle, jS, jN, kJ, kI, bff, btt, vN, jM, jz, qz, vy, jO, jU, kR, vt, qH, Bool.true_or, Bool.or_true, Bool.false_or, Bool.or_false, bne_self_eq_false, Nat.lt_add_one, Nat.lt_succ_self, kT, jZ, Ts.fill, vF, vL, vz, jP, List.map_nil, List.map_cons, List.all_nil, List.all_cons, vG, kN, qe, kh, qg, qQ, qf, qR, qd, kb, jG, ke, qc, qb, kc, kg, ka, jX, jF, j9, qa, k9, j8, Bool.and_true, Bool.true_and, Bool.false_and, Bool.and_false, Bool.not_false, Bool.not_true, List.take_length, List.filter_nil, List.filter_cons, Bool.false_eq_true, jB, jR, j0, j5, jD, jC, jo, jt, jr, kL, jQ, jd, getAll, stepCall, kM, unI, Opd.get, kV, qP, qL, je, ja, jE, kW, kY, kX, tag, qG, jk, jg, jq, jx, jp, jy, List.length_range, jf, jb, ji, jl, jh, jm, jW, jA, j7, kZ, j6, k8, jc, List.set_cons_zero, vr, rv, bin, vH, kv, jJ, ky, qp, kx, kw, ju, jK, qn, qr, qq, ku, kz, qo, jY, jI, kt, ql, kq, qm, kl, jH, kp, qh, ko, qk, Nat.reduceAdd, Nat.reduceSub, Nat.reduceMul, Nat.reduceDiv, Nat.reduceMod, Nat.reducePow, Nat.reduceLT, Nat.reduceLeDiff, Nat.reduceEqDiff, Nat.reduceBEq, Nat.reduceBNe, reduceIte, Int.reduceEq, Int.reduceLT, Int.reduceLE, Int.reduceNeg, Int.reduceToNat, Int.reduceMul, Int.reduceAdd, Int.reduceSub, Int.cast_ofNat_Int, reduceCtorEq, Nat.zero_add, Nat.add_zero, Nat.mul_one, bft, btf, beq_self_eq_true, true_and, and_true, and_self, if_true, if_false, ite_true, ite_false, c0, c1, not_true_eq_false, not_false_eq_true, Bool.true_eq_false, Option.some.injEq, Prod.mk.injEq, exists_eq_left, List.length_map, List.getElem?_map, Option.map_some, List.cons_append, List.length_cons, List.length_nil, List.append_nil, decide_true, decide_false]
 exact ⟨_, rfl⟩
end Go.Idl.Sp
namespace Go.Idl.Sp
open Go Go.Idl Go.Idl.En
variable {F : vM}
theorem Xu (h : F 25 = some ZC) {a b : Nat} {r r2 : Bool} {σ : List IObj} : cfw F (.f 25) [.sl a r [], .sl b r2 []] σ = some ⟨false, .bool true, σ, []⟩ := by
 rw [vp ZC h, kT]
 have b1 : ((0 : Int) != 0) = false := rfl
 simp only [ZC, XK, vK, b1, Int.lt_irrefl, qM, vw, jv, jV, nilOwn, vI, kH, jT, jw, kC, jL, kU, qA, qZ, q9, va, vf, vg, vd, qt, qu, qw, qx, qy, qB, qC, qD, qE, qF, ve, kG, vb, jn, kD, kK, List.append_assoc, List.drop_zero, List.isEmpty_nil, List.getElem?_cons_zero, List.getElem?_cons_succ, List.set_cons_succ, List.flatMap_nil, List.take_zero, Nat.zero_le, Nat.le_refl, Nat.lt_irrefl, List.nil_append, List.length_append, dlt, dge, dle, jS, jN, kJ, kI, bff, btt, vN, jM, jz, qz, vy, jO, jU, kR, vt, qH, Bool.true_or, Bool.or_true, Bool.false_or, Bool.or_false, bne_self_eq_false, Nat.lt_add_one, Nat.lt_succ_self, kT, jZ, Ts.fill, vF, vL, vz, jP, List.map_nil, List.map_cons, List.all_nil, List.all_cons, vG, kN, qe, kh, qg, qQ, qf, qR, qd, kb, jG, ke, qc, qb, kc, kg, ka, jX, jF, j9, qa, k9, j8, Bool.and_true, Bool.true_and, Bool.false_and, Bool.and_false, Bool.not_false, Bool.not_true, List.take_length, List.filter_nil, List.filter_cons, Bool.false_eq_true, jB, jR, j0, j5, jD, jC, jo, jt, jr, kL, jQ, jd, getAll, stepCall, kM, unI, Opd.get, kV, qP, qL, je, ja, jE, kW, kY, kX, tag, qG, jk, jg, jq, jx, jp, jy, List.length_range, jf, jb, ji, jl, jh, jm, jW, jA, j7, kZ, j6, k8, jc, List.set_cons_zero, vr, rv, bin, vH, kv, jJ, ky, qp, kx, kw, ju, jK, qn, qr, qq, ku, kz, qo, jY, jI, kt, ql, kq, qm, kl, jH, kp, qh, ko, qk, Nat.reduceAdd, Nat.reduceSub, Nat.reduceMul, Nat.reduceDiv, Nat.reduceMod, Nat.reducePow, Nat.reduceLT, Nat.reduceLeDiff, Nat.reduceEqDiff, Nat.reduceBEq, Nat.reduceBNe, reduceIte, Int.reduceEq, Int.reduceLT, Int.reduceLE, Int.reduceNeg, Int.reduceToNat, Int.reduceMul, Int.reduceAdd, Int.reduceSub, Int.cast_ofNat_Int, reduceCtorEq, Nat.zero_add, Nat.add_zero, Nat.mul_one, bft, btf, beq_self_eq_true, true_and, and_true, and_self, if_true, if_false, ite_true, ite_false, c0, c1, not_true_eq_false, not_false_eq_true, Bool.true_eq_false, Option.some.injEq, Prod.mk.injEq, exists_eq_left, List.length_map, List.getElem?_map, Option.map_some, List.cons_append, List.length_cons, List.length_nil, List.append_nil, decide_true, decide_false]
theorem YE (h : F 26 = some jbZ) {a b : Nat} {r r2 : Bool} {σ : List IObj} : cfw F (.f 26) [.sl a r [], .sl b r2 []] σ = some ⟨false, .bool true, σ, []⟩ := by
 rw [vp jbZ h, kT]
 have b1 : ((0 : Int) != 0) = false := rfl
 simp only [jbZ, jan, vK, b1, Int.lt_irrefl, qM, vw, jv, jV, nilOwn, vI, kH, jT, jw, kC, jL, kU, qA, qZ, q9, va, vf, vg, vd, qt, qu, qw, qx, qy, qB, qC, qD, qE, qF, ve, kG, vb, jn, kD, kK, List.append_assoc, List.drop_zero, List.isEmpty_nil, List.getElem?_cons_zero, List.getElem?_cons_succ, List.set_cons_succ, List.flatMap_nil, List.take_zero, Nat.zero_le, Nat.le_refl, Nat.lt_irrefl, List.nil_append, List.length_append, dlt, dge, dle, jS, jN, kJ, kI, bff, btt, vN, jM, jz, qz, vy, jO, jU, kR, vt, qH, Bool.true_or, Bool.or_true, Bool.false_or, Bool.or_false, bne_self_eq_false, Nat.lt_add_one, Nat.lt_succ_self, kT, jZ, Ts.fill, vF, vL, vz, jP, List.map_nil, List.map_cons, List.all_nil, List.all_cons, vG, kN, qe, kh, qg, qQ, qf, qR, qd, kb, jG, ke, qc, qb, kc, kg, ka, jX, jF, j9, qa, k9, j8, Bool.and_true, Bool.true_and, Bool.false_and, Bool.and_false, Bool.not_false, Bool.not_true, List.take_length, List.filter_nil, List.filter_cons, Bool.false_eq_true, jB, jR, j0, j5, jD, jC, jo, jt, jr, kL, jQ, jd, getAll, stepCall, kM, unI, Opd.get, kV, qP, qL, je, ja, jE, kW, kY, kX, tag, qG, jk, jg, jq, jx, jp, jy, List.length_range, jf, jb, ji, jl, jh, jm, jW, jA, j7, kZ, j6, k8, jc, List.set_cons_zero, vr, rv, bin, vH, kv, jJ, ky, qp, kx, kw, ju, jK, qn, qr, qq, ku, kz, qo, jY, jI, kt, ql, kq, qm, kl, jH, kp, qh, ko, qk, Nat.reduceAdd, Nat.reduceSub, Nat.reduceMul, Nat.reduceDiv, Nat.reduceMod, Nat.reducePow, Nat.reduceLT, Nat.reduceLeDiff, Nat.reduceEqDiff, Nat.reduceBEq, Nat.reduceBNe, reduceIte, Int.reduceEq, Int.reduceLT, Int.reduceLE, Int.reduceNeg, Int.reduceToNat, Int.reduceMul, Int.reduceAdd, Int.reduceSub, Int.cast_ofNat_Int, reduceCtorEq, Nat.zero_add, Nat.add_zero, Nat.mul_one, bft, btf, beq_self_eq_true, true_and, and_true, and_self, if_true, if_false, ite_true, ite_false, c0, c1, not_true_eq_false, not_false_eq_true, Bool.true_eq_false, Option.some.injEq, Prod.mk.injEq, exists_eq_left, List.length_map, List.getElem?_map, Option.map_some, List.cons_append, List.length_cons, List.length_nil, List.append_nil, decide_true, decide_false]
theorem jcX (h : F 25 = some ZC) {x y z : Int} {o id : Nat} {σ : List IObj} (hσ : σ[id]? = some (.cells [J x, J y, J z])) : cfw F (.f 25) [.rs 1 id 0 3, .sl o false [J x, J y, J z]] σ = some ⟨false, .bool true, σ, []⟩ := by
 rw [vp ZC h, kT]
 have b1 : (((3 : Nat) : Int) != ((3 : Nat) : Int)) = false := bne_self_eq_false _
 have b2 : ∀ x : Int, (x != x) = false := bne_self_eq_false
 have l1 : ((0 : Int) < ((3 : Nat) : Int)) = True := eq_true (by decide)
 have l2 : ((1 : Int) < ((3 : Nat) : Int)) = True := eq_true (by decide)
 have l3 : ((2 : Int) < ((3 : Nat) : Int)) = True := eq_true (by decide)
 have l4 : ((3 : Int) < ((3 : Nat) : Int)) = False := eq_false (by decide)
 have w1 : IntKind.i64.wrap 1 = 1 := rfl
 have w2 : IntKind.i64.wrap 2 = 2 := rfl
 have w3 : IntKind.i64.wrap 3 = 3 := rfl
 simp only [ZC, XK, vK, b1, b2, l1, l2, l3, l4, w1, w2, w3, hσ, vl, qM, vw, jv, jV, nilOwn, vI, kH, jT, jw, kC, jL, kU, qA, qZ, q9, va, vf, vg, vd, qt, qu, qw, qx, qy, qB, qC, qD, qE, qF, ve, kG, vb, jn, kD, kK, List.append_assoc, List.drop_zero, List.isEmpty_nil, List.getElem?_cons_zero, List.getElem?_cons_succ, List.set_cons_succ, List.flatMap_nil, List.take_zero, Nat.zero_le, Nat.le_refl, Nat.lt_irrefl, List.nil_append, List.length_append, dlt, dge, dle, jS, jN, kJ, kI, bff, btt, vN, jM, jz, qz, vy, jO, jU, kR, vt, qH, Bool.true_or, Bool.or_true, Bool.false_or, Bool.or_false, bne_self_eq_false, Nat.lt_add_one, Nat.lt_succ_self, kT, jZ, Ts.fill, vF, vL, vz, jP, List.map_nil, List.map_cons, List.all_nil, List.all_cons, vG, kN, qe, kh, qg, qQ, qf, qR, qd, kb, jG, ke, qc, qb, kc, kg, ka, jX, jF, j9, qa, k9, j8, Bool.and_true, Bool.true_and, Bool.false_and, Bool.and_false, Bool.not_false, Bool.not_true, List.take_length, List.filter_nil, List.filter_cons, Bool.false_eq_true, jB, jR, j0, j5, jD, jC, jo, jt, jr, kL, jQ, jd, getAll, stepCall, kM, unI, Opd.get, kV, qP, qL, je, ja, jE, kW, kY, kX, tag, qG, jk, jg, jq, jx, jp, jy, List.length_range, jf, jb, ji, jl, jh, jm, jW, jA, j7, kZ, j6, k8, jc, List.set_cons_zero, vr, rv, bin, vH, kv, jJ, ky, qp, kx, kw, ju, jK, qn, qr, qq, ku, kz, qo, jY, jI, kt, ql, kq, qm, kl, jH, kp, qh, ko, qk, Nat.reduceAdd, Nat.reduceSub, Nat.reduceMul, Nat.reduceDiv, Nat.reduceMod, Nat.reducePow, Nat.reduceLT, Nat.reduceLeDiff, Nat.reduceEqDiff, Nat.reduceBEq, Nat.reduceBNe, reduceIte, Int.reduceEq, Int.reduceLT, Int.reduceLE, Int.reduceNeg, Int.reduceToNat, Int.reduceMul, Int.reduceAdd, Int.reduceSub, Int.cast_ofNat_Int, reduceCtorEq, Nat.zero_add, Nat.add_zero, Nat.mul_one, bft, btf, beq_self_eq_true, true_and, and_true, and_self, if_true, if_false, ite_true, ite_false, c0, c1, not_true_eq_false, not_false_eq_true, Bool.true_eq_false, Option.some.injEq, Prod.mk.injEq, exists_eq_left, List.length_map, List.getElem?_map, Option.map_some, List.cons_append, List.length_cons, List.length_nil, List.append_nil, decide_true, decide_false]
end Go.Idl.Sp
namespace Go.Idl.Sp
open Go Go.Idl Go.Idl.En
variable {F : vM}
theorem eq8 : eqK [0, 0, 0, 0, 0, 0, 0, 0] Z8 Z8 = some true := rfl
theorem jg4 : eqK [0, 0, 0, 0, 0, 0, 0, 0, 0, 0, 0, 0, 0, 0, 0, 0, 0, 0, 0, 0, 0, 2, 0, 0, 0, 0, 0, 0, 0, 0, 0, 0] Z32 Z32 = some true := rfl
theorem tbf : (true != false) = true := rfl
set_option maxRecDepth 100000 in
set_option maxHeartbeats 8000000 in
theorem jeH (h : F 15 = some jbo) (h25 : F 25 = some ZC) (h26 : F 26 = some jbZ) {x y z : Int} {o id a a' b b' : Nat} {r r' r2 r2' : Bool} {rt cy : Int} {σ : List IObj} (hσ : σ[id]? = some (.cells [J x, J y, J z])) :
   cfw F (.f 15) [.agg (SC (.sl a r []) (.rs 1 id 0 3) (.sl b r2 []) rt cy), .agg (SC (.sl a' r' []) (.sl o false [J x, J y, J z]) (.sl b' r2' []) rt cy)] σ = some ⟨false, .bool true, σ, []⟩ := by
 rw [vp jbo h, kT]
 have c1 := fun a b r r2 σ => Xu h25 (a := a) (b := b) (r := r) (r2 := r2) (σ := σ)
 have c2 := fun o => jcX h25 (o := o) hσ
 have c3 := fun a b r r2 σ => YE h26 (a := a) (b := b) (r := r) (r2 := r2) (σ := σ)
 simp only [jbo, eq8, jg4, tbf, Q8, KA, c1, c2, c3, jgu, jgv, jgw, jgx, jgy, jgz, jcA, jcB, jcC, jcD, jcE, jcF, jcZ, YU, List.nil_append, qM, vw, jv, jV, nilOwn, vI, kH, jT, jw, kC, jL, kU, qA, qZ, q9, va, vf, vg, vd, qt, qu, qw, qx, qy, qB, qC, qD, qE, qF, ve, kG, vb, jn, kD, kK, List.append_assoc, List.drop_zero, List.isEmpty_nil, List.getElem?_cons_zero, List.getElem?_cons_succ, List.set_cons_succ, List.flatMap_nil, List.take_zero, Nat.zero_le, Nat.le_refl, Nat.lt_irrefl, List.length_append, dlt, dge, dle, jS, jN, kJ, kI, bff, btt, vN, jM, jz, qz, vy, jO, jU, kR, vt, qH, Bool.true_or, Bool.or_true, Bool.false_or, Bool.or_false, bne_self_eq_false, Nat.lt_add_one, Nat.lt_succ_self, kT, jZ, Ts.fill, vF, vL, vz, jP, List.map_nil, List.map_cons, List.all_nil, List.all_cons, vG, kN, qe, kh, qg, qQ, qf, qR, qd, kb, jG, ke, qc, qb, kc, kg, ka, jX, jF, j9, qa, k9, j8, Bool.and_true, Bool.true_and, Bool.false_and, Bool.and_false, Bool.not_false, Bool.not_true, List.take_length, List.filter_nil, List.filter_cons, Bool.false_eq_true, jB, jR, j0, j5, jD, jC, jo, jt, jr, kL, jQ, jd, getAll, stepCall, kM, unI, Opd.get, kV, qP, qL, je, ja, jE, kW, kY, kX, tag, qG, jk, jg, jq, jx, jp, jy, List.length_range, jf, jb, ji, jl, jh, jm, jW, jA, j7, kZ, j6, k8, jc, List.set_cons_zero, vr, rv, bin, vH, kv, jJ, ky, qp, kx, kw, ju, jK, qn, qr, qq, ku, kz, qo, jY, jI, kt, ql, kq, qm, kl, jH, kp, qh, ko, qk, Nat.reduceAdd, Nat.reduceSub, Nat.reduceMul, Nat.reduceDiv, Nat.reduceMod, Nat.reducePow, Nat.reduceLT, Nat.reduceLeDiff, Nat.reduceEqDiff, Nat.reduceBEq, Nat.reduceBNe, reduceIte, Int.reduceEq, Int.reduceLT, Int.reduceLE, Int.reduceNeg, Int.reduceToNat, Int.reduceMul, Int.reduceAdd, Int.reduceSub, Int.cast_ofNat_Int, reduceCtorEq, Nat.zero_add, Nat.add_zero, Nat.mul_one, bft, btf, beq_self_eq_true, true_and, and_true, and_self, if_true, if_false, ite_true, ite_false, c0, not_true_eq_false, not_false_eq_true, Bool.true_eq_false, Option.some.injEq, Prod.mk.injEq, exists_eq_left, List.length_map, List.getElem?_map, Option.map_some, List.cons_append, List.length_cons, List.length_nil, List.append_nil, decide_true, decide_false]
end Go.Idl.Sp
namespace Go.Idl.Sp
open Go Go.Idl Go.Idl.En
variable {F : vM}
theorem VG (h : F 21 = some Qy) {rt cy : Int} {xs : List Int} {a b o : Nat} {r r2 : Bool} {σ : List IObj} (hn : xs.length = 3) :
   cfw F (.f 21) [.agg (SC (.sl a r []) (.sl o false (xs.map J)) (.sl b r2 []) rt cy)] σ = some ⟨false, .agg (SC (.sl 1 false []) (.sl 1 false (xs.map J)) (.sl 3 false []) rt cy), σ, []⟩ := by
 rw [vp Qy h, kT]
 have p4 : (xs.map J).isEmpty = false := by cases xs with | nil => cases hn | cons x xs => rfl
 simp only [Qy, hn, p4, jga, je3, jfx, qM, vw, jv, jV, nilOwn, vI, kH, jT, jw, kC, jL, kU, qA, qZ, q9, va, vf, vg, vd, qt, qu, qw, qx, qy, qB, qC, qD, qE, qF, ve, kG, vb, jn, kD, kK, List.append_assoc, List.drop_zero, List.isEmpty_nil, List.getElem?_cons_zero, List.getElem?_cons_succ, List.set_cons_succ, List.flatMap_nil, List.take_zero, Nat.zero_le, Nat.le_refl, Nat.lt_irrefl, List.nil_append, List.length_append, dlt, dge, dle, jS, jN, kJ, kI, bff, btt, vN, jM, jz, qz, vy, jO, jU, kR, vt, qH, Bool.true_or, Bool.or_true, Bool.false_or, Bool.or_false, bne_self_eq_false, Nat.lt_add_one, Nat.lt_succ_self, kT, jZ, Ts.fill, vF, vL, vz, jP, List.map_nil, List.map_cons, List.all_nil, List.all_cons, vG, kN, qe, kh, qg, qQ, qf, qR, qd, kb, jG, ke, qc, qb, kc, kg, ka, jX, jF, j9, qa, k9, j8, Bool.and_true, Bool.true_and, Bool.false_and, Bool.and_false, Bool.not_false, Bool.not_true, List.take_length, List.filter_nil, List.filter_cons, Bool.false_eq_true, jB, jR, j0, j5, jD, jC, jo, jt, jr, kL, jQ, jd, getAll, stepCall, kM, unI, Opd.get, kV, qP, qL, je, ja, jE, kW, kY, kX, tag, qG, jk, jg, jq, jx, jp, jy, List.length_range, jf, jb, ji, jl, jh, jm, jW, jA, j7, kZ, j6, k8, jc, List.set_cons_zero, vr, rv, bin, vH, kv, jJ, ky, qp, kx, kw, ju, jK, qn, qr, qq, ku, kz, qo, jY, jI, kt, ql, kq, qm, kl, jH, kp, qh, ko, qk, Nat.reduceAdd, Nat.reduceSub, Nat.reduceMul, Nat.reduceDiv, Nat.reduceMod, Nat.reducePow, Nat.reduceLT, Nat.reduceLeDiff, Nat.reduceEqDiff, Nat.reduceBEq, Nat.reduceBNe, reduceIte, Int.reduceEq, Int.reduceLT, Int.reduceLE, Int.reduceNeg, Int.reduceToNat, Int.reduceMul, Int.reduceAdd, Int.reduceSub, Int.cast_ofNat_Int, reduceCtorEq, Nat.zero_add, Nat.add_zero, Nat.mul_one, bft, btf, beq_self_eq_true, true_and, and_true, and_self, if_true, if_false, ite_true, ite_false, c0, c1, not_true_eq_false, not_false_eq_true, Bool.true_eq_false, Option.some.injEq, Prod.mk.injEq, exists_eq_left, List.length_map, List.getElem?_map, Option.map_some, List.cons_append, List.length_cons, List.length_nil, List.append_nil, decide_true, decide_false]
set_option maxRecDepth 100000 in
set_option maxHeartbeats 8000000 in
theorem jcz (h : F 15 = some jbo) (h25 : F 25 = some ZC) (h26 : F 26 = some jbZ) {o o' a a' b b' : Nat} {q q' r r' r2 r2' : Bool} {rt cy : Int} {σ : List IObj} :
   cfw F (.f 15) [.agg (SC (.sl a r []) (.sl o q []) (.sl b r2 []) rt cy), .agg (SC (.sl a' r' []) (.sl o' q' []) (.sl b' r2' []) rt cy)] σ = some ⟨false, .bool true, σ, []⟩ := by
 rw [vp jbo h, kT]
 have c1 := fun a b r r2 σ => Xu h25 (a := a) (b := b) (r := r) (r2 := r2) (σ := σ)
 have c3 := fun a b r r2 σ => YE h26 (a := a) (b := b) (r := r) (r2 := r2) (σ := σ)
 simp only [jbo, eq8, jg4, tbf, Q8, KA, c1, c3, jgu, jgv, jgw, jgx, jgy, jgz, jcA, jcB, jcC, jcD, jcE, jcF, jcZ, YU, List.nil_append, qM, vw, jv, jV, nilOwn, vI, kH, jT, jw, kC, jL, kU, qA, qZ, q9, va, vf, vg, vd, qt, qu, qw, qx, qy, qB, qC, qD, qE, qF, ve, kG, vb, jn, kD, kK, List.append_assoc, List.drop_zero, List.isEmpty_nil, List.getElem?_cons_zero, List.getElem?_cons_succ, List.set_cons_succ, List.flatMap_nil, List.take_zero, Nat.zero_le, Nat.le_refl, Nat.lt_irrefl, List.length_append, dlt, dge, dle, jS, jN, kJ, kI, bff, btt, vN, jM, jz, qz, vy, jO, jU, kR, vt, qH, Bool.true_or, Bool.or_true, Bool.false_or, Bool.or_false, bne_self_eq_false, Nat.lt_add_one, Nat.lt_succ_self, kT, jZ, Ts.fill, vF, vL, vz, jP, List.map_nil, List.map_cons, List.all_nil, List.all_cons, vG, kN, qe, kh, qg, qQ, qf, qR, qd, kb, jG, ke, qc, qb, kc, kg, ka, jX, jF, j9, qa, k9, j8, Bool.and_true, Bool.true_and, Bool.false_and, Bool.and_false, Bool.not_false, Bool.not_true, List.take_length, List.filter_nil, List.filter_cons, Bool.false_eq_true, jB, jR, j0, j5, jD, jC, jo, jt, jr, kL, jQ, jd, getAll, stepCall, kM, unI, Opd.get, kV, qP, qL, je, ja, jE, kW, kY, kX, tag, qG, jk, jg, jq, jx, jp, jy, List.length_range, jf, jb, ji, jl, jh, jm, jW, jA, j7, kZ, j6, k8, jc, List.set_cons_zero, vr, rv, bin, vH, kv, jJ, ky, qp, kx, kw, ju, jK, qn, qr, qq, ku, kz, qo, jY, jI, kt, ql, kq, qm, kl, jH, kp, qh, ko, qk, Nat.reduceAdd, Nat.reduceSub, Nat.reduceMul, Nat.reduceDiv, Nat.reduceMod, Nat.reducePow, Nat.reduceLT, Nat.reduceLeDiff, Nat.reduceEqDiff, Nat.reduceBEq, Nat.reduceBNe, reduceIte, Int.reduceEq, Int.reduceLT, Int.reduceLE, Int.reduceNeg, Int.reduceToNat, Int.reduceMul, Int.reduceAdd, Int.reduceSub, Int.cast_ofNat_Int, reduceCtorEq, Nat.zero_add, Nat.add_zero, Nat.mul_one, bft, btf, beq_self_eq_true, true_and, and_true, and_self, if_true, if_false, ite_true, ite_false, c0, not_true_eq_false, not_false_eq_true, Bool.true_eq_false, Option.some.injEq, Prod.mk.injEq, exists_eq_left, List.length_map, List.getElem?_map, Option.map_some, List.cons_append, List.length_cons, List.length_nil, List.append_nil, decide_true, decide_false]
end Go.Idl.Sp
namespace Go.Idl.Sp
open Go Go.Idl Go.Idl.En
variable {F : vM}
abbrev z1 : IVal := .sl 0 true []
abbrev y1 : IVal := .sl 0 false []
/-- A state that is listed: where its stack stands; how many instructions, which cycle; its stack. -/
structure It where
 id : Nat
 rt : Int
 cy : Int
 xs : List Int
/-- Its cells, in the program's list, in the document's. -/
def pc (t : It) : List IVal := SC z1 (.rs 1 t.id 0 3) z1 t.rt t.cy
def rc (t : It) : List IVal := SC y1 (.sl 0 false (t.xs.map J)) y1 t.rt t.cy
def PC (f : It -> List IVal) (l : List It) : List IVal := l.flatMap f
theorem yF (t : It) : (pc t).length = 55 := rfl
theorem yT (t : It) : (rc t).length = 55 := rfl
theorem jg1 (f : It -> List IVal) : PC f [] = [] := rfl
theorem JN (f : It -> List IVal) (t : It) (l : List It) : PC f (t :: l) = f t ++ PC f l := rfl
theorem KB (f : It -> List IVal) (l l' : List It) : PC f (l ++ l') = PC f l ++ PC f l' := List.flatMap_append
theorem Jc {f : It -> List IVal} (hf : ∀ t, (f t).length = 55) : ∀ l : List It, (PC f l).length = l.length * 55
 | [] => rfl
 | t :: l => by rw [JN, List.length_append, hf, Jc hf l, List.length_cons]; omega
theorem ZH {f : It -> List IVal} (hf : ∀ t, (f t).length = 55) : ∀ (l : List It) (tl : List IVal) (i j : Nat) (t : It), l[i]? = some t -> j < 55 -> (PC f l ++ tl)[i * 55 + j]? = (f t)[j]?
 | [], tl, i, j, t, h, hj => by cases h
 | u :: l, tl, 0, j, t, h, hj => by
   cases h
   rw [JN, List.append_assoc, Nat.zero_mul, Nat.zero_add, List.getElem?_append_left (by rw [hf]; exact hj)]
 | u :: l, tl, i + 1, j, t, h, hj => by
   have ih := ZH hf l tl i j t h hj
   rw [JN, List.append_assoc, List.getElem?_append_right (by rw [hf]; omega), hf, show (i + 1) * 55 + j - 55 = i * 55 + j by omega, ih]
theorem ZG {f : It -> List IVal} (hf : ∀ t, (f t).length = 55) : ∀ (l : List It) (tl : List IVal) (i : Nat) (t : It), l[i]? = some t -> ((PC f l ++ tl).drop (i * 55)).take 55 = f t
 | [], tl, i, t, h => by cases h
 | u :: l, tl, 0, t, h => by
   cases h
   rw [JN, List.append_assoc, Nat.zero_mul, List.drop_zero, List.take_append_of_le_length (by rw [hf]; omega), List.take_of_length_le (by rw [hf]; omega)]
 | u :: l, tl, i + 1, t, h => by
   have ih := ZG hf l tl i t h
   rw [JN, List.append_assoc, show (i + 1) * 55 = 55 + i * 55 by omega, <- List.drop_drop, List.drop_left' (hf u), ih]
theorem Kr {α : Type} {l : List α} {i : Nat} {t : α} (h : l[i]? = some t) : i < l.length := by
 rcases Nat.lt_or_ge i l.length with h2 | h2
 . exact h2
 . rw [List.getElem?_eq_none h2] at h; cases h
theorem Kj {f : It -> List IVal} (hf : ∀ t, (f t).length = 55) {l : List It} {tl : List IVal} {i : Nat} {t : It} (h : l[i]? = some t) : vl (some 55) (PC f l ++ tl) (i * 55) = some (.agg (f t)) := by
 have h2 := Kr h
 rw [vl, if_pos (by rw [List.length_append, Jc hf]; omega), ZG hf l tl i t h]
theorem YW {f : It -> List IVal} (hf : ∀ t, (f t).length = 55) {l : List It} {tl : List IVal} {i : Nat} {t : It} (h : l[i]? = some t) {v : IVal} (hv : (f t)[52]? = some v) : vl none (PC f l ++ tl) (i * 55 + 52) = some v := by
 rw [vl, ZH hf l tl i 52 t h (by omega), hv]
theorem jgE {f : It -> List IVal} (hf : ∀ t, (f t).length = 55) {l : List It} {tl : List IVal} {i : Nat} {t : It} (h : l[i]? = some t) {v : IVal} (hv : (f t)[50]? = some v) : vl none (PC f l ++ tl) (i * 55 + 50) = some v := by
 rw [vl, ZH hf l tl i 50 t h (by omega), hv]
theorem QY : ∀ (vs pre cs tl : List IVal), cs.length = vs.length -> jc (pre ++ cs ++ tl) pre.length vs = pre ++ vs ++ tl
 | [], pre, cs, tl, h => by cases cs with
   | nil => rfl
   | cons c cs => cases h
 | v :: vs, pre, cs, tl, h => by
   cases cs with
   | nil => cases h
   | cons c cs =>
     have h2 := QY vs (pre ++ [v]) cs tl (by simpa using h)
     simp only [jc]
     rw [List.append_assoc, List.set_append_right _ _ (Nat.le_refl _), Nat.sub_self, List.cons_append, List.set_cons_zero]
     simpa using h2
theorem jc3 {f : It -> List IVal} (hf : ∀ t, (f t).length = 55) : ∀ (l : List It) (tl : List IVal) (i : Nat) (u : It), i < l.length -> jc (PC f l ++ tl) (i * 55) (f u) = PC f (l.set i u) ++ tl := by
 intro l tl i u h
 have e : l = l.take i ++ l[i] :: l.drop (i + 1) := by simp
 have e2 : l.set i u = l.take i ++ u :: l.drop (i + 1) := by rw [List.set_eq_take_append_cons_drop, if_pos h]
 rw [e2]
 have e3 : PC f l = PC f (l.take i) ++ f l[i] ++ PC f (l.drop (i + 1)) := by
   conv => lhs; rw [e]
   rw [KB, JN, List.append_assoc]
 have e4 : i * 55 = (PC f (l.take i)).length := by rw [Jc hf, List.length_take]; congr 1; omega
 rw [e3, KB, JN, e4, List.append_assoc (PC f (l.take i) ++ f l[i]), QY _ _ _ _ (by rw [hf, hf])]
 simp [List.append_assoc]
theorem ZJ {f : It -> List IVal} (hf : ∀ t, (f t).length = 55) {l : List It} {tl : List IVal} {i : Nat} {t : It} (h : l[i]? = some t) : jc (PC f l ++ tl) (i * 55) (f t) = PC f l ++ tl := by
 have h2 := Kr h
 rw [jc3 hf l tl i t h2]
 congr 2
 rw [List.getElem?_eq_getElem h2] at h; cases h
 exact List.set_getElem_self h2
theorem jc2 {f : It -> List IVal} (hf : ∀ t, (f t).length = 55) (l : List It) (tl : List IVal) : (PC f l ++ tl).take (l.length * 55) = PC f l := by
 rw [<- Jc hf l]; simp
theorem jfO (t : It) : (pc t)[52]? = some (I t.cy) := rfl
theorem pc_50 (t : It) : (pc t)[50]? = some (.int .u64 t.rt) := rfl
theorem jcr (t : It) : (rc t)[52]? = some (I t.cy) := rfl
theorem jgW (t : It) : (rc t)[50]? = some (.int .u64 t.rt) := rfl
theorem tk0 (a b : IVal) : vl none [a, b] 0 = some a := rfl
theorem tk1 (a b : IVal) : vl none [a, b] 1 = some b := rfl
theorem st0 (a b c : IVal) : [a, b].set 0 c = [c, b] := rfl
theorem st1 (a b c : IVal) : [a, b].set 1 c = [a, c] := rfl
/-- So stands a list of the program's in the store. -/
def PL (σ : List IObj) (L : IVal) (l : List It) : Prop := (∃ o, L = .sl o true [] /\ l = []) \/ ∃ id tl, L = .rs 55 id 0 l.length /\ σ[id]? = some (.cells (PC pc l ++ tl))
/-- So stands one of the document's. -/
def RL (σ : List IObj) (L : IVal) (l : List It) : Prop := (∃ o, L = .sl o true [] /\ l = []) \/ ∃ id tl, L = .rs 55 id 0 l.length /\ σ[id]? = some (.cells (PC rc l ++ tl))
end Go.Idl.Sp
namespace Go.Idl.Sp
open Go Go.Idl Go.Idl.En
variable {F : vM}
/-- What a new one's distance says. -/
def jcd (ev cy : Int) (t : It) : Prop := cy < t.cy \/ cy - t.cy < ev
theorem jdF (h : F 8 = some ir8) {px id sid n : Nat} {ev rt cy : Int} {l : List It} {tl : List IVal} {t : It} {σ : List IObj} {a b : Nat} {r r2 : Bool} (hx : σ[px]? = some (.cells [I ev, .rs 55 id 0 n])) (hid : σ[id]? = some (.cells (PC pc l ++ tl)))
   (hn : l.length = n) (ht : l[n - 1]? = some t) (hn0 : 0 < n) (hn2 : n < 1000) (hw : IntKind.i64.wrap (cy - t.cy) = cy - t.cy) (hc : jcd ev cy t) :
   cfw F (.f 8) [.ptr px 0, .agg (SC (.sl a r []) (.rs 1 sid 0 3) (.sl b r2 []) rt cy)] σ = some ⟨false, .bool false, σ, []⟩ := by
 rw [vp ir8 h, kT]
 have hx2 := vk hx
 have hid2 := vk hid
 have p1 := YW (f := pc) yF (tl := tl) ht (jfO t)
 have d1 : decide ((n : Int) > 0) = true := decide_eq_true (by omega)
 have w1 : IntKind.i64.wrap ((n : Int) - 1) = ((n - 1 : Nat) : Int) := by rw [yH (by omega) (by omega)]; omega
 have d2 : (0 : Int) <= ((n - 1 : Nat) : Int) := by omega
 have d3 : ((n - 1 : Nat) : Int) < (n : Int) := by omega
 by_cases h1 : cy < t.cy
 . have d4 : decide (cy < t.cy) = true := decide_eq_true h1
   simp only [ir8, hx, hid, hx2, hid2, p1, d1, d2, d3, d4, w1, Int.toNat_natCast, qM, vw, jv, jV, nilOwn, vI, kH, jT, jw, kC, jL, kU, qA, qZ, q9, va, vf, vg, vd, qt, qu, qw, qx, qy, qB, qC, qD, qE, qF, ve, kG, vb, jn, kD, kK, List.append_assoc, List.drop_zero, List.isEmpty_nil, List.getElem?_cons_zero, List.getElem?_cons_succ, List.set_cons_succ, List.flatMap_nil, List.take_zero, Nat.zero_le, Nat.le_refl, Nat.lt_irrefl, List.nil_append, List.length_append, dlt, dge, dle, jS, jN, kJ, kI, bff, btt, vN, tk0, tk1, st0, st1, kQ, jM, jz, qz, vy, jO, jU, kR, vt, qH, Bool.true_or, Bool.or_true, Bool.false_or, Bool.or_false, bne_self_eq_false, Nat.lt_add_one, Nat.lt_succ_self, kT, jZ, Ts.fill, vF, vL, vz, jP, List.map_nil, List.map_cons, List.all_nil, List.all_cons, vG, kN, qe, kh, qg, qQ, qf, qR, qd, kb, jG, ke, qc, qb, kc, kg, ka, jX, jF, j9, qa, k9, j8, Bool.and_true, Bool.true_and, Bool.false_and, Bool.and_false, Bool.not_false, Bool.not_true, List.take_length, List.filter_nil, List.filter_cons, Bool.false_eq_true, jB, jR, j0, j5, jD, jC, jo, jt, jr, kL, jQ, jd, getAll, stepCall, kM, unI, Opd.get, kV, qP, qL, je, ja, jE, kW, kY, kX, tag, qG, jk, jg, jq, jx, jp, jy, List.length_range, jf, jb, ji, jl, jh, jm, jW, jA, j7, kZ, j6, k8, jc, List.set_cons_zero, vr, rv, bin, vH, kv, jJ, ky, qp, kx, kw, ju, jK, qn, qr, qq, ku, kz, qo, jY, jI, kt, ql, kq, qm, kl, jH, kp, qh, ko, qk, Nat.reduceAdd, Nat.reduceSub, Nat.reduceMul, Nat.reduceDiv, Nat.reduceMod, Nat.reducePow, Nat.reduceLT, Nat.reduceLeDiff, Nat.reduceEqDiff, Nat.reduceBEq, Nat.reduceBNe, reduceIte, Int.reduceEq, Int.reduceLT, Int.reduceLE, Int.reduceNeg, Int.reduceToNat, Int.reduceMul, Int.reduceAdd, Int.reduceSub, Int.cast_ofNat_Int, reduceCtorEq, Nat.zero_add, Nat.add_zero, Nat.mul_one, bft, btf, beq_self_eq_true, true_and, and_true, and_self, if_true, if_false, ite_true, ite_false, c0, c1, not_true_eq_false, not_false_eq_true, Bool.true_eq_false, Option.some.injEq, Prod.mk.injEq, exists_eq_left, List.length_map, List.getElem?_map, Option.map_some, List.cons_append, List.length_cons, List.length_nil, List.append_nil, decide_true, decide_false]
 . have d4 : decide (cy < t.cy) = false := decide_eq_false h1
   have d5 : decide (cy - t.cy < ev) = true := decide_eq_true (by rcases hc with h2 | h2; exact absurd h2 h1; exact h2)
   simp only [ir8, hx, hid, hx2, hid2, p1, d1, d2, d3, d4, d5, w1, hw, Int.toNat_natCast, qM, vw, jv, jV, nilOwn, vI, kH, jT, jw, kC, jL, kU, qA, qZ, q9, va, vf, vg, vd, qt, qu, qw, qx, qy, qB, qC, qD, qE, qF, ve, kG, vb, jn, kD, kK, List.append_assoc, List.drop_zero, List.isEmpty_nil, List.getElem?_cons_zero, List.getElem?_cons_succ, List.set_cons_succ, List.flatMap_nil, List.take_zero, Nat.zero_le, Nat.le_refl, Nat.lt_irrefl, List.nil_append, List.length_append, dlt, dge, dle, jS, jN, kJ, kI, bff, btt, vN, tk0, tk1, st0, st1, kQ, jM, jz, qz, vy, jO, jU, kR, vt, qH, Bool.true_or, Bool.or_true, Bool.false_or, Bool.or_false, bne_self_eq_false, Nat.lt_add_one, Nat.lt_succ_self, kT, jZ, Ts.fill, vF, vL, vz, jP, List.map_nil, List.map_cons, List.all_nil, List.all_cons, vG, kN, qe, kh, qg, qQ, qf, qR, qd, kb, jG, ke, qc, qb, kc, kg, ka, jX, jF, j9, qa, k9, j8, Bool.and_true, Bool.true_and, Bool.false_and, Bool.and_false, Bool.not_false, Bool.not_true, List.take_length, List.filter_nil, List.filter_cons, Bool.false_eq_true, jB, jR, j0, j5, jD, jC, jo, jt, jr, kL, jQ, jd, getAll, stepCall, kM, unI, Opd.get, kV, qP, qL, je, ja, jE, kW, kY, kX, tag, qG, jk, jg, jq, jx, jp, jy, List.length_range, jf, jb, ji, jl, jh, jm, jW, jA, j7, kZ, j6, k8, jc, List.set_cons_zero, vr, rv, bin, vH, kv, jJ, ky, qp, kx, kw, ju, jK, qn, qr, qq, ku, kz, qo, jY, jI, kt, ql, kq, qm, kl, jH, kp, qh, ko, qk, Nat.reduceAdd, Nat.reduceSub, Nat.reduceMul, Nat.reduceDiv, Nat.reduceMod, Nat.reducePow, Nat.reduceLT, Nat.reduceLeDiff, Nat.reduceEqDiff, Nat.reduceBEq, Nat.reduceBNe, reduceIte, Int.reduceEq, Int.reduceLT, Int.reduceLE, Int.reduceNeg, Int.reduceToNat, Int.reduceMul, Int.reduceAdd, Int.reduceSub, Int.cast_ofNat_Int, reduceCtorEq, Nat.zero_add, Nat.add_zero, Nat.mul_one, bft, btf, beq_self_eq_true, true_and, and_true, and_self, if_true, if_false, ite_true, ite_false, c0, c1, not_true_eq_false, not_false_eq_true, Bool.true_eq_false, Option.some.injEq, Prod.mk.injEq, exists_eq_left, List.length_map, List.getElem?_map, Option.map_some, List.cons_append, List.length_cons, List.length_nil, List.append_nil, decide_true, decide_false]
theorem z5 {σ l : List IObj} {id : Nat} {o : IObj} (h : id < σ.length) : (σ ++ l).set id o = σ.set id o ++ l := List.set_append_left _ _ h
theorem get_set {σ : List IObj} {i j : Nat} {o x : IObj} (h : σ[i]? = some o) (hne : j ≠ i) : (σ.set j x)[i]? = some o := by rw [List.getElem?_set_ne hne, h]
theorem jbs (h : F 8 = some ir8) (h20 : F 20 = some QE) (h30 : F 30 = some KK) (h31 : F 31 = some Qz) {px id sid n : Nat} {ev rt cy : Int} {l : List It} {tl : List IVal} {xs : List Int} {σ : List IObj} {a b : Nat} (hx : σ[px]? = some (.cells [I ev, .rs 55 id 0 n])) (hid : σ[id]? = some (.cells (PC pc l ++ tl))) (hs : σ[sid]? = some (.cells (xs.map J))) (hxs : xs.length = 3)
   (hn : l.length = n) (hn2 : n < 1000) (hne : px ≠ id) (hc : ∀ t, l[n - 1]? = some t -> IntKind.i64.wrap (cy - t.cy) = cy - t.cy /\ ¬ jcd ev cy t) :
   ∃ o1 o2 wr, cfw F (.f 8) [.ptr px 0, .agg (SC (.sl a true []) (.rs 1 sid 0 3) (.sl b true []) rt cy)] σ = some ⟨false, .bool true, (σ.set id .dead).set px (.cells [I ev, .rs 55 (σ.length + 4) 0 (n + 1)]) ++ [o1, o2, .dead, .cells (xs.map J), .cells (PC pc (l ++ [⟨σ.length + 3, rt, cy, xs⟩]))], wr⟩ /\ ∀ q ∈ wr, q.1 = px \/ q.1 = id := by
 rw [vp ir8 h, kT]
 have hx2 := vk hx
 have hid2 := vk hid
 have hx3 := vk (get_set (x := .dead) hx hne.symm)
 have lx := jj hx
 have li := jj hid
 have hso := fun l o => z5 (σ := σ) (l := l) (o := o) li
 have hso2 := fun l o => z5 (σ := σ.set id .dead) (l := l) (o := o) (id := px) (by rw [List.length_set]; exact lx)
 obtain ⟨o1, o2, ho⟩ := Vk h20 h30 h31 (rt := rt) (cy := cy) (a := 0) (b := 0) hs hxs
 have w2 : (n + 1) * 264 <= 1099511627776 := by omega
 have w3 : n + 1 <= 1099511627776 := by omega
 have w4 : n * 55 <= (PC pc l).length + tl.length := by rw [Jc yF, hn]; omega
 have w5 : (PC pc l ++ tl).take (n * 55) = PC pc l := by rw [<- hn]; exact jc2 yF l tl
 have w6 : decide (px < σ.length) = true := decide_eq_true lx
 have w7 : decide (id < σ.length) = true := decide_eq_true li
 have w8 : decide (σ.length <= px) = false := decide_eq_false (by omega)
 rcases Nat.eq_zero_or_pos n with h0 | h0
 . have d1 : decide ((n : Int) > 0) = false := decide_eq_false (by omega)
   simp only [ir8, hx, hid, hx2, hid2, hx3, hso, hso2, ho, d1, w2, w3, w4, w5, w6, w7, w8, Int.toNat_natCast, qM, vw, jv, jV, nilOwn, vI, kH, jT, jw, kC, jL, kU, qA, qZ, q9, va, vf, vg, vd, qt, qu, qw, qx, qy, qB, qC, qD, qE, qF, ve, kG, vb, jn, kD, kK, List.append_assoc, List.drop_zero, List.isEmpty_nil, List.getElem?_cons_zero, List.getElem?_cons_succ, List.set_cons_succ, List.flatMap_nil, List.take_zero, Nat.zero_le, Nat.le_refl, Nat.lt_irrefl, List.nil_append, List.length_append, dlt, dge, dle, jS, jN, kJ, kI, bff, btt, vN, tk0, tk1, st0, st1, kQ, jM, jz, qz, vy, jO, jU, kR, vt, qH, Bool.true_or, Bool.or_true, Bool.false_or, Bool.or_false, bne_self_eq_false, Nat.lt_add_one, Nat.lt_succ_self, kT, jZ, Ts.fill, vF, vL, vz, jP, List.map_nil, List.map_cons, List.all_nil, List.all_cons, vG, kN, qe, kh, qg, qQ, qf, qR, qd, kb, jG, ke, qc, qb, kc, kg, ka, jX, jF, j9, qa, k9, j8, Bool.and_true, Bool.true_and, Bool.false_and, Bool.and_false, Bool.not_false, Bool.not_true, List.take_length, List.filter_nil, List.filter_cons, Bool.false_eq_true, jB, jR, j0, j5, jD, jC, jo, jt, jr, kL, jQ, jd, getAll, stepCall, kM, unI, Opd.get, kV, qP, qL, je, ja, jE, kW, kY, kX, tag, qG, jk, jg, jq, jx, jp, jy, List.length_range, jf, jb, ji, jl, jh, jm, jW, jA, j7, kZ, j6, k8, jc, List.set_cons_zero, vr, rv, bin, vH, kv, jJ, ky, qp, kx, kw, ju, jK, qn, qr, qq, ku, kz, qo, jY, jI, kt, ql, kq, qm, kl, jH, kp, qh, ko, qk, Nat.reduceAdd, Nat.reduceSub, Nat.reduceMul, Nat.reduceDiv, Nat.reduceMod, Nat.reducePow, Nat.reduceLT, Nat.reduceLeDiff, Nat.reduceEqDiff, Nat.reduceBEq, Nat.reduceBNe, reduceIte, Int.reduceEq, Int.reduceLT, Int.reduceLE, Int.reduceNeg, Int.reduceToNat, Int.reduceMul, Int.reduceAdd, Int.reduceSub, Int.cast_ofNat_Int, reduceCtorEq, Nat.zero_add, Nat.add_zero, Nat.mul_one, bft, btf, beq_self_eq_true, true_and, and_true, and_self, if_true, if_false, ite_true, ite_false, c0, c1, not_true_eq_false, not_false_eq_true, Bool.true_eq_false, Option.some.injEq, Prod.mk.injEq, exists_eq_left, List.length_map, List.getElem?_map, Option.map_some, List.cons_append, List.length_cons, List.length_nil, List.append_nil, decide_true, decide_false]
   refine ⟨_, _, _, by rw [KB]; rfl, ?_⟩
   intro q hq
   simp only [List.mem_cons, List.not_mem_nil, or_false] at hq
   rcases hq with rfl | rfl
   . exact Or.inl rfl
   . exact Or.inr rfl
 . obtain ⟨t, ht⟩ : ∃ t, l[n - 1]? = some t := ⟨l[n - 1]'(by omega), by simp⟩
   obtain ⟨hw, hc⟩ := hc t ht
   have p1 := YW (f := pc) yF (tl := tl) ht (jfO t)
   have d1 : decide ((n : Int) > 0) = true := decide_eq_true (by omega)
   have w1 : IntKind.i64.wrap ((n : Int) - 1) = ((n - 1 : Nat) : Int) := by rw [yH (by omega) (by omega)]; omega
   have d2 : (0 : Int) <= ((n - 1 : Nat) : Int) := by omega
   have d3 : ((n - 1 : Nat) : Int) < (n : Int) := by omega
   have d4 : decide (cy < t.cy) = false := decide_eq_false fun h => hc (Or.inl h)
   have d5 : decide (cy - t.cy < ev) = false := decide_eq_false fun h => hc (Or.inr h)
   simp only [ir8, hx, hid, hx2, hid2, hx3, hso, hso2, ho, p1, d1, d2, d3, d4, d5, hw, w1, w2, w3, w4, w5, w6, w7, w8, Int.toNat_natCast, qM, vw, jv, jV, nilOwn, vI, kH, jT, jw, kC, jL, kU, qA, qZ, q9, va, vf, vg, vd, qt, qu, qw, qx, qy, qB, qC, qD, qE, qF, ve, kG, vb, jn, kD, kK, List.append_assoc, List.drop_zero, List.isEmpty_nil, List.getElem?_cons_zero, List.getElem?_cons_succ, List.set_cons_succ, List.flatMap_nil, List.take_zero, Nat.zero_le, Nat.le_refl, Nat.lt_irrefl, List.nil_append, List.length_append, dlt, dge, dle, jS, jN, kJ, kI, bff, btt, vN, tk0, tk1, st0, st1, kQ, jM, jz, qz, vy, jO, jU, kR, vt, qH, Bool.true_or, Bool.or_true, Bool.false_or, Bool.or_false, bne_self_eq_false, Nat.lt_add_one, Nat.lt_succ_self, kT, jZ, Ts.fill, vF, vL, vz, jP, List.map_nil, List.map_cons, List.all_nil, List.all_cons, vG, kN, qe, kh, qg, qQ, qf, qR, qd, kb, jG, ke, qc, qb, kc, kg, ka, jX, jF, j9, qa, k9, j8, Bool.and_true, Bool.true_and, Bool.false_and, Bool.and_false, Bool.not_false, Bool.not_true, List.take_length, List.filter_nil, List.filter_cons, Bool.false_eq_true, jB, jR, j0, j5, jD, jC, jo, jt, jr, kL, jQ, jd, getAll, stepCall, kM, unI, Opd.get, kV, qP, qL, je, ja, jE, kW, kY, kX, tag, qG, jk, jg, jq, jx, jp, jy, List.length_range, jf, jb, ji, jl, jh, jm, jW, jA, j7, kZ, j6, k8, jc, List.set_cons_zero, vr, rv, bin, vH, kv, jJ, ky, qp, kx, kw, ju, jK, qn, qr, qq, ku, kz, qo, jY, jI, kt, ql, kq, qm, kl, jH, kp, qh, ko, qk, Nat.reduceAdd, Nat.reduceSub, Nat.reduceMul, Nat.reduceDiv, Nat.reduceMod, Nat.reducePow, Nat.reduceLT, Nat.reduceLeDiff, Nat.reduceEqDiff, Nat.reduceBEq, Nat.reduceBNe, reduceIte, Int.reduceEq, Int.reduceLT, Int.reduceLE, Int.reduceNeg, Int.reduceToNat, Int.reduceMul, Int.reduceAdd, Int.reduceSub, Int.cast_ofNat_Int, reduceCtorEq, Nat.zero_add, Nat.add_zero, Nat.mul_one, bft, btf, beq_self_eq_true, true_and, and_true, and_self, if_true, if_false, ite_true, ite_false, c0, c1, not_true_eq_false, not_false_eq_true, Bool.true_eq_false, Option.some.injEq, Prod.mk.injEq, exists_eq_left, List.length_map, List.getElem?_map, Option.map_some, List.cons_append, List.length_cons, List.length_nil, List.append_nil, decide_true, decide_false]
   refine ⟨_, _, _, by rw [KB]; rfl, ?_⟩
   intro q hq
   simp only [List.mem_cons, List.not_mem_nil, or_false] at hq
   rcases hq with rfl | rfl
   . exact Or.inl rfl
   . exact Or.inr rfl
theorem jbr (h : F 8 = some ir8) (h20 : F 20 = some QE) (h30 : F 30 = some KK) (h31 : F 31 = some Qz) {px sid o : Nat} {ev rt cy : Int} {xs : List Int} {σ : List IObj} {a b : Nat} (hx : σ[px]? = some (.cells [I ev, .sl o true []])) (hs : σ[sid]? = some (.cells (xs.map J))) (hxs : xs.length = 3) :
   ∃ o1 o2 wr, cfw F (.f 8) [.ptr px 0, .agg (SC (.sl a true []) (.rs 1 sid 0 3) (.sl b true []) rt cy)] σ = some ⟨false, .bool true, σ.set px (.cells [I ev, .rs 55 (σ.length + 4) 0 1]) ++ [o1, o2, .dead, .cells (xs.map J), .cells (PC pc [⟨σ.length + 3, rt, cy, xs⟩])], wr⟩ /\ ∀ q ∈ wr, q.1 = px := by
 rw [vp ir8 h, kT]
 have hx2 := vk hx
 have lx := jj hx
 have hso2 := fun l o => z5 (σ := σ) (l := l) (o := o) (id := px) lx
 obtain ⟨o1, o2, ho⟩ := Vk h20 h30 h31 (rt := rt) (cy := cy) (a := 0) (b := 0) hs hxs
 have w6 : decide (px < σ.length) = true := decide_eq_true lx
 have w8 : decide (σ.length <= px) = false := decide_eq_false (by omega)
 have d1 : decide ((0 : Int) > 0) = false := rfl
 simp only [ir8, hx, hx2, hso2, ho, d1, w6, w8, Int.toNat_natCast, qM, vw, jv, jV, nilOwn, vI, kH, jT, jw, kC, jL, kU, qA, qZ, q9, va, vf, vg, vd, qt, qu, qw, qx, qy, qB, qC, qD, qE, qF, ve, kG, vb, jn, kD, kK, List.append_assoc, List.drop_zero, List.isEmpty_nil, List.getElem?_cons_zero, List.getElem?_cons_succ, List.set_cons_succ, List.flatMap_nil, List.take_zero, Nat.zero_le, Nat.le_refl, Nat.lt_irrefl, List.nil_append, List.length_append, dlt, dge, dle, jS, jN, kJ, kI, bff, btt, vN, tk0, tk1, st0, st1, kQ, jM, jz, qz, vy, jO, jU, kR, vt, qH, Bool.true_or, Bool.or_true, Bool.false_or, Bool.or_false, bne_self_eq_false, Nat.lt_add_one, Nat.lt_succ_self, kT, jZ, Ts.fill, vF, vL, vz, jP, List.map_nil, List.map_cons, List.all_nil, List.all_cons, vG, kN, qe, kh, qg, qQ, qf, qR, qd, kb, jG, ke, qc, qb, kc, kg, ka, jX, jF, j9, qa, k9, j8, Bool.and_true, Bool.true_and, Bool.false_and, Bool.and_false, Bool.not_false, Bool.not_true, List.take_length, List.filter_nil, List.filter_cons, Bool.false_eq_true, jB, jR, j0, j5, jD, jC, jo, jt, jr, kL, jQ, jd, getAll, stepCall, kM, unI, Opd.get, kV, qP, qL, je, ja, jE, kW, kY, kX, tag, qG, jk, jg, jq, jx, jp, jy, List.length_range, jf, jb, ji, jl, jh, jm, jW, jA, j7, kZ, j6, k8, jc, List.set_cons_zero, vr, rv, bin, vH, kv, jJ, ky, qp, kx, kw, ju, jK, qn, qr, qq, ku, kz, qo, jY, jI, kt, ql, kq, qm, kl, jH, kp, qh, ko, qk, Nat.reduceAdd, Nat.reduceSub, Nat.reduceMul, Nat.reduceDiv, Nat.reduceMod, Nat.reducePow, Nat.reduceLT, Nat.reduceLeDiff, Nat.reduceEqDiff, Nat.reduceBEq, Nat.reduceBNe, reduceIte, Int.reduceEq, Int.reduceLT, Int.reduceLE, Int.reduceNeg, Int.reduceToNat, Int.reduceMul, Int.reduceAdd, Int.reduceSub, Int.cast_ofNat_Int, reduceCtorEq, Nat.zero_add, Nat.add_zero, Nat.mul_one, bft, btf, beq_self_eq_true, true_and, and_true, and_self, if_true, if_false, ite_true, ite_false, c0, c1, not_true_eq_false, not_false_eq_true, Bool.true_eq_false, Option.some.injEq, Prod.mk.injEq, exists_eq_left, List.length_map, List.getElem?_map, Option.map_some, List.cons_append, List.length_cons, List.length_nil, List.append_nil, decide_true, decide_false]
 refine ⟨_, _, _, by rfl, ?_⟩
 intro q hq
 simp only [List.mem_cons, List.not_mem_nil, or_false] at hq
 exact hq ▸ rfl
end Go.Idl.Sp
namespace Go.Idl.Sp
open Go Go.Idl Go.Idl.En
variable {F : vM}
theorem jdG (h : F 9 = some ir9) {px id sid n : Nat} {ev rt cy : Int} {l : List It} {tl : List IVal} {t : It} {σ : List IObj} {a b : Nat} {r r2 : Bool} (hx : σ[px]? = some (.cells [I ev, .rs 55 id 0 n])) (hid : σ[id]? = some (.cells (PC rc l ++ tl)))
   (hn : l.length = n) (ht : l[n - 1]? = some t) (hn0 : 0 < n) (hn2 : n < 1000) (hw : IntKind.i64.wrap (cy - t.cy) = cy - t.cy) (hc : jcd ev cy t) :
   cfw F (.f 9) [.ptr px 0, .agg (SC (.sl a r []) (.rs 1 sid 0 3) (.sl b r2 []) rt cy)] σ = some ⟨false, .bool false, σ, []⟩ := by
 rw [vp ir9 h, kT]
 have hx2 := vk hx
 have hid2 := vk hid
 have p1 := YW (f := rc) yT (tl := tl) ht (jcr t)
 have d1 : decide ((n : Int) > 0) = true := decide_eq_true (by omega)
 have w1 : IntKind.i64.wrap ((n : Int) - 1) = ((n - 1 : Nat) : Int) := by rw [yH (by omega) (by omega)]; omega
 have d2 : (0 : Int) <= ((n - 1 : Nat) : Int) := by omega
 have d3 : ((n - 1 : Nat) : Int) < (n : Int) := by omega
 by_cases h1 : cy < t.cy
 . have d4 : decide (cy < t.cy) = true := decide_eq_true h1
   simp only [ir9, hx, hid, hx2, hid2, p1, d1, d2, d3, d4, w1, Int.toNat_natCast, qM, vw, jv, jV, nilOwn, vI, kH, jT, jw, kC, jL, kU, qA, qZ, q9, va, vf, vg, vd, qt, qu, qw, qx, qy, qB, qC, qD, qE, qF, ve, kG, vb, jn, kD, kK, List.append_assoc, List.drop_zero, List.isEmpty_nil, List.getElem?_cons_zero, List.getElem?_cons_succ, List.set_cons_succ, List.flatMap_nil, List.take_zero, Nat.zero_le, Nat.le_refl, Nat.lt_irrefl, List.nil_append, List.length_append, dlt, dge, dle, jS, jN, kJ, kI, bff, btt, vN, tk0, tk1, st0, st1, kQ, jM, jz, qz, vy, jO, jU, kR, vt, qH, Bool.true_or, Bool.or_true, Bool.false_or, Bool.or_false, bne_self_eq_false, Nat.lt_add_one, Nat.lt_succ_self, kT, jZ, Ts.fill, vF, vL, vz, jP, List.map_nil, List.map_cons, List.all_nil, List.all_cons, vG, kN, qe, kh, qg, qQ, qf, qR, qd, kb, jG, ke, qc, qb, kc, kg, ka, jX, jF, j9, qa, k9, j8, Bool.and_true, Bool.true_and, Bool.false_and, Bool.and_false, Bool.not_false, Bool.not_true, List.take_length, List.filter_nil, List.filter_cons, Bool.false_eq_true, jB, jR, j0, j5, jD, jC, jo, jt, jr, kL, jQ, jd, getAll, stepCall, kM, unI, Opd.get, kV, qP, qL, je, ja, jE, kW, kY, kX, tag, qG, jk, jg, jq, jx, jp, jy, List.length_range, jf, jb, ji, jl, jh, jm, jW, jA, j7, kZ, j6, k8, jc, List.set_cons_zero, vr, rv, bin, vH, kv, jJ, ky, qp, kx, kw, ju, jK, qn, qr, qq, ku, kz, qo, jY, jI, kt, ql, kq, qm, kl, jH, kp, qh, ko, qk, Nat.reduceAdd, Nat.reduceSub, Nat.reduceMul, Nat.reduceDiv, Nat.reduceMod, Nat.reducePow, Nat.reduceLT, Nat.reduceLeDiff, Nat.reduceEqDiff, Nat.reduceBEq, Nat.reduceBNe, reduceIte, Int.reduceEq, Int.reduceLT, Int.reduceLE, Int.reduceNeg, Int.reduceToNat, Int.reduceMul, Int.reduceAdd, Int.reduceSub, Int.cast_ofNat_Int, reduceCtorEq, Nat.zero_add, Nat.add_zero, Nat.mul_one, bft, btf, beq_self_eq_true, true_and, and_true, and_self, if_true, if_false, ite_true, ite_false, c0, c1, not_true_eq_false, not_false_eq_true, Bool.true_eq_false, Option.some.injEq, Prod.mk.injEq, exists_eq_left, List.length_map, List.getElem?_map, Option.map_some, List.cons_append, List.length_cons, List.length_nil, List.append_nil, decide_true, decide_false]
 . have d4 : decide (cy < t.cy) = false := decide_eq_false h1
   have d5 : decide (cy - t.cy < ev) = true := decide_eq_true (by rcases hc with h2 | h2; exact absurd h2 h1; exact h2)
   simp only [ir9, hx, hid, hx2, hid2, p1, d1, d2, d3, d4, d5, w1, hw, Int.toNat_natCast, qM, vw, jv, jV, nilOwn, vI, kH, jT, jw, kC, jL, kU, qA, qZ, q9, va, vf, vg, vd, qt, qu, qw, qx, qy, qB, qC, qD, qE, qF, ve, kG, vb, jn, kD, kK, List.append_assoc, List.drop_zero, List.isEmpty_nil, List.getElem?_cons_zero, List.getElem?_cons_succ, List.set_cons_succ, List.flatMap_nil, List.take_zero, Nat.zero_le, Nat.le_refl, Nat.lt_irrefl, List.nil_append, List.length_append, dlt, dge, dle, jS, jN, kJ, kI, bff, btt, vN, tk0, tk1, st0, st1, kQ, jM, jz, qz, vy, jO, jU, kR, vt, qH, Bool.true_or, Bool.or_true, Bool.false_or, Bool.or_false, bne_self_eq_false, Nat.lt_add_one, Nat.lt_succ_self, kT, jZ, Ts.fill, vF, vL, vz, jP, List.map_nil, List.map_cons, List.all_nil, List.all_cons, vG, kN, qe, kh, qg, qQ, qf, qR, qd, kb, jG, ke, qc, qb, kc, kg, ka, jX, jF, j9, qa, k9, j8, Bool.and_true, Bool.true_and, Bool.false_and, Bool.and_false, Bool.not_false, Bool.not_true, List.take_length, List.filter_nil, List.filter_cons, Bool.false_eq_true, jB, jR, j0, j5, jD, jC, jo, jt, jr, kL, jQ, jd, getAll, stepCall, kM, unI, Opd.get, kV, qP, qL, je, ja, jE, kW, kY, kX, tag, qG, jk, jg, jq, jx, jp, jy, List.length_range, jf, jb, ji, jl, jh, jm, jW, jA, j7, kZ, j6, k8, jc, List.set_cons_zero, vr, rv, bin, vH, kv, jJ, ky, qp, kx, kw, ju, jK, qn, qr, qq, ku, kz, qo, jY, jI, kt, ql, kq, qm, kl, jH, kp, qh, ko, qk, Nat.reduceAdd, Nat.reduceSub, Nat.reduceMul, Nat.reduceDiv, Nat.reduceMod, Nat.reducePow, Nat.reduceLT, Nat.reduceLeDiff, Nat.reduceEqDiff, Nat.reduceBEq, Nat.reduceBNe, reduceIte, Int.reduceEq, Int.reduceLT, Int.reduceLE, Int.reduceNeg, Int.reduceToNat, Int.reduceMul, Int.reduceAdd, Int.reduceSub, Int.cast_ofNat_Int, reduceCtorEq, Nat.zero_add, Nat.add_zero, Nat.mul_one, bft, btf, beq_self_eq_true, true_and, and_true, and_self, if_true, if_false, ite_true, ite_false, c0, c1, not_true_eq_false, not_false_eq_true, Bool.true_eq_false, Option.some.injEq, Prod.mk.injEq, exists_eq_left, List.length_map, List.getElem?_map, Option.map_some, List.cons_append, List.length_cons, List.length_nil, List.append_nil, decide_true, decide_false]
theorem jbu (h : F 9 = some ir9) (h21 : F 21 = some Qy) {px id sid n : Nat} {ev rt cy : Int} {l : List It} {tl : List IVal} {xs : List Int} {σ : List IObj} {a b : Nat} {r r2 : Bool} (hx : σ[px]? = some (.cells [I ev, .rs 55 id 0 n])) (hid : σ[id]? = some (.cells (PC rc l ++ tl))) (hs : σ[sid]? = some (.cells (xs.map J))) (hxs : xs.length = 3)
   (hn : l.length = n) (hn2 : n < 1000) (hne : px ≠ id) (hc : ∀ t, l[n - 1]? = some t -> IntKind.i64.wrap (cy - t.cy) = cy - t.cy /\ ¬ jcd ev cy t) (k : Nat) :
   ∃ wr, cfw F (.f 9) [.ptr px 0, .agg (SC (.sl a r []) (.rs 1 sid 0 3) (.sl b r2 []) rt cy)] σ = some ⟨false, .bool true, (σ.set id .dead).set px (.cells [I ev, .rs 55 σ.length 0 (n + 1)]) ++ [.cells (PC rc (l ++ [⟨k, rt, cy, xs⟩]))], wr⟩ /\ ∀ q ∈ wr, q.1 = px \/ q.1 = id := by
 rw [vp ir9 h, kT]
 have hx2 := vk hx
 have hid2 := vk hid
 have hx3 := vk (get_set (x := .dead) hx hne.symm)
 have lx := jj hx
 have li := jj hid
 have hso := fun l o => z5 (σ := σ) (l := l) (o := o) li
 have hso2 := fun l o => z5 (σ := σ.set id .dead) (l := l) (o := o) (id := px) (by rw [List.length_set]; exact lx)
 have ho := fun b1 b2 => VF h21 (rt := rt) (cy := cy) (a := 0) (b := 0) (r := b1) (r2 := b2) hs hxs
 have w2 : (n + 1) * 264 <= 1099511627776 := by omega
 have w3 : n + 1 <= 1099511627776 := by omega
 have w4 : n * 55 <= (PC rc l).length + tl.length := by rw [Jc yT, hn]; omega
 have w5 : (PC rc l ++ tl).take (n * 55) = PC rc l := by rw [<- hn]; exact jc2 yT l tl
 have w6 : decide (px < σ.length) = true := decide_eq_true lx
 have w7 : decide (id < σ.length) = true := decide_eq_true li
 have w8 : decide (σ.length <= px) = false := decide_eq_false (by omega)
 rcases Nat.eq_zero_or_pos n with h0 | h0
 . have d1 : decide ((n : Int) > 0) = false := decide_eq_false (by omega)
   simp only [ir9, hx, hid, hx2, hid2, hx3, hso, hso2, ho, d1, w2, w3, w4, w5, w6, w7, w8, Int.toNat_natCast, qM, vw, jv, jV, nilOwn, vI, kH, jT, jw, kC, jL, kU, qA, qZ, q9, va, vf, vg, vd, qt, qu, qw, qx, qy, qB, qC, qD, qE, qF, ve, kG, vb, jn, kD, kK, List.append_assoc, List.drop_zero, List.isEmpty_nil, List.getElem?_cons_zero, List.getElem?_cons_succ, List.set_cons_succ, List.flatMap_nil, List.take_zero, Nat.zero_le, Nat.le_refl, Nat.lt_irrefl, List.nil_append, List.length_append, dlt, dge, dle, jS, jN, kJ, kI, bff, btt, vN, tk0, tk1, st0, st1, kQ, jM, jz, qz, vy, jO, jU, kR, vt, qH, Bool.true_or, Bool.or_true, Bool.false_or, Bool.or_false, bne_self_eq_false, Nat.lt_add_one, Nat.lt_succ_self, kT, jZ, Ts.fill, vF, vL, vz, jP, List.map_nil, List.map_cons, List.all_nil, List.all_cons, vG, kN, qe, kh, qg, qQ, qf, qR, qd, kb, jG, ke, qc, qb, kc, kg, ka, jX, jF, j9, qa, k9, j8, Bool.and_true, Bool.true_and, Bool.false_and, Bool.and_false, Bool.not_false, Bool.not_true, List.take_length, List.filter_nil, List.filter_cons, Bool.false_eq_true, jB, jR, j0, j5, jD, jC, jo, jt, jr, kL, jQ, jd, getAll, stepCall, kM, unI, Opd.get, kV, qP, qL, je, ja, jE, kW, kY, kX, tag, qG, jk, jg, jq, jx, jp, jy, List.length_range, jf, jb, ji, jl, jh, jm, jW, jA, j7, kZ, j6, k8, jc, List.set_cons_zero, vr, rv, bin, vH, kv, jJ, ky, qp, kx, kw, ju, jK, qn, qr, qq, ku, kz, qo, jY, jI, kt, ql, kq, qm, kl, jH, kp, qh, ko, qk, Nat.reduceAdd, Nat.reduceSub, Nat.reduceMul, Nat.reduceDiv, Nat.reduceMod, Nat.reducePow, Nat.reduceLT, Nat.reduceLeDiff, Nat.reduceEqDiff, Nat.reduceBEq, Nat.reduceBNe, reduceIte, Int.reduceEq, Int.reduceLT, Int.reduceLE, Int.reduceNeg, Int.reduceToNat, Int.reduceMul, Int.reduceAdd, Int.reduceSub, Int.cast_ofNat_Int, reduceCtorEq, Nat.zero_add, Nat.add_zero, Nat.mul_one, bft, btf, beq_self_eq_true, true_and, and_true, and_self, if_true, if_false, ite_true, ite_false, c0, c1, not_true_eq_false, not_false_eq_true, Bool.true_eq_false, Option.some.injEq, Prod.mk.injEq, exists_eq_left, List.length_map, List.getElem?_map, Option.map_some, List.cons_append, List.length_cons, List.length_nil, List.append_nil, decide_true, decide_false]
   refine ⟨_, by rw [KB]; rfl, ?_⟩
   intro q hq
   simp only [List.mem_cons, List.not_mem_nil, or_false] at hq
   rcases hq with rfl | rfl
   . exact Or.inl rfl
   . exact Or.inr rfl
 . obtain ⟨t, ht⟩ : ∃ t, l[n - 1]? = some t := ⟨l[n - 1]'(by omega), by simp⟩
   obtain ⟨hw, hc⟩ := hc t ht
   have p1 := YW (f := rc) yT (tl := tl) ht (jcr t)
   have d1 : decide ((n : Int) > 0) = true := decide_eq_true (by omega)
   have w1 : IntKind.i64.wrap ((n : Int) - 1) = ((n - 1 : Nat) : Int) := by rw [yH (by omega) (by omega)]; omega
   have d2 : (0 : Int) <= ((n - 1 : Nat) : Int) := by omega
   have d3 : ((n - 1 : Nat) : Int) < (n : Int) := by omega
   have d4 : decide (cy < t.cy) = false := decide_eq_false fun h => hc (Or.inl h)
   have d5 : decide (cy - t.cy < ev) = false := decide_eq_false fun h => hc (Or.inr h)
   simp only [ir9, hx, hid, hx2, hid2, hx3, hso, hso2, ho, p1, d1, d2, d3, d4, d5, hw, w1, w2, w3, w4, w5, w6, w7, w8, Int.toNat_natCast, qM, vw, jv, jV, nilOwn, vI, kH, jT, jw, kC, jL, kU, qA, qZ, q9, va, vf, vg, vd, qt, qu, qw, qx, qy, qB, qC, qD, qE, qF, ve, kG, vb, jn, kD, kK, List.append_assoc, List.drop_zero, List.isEmpty_nil, List.getElem?_cons_zero, List.getElem?_cons_succ, List.set_cons_succ, List.flatMap_nil, List.take_zero, Nat.zero_le, Nat.le_refl, Nat.lt_irrefl, List.nil_append, List.length_append, dlt, dge, dle, jS, jN, kJ, kI, bff, btt, vN, tk0, tk1, st0, st1, kQ, jM, jz, qz, vy, jO, jU, kR, vt, qH, Bool.true_or, Bool.or_true, Bool.false_or, Bool.or_false, bne_self_eq_false, Nat.lt_add_one, Nat.lt_succ_self, kT, jZ, Ts.fill, vF, vL, vz, jP, List.map_nil, List.map_cons, List.all_nil, List.all_cons, vG, kN, qe, kh, qg, qQ, qf, qR, qd, kb, jG, ke, qc, qb, kc, kg, ka, jX, jF, j9, qa, k9, j8, Bool.and_true, Bool.true_and, Bool.false_and, Bool.and_false, Bool.not_false, Bool.not_true, List.take_length, List.filter_nil, List.filter_cons, Bool.false_eq_true, jB, jR, j0, j5, jD, jC, jo, jt, jr, kL, jQ, jd, getAll, stepCall, kM, unI, Opd.get, kV, qP, qL, je, ja, jE, kW, kY, kX, tag, qG, jk, jg, jq, jx, jp, jy, List.length_range, jf, jb, ji, jl, jh, jm, jW, jA, j7, kZ, j6, k8, jc, List.set_cons_zero, vr, rv, bin, vH, kv, jJ, ky, qp, kx, kw, ju, jK, qn, qr, qq, ku, kz, qo, jY, jI, kt, ql, kq, qm, kl, jH, kp, qh, ko, qk, Nat.reduceAdd, Nat.reduceSub, Nat.reduceMul, Nat.reduceDiv, Nat.reduceMod, Nat.reducePow, Nat.reduceLT, Nat.reduceLeDiff, Nat.reduceEqDiff, Nat.reduceBEq, Nat.reduceBNe, reduceIte, Int.reduceEq, Int.reduceLT, Int.reduceLE, Int.reduceNeg, Int.reduceToNat, Int.reduceMul, Int.reduceAdd, Int.reduceSub, Int.cast_ofNat_Int, reduceCtorEq, Nat.zero_add, Nat.add_zero, Nat.mul_one, bft, btf, beq_self_eq_true, true_and, and_true, and_self, if_true, if_false, ite_true, ite_false, c0, c1, not_true_eq_false, not_false_eq_true, Bool.true_eq_false, Option.some.injEq, Prod.mk.injEq, exists_eq_left, List.length_map, List.getElem?_map, Option.map_some, List.cons_append, List.length_cons, List.length_nil, List.append_nil, decide_true, decide_false]
   refine ⟨_, by rw [KB]; rfl, ?_⟩
   intro q hq
   simp only [List.mem_cons, List.not_mem_nil, or_false] at hq
   rcases hq with rfl | rfl
   . exact Or.inl rfl
   . exact Or.inr rfl
theorem jbt (h : F 9 = some ir9) (h21 : F 21 = some Qy) {px sid o : Nat} {ev rt cy : Int} {xs : List Int} {σ : List IObj} {a b : Nat} {r r2 : Bool} (hx : σ[px]? = some (.cells [I ev, .sl o true []])) (hs : σ[sid]? = some (.cells (xs.map J))) (hxs : xs.length = 3) (k : Nat) :
   ∃ wr, cfw F (.f 9) [.ptr px 0, .agg (SC (.sl a r []) (.rs 1 sid 0 3) (.sl b r2 []) rt cy)] σ = some ⟨false, .bool true, σ.set px (.cells [I ev, .rs 55 σ.length 0 1]) ++ [.cells (PC rc [⟨k, rt, cy, xs⟩])], wr⟩ /\ ∀ q ∈ wr, q.1 = px := by
 rw [vp ir9 h, kT]
 have hx2 := vk hx
 have lx := jj hx
 have hso2 := fun l o => z5 (σ := σ) (l := l) (o := o) (id := px) lx
 have ho := fun b1 b2 => VF h21 (rt := rt) (cy := cy) (a := 0) (b := 0) (r := b1) (r2 := b2) hs hxs
 have w6 : decide (px < σ.length) = true := decide_eq_true lx
 have w8 : decide (σ.length <= px) = false := decide_eq_false (by omega)
 have d1 : decide ((0 : Int) > 0) = false := rfl
 simp only [ir9, hx, hx2, hso2, ho, d1, w6, w8, Int.toNat_natCast, qM, vw, jv, jV, nilOwn, vI, kH, jT, jw, kC, jL, kU, qA, qZ, q9, va, vf, vg, vd, qt, qu, qw, qx, qy, qB, qC, qD, qE, qF, ve, kG, vb, jn, kD, kK, List.append_assoc, List.drop_zero, List.isEmpty_nil, List.getElem?_cons_zero, List.getElem?_cons_succ, List.set_cons_succ, List.flatMap_nil, List.take_zero, Nat.zero_le, Nat.le_refl, Nat.lt_irrefl, List.nil_append, List.length_append, dlt, dge, dle, jS, jN, kJ, kI, bff, btt, vN, tk0, tk1, st0, st1, kQ, jM, jz, qz, vy, jO, jU, kR, vt, qH, Bool.true_or, Bool.or_true, Bool.false_or, Bool.or_false, bne_self_eq_false, Nat.lt_add_one, Nat.lt_succ_self, kT, jZ, Ts.fill, vF, vL, vz, jP, List.map_nil, List.map_cons, List.all_nil, List.all_cons, vG, kN, qe, kh, qg, qQ, qf, qR, qd, kb, jG, ke, qc, qb, kc, kg, ka, jX, jF, j9, qa, k9, j8, Bool.and_true, Bool.true_and, Bool.false_and, Bool.and_false, Bool.not_false, Bool.not_true, List.take_length, List.filter_nil, List.filter_cons, Bool.false_eq_true, jB, jR, j0, j5, jD, jC, jo, jt, jr, kL, jQ, jd, getAll, stepCall, kM, unI, Opd.get, kV, qP, qL, je, ja, jE, kW, kY, kX, tag, qG, jk, jg, jq, jx, jp, jy, List.length_range, jf, jb, ji, jl, jh, jm, jW, jA, j7, kZ, j6, k8, jc, List.set_cons_zero, vr, rv, bin, vH, kv, jJ, ky, qp, kx, kw, ju, jK, qn, qr, qq, ku, kz, qo, jY, jI, kt, ql, kq, qm, kl, jH, kp, qh, ko, qk, Nat.reduceAdd, Nat.reduceSub, Nat.reduceMul, Nat.reduceDiv, Nat.reduceMod, Nat.reducePow, Nat.reduceLT, Nat.reduceLeDiff, Nat.reduceEqDiff, Nat.reduceBEq, Nat.reduceBNe, reduceIte, Int.reduceEq, Int.reduceLT, Int.reduceLE, Int.reduceNeg, Int.reduceToNat, Int.reduceMul, Int.reduceAdd, Int.reduceSub, Int.cast_ofNat_Int, reduceCtorEq, Nat.zero_add, Nat.add_zero, Nat.mul_one, bft, btf, beq_self_eq_true, true_and, and_true, and_self, if_true, if_false, ite_true, ite_false, c0, c1, not_true_eq_false, not_false_eq_true, Bool.true_eq_false, Option.some.injEq, Prod.mk.injEq, exists_eq_left, List.length_map, List.getElem?_map, Option.map_some, List.cons_append, List.length_cons, List.length_nil, List.append_nil, decide_true, decide_false]
 refine ⟨_, by rfl, ?_⟩
 intro q hq
 simp only [List.mem_cons, List.not_mem_nil, or_false] at hq
 exact hq ▸ rfl
end Go.Idl.Sp
