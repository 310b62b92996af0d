/- Chapter 2: what the ideal machine makes of its functions, part A; no conditions. -/
import Derived.Test.YtjjmammoapggkaaGreatDoorIdlE
set_option linter.defProp false
set_option linter.unusedSectionVars false
set_option linter.unusedVariables false
set_option linter.unusedSimpArgs false
namespace Go.Idl.Lx
open Go Go.Idl
/- plover/ploverlaw02.LexSorts -/
/- plover/ploverlaw02.LexParts -/
/- plover/ploverlaw02.LexTells -/
/- plover/ploverlaw02.LexCovers -/
def z6 : ICode := (.seq (.seq (.ops [⟨(some 38), .mv (.t 11), none⟩, ⟨(some 39), .mv (.t 7), none⟩, ⟨(some 40), .lenL (.t 39), none⟩, ⟨(some 41), .bin .lss (.m 38) (.m 40), none⟩])
 (.cond (.t 41) .skip (.exit 2)))
 (.seq (.block 3 (.seq (.ops [⟨(some 44), .mv (.t 7), none⟩, ⟨(some 45), .mv (.t 11), none⟩, ⟨(some 46), .idxAddr 5 (.t 44) (.m 45), none⟩, ⟨(some 47), .load true (some 5) (.m 46), none⟩, ⟨(some 12), .alloc [(.int .i64 0), (.int .i64 0), (.int .i64 0), (.str []), (.int .i64 0)], none⟩, ⟨none, .store 5 (.m 12) (.m 47), none⟩])
 (.seq (.seq (.draw [(0, ⟨(some 48), .fieldAddr 1 (.t 12), none⟩), (1, ⟨(some 49), .load false none (.m 48), none⟩), (2, ⟨(some 50), .mv (.t 9), none⟩), (3, ⟨(some 51), .bin .lss (.m 49) (.m 50), none⟩), (4, ⟨(some 52), .mv (.m 51), none⟩), (5, ⟨(some 53), .fieldAddr 1 (.t 12), some (52, false)⟩), (6, ⟨(some 54), .load false none (.t 53), some (52, false)⟩), (7, ⟨(some 55), .fieldAddr 3 (.t 12), some (52, false)⟩), (8, ⟨(some 56), .load false none (.t 55), some (52, false)⟩), (9, ⟨(some 57), .lenS (.t 56), some (52, false)⟩), (10, ⟨(some 58), .bin .add (.t 54) (.t 57), some (52, false)⟩), (11, ⟨(some 59), .mv (.t 6), some (52, false)⟩), (12, ⟨(some 60), .lenS (.t 59), some (52, false)⟩), (13, ⟨(some 61), .bin .gtr (.t 58) (.t 60), some (52, false)⟩), (14, ⟨(some 62), .pick (.m 52) (.c (.bool true)) (.t 61), none⟩), (15, ⟨(some 63), .mv (.m 62), none⟩), (16, ⟨(some 64), .mv (.t 6), some (63, false)⟩), (17, ⟨(some 65), .fieldAddr 1 (.t 12), some (63, false)⟩), (18, ⟨(some 66), .load false none (.t 65), some (63, false)⟩), (19, ⟨(some 67), .fieldAddr 1 (.t 12), some (63, false)⟩), (20, ⟨(some 68), .load false none (.t 67), some (63, false)⟩), (21, ⟨(some 69), .fieldAddr 3 (.t 12), some (63, false)⟩), (22, ⟨(some 70), .load false none (.t 69), some (63, false)⟩), (23, ⟨(some 71), .lenS (.t 70), some (63, false)⟩), (24, ⟨(some 72), .bin .add (.t 68) (.t 71), some (63, false)⟩), (25, ⟨(some 73), .sliceS (.t 64) (some (.t 66)) (some (.t 72)), some (63, false)⟩), (26, ⟨(some 74), .fieldAddr 3 (.t 12), some (63, false)⟩), (27, ⟨(some 75), .load false none (.t 74), some (63, false)⟩), (28, ⟨(some 76), .bin .neq (.t 73) (.t 75), some (63, false)⟩), (29, ⟨(some 77), .pick (.m 63) (.c (.bool true)) (.t 76), none⟩), (30, ⟨(some 78), .mv (.m 77), none⟩), (31, ⟨(some 79), .mv (.t 6), some (78, false)⟩), (32, ⟨(some 80), .mv (.t 9), some (78, false)⟩), (33, ⟨(some 81), .fieldAddr 1 (.t 12), some (78, false)⟩), (34, ⟨(some 82), .load false none (.t 81), some (78, false)⟩), (35, ⟨(some 83), .sliceS (.t 79) (some (.t 80)) (some (.t 82)), some (78, false)⟩), (36, ⟨(some 84), .call 19 [(.t 83)], some (78, false)⟩), (37, ⟨(some 85), .un .not (.t 84), some (78, false)⟩), (38, ⟨(some 86), .pick (.m 78) (.c (.bool true)) (.t 85), none⟩), (39, ⟨(some 87), .mv (.m 86), none⟩), (40, ⟨(some 88), .fieldAddr 2 (.t 12), some (87, false)⟩), (41, ⟨(some 89), .load false none (.t 88), some (87, false)⟩), (42, ⟨(some 90), .mv (.t 6), some (87, false)⟩), (43, ⟨(some 91), .fieldAddr 1 (.t 12), some (87, false)⟩), (44, ⟨(some 92), .load false none (.t 91), some (87, false)⟩), (45, ⟨(some 93), .call 17 [(.t 90), (.t 92)], some (87, false)⟩), (46, ⟨(some 94), .bin .neq (.t 89) (.t 93), some (87, false)⟩), (47, ⟨(some 95), .pick (.m 87) (.c (.bool true)) (.t 94), none⟩), (48, ⟨(some 96), .mv (.m 95), none⟩), (49, ⟨(some 97), .fieldAddr 0 (.t 12), some (96, false)⟩), (50, ⟨(some 98), .load false none (.t 97), some (96, false)⟩), (51, ⟨(some 99), .bin .eql (.t 98) (.c (.int .i64 0)), some (96, false)⟩), (52, ⟨(some 100), .mv (.t 11), some (96, false)⟩), (53, ⟨(some 101), .mv (.t 7), some (96, false)⟩), (54, ⟨(some 102), .lenL (.t 101), some (96, false)⟩), (55, ⟨(some 103), .bin .sub (.t 102) (.c (.int .i64 1)), some (96, false)⟩), (56, ⟨(some 104), .bin .eql (.t 100) (.t 103), some (96, false)⟩), (57, ⟨(some 105), .eqb true (.t 99) (.t 104), some (96, false)⟩), (58, ⟨(some 106), .pick (.m 96) (.c (.bool true)) (.t 105), none⟩), (59, ⟨(some 107), .mv (.m 106), none⟩), (60, ⟨(some 108), .fieldAddr 3 (.t 12), some (107, false)⟩), (61, ⟨(some 109), .load false none (.t 108), some (107, false)⟩), (62, ⟨(some 110), .bin .eql (.t 109) (.c (.str [])), some (107, false)⟩), (63, ⟨(some 111), .fieldAddr 0 (.t 12), some (107, false)⟩), (64, ⟨(some 112), .load false none (.t 111), some (107, false)⟩), (65, ⟨(some 113), .bin .eql (.t 112) (.c (.int .i64 0)), some (107, false)⟩), (66, ⟨(some 114), .eqb true (.t 110) (.t 113), some (107, false)⟩), (67, ⟨(some 115), .pick (.m 107) (.c (.bool true)) (.t 114), none⟩), (68, ⟨(some 116), .mv (.m 115), none⟩), (69, ⟨(some 117), .fieldAddr 0 (.t 12), some (116, false)⟩), (70, ⟨(some 118), .load false none (.t 117), some (116, false)⟩), (71, ⟨(some 119), .bin .neq (.t 118) (.c (.int .i64 2)), some (116, false)⟩), (72, ⟨(some 120), .mv (.t 119), some (116, false)⟩), (73, ⟨(some 121), .fieldAddr 4 (.t 12), some (120, true)⟩), (74, ⟨(some 122), .load false none (.t 121), some (120, true)⟩), (75, ⟨(some 123), .bin .neq (.t 122) (.c (.int .i64 0)), some (120, true)⟩), (76, ⟨(some 124), .pick (.t 120) (.t 123) (.c (.bool false)), some (116, false)⟩), (77, ⟨(some 125), .pick (.m 116) (.c (.bool true)) (.t 124), none⟩)] [(41, 45)])
 (.cond (.t 125) (.seq (.ops [⟨(some 4), .mv (.c (.bool false)), none⟩])
 .ret) .skip))
 (.seq (.ops [⟨(some 126), .fieldAddr 1 (.t 12), none⟩, ⟨(some 127), .load false none (.m 126), none⟩, ⟨(some 128), .fieldAddr 3 (.t 12), none⟩, ⟨(some 129), .load false none (.m 128), none⟩, ⟨(some 130), .lenS (.t 129), none⟩, ⟨(some 131), .bin .add (.m 127) (.m 130), none⟩, ⟨(some 9), .mv (.m 131), none⟩])
 (.seq (.ops [⟨(some 132), .fieldAddr 3 (.t 12), none⟩, ⟨(some 133), .load false none (.m 132), none⟩, ⟨(some 134), .call 20 [(.t 10), (.m 133)], none⟩])
 (.ops [⟨(some 135), .buildSl 1 [(.c (.str [32])), (.c (.str [10]))], none⟩, ⟨(some 136), .mv (.t 11), none⟩, ⟨(some 137), .bin .rem (.m 136) (.c (.int .i64 2)), none⟩, ⟨(some 138), .idxAddr 1 (.t 135) (.m 137), none⟩, ⟨(some 139), .load false none (.m 138), none⟩, ⟨(some 140), .call 20 [(.t 10), (.m 139)], none⟩]))))))
 (.ops [⟨(some 42), .mv (.m 11), none⟩, ⟨(some 43), .bin .add (.m 42) (.c (.int .i64 1)), none⟩, ⟨(some 11), .mv (.m 43), none⟩])))
def z7 : ICode := (.seq (.seq (.ops [⟨(some 171), .mv (.t 14), none⟩, ⟨(some 172), .mv (.t 7), none⟩, ⟨(some 173), .lenL (.t 172), none⟩, ⟨(some 174), .bin .lss (.m 171) (.m 173), none⟩])
 (.cond (.t 174) .skip (.exit 4)))
 (.seq (.block 5 (.seq (.draw [(0, ⟨(some 177), .mv (.t 13), none⟩), (1, ⟨(some 178), .mv (.t 14), none⟩), (2, ⟨(some 179), .idxAddr 5 (.t 177) (.m 178), none⟩), (3, ⟨(some 180), .fieldAddr 0 (.m 179), none⟩), (4, ⟨(some 181), .load false none (.m 180), none⟩), (5, ⟨(some 182), .mv (.t 7), none⟩), (6, ⟨(some 183), .mv (.t 14), none⟩), (7, ⟨(some 184), .idxAddr 5 (.t 182) (.m 183), none⟩), (8, ⟨(some 185), .fieldAddr 0 (.m 184), none⟩), (9, ⟨(some 186), .load false none (.m 185), none⟩), (10, ⟨(some 187), .bin .neq (.m 181) (.m 186), none⟩), (11, ⟨(some 188), .mv (.m 187), none⟩), (12, ⟨(some 189), .mv (.t 13), some (188, false)⟩), (13, ⟨(some 190), .mv (.t 14), some (188, false)⟩), (14, ⟨(some 191), .idxAddr 5 (.t 189) (.t 190), some (188, false)⟩), (15, ⟨(some 192), .fieldAddr 3 (.t 191), some (188, false)⟩), (16, ⟨(some 193), .load false none (.t 192), some (188, false)⟩), (17, ⟨(some 194), .mv (.t 7), some (188, false)⟩), (18, ⟨(some 195), .mv (.t 14), some (188, false)⟩), (19, ⟨(some 196), .idxAddr 5 (.t 194) (.t 195), some (188, false)⟩), (20, ⟨(some 197), .fieldAddr 3 (.t 196), some (188, false)⟩), (21, ⟨(some 198), .load false none (.t 197), some (188, false)⟩), (22, ⟨(some 199), .bin .neq (.t 193) (.t 198), some (188, false)⟩), (23, ⟨(some 200), .pick (.m 188) (.c (.bool true)) (.t 199), none⟩), (24, ⟨(some 201), .mv (.m 200), none⟩), (25, ⟨(some 202), .mv (.t 13), some (201, false)⟩), (26, ⟨(some 203), .mv (.t 14), some (201, false)⟩), (27, ⟨(some 204), .idxAddr 5 (.t 202) (.t 203), some (201, false)⟩), (28, ⟨(some 205), .fieldAddr 4 (.t 204), some (201, false)⟩), (29, ⟨(some 206), .load false none (.t 205), some (201, false)⟩), (30, ⟨(some 207), .mv (.t 7), some (201, false)⟩), (31, ⟨(some 208), .mv (.t 14), some (201, false)⟩), (32, ⟨(some 209), .idxAddr 5 (.t 207) (.t 208), some (201, false)⟩), (33, ⟨(some 210), .fieldAddr 4 (.t 209), some (201, false)⟩), (34, ⟨(some 211), .load false none (.t 210), some (201, false)⟩), (35, ⟨(some 212), .bin .neq (.t 206) (.t 211), some (201, false)⟩), (36, ⟨(some 213), .pick (.m 201) (.c (.bool true)) (.t 212), none⟩), (37, ⟨(some 214), .mv (.m 213), none⟩), (38, ⟨(some 215), .mv (.t 13), some (214, false)⟩), (39, ⟨(some 216), .mv (.t 14), some (214, false)⟩), (40, ⟨(some 217), .idxAddr 5 (.t 215) (.t 216), some (214, false)⟩), (41, ⟨(some 218), .fieldAddr 2 (.t 217), some (214, false)⟩), (42, ⟨(some 219), .load false none (.t 218), some (214, false)⟩), (43, ⟨(some 220), .mv (.t 14), some (214, false)⟩), (44, ⟨(some 221), .bin .quo (.t 220) (.c (.int .i64 2)), some (214, false)⟩), (45, ⟨(some 222), .bin .add (.c (.int .i64 1)) (.t 221), some (214, false)⟩), (46, ⟨(some 223), .bin .neq (.t 219) (.t 222), some (214, false)⟩), (47, ⟨(some 224), .mv (.t 223), some (214, false)⟩), (48, ⟨(some 225), .mv (.t 14), some (224, true)⟩), (49, ⟨(some 226), .mv (.t 7), some (224, true)⟩), (50, ⟨(some 227), .lenL (.t 226), some (224, true)⟩), (51, ⟨(some 228), .bin .sub (.t 227) (.c (.int .i64 1)), some (224, true)⟩), (52, ⟨(some 229), .bin .lss (.t 225) (.t 228), some (224, true)⟩), (53, ⟨(some 230), .pick (.t 224) (.t 229) (.c (.bool false)), some (214, false)⟩), (54, ⟨(some 231), .pick (.m 214) (.c (.bool true)) (.t 230), none⟩)] [])
 (.cond (.t 231) (.seq (.ops [⟨(some 4), .mv (.c (.bool false)), none⟩])
 .ret) .skip)))
 (.ops [⟨(some 175), .mv (.m 14), none⟩, ⟨(some 176), .bin .add (.m 175) (.c (.int .i64 1)), none⟩, ⟨(some 14), .mv (.m 176), none⟩])))
def zl : ICode := (.seq (.ops [⟨(some 26), .bin .lss (.t 25) (.c (.int .i64 2)), none⟩])
 (.seq (.cond (.t 26) .skip (.exit 0))
 (.seq (.block 1 (.seq (.ops [⟨(some 27), .idxA 2 1 none (.t 24) (.t 25), none⟩, ⟨(some 6), .mv (.m 27), none⟩])
 (.seq (.ops [⟨(some 29), .mv (.t 6), none⟩, ⟨(some 30), .call 8 [(.m 29)], none⟩, ⟨(some 28), .mv (.m 30), none⟩, ⟨(some 31), .extract (.m 28) 0, none⟩, ⟨(some 32), .extract (.m 28) 1, none⟩, ⟨(some 7), .mv (.m 31), none⟩, ⟨(some 8), .mv (.m 32), none⟩])
 (.seq (.seq (.ops [⟨(some 33), .mv (.t 8), none⟩, ⟨(some 34), .isnil true 1 (.m 33), none⟩])
 (.cond (.t 34) (.seq (.seq (.ops [⟨(some 35), .mv (.t 7), none⟩, ⟨(some 36), .lenL (.t 35), none⟩, ⟨(some 37), .bin .gtr (.m 36) (.c (.int .i64 0)), none⟩])
 (.cond (.t 37) (.seq (.ops [⟨(some 4), .mv (.c (.bool false)), none⟩])
 .ret) .skip))
 (.exit 1)) .skip))
 (.seq (.ops [⟨(some 9), .mv (.c (.int .i64 0)), none⟩])
 (.seq (.ops [⟨(some 10), .mem (.talloc 48 [(.prim (.pointer none)), (.sl 1 true [])]) [], none⟩])
 (.seq (.seq (.ops [⟨(some 11), .mv (.c (.int .i64 0)), none⟩])
 (.block 2 (.loop z6)))
 (.seq (.seq (.ops [⟨(some 141), .mv (.t 9), none⟩, ⟨(some 142), .mv (.t 6), none⟩, ⟨(some 143), .lenS (.t 142), none⟩, ⟨(some 144), .bin .neq (.m 141) (.m 143), none⟩, ⟨(some 145), .mv (.m 144), none⟩, ⟨(some 146), .mv (.t 7), some (145, true)⟩, ⟨(some 147), .mv (.t 7), some (145, true)⟩, ⟨(some 148), .lenL (.t 147), some (145, true)⟩, ⟨(some 149), .bin .sub (.t 148) (.c (.int .i64 1)), some (145, true)⟩, ⟨(some 150), .idxAddr 5 (.t 146) (.t 149), some (145, true)⟩, ⟨(some 151), .fieldAddr 1 (.t 150), some (145, true)⟩, ⟨(some 152), .load false none (.t 151), some (145, true)⟩, ⟨(some 153), .mv (.t 6), some (145, true)⟩, ⟨(some 154), .lenS (.t 153), some (145, true)⟩, ⟨(some 155), .bin .neq (.t 152) (.t 154), some (145, true)⟩, ⟨(some 156), .pick (.m 145) (.t 155) (.c (.bool false)), none⟩])
 (.cond (.t 156) (.seq (.ops [⟨(some 4), .mv (.c (.bool false)), none⟩])
 .ret) .skip))
 (.seq (.ops [⟨(some 158), .call 21 [(.t 10)], none⟩, ⟨(some 159), .call 8 [(.m 158)], none⟩, ⟨(some 157), .mv (.m 159), none⟩, ⟨(some 160), .extract (.m 157) 0, none⟩, ⟨(some 161), .extract (.m 157) 1, none⟩, ⟨(some 13), .mv (.m 160), none⟩, ⟨(some 8), .mv (.m 161), none⟩])
 (.seq (.seq (.ops [⟨(some 162), .mv (.t 8), none⟩, ⟨(some 163), .isnil true 1 (.m 162), none⟩, ⟨(some 164), .mv (.m 163), none⟩, ⟨(some 165), .mv (.t 13), some (164, false)⟩, ⟨(some 166), .lenL (.t 165), some (164, false)⟩, ⟨(some 167), .mv (.t 7), some (164, false)⟩, ⟨(some 168), .lenL (.t 167), some (164, false)⟩, ⟨(some 169), .bin .neq (.t 166) (.t 168), some (164, false)⟩, ⟨(some 170), .pick (.m 164) (.c (.bool true)) (.t 169), none⟩])
 (.cond (.t 170) (.seq (.ops [⟨(some 4), .mv (.c (.bool false)), none⟩])
 .ret) .skip))
 (.seq (.ops [⟨(some 14), .mv (.c (.int .i64 0)), none⟩])
 (.block 4 (.loop z7)))))))))))))
 (.ops [⟨(some 232), .bin .add (.m 25) (.c (.int .i64 1)), none⟩, ⟨(some 25), .mv (.m 232), none⟩]))))
def ir6 : IFunc := ⟨233, 26, 78, 7, (.seq (.ops [⟨(some 4), .mv (.c (.bool false)), none⟩])
 (.seq (.seq (.ops [⟨(some 15), .call 7 [], none⟩, ⟨(some 16), .un .not (.m 15), none⟩])
 (.cond (.t 16) (.seq (.ops [⟨(some 4), .mv (.c (.bool false)), none⟩])
 .ret) .skip))
 (.seq (.seq (.draw [(0, ⟨(some 17), .mv (.t 0), none⟩), (2, ⟨(some 19), .mv (.t 1), none⟩), (3, ⟨(some 20), .mv (.t 1), none⟩), (4, ⟨(some 21), .lenS (.t 20), none⟩), (5, ⟨(some 22), .minmax false [(.m 21), (.c (.int .i64 300))], none⟩), (6, ⟨(some 23), .sliceS (.m 19) none (some (.t 22)), none⟩), (8, ⟨(some 25), .mv (.c (.int .i64 0)), none⟩), (1, ⟨(some 18), .call 9 [(.m 17)], none⟩), (7, ⟨(some 24), .build [(.str []), (.str [])] [(0, 1, (.m 18)), (1, 1, (.m 23))], none⟩)] [])
 (.block 0 (.loop zl)))
 (.seq (.ops [⟨(some 4), .mv (.c (.bool true)), none⟩])
 .ret)))), [.t 4]⟩
/- plover/ploverlaw02.works -/
def ir7 : IFunc := ⟨98, 7, 79, 7, (.seq (.ops [⟨(some 0), .mv (.c (.bool false)), none⟩])
 (.seq (.ops [⟨(some 8), .call 8 [(.c (.str [120, 49, 32, 61, 32, 48, 120, 49, 70, 59, 32, 47, 47, 32, 101, 110, 100]))], none⟩, ⟨(some 7), .mv (.m 8), none⟩, ⟨(some 9), .extract (.m 7) 0, none⟩, ⟨(some 10), .extract (.m 7) 1, none⟩, ⟨(some 1), .mv (.m 9), none⟩, ⟨(some 2), .mv (.m 10), none⟩])
 (.seq (.ops [⟨(some 12), .call 8 [(.c (.str [97, 60, 60, 61, 50]))], none⟩, ⟨(some 11), .mv (.m 12), none⟩, ⟨(some 13), .extract (.m 11) 0, none⟩, ⟨(some 14), .extract (.m 11) 1, none⟩, ⟨(some 3), .mv (.m 13), none⟩, ⟨(some 4), .mv (.m 14), none⟩])
 (.seq (.ops [⟨(some 16), .call 8 [(.c (.str []))], none⟩, ⟨(some 15), .mv (.m 16), none⟩, ⟨(some 17), .extract (.m 15) 0, none⟩, ⟨(some 18), .extract (.m 15) 1, none⟩, ⟨(some 5), .mv (.m 17), none⟩, ⟨(some 6), .mv (.m 18), none⟩])
 (.seq (.ops [⟨(some 19), .mv (.m 2), none⟩, ⟨(some 20), .isnil false 1 (.m 19), none⟩, ⟨(some 21), .mv (.m 20), none⟩, ⟨(some 22), .mv (.t 4), some (21, true)⟩, ⟨(some 23), .isnil false 1 (.t 22), some (21, true)⟩, ⟨(some 24), .pick (.m 21) (.t 23) (.c (.bool false)), none⟩, ⟨(some 25), .mv (.m 24), none⟩, ⟨(some 26), .mv (.t 6), some (25, true)⟩, ⟨(some 27), .isnil false 1 (.t 26), some (25, true)⟩, ⟨(some 28), .pick (.m 25) (.t 27) (.c (.bool false)), none⟩, ⟨(some 29), .mv (.m 28), none⟩, ⟨(some 30), .mv (.t 1), some (29, true)⟩, ⟨(some 31), .buildSl 1 [(.c (.str [120, 49])), (.c (.str [61])), (.c (.str [48, 120, 49, 70])), (.c (.str [59])), (.c (.str []))], some (29, true)⟩, ⟨(some 32), .call 22 [(.t 30), (.t 31)], some (29, true)⟩, ⟨(some 33), .pick (.m 29) (.t 32) (.c (.bool false)), none⟩, ⟨(some 34), .mv (.m 33), none⟩, ⟨(some 35), .mv (.t 1), some (34, true)⟩, ⟨(some 36), .idxAddr 5 (.t 35) (.c (.int .i64 2)), some (34, true)⟩, ⟨(some 37), .fieldAddr 4 (.t 36), some (34, true)⟩, ⟨(some 38), .load false none (.t 37), some (34, true)⟩, ⟨(some 39), .bin .eql (.t 38) (.c (.int .i64 31)), some (34, true)⟩, ⟨(some 40), .pick (.m 34) (.t 39) (.c (.bool false)), none⟩, ⟨(some 41), .mv (.m 40), none⟩, ⟨(some 42), .mv (.t 1), some (41, true)⟩, ⟨(some 43), .idxAddr 5 (.t 42) (.c (.int .i64 2)), some (41, true)⟩, ⟨(some 44), .fieldAddr 0 (.t 43), some (41, true)⟩, ⟨(some 45), .load false none (.t 44), some (41, true)⟩, ⟨(some 46), .bin .eql (.t 45) (.c (.int .i64 2)), some (41, true)⟩, ⟨(some 47), .pick (.m 41) (.t 46) (.c (.bool false)), none⟩, ⟨(some 48), .mv (.m 47), none⟩, ⟨(some 49), .mv (.t 1), some (48, true)⟩, ⟨(some 50), .idxAddr 5 (.t 49) (.c (.int .i64 3)), some (48, true)⟩, ⟨(some 51), .fieldAddr 1 (.t 50), some (48, true)⟩, ⟨(some 52), .load false none (.t 51), some (48, true)⟩, ⟨(some 53), .bin .eql (.t 52) (.c (.int .i64 9)), some (48, true)⟩, ⟨(some 54), .pick (.m 48) (.t 53) (.c (.bool false)), none⟩, ⟨(some 55), .mv (.m 54), none⟩, ⟨(some 56), .mv (.t 1), some (55, true)⟩, ⟨(some 57), .idxAddr 5 (.t 56) (.c (.int .i64 4)), some (55, true)⟩, ⟨(some 58), .fieldAddr 1 (.t 57), some (55, true)⟩, ⟨(some 59), .load false none (.t 58), some (55, true)⟩, ⟨(some 60), .bin .eql (.t 59) (.c (.int .i64 17)), some (55, true)⟩, ⟨(some 61), .pick (.m 55) (.t 60) (.c (.bool false)), none⟩, ⟨(some 62), .mv (.m 61), none⟩, ⟨(some 63), .mv (.t 1), some (62, true)⟩, ⟨(some 64), .idxAddr 5 (.t 63) (.c (.int .i64 4)), some (62, true)⟩, ⟨(some 65), .fieldAddr 0 (.t 64), some (62, true)⟩, ⟨(some 66), .load false none (.t 65), some (62, true)⟩, ⟨(some 67), .bin .eql (.t 66) (.c (.int .i64 0)), some (62, true)⟩, ⟨(some 68), .pick (.m 62) (.t 67) (.c (.bool false)), none⟩, ⟨(some 69), .mv (.m 68), none⟩, ⟨(some 70), .mv (.t 3), some (69, true)⟩, ⟨(some 71), .buildSl 1 [(.c (.str [97])), (.c (.str [60, 60])), (.c (.str [61])), (.c (.str [50])), (.c (.str []))], some (69, true)⟩, ⟨(some 72), .call 22 [(.t 70), (.t 71)], some (69, true)⟩, ⟨(some 73), .pick (.m 69) (.t 72) (.c (.bool false)), none⟩, ⟨(some 74), .mv (.m 73), none⟩, ⟨(some 75), .mv (.t 5), some (74, true)⟩, ⟨(some 76), .lenL (.t 75), some (74, true)⟩, ⟨(some 77), .bin .eql (.t 76) (.c (.int .i64 1)), some (74, true)⟩, ⟨(some 78), .pick (.m 74) (.t 77) (.c (.bool false)), none⟩, ⟨(some 79), .mv (.m 78), none⟩, ⟨(some 80), .mv (.t 5), some (79, true)⟩, ⟨(some 81), .idxAddr 5 (.t 80) (.c (.int .i64 0)), some (79, true)⟩, ⟨(some 82), .load false (some 5) (.t 81), some (79, true)⟩, ⟨(some 83), .build [(.int .i64 0), (.int .i64 0), (.int .i64 0), (.str []), (.int .i64 0)] [(2, 1, (.c (.int .i64 1)))], some (79, true)⟩, ⟨(some 84), .pur (.eqa false [0, 0, 0, 1, 0]) [(.t 82), (.t 83)], some (79, true)⟩, ⟨(some 85), .pick (.m 79) (.t 84) (.c (.bool false)), none⟩, ⟨(some 86), .mv (.m 85), none⟩, ⟨(some 87), .call 23 [(.c (.str [49, 50, 97, 98])), (.c (.int .i64 7)), (.c (.int .i64 2))], some (86, true)⟩, ⟨(some 88), .pick (.m 86) (.t 87) (.c (.bool false)), none⟩, ⟨(some 89), .mv (.m 88), none⟩, ⟨(some 90), .call 23 [(.c (.str [48, 120])), (.c (.int .i64 7)), (.c (.int .i64 2))], some (89, true)⟩, ⟨(some 91), .pick (.m 89) (.t 90) (.c (.bool false)), none⟩, ⟨(some 92), .mv (.m 91), none⟩, ⟨(some 93), .call 23 [(.c (.str [52, 50, 57, 52, 57, 54, 55, 50, 57, 54])), (.c (.int .i64 10)), (.c (.int .i64 0))], some (92, true)⟩, ⟨(some 94), .pick (.m 92) (.t 93) (.c (.bool false)), none⟩, ⟨(some 95), .mv (.m 94), none⟩, ⟨(some 96), .call 23 [(.c (.str [97, 36])), (.c (.int .i64 7)), (.c (.int .i64 1))], some (95, true)⟩, ⟨(some 97), .pick (.m 95) (.t 96) (.c (.bool false)), none⟩, ⟨(some 0), .mv (.m 97), none⟩])
 .ret))))), [.t 0]⟩
/- plover/lex.Lex -/
def ir8 : IFunc := ⟨33, 19, 5, 5, (.seq (.ops [⟨(some 2), .mv (.c (.sl 5 true [])), none⟩, ⟨(some 3), .mv (.c (.prim .nilIface)), none⟩])
 (.seq (.seq (.ops [⟨(some 7), .mv (.t 0), none⟩, ⟨(some 8), .lenS (.t 7), none⟩, ⟨(some 9), .bin .gtr (.m 8) (.c (.int .i64 20000)), none⟩])
 (.cond (.t 9) (.seq (.ops [⟨(some 10), .build [(.int .i64 0), (.int .i64 0)] [(0, 1, (.c (.int .i64 4))), (1, 1, (.c (.int .i64 20000)))], none⟩, ⟨(some 11), .boxv (.m 10), none⟩, ⟨(some 12), .mkIface 56 (.m 11), none⟩, ⟨(some 2), .mv (.c (.sl 5 true [])), none⟩, ⟨(some 3), .mv (.m 12), none⟩])
 .ret) .skip))
 (.seq (.ops [⟨(some 13), .mv (.t 0), none⟩, ⟨(some 14), .build [(.int .u32 0), (.int .i32 0), (.int .u32 0), (.int .u8 0), (.int .u8 0), (.int .u8 0), (.int .u8 0), (.int .u8 0), (.int .u8 0), (.int .u8 0), (.int .u8 0), (.int .u8 0), (.int .u8 0), (.int .u8 0), (.int .u8 0), (.int .u8 0), (.int .u8 0), (.int .u8 0), (.int .u8 0), (.int .u8 0), (.int .u8 0), (.int .u8 0), (.int .u8 0), (.int .u8 0), (.int .u8 0), (.int .u8 0), (.int .u8 0), (.int .u8 0), (.int .u8 0), (.int .u8 0), (.int .u8 0), (.int .u8 0), (.int .u8 0), (.int .u8 0), (.int .u8 0), (.int .u8 0), (.int .u8 0), (.int .u8 0), (.int .u8 0), (.int .u8 0), (.int .u8 0), (.int .u8 0), (.int .u8 0), (.int .u8 0), (.int .u8 0), (.int .u8 0), (.int .u8 0), (.int .u8 0), (.int .u8 0), (.int .u8 0), (.int .u8 0), (.int .u8 0), (.int .u8 0), (.int .u8 0), (.int .u8 0), (.int .u8 0), (.int .u8 0), (.int .u8 0), (.int .u8 0), (.int .u8 0), (.int .u8 0), (.int .u8 0), (.int .u8 0), (.int .u8 0), (.int .u8 0), (.int .u8 0), (.int .u8 0), (.int .u8 0), (.int .u8 0), (.int .u8 0), (.int .u8 0), (.int .u8 0), (.int .u8 0), (.int .u8 0), (.int .u8 0), (.int .u8 0), (.int .u8 0), (.int .u8 0), (.int .u8 0), (.int .u8 0), (.int .u8 0), (.int .u8 0), (.int .u8 0), (.int .u8 0), (.int .u8 0), (.int .u8 0), (.int .u8 0), (.int .u8 0), (.int .u8 0), (.int .u8 0), (.int .u8 0), (.int .u8 0), (.int .u8 0), (.int .u8 0), (.int .u8 0), (.int .u8 0), (.int .u8 0), (.int .u8 0), (.int .u8 0), (.int .u8 0), (.int .u8 0), (.int .u8 0), (.int .u8 0), (.int .u8 0), (.int .u8 0), (.int .u8 0), (.int .u8 0), (.int .u8 0), (.int .u8 0), (.int .u8 0), (.int .u8 0), (.int .u8 0), (.int .u8 0), (.int .u8 0), (.int .u8 0), (.int .u8 0), (.int .u8 0), (.int .u8 0), (.int .u8 0), (.int .u8 0), (.int .u8 0), (.int .u8 0), (.int .u8 0), (.int .u8 0), (.int .u8 0), (.int .u8 0), (.int .u8 0), (.int .u8 0), (.int .u8 0), (.int .u8 0), (.int .u8 0), (.int .u8 0), (.int .u8 0), (.int .u8 0), (.int .u8 0), (.int .u8 0), (.int .u8 0), (.int .u8 0), (.int .u8 0), (.int .u8 0), (.int .u8 0), (.int .u8 0), (.int .u8 0), (.int .u8 0), (.int .u8 0), (.int .u8 0), (.int .u8 0), (.int .u8 0), (.int .u8 0), (.int .u8 0), (.int .u8 0), (.int .u8 0), (.int .u8 0), (.int .u8 0), (.int .u8 0), (.int .u8 0), (.int .u8 0), (.int .u8 0), (.int .u8 0), (.int .u8 0), (.int .u8 0), (.int .u8 0), (.int .u8 0), (.int .u8 0), (.int .u8 0), (.int .u8 0), (.int .u8 0), (.int .u8 0), (.int .u8 0), (.int .u8 0), (.int .u8 0), (.int .u8 0), (.int .u8 0), (.int .u8 0), (.int .u8 0), (.int .u8 0), (.int .u8 0), (.int .u8 0), (.int .u8 0), (.int .u8 0), (.int .u8 0), (.int .u8 0), (.int .u8 0), (.int .u8 0), (.int .u8 0), (.int .u8 0), (.int .u8 0), (.int .u8 0), (.int .u8 0), (.int .u8 0), (.int .u8 0), (.int .u8 0), (.int .u8 0), (.int .u8 0), (.int .u8 0), (.int .u8 0), (.int .u8 0), (.int .u8 0), (.int .u8 0), (.int .u8 0), (.int .u8 0), (.int .u8 0), (.int .u8 0), (.int .u8 0), (.int .u8 0), (.int .u8 0), (.int .u8 0), (.int .u8 0), (.int .u8 0), (.int .u8 0), (.int .u8 0), (.int .u8 0), (.int .u8 0), (.int .u8 0), (.int .u8 0), (.int .u8 0), (.int .u8 0), (.int .u8 0), (.int .u8 0), (.int .u8 0), (.int .u8 0), (.int .u8 0), (.int .u8 0), (.int .u8 0), (.int .u8 0), (.int .u8 0), (.int .u8 0), (.int .u8 0), (.int .u8 0), (.int .u8 0), (.int .u8 0), (.int .u8 0), (.int .u8 0), (.int .u8 0), (.int .u8 0), (.int .u8 0), (.int .u8 0), (.int .u8 0), (.int .u8 0), (.int .u8 0), (.int .u8 0), (.int .u8 0), (.int .u8 0), (.int .u8 0), (.int .u8 0), (.int .u8 0), (.int .u8 0), (.int .u8 0), (.int .u8 0), (.int .u8 0), (.int .u8 0), (.int .u8 0), (.int .u8 0), (.int .u8 0), (.int .u8 0), (.int .u8 0), (.int .u8 0), (.int .u8 0), (.int .u8 0), (.str []), (.int .i64 0), (.int .i64 0), (.prim .nilIface)] [(259, 1, (.m 13)), (261, 1, (.c (.int .i64 1)))], none⟩, ⟨(some 15), .box (.m 14), none⟩, ⟨(some 4), .mv (.m 15), none⟩])
 (.seq (.ops [⟨(some 5), .alloc [(.sl 5 true [])], none⟩])
 (.seq (.seq (.ops [⟨(some 16), .mv (.t 4), none⟩, ⟨(some 17), .call 24 [(.m 16)], none⟩])
 (.block 0 (.rangeF (.t 17) [18] (.ops [⟨(some 6), .alloc [(.int .i64 0), (.int .i64 0), (.int .i64 0), (.str []), (.int .i64 0)], none⟩, ⟨none, .store 5 (.m 6) (.t 18), none⟩]) (.block 1 (.ops [⟨(some 19), .load true none (.t 5), none⟩, ⟨(some 20), .load false (some 5) (.t 6), none⟩, ⟨(some 21), .buildSl 5 [(.m 20)], none⟩, ⟨(some 22), .append false false 5 48 (.m 19) (.m 21), none⟩, ⟨none, .store 1 (.t 5) (.m 22), none⟩])))))
 (.seq (.seq (.ops [⟨(some 23), .mv (.t 4), none⟩, ⟨(some 24), .nilCheck (.m 23), none⟩, ⟨(some 25), .fieldAddr 262 (.m 24), none⟩, ⟨(some 26), .load false none (.m 25), none⟩, ⟨(some 27), .isnil true 1 (.m 26), none⟩])
 (.cond (.t 27) (.seq (.draw [(0, ⟨(some 28), .mv (.m 4), none⟩), (1, ⟨(some 29), .nilCheck (.m 28), none⟩), (2, ⟨(some 30), .fieldAddr 262 (.m 29), none⟩), (3, ⟨(some 31), .load false none (.m 30), none⟩), (4, ⟨(some 2), .mv (.c (.sl 5 true [])), none⟩), (5, ⟨(some 3), .mv (.m 31), none⟩)] [])
 .ret) .skip))
 (.seq (.ops [⟨(some 32), .load false none (.m 5), none⟩, ⟨(some 2), .mv (.m 32), none⟩, ⟨(some 3), .mv (.c (.prim .nilIface)), none⟩])
 .ret))))))), [.t 2, .t 3]⟩
/- plover/ploverlaw02.made -/
def yR : ICode := (.seq (.seq (.ops [⟨(some 7), .mv (.t 5), none⟩, ⟨(some 8), .mv (.t 0), none⟩, ⟨(some 9), .lenL (.t 8), none⟩, ⟨(some 10), .bin .lss (.m 7) (.m 9), none⟩, ⟨(some 11), .mv (.m 10), none⟩, ⟨(some 12), .mv (.t 5), some (11, true)⟩, ⟨(some 13), .bin .lss (.t 12) (.c (.int .i64 120)), some (11, true)⟩, ⟨(some 14), .pick (.m 11) (.t 13) (.c (.bool false)), none⟩])
 (.cond (.t 14) .skip (.exit 0)))
 (.seq (.block 1 (.ops [⟨(some 17), .mv (.t 4), none⟩, ⟨(some 18), .mv (.t 0), none⟩, ⟨(some 19), .mv (.t 5), none⟩, ⟨(some 20), .idxAddr 1 (.t 18) (.m 19), none⟩, ⟨(some 21), .load false none (.m 20), none⟩, ⟨(some 22), .conv (.int .i64) (.m 21), none⟩, ⟨(some 23), .mv (.t 4), none⟩, ⟨(some 24), .lenL (.t 23), none⟩, ⟨(some 25), .bin .rem (.m 22) (.m 24), none⟩, ⟨(some 26), .idxAddr 1 (.t 17) (.m 25), none⟩, ⟨(some 27), .load false none (.m 26), none⟩, ⟨(some 28), .call 20 [(.t 3), (.m 27)], none⟩]))
 (.ops [⟨(some 15), .mv (.m 5), none⟩, ⟨(some 16), .bin .add (.m 15) (.c (.int .i64 1)), none⟩, ⟨(some 5), .mv (.m 16), none⟩])))
def ir9 : IFunc := ⟨30, 6, 12, 5, (.seq (.ops [⟨(some 2), .mv (.c (.str [])), none⟩])
 (.seq (.ops [⟨(some 3), .mem (.talloc 48 [(.prim (.pointer none)), (.sl 1 true [])]) [], none⟩])
 (.seq (.ops [⟨(some 6), .call 25 [], none⟩, ⟨(some 4), .mv (.m 6), none⟩])
 (.seq (.seq (.ops [⟨(some 5), .mv (.c (.int .i64 0)), none⟩])
 (.block 0 (.loop yR)))
 (.seq (.ops [⟨(some 29), .call 21 [(.m 3)], none⟩, ⟨(some 2), .mv (.m 29), none⟩])
 .ret))))), [.t 2]⟩
/- plover/ploverref02.Digit -/
/- plover/ploverref02.Letter -/
/- strings.IndexByte -/
def jcr : IFunc := ⟨8, 5, 3, 4, (.seq (.ops [⟨(some 4), .mv (.c (.int .i64 0)), none⟩])
 (.seq (.ops [⟨(some 5), .mv (.m 0), none⟩, ⟨(some 6), .mv (.m 1), none⟩, ⟨(some 7), .call 26 [(.m 5), (.m 6)], none⟩, ⟨(some 4), .mv (.m 7), none⟩])
 .ret)), [.t 4]⟩
/- plover/ploverlaw02.told -/
def jd2 : IFunc := ⟨28, 6, 17, 5, (.seq (.ops [⟨(some 3), .boxv (.t 1), none⟩, ⟨(some 4), .mv (.c (.bool false)), none⟩])
 (.seq (.seq (.ops [⟨(some 6), .fieldAddr 0 (.t 3), none⟩, ⟨(some 7), .load false none (.m 6), none⟩, ⟨(some 8), .bin .eql (.m 7) (.c (.int .i64 0)), none⟩])
 (.cond (.t 8) (.seq (.ops [⟨(some 9), .mv (.m 0), none⟩, ⟨(some 10), .isnil false 1 (.m 9), none⟩, ⟨(some 4), .mv (.m 10), none⟩])
 .ret) .skip))
 (.seq (.ops [⟨(some 5), .alloc [(.prim (.pointer none))], none⟩])
 (.seq (.draw [(0, ⟨(some 11), .mv (.m 0), none⟩), (1, ⟨(some 12), .mkIface 80 (.m 5), none⟩), (2, ⟨(some 13), .call 27 [(.m 11), (.m 12)], none⟩), (3, ⟨(some 14), .mv (.m 13), none⟩), (4, ⟨(some 15), .load false none (.t 5), some (14, true)⟩), (5, ⟨(some 16), .nilCheck (.t 15), some (14, true)⟩), (6, ⟨(some 17), .load false (some 2) (.t 16), some (14, true)⟩), (7, ⟨(some 18), .load false (some 2) (.t 3), some (14, true)⟩), (8, ⟨(some 19), .pur (.eqa false [0, 0]) [(.t 17), (.t 18)], some (14, true)⟩), (9, ⟨(some 20), .pick (.m 14) (.t 19) (.c (.bool false)), none⟩), (10, ⟨(some 21), .mv (.m 20), none⟩), (11, ⟨(some 22), .mv (.t 0), some (21, true)⟩), (12, ⟨(some 23), .fieldAddr 0 (.t 3), some (21, true)⟩), (13, ⟨(some 24), .load false none (.t 23), some (21, true)⟩), (14, ⟨(some 25), .mkIface 35 (.t 24), some (21, true)⟩), (15, ⟨(some 26), .call 28 [(.t 22), (.t 25)], some (21, true)⟩), (16, ⟨(some 27), .pick (.m 21) (.t 26) (.c (.bool false)), none⟩), (17, ⟨(some 4), .mv (.m 27), none⟩)] [])
 .ret)))), [.t 4]⟩
/- plover/ploverlaw02.same -/
/- strings.Count -/
def jct : ICode := (.block 1 (.seq (.ops [⟨(some 20), .mv (.t 0), none⟩, ⟨(some 21), .mv (.t 1), none⟩, ⟨(some 22), .call 31 [(.m 20), (.m 21)], none⟩, ⟨(some 6), .mv (.m 22), none⟩])
 (.seq (.seq (.ops [⟨(some 23), .mv (.t 6), none⟩, ⟨(some 24), .bin .eql (.m 23) (.c (.int .i64 (-1))), none⟩])
 (.cond (.t 24) (.seq (.ops [⟨(some 25), .mv (.m 5), none⟩, ⟨(some 4), .mv (.m 25), none⟩])
 .ret) .skip))
 (.seq (.ops [⟨(some 26), .mv (.m 5), none⟩, ⟨(some 27), .bin .add (.m 26) (.c (.int .i64 1)), none⟩, ⟨(some 5), .mv (.m 27), none⟩])
 (.ops [⟨(some 28), .mv (.m 0), none⟩, ⟨(some 29), .mv (.t 6), none⟩, ⟨(some 30), .mv (.t 1), none⟩, ⟨(some 31), .lenS (.t 30), none⟩, ⟨(some 32), .bin .add (.m 29) (.m 31), none⟩, ⟨(some 33), .sliceS (.m 28) (some (.t 32)) none, none⟩, ⟨(some 0), .mv (.m 33), none⟩])))))
def jcs : IFunc := ⟨34, 7, 6, 4, (.seq (.ops [⟨(some 4), .mv (.c (.int .i64 0)), none⟩])
 (.seq (.seq (.ops [⟨(some 7), .mv (.t 1), none⟩, ⟨(some 8), .lenS (.t 7), none⟩, ⟨(some 9), .bin .eql (.m 8) (.c (.int .i64 0)), none⟩])
 (.cond (.t 9) (.seq (.ops [⟨(some 10), .mv (.m 0), none⟩, ⟨(some 11), .call 29 [(.m 10)], none⟩, ⟨(some 12), .bin .add (.m 11) (.c (.int .i64 1)), none⟩, ⟨(some 4), .mv (.m 12), none⟩])
 .ret) .skip))
 (.seq (.seq (.ops [⟨(some 13), .mv (.t 1), none⟩, ⟨(some 14), .lenS (.t 13), none⟩, ⟨(some 15), .bin .eql (.m 14) (.c (.int .i64 1)), none⟩])
 (.cond (.t 15) (.seq (.ops [⟨(some 16), .mv (.m 0), none⟩, ⟨(some 17), .mv (.m 1), none⟩, ⟨(some 18), .idxS (.m 17) (.c (.int .i64 0)), none⟩, ⟨(some 19), .pur (.ext .cntS) [(.m 16), (.m 18)], none⟩, ⟨(some 4), .mv (.m 19), none⟩])
 .ret) .skip))
 (.seq (.ops [⟨(some 5), .mv (.c (.int .i64 0)), none⟩])
 (.block 0 (.loop jct)))))), [.t 4]⟩
/- plover/ploverlaw02.alike -/
/- plover/lex.Line -/
def jd3 : IFunc := ⟨14, 5, 9, 4, (.seq (.ops [⟨(some 4), .mv (.c (.int .i64 0)), none⟩])
 (.seq (.ops [⟨(some 5), .mv (.m 0), none⟩, ⟨(some 6), .mv (.m 1), none⟩, ⟨(some 7), .mv (.m 0), none⟩, ⟨(some 8), .lenS (.t 7), none⟩, ⟨(some 9), .minmax false [(.m 6), (.m 8)], none⟩, ⟨(some 10), .minmax true [(.c (.int .i64 0)), (.m 9)], none⟩, ⟨(some 11), .sliceS (.m 5) none (some (.t 10)), none⟩, ⟨(some 12), .call 15 [(.m 11), (.c (.str [10]))], none⟩, ⟨(some 13), .bin .add (.c (.int .i64 1)) (.m 12), none⟩, ⟨(some 4), .mv (.m 13), none⟩])
 .ret)), [.t 4]⟩
/- plover/ploverref02.Line -/
def vU : ICode := (.seq (.seq (.ops [⟨(some 7), .mv (.t 6), none⟩, ⟨(some 8), .mv (.t 1), none⟩, ⟨(some 9), .bin .lss (.m 7) (.m 8), none⟩, ⟨(some 10), .mv (.m 9), none⟩, ⟨(some 11), .mv (.t 6), some (10, true)⟩, ⟨(some 12), .mv (.t 0), some (10, true)⟩, ⟨(some 13), .lenS (.t 12), some (10, true)⟩, ⟨(some 14), .bin .lss (.t 11) (.t 13), some (10, true)⟩, ⟨(some 15), .pick (.m 10) (.t 14) (.c (.bool false)), none⟩])
 (.cond (.t 15) .skip (.exit 0)))
 (.seq (.block 1 (.seq (.ops [⟨(some 18), .mv (.t 0), none⟩, ⟨(some 19), .mv (.t 6), none⟩, ⟨(some 20), .idxS (.m 18) (.m 19), none⟩, ⟨(some 21), .bin .eql (.m 20) (.c (.int .u8 10)), none⟩])
 (.cond (.t 21) (.ops [⟨(some 22), .mv (.m 5), none⟩, ⟨(some 23), .bin .add (.m 22) (.c (.int .i64 1)), none⟩, ⟨(some 5), .mv (.m 23), none⟩]) .skip)))
 (.ops [⟨(some 16), .mv (.m 6), none⟩, ⟨(some 17), .bin .add (.m 16) (.c (.int .i64 1)), none⟩, ⟨(some 6), .mv (.m 17), none⟩])))
/- plover/ploverlaw02.bare -/
def qQ : ICode := (.seq (.seq (.ops [⟨(some 4), .mv (.t 0), none⟩, ⟨(some 5), .lenS (.t 4), none⟩, ⟨(some 6), .bin .gtr (.m 5) (.c (.int .i64 0)), none⟩])
 (.cond (.t 6) .skip (.exit 0)))
 (.block 1 (.seq (.seq (.ops [⟨(some 7), .mv (.t 0), none⟩, ⟨(some 8), .idxS (.m 7) (.c (.int .i64 0)), none⟩, ⟨(some 9), .bin .eql (.m 8) (.c (.int .u8 32)), none⟩, ⟨(some 10), .mv (.m 9), none⟩, ⟨(some 11), .mv (.t 0), some (10, false)⟩, ⟨(some 12), .idxS (.t 11) (.c (.int .i64 0)), some (10, false)⟩, ⟨(some 13), .bin .eql (.t 12) (.c (.int .u8 9)), some (10, false)⟩, ⟨(some 14), .pick (.m 10) (.c (.bool true)) (.t 13), none⟩, ⟨(some 15), .mv (.m 14), none⟩, ⟨(some 16), .mv (.t 0), some (15, false)⟩, ⟨(some 17), .idxS (.t 16) (.c (.int .i64 0)), some (15, false)⟩, ⟨(some 18), .bin .eql (.t 17) (.c (.int .u8 10)), some (15, false)⟩, ⟨(some 19), .pick (.m 15) (.c (.bool true)) (.t 18), none⟩])
 (.cond (.t 19) (.seq (.ops [⟨(some 20), .mv (.m 0), none⟩, ⟨(some 21), .sliceS (.m 20) (some (.c (.int .i64 1))) none, none⟩, ⟨(some 0), .mv (.m 21), none⟩])
 (.exit 1)) .skip))
 (.seq (.seq (.ops [⟨(some 22), .mv (.t 0), none⟩, ⟨(some 23), .call 34 [(.m 22), (.c (.str [47, 47]))], none⟩, ⟨(some 24), .un .not (.m 23), none⟩])
 (.cond (.t 24) (.seq (.ops [⟨(some 2), .mv (.c (.bool false)), none⟩])
 .ret) .skip))
 (.seq (.ops [⟨(some 25), .mv (.t 0), none⟩, ⟨(some 26), .call 12 [(.m 25), (.c (.int .u8 10))], none⟩, ⟨(some 3), .mv (.m 26), none⟩])
 (.seq (.seq (.ops [⟨(some 27), .mv (.t 3), none⟩, ⟨(some 28), .bin .lss (.m 27) (.c (.int .i64 0)), none⟩])
 (.cond (.t 28) (.seq (.ops [⟨(some 2), .mv (.c (.bool true)), none⟩])
 .ret) .skip))
 (.ops [⟨(some 29), .mv (.m 0), none⟩, ⟨(some 30), .mv (.t 3), none⟩, ⟨(some 31), .sliceS (.m 29) (some (.t 30)) none, none⟩, ⟨(some 0), .mv (.m 31), none⟩])))))))
def jd4 : IFunc := ⟨32, 4, 13, 5, (.seq (.ops [⟨(some 2), .mv (.c (.bool false)), none⟩])
 (.seq (.block 0 (.loop qQ))
 (.seq (.ops [⟨(some 2), .mv (.c (.bool true)), none⟩])
 .ret))), [.t 2]⟩
/- (*strings.Builder).WriteString -/
def YP : IFunc := ⟨19, 6, 9, 4, (.seq (.ops [⟨(some 4), .mv (.c (.int .i64 0)), none⟩, ⟨(some 5), .mv (.c (.prim .nilIface)), none⟩])
 (.seq (.ops [⟨(some 6), .mv (.t 0), none⟩, ⟨(some 7), .call 35 [(.m 6)], none⟩])
 (.seq (.ops [⟨(some 8), .mv (.t 0), none⟩, ⟨(some 9), .mv (.t 0), none⟩, ⟨(some 10), .nilCheck (.m 9), none⟩, ⟨(some 11), .fieldAddr 1 (.m 10), none⟩, ⟨(some 12), .load false none (.m 11), none⟩, ⟨(some 13), .mv (.t 1), none⟩, ⟨(some 14), .mem (.bapp 5) [(.m 12), (.m 13)], none⟩, ⟨(some 15), .nilCheck (.m 8), none⟩, ⟨(some 16), .fieldAddr 1 (.m 15), none⟩, ⟨none, .store 1 (.m 16) (.m 14), none⟩])
 (.seq (.ops [⟨(some 17), .mv (.m 1), none⟩, ⟨(some 18), .lenS (.t 17), none⟩, ⟨(some 4), .mv (.m 18), none⟩, ⟨(some 5), .mv (.c (.prim .nilIface)), none⟩])
 .ret)))), [.t 4, .t 5]⟩
/- (*strings.Builder).String -/
def jd5 : IFunc := ⟨14, 3, 11, 4, (.seq (.ops [⟨(some 2), .mv (.c (.str [])), none⟩])
 (.seq (.draw [(0, ⟨(some 3), .mv (.t 0), none⟩), (1, ⟨(some 4), .nilCheck (.m 3), none⟩), (2, ⟨(some 5), .fieldAddr 1 (.m 4), none⟩), (3, ⟨(some 6), .load false none (.m 5), none⟩), (4, ⟨(some 7), .mem .sdat [(.m 6)], none⟩), (5, ⟨(some 8), .mv (.t 0), none⟩), (6, ⟨(some 9), .nilCheck (.m 8), none⟩), (7, ⟨(some 10), .fieldAddr 1 (.m 9), none⟩), (8, ⟨(some 11), .load false none (.m 10), none⟩), (9, ⟨(some 12), .lenL (.t 11), none⟩), (10, ⟨(some 13), .mem (.ustr 5) [(.m 7), (.m 12)], none⟩), (11, ⟨(some 2), .mv (.m 13), none⟩)] [(8, 4)])
 .ret)), [.t 2]⟩
/- plover/ploverlaw02.texts -/
def y0 : ICode := (.seq (.seq (.ops [⟨(some 11), .mv (.t 5), none⟩, ⟨(some 12), .mv (.t 0), none⟩, ⟨(some 13), .lenL (.t 12), none⟩, ⟨(some 14), .bin .lss (.m 11) (.m 13), none⟩])
 (.cond (.t 14) .skip (.exit 0)))
 (.seq (.block 1 (.seq (.draw [(0, ⟨(some 17), .mv (.t 0), none⟩), (1, ⟨(some 18), .mv (.t 5), none⟩), (2, ⟨(some 19), .idxAddr 5 (.t 17) (.m 18), none⟩), (3, ⟨(some 20), .fieldAddr 3 (.m 19), none⟩), (4, ⟨(some 21), .load false none (.m 20), none⟩), (5, ⟨(some 22), .mv (.t 1), none⟩), (6, ⟨(some 23), .mv (.t 5), none⟩), (7, ⟨(some 24), .idxAddr 1 (.t 22) (.m 23), none⟩), (8, ⟨(some 25), .load false none (.m 24), none⟩), (9, ⟨(some 26), .bin .neq (.m 21) (.m 25), none⟩)] [])
 (.cond (.t 26) (.seq (.ops [⟨(some 4), .mv (.c (.bool false)), none⟩])
 .ret) .skip)))
 (.ops [⟨(some 15), .mv (.m 5), none⟩, ⟨(some 16), .bin .add (.m 15) (.c (.int .i64 1)), none⟩, ⟨(some 5), .mv (.m 16), none⟩])))
def jd6 : IFunc := ⟨27, 6, 10, 5, (.seq (.ops [⟨(some 4), .mv (.c (.bool false)), none⟩])
 (.seq (.seq (.ops [⟨(some 6), .mv (.t 0), none⟩, ⟨(some 7), .lenL (.t 6), none⟩, ⟨(some 8), .mv (.t 1), none⟩, ⟨(some 9), .lenL (.t 8), none⟩, ⟨(some 10), .bin .neq (.m 7) (.m 9), none⟩])
 (.cond (.t 10) (.seq (.ops [⟨(some 4), .mv (.c (.bool false)), none⟩])
 .ret) .skip))
 (.seq (.seq (.ops [⟨(some 5), .mv (.c (.int .i64 0)), none⟩])
 (.block 0 (.loop y0)))
 (.seq (.ops [⟨(some 4), .mv (.c (.bool true)), none⟩])
 .ret)))), [.t 4]⟩
/- plover/ploverlaw02.fails -/
def je8 : IFunc := ⟨24, 9, 10, 5, (.seq (.ops [⟨(some 6), .mv (.c (.bool false)), none⟩])
 (.seq (.ops [⟨(some 10), .mv (.t 0), none⟩, ⟨(some 11), .call 8 [(.m 10)], none⟩, ⟨(some 9), .mv (.m 11), none⟩, ⟨(some 12), .extract (.m 9) 0, none⟩, ⟨(some 13), .extract (.m 9) 1, none⟩, ⟨(some 7), .mv (.m 12), none⟩, ⟨(some 8), .mv (.m 13), none⟩])
 (.seq (.ops [⟨(some 14), .mv (.m 7), none⟩, ⟨(some 15), .lenL (.t 14), none⟩, ⟨(some 16), .bin .eql (.m 15) (.c (.int .i64 0)), none⟩, ⟨(some 17), .mv (.m 16), none⟩, ⟨(some 18), .mv (.t 8), some (17, true)⟩, ⟨(some 19), .mv (.t 1), some (17, true)⟩, ⟨(some 20), .mv (.t 2), some (17, true)⟩, ⟨(some 21), .build [(.int .i64 0), (.int .i64 0)] [(0, 1, (.t 19)), (1, 1, (.t 20))], some (17, true)⟩, ⟨(some 22), .call 13 [(.t 18), (.t 21)], some (17, true)⟩, ⟨(some 23), .pick (.m 17) (.t 22) (.c (.bool false)), none⟩, ⟨(some 6), .mv (.m 23), none⟩])
 .ret))), [.t 6]⟩
/- (*plover/lex.lexer).tokens -/
def jd7 : IFunc := ⟨4, 3, 1, 3, (.seq (.ops [⟨(some 1), .boxv (.t 0), none⟩, ⟨(some 2), .mv (.c (.prim .nilFunc)), none⟩])
 (.seq (.ops [⟨(some 3), .mkFn (.func 36) [] [(.m 1)], none⟩, ⟨(some 2), .mv (.m 3), none⟩])
 .ret)), [.t 2]⟩
/- plover/ploverlaw02.pieces -/
def jd8 : IFunc := ⟨2, 1, 1, 2, (.seq (.ops [⟨(some 0), .mv (.c (.sl 1 true [])), none⟩])
 (.seq (.ops [⟨(some 1), .buildSl 1 [(.c (.str [120])), (.c (.str [119, 104, 105, 108, 101])), (.c (.str [95, 97, 57])), (.c (.str [119, 49, 54])), (.c (.str [48])), (.c (.str [49, 50])), (.c (.str [48, 120])), (.c (.str [48, 120, 49, 102])), (.c (.str [52, 50, 57, 52, 57, 54, 55, 50, 57, 53])), (.c (.str [52, 50, 57, 52, 57, 54, 55, 50, 57, 54])), (.c (.str [97, 98, 99, 100, 101, 102, 103, 104, 105, 106, 107, 108, 109, 110, 111, 112])), (.c (.str [60])), (.c (.str [60, 60])), (.c (.str [62])), (.c (.str [61])), (.c (.str [61, 61])), (.c (.str [33])), (.c (.str [33, 61])), (.c (.str [47])), (.c (.str [47, 47])), (.c (.str [123])), (.c (.str [125])), (.c (.str [40])), (.c (.str [41])), (.c (.str [91])), (.c (.str [93])), (.c (.str [59])), (.c (.str [58])), (.c (.str [44])), (.c (.str [46])), (.c (.str [43])), (.c (.str [45])), (.c (.str [42])), (.c (.str [37])), (.c (.str [38])), (.c (.str [94])), (.c (.str [124])), (.c (.str [126])), (.c (.str [32])), (.c (.str [32])), (.c (.str [9])), (.c (.str [10])), (.c (.str [36])), (.c (.str [0])), (.c (.str [255])), (.c (.str [48, 88, 49])), (.c (.str [57, 122])), (.c (.str [47, 47, 32, 101, 110, 100, 10]))], none⟩, ⟨(some 0), .mv (.m 1), none⟩])
 .ret)), [.t 0]⟩
/- internal/stringslite.IndexByte -/
def YQ : IFunc := ⟨8, 5, 3, 4, (.seq (.ops [⟨(some 4), .mv (.c (.int .i64 0)), none⟩])
 (.seq (.ops [⟨(some 5), .mv (.m 0), none⟩, ⟨(some 6), .mv (.m 1), none⟩, ⟨(some 7), .pur (.ext .idxBS) [(.m 5), (.m 6)], none⟩, ⟨(some 4), .mv (.m 7), none⟩])
 .ret)), [.t 4]⟩
/- errors.As -/
def jdy : IFunc := ⟨42, 8, 9, 5, (.seq (.ops [⟨(some 4), .mv (.c (.bool false)), none⟩])
 (.seq (.seq (.ops [⟨(some 8), .mv (.t 0), none⟩, ⟨(some 9), .isnil false 1 (.m 8), none⟩])
 (.cond (.t 9) (.seq (.ops [⟨(some 4), .mv (.c (.bool false)), none⟩])
 .ret) .skip))
 (.seq (.seq (.ops [⟨(some 10), .mv (.t 1), none⟩, ⟨(some 11), .isnil false 1 (.m 10), none⟩])
 (.cond (.t 11) (.ops [⟨(some 12), .mkIface 9 (.c (.str [101, 114, 114, 111, 114, 115, 58, 32, 116, 97, 114, 103, 101, 116, 32, 99, 97, 110, 110, 111, 116, 32, 98, 101, 32, 110, 105, 108])), none⟩, ⟨none, .panic (.m 12), none⟩]) .skip))
 (.seq (.ops [⟨(some 13), .mv (.t 1), none⟩, ⟨(some 14), .vOf 10 [(35, 2), (56, 22), (26, 20), (80, 22), (125, 25), (156, 2)] (.m 13), none⟩, ⟨(some 5), .alloc [(.prim (.pointer none)), (.prim (.pointer none)), (.int .u64 0)], none⟩, ⟨none, .store 3 (.m 5) (.m 14), none⟩])
 (.seq (.ops [⟨(some 15), .load false (some 3) (.t 5), none⟩, ⟨(some 16), .pur (.ext (.vType 125 10)) [(.m 15)], none⟩, ⟨(some 6), .mv (.m 16), none⟩])
 (.seq (.seq (.ops [⟨(some 17), .mv (.t 6), none⟩, ⟨(some 18), .pur (.invX [(125, (.aKind 10 [(35, 2), (56, 22), (26, 20), (80, 22), (125, 25), (156, 2)]), (.fld 0 none))]) [(.m 17)], none⟩, ⟨(some 19), .bin .neq (.m 18) (.c (.int .u8 22)), none⟩, ⟨(some 20), .mv (.m 19), none⟩, ⟨(some 21), .load false (some 3) (.t 5), some (20, false)⟩, ⟨(some 22), .pur (.ext (.vIsNil 10 [35, 56, 26, 80, 156])) [(.t 21)], some (20, false)⟩, ⟨(some 23), .pick (.m 20) (.c (.bool true)) (.t 22), none⟩])
 (.cond (.t 23) (.ops [⟨(some 24), .mkIface 9 (.c (.str [101, 114, 114, 111, 114, 115, 58, 32, 116, 97, 114, 103, 101, 116, 32, 109, 117, 115, 116, 32, 98, 101, 32, 97, 32, 110, 111, 110, 45, 110, 105, 108, 32, 112, 111, 105, 110, 116, 101, 114])), none⟩, ⟨none, .panic (.m 24), none⟩]) .skip))
 (.seq (.ops [⟨(some 25), .mv (.t 6), none⟩, ⟨(some 26), .pur (.invX [(125, (.rElem 125 10 [(56, 37), (80, 56)]), .same)]) [(.m 25)], none⟩, ⟨(some 7), .mv (.m 26), none⟩])
 (.seq (.seq (.ops [⟨(some 27), .mv (.t 7), none⟩, ⟨(some 28), .pur (.invX [(125, (.aKind 10 [(35, 2), (56, 22), (26, 20), (80, 22), (125, 25), (156, 2)]), (.fld 0 none))]) [(.m 27)], none⟩, ⟨(some 29), .bin .neq (.m 28) (.c (.int .u8 20)), none⟩, ⟨(some 30), .mv (.m 29), none⟩, ⟨(some 31), .mv (.t 7), some (30, true)⟩, ⟨(some 32), .load false none (.c (.pv false [(.iface 125 (.agg [(.prim (.pointer (some ⟨10, 26, none⟩)))]))] 0)), some (30, true)⟩, ⟨(some 33), .pur (.invX [(125, (.rImpl 10 [((35, 26), true), ((56, 26), true), ((80, 26), false), ((125, 26), false), ((156, 26), true)]), .same)]) [(.t 31), (.t 32)], some (30, true)⟩, ⟨(some 34), .un .not (.t 33), some (30, true)⟩, ⟨(some 35), .pick (.m 30) (.t 34) (.c (.bool false)), none⟩])
 (.cond (.t 35) (.ops [⟨(some 36), .mkIface 9 (.c (.str [101, 114, 114, 111, 114, 115, 58, 32, 42, 116, 97, 114, 103, 101, 116, 32, 109, 117, 115, 116, 32, 98, 101, 32, 105, 110, 116, 101, 114, 102, 97, 99, 101, 32, 111, 114, 32, 105, 109, 112, 108, 101, 109, 101, 110, 116, 32, 101, 114, 114, 111, 114])), none⟩, ⟨none, .panic (.m 36), none⟩]) .skip))
 (.seq (.ops [⟨(some 37), .mv (.m 0), none⟩, ⟨(some 38), .mv (.m 1), none⟩, ⟨(some 39), .load false (some 3) (.m 5), none⟩, ⟨(some 40), .mv (.m 7), none⟩, ⟨(some 41), .call 47 [(.m 37), (.m 38), (.m 39), (.m 40)], none⟩, ⟨(some 4), .mv (.m 41), none⟩])
 .ret))))))))), [.t 4]⟩
/- errors.Is -/
def jdz : IFunc := ⟨22, 6, 6, 4, (.seq (.ops [⟨(some 4), .mv (.c (.bool false)), none⟩])
 (.seq (.seq (.ops [⟨(some 6), .mv (.t 0), none⟩, ⟨(some 7), .isnil false 1 (.m 6), none⟩, ⟨(some 8), .mv (.m 7), none⟩, ⟨(some 9), .mv (.t 1), some (8, false)⟩, ⟨(some 10), .isnil false 1 (.t 9), some (8, false)⟩, ⟨(some 11), .pick (.m 8) (.c (.bool true)) (.t 10), none⟩])
 (.cond (.t 11) (.seq (.ops [⟨(some 12), .mv (.m 0), none⟩, ⟨(some 13), .mv (.m 1), none⟩, ⟨(some 14), .pur (.eqi false [(35, 0), (156, 0)]) [(.m 12), (.m 13)], none⟩, ⟨(some 4), .mv (.m 14), none⟩])
 .ret) .skip))
 (.seq (.ops [⟨(some 15), .mv (.t 1), none⟩, ⟨(some 16), .pur (.ext (.typeOf 125 10)) [(.m 15)], none⟩, ⟨(some 17), .pur (.invX [(125, (.rCmp 10 [(35, true), (56, true), (26, true), (80, true), (125, true), (156, true)]), .same)]) [(.m 16)], none⟩, ⟨(some 5), .mv (.m 17), none⟩])
 (.seq (.ops [⟨(some 18), .mv (.m 0), none⟩, ⟨(some 19), .mv (.m 1), none⟩, ⟨(some 20), .mv (.m 5), none⟩, ⟨(some 21), .call 49 [(.m 18), (.m 19), (.m 20)], none⟩, ⟨(some 4), .mv (.m 21), none⟩])
 .ret)))), [.t 4]⟩
/- plover/ploverref02.Lex -/
/- plover/ploverref02.Same -/
/- strings.HasPrefix -/
def jdA : IFunc := ⟨8, 5, 3, 4, (.seq (.ops [⟨(some 4), .mv (.c (.bool false)), none⟩])
 (.seq (.ops [⟨(some 5), .mv (.m 0), none⟩, ⟨(some 6), .mv (.m 1), none⟩, ⟨(some 7), .call 53 [(.m 5), (.m 6)], none⟩, ⟨(some 4), .mv (.m 7), none⟩])
 .ret)), [.t 4]⟩
/- (*strings.Builder).copyCheck -/
def jdB : IFunc := ⟨20, 1, 7, 4, (.seq (.ops [⟨(some 2), .mv (.t 0), none⟩, ⟨(some 3), .nilCheck (.m 2), none⟩, ⟨(some 4), .fieldAddr 0 (.m 3), none⟩, ⟨(some 5), .load false none (.m 4), none⟩, ⟨(some 6), .isnil false 0 (.m 5), none⟩])
 (.cond (.t 6) (.ops [⟨(some 7), .mv (.t 0), none⟩, ⟨(some 8), .mv (.t 0), none⟩, ⟨(some 9), .mem .uptr [(.m 8)], none⟩, ⟨(some 10), .mem .noesc [(.m 9)], none⟩, ⟨(some 11), .mem (.unp 48 2) [(.m 10)], none⟩, ⟨(some 12), .nilCheck (.m 7), none⟩, ⟨(some 13), .fieldAddr 0 (.m 12), none⟩, ⟨none, .store 1 (.m 13) (.m 11), none⟩]) (.seq (.ops [⟨(some 14), .mv (.t 0), none⟩, ⟨(some 15), .nilCheck (.m 14), none⟩, ⟨(some 16), .fieldAddr 0 (.m 15), none⟩, ⟨(some 17), .load false none (.m 16), none⟩, ⟨(some 18), .mv (.t 0), none⟩, ⟨(some 19), .pur (.eqp true) [(.m 17), (.m 18)], none⟩])
 (.cond (.t 19) .stuck .skip)))), []⟩
/- (*plover/lex.lexer).tokens$1 -/
def zj : ICode := (.block 2 (.seq (.ops [⟨(some 44), .load false none (.t 1), none⟩, ⟨(some 45), .nilCheck (.m 44), none⟩, ⟨(some 46), .fieldAddr 0 (.m 45), none⟩, ⟨(some 47), .mv (.t 4), none⟩, ⟨(some 48), .call 38 [(.m 46), (.m 47), (.c (.int .u8 2))], none⟩, ⟨(some 43), .mv (.m 48), none⟩])
 (.cond (.t 43) (.ops [⟨(some 49), .load false none (.t 1), none⟩, ⟨(some 50), .call 39 [(.m 49), (.t 3)], none⟩]) (.seq (.ops [⟨(some 52), .load false none (.t 1), none⟩, ⟨(some 53), .nilCheck (.m 52), none⟩, ⟨(some 54), .fieldAddr 0 (.m 53), none⟩, ⟨(some 55), .mv (.t 4), none⟩, ⟨(some 56), .call 38 [(.m 54), (.m 55), (.c (.int .u8 4))], none⟩, ⟨(some 51), .mv (.m 56), none⟩])
 (.cond (.t 51) (.ops [⟨(some 57), .load false none (.t 1), none⟩, ⟨(some 58), .call 40 [(.m 57), (.t 3)], none⟩]) (.seq (.ops [⟨(some 60), .load false none (.t 1), none⟩, ⟨(some 61), .nilCheck (.m 60), none⟩, ⟨(some 62), .fieldAddr 0 (.m 61), none⟩, ⟨(some 63), .mv (.t 4), none⟩, ⟨(some 64), .call 38 [(.m 62), (.m 63), (.c (.int .u8 8))], none⟩, ⟨(some 59), .mv (.m 64), none⟩])
 (.cond (.t 59) (.ops [⟨(some 65), .load false none (.t 1), none⟩, ⟨(some 66), .call 41 [(.m 65), (.t 3)], none⟩]) (.draw [(0, ⟨(some 37), .load false none (.t 1), none⟩), (1, ⟨(some 38), .load false none (.t 1), none⟩), (2, ⟨(some 39), .nilCheck (.m 38), none⟩), (3, ⟨(some 40), .fieldAddr 260 (.m 39), none⟩), (4, ⟨(some 41), .load false none (.m 40), none⟩), (5, ⟨(some 42), .call 42 [(.m 37), (.c (.int .i64 7)), (.m 41)], none⟩)] []))))))))
def zU : ICode := (.seq (.seq (.draw [(0, ⟨(some 7), .load false none (.t 1), none⟩), (1, ⟨(some 8), .nilCheck (.m 7), none⟩), (2, ⟨(some 9), .fieldAddr 260 (.m 8), none⟩), (3, ⟨(some 10), .load false none (.m 9), none⟩), (4, ⟨(some 11), .load false none (.t 1), none⟩), (5, ⟨(some 12), .nilCheck (.m 11), none⟩), (6, ⟨(some 13), .fieldAddr 259 (.m 12), none⟩), (7, ⟨(some 14), .load false none (.m 13), none⟩), (8, ⟨(some 15), .lenS (.t 14), none⟩), (9, ⟨(some 16), .bin .lss (.m 10) (.m 15), none⟩)] [])
 (.cond (.t 16) .skip (.exit 0)))
 (.seq (.block 1 (.seq (.draw [(0, ⟨(some 19), .load false none (.t 1), none⟩), (1, ⟨(some 20), .nilCheck (.m 19), none⟩), (2, ⟨(some 21), .fieldAddr 260 (.m 20), none⟩), (3, ⟨(some 22), .load false none (.m 21), none⟩), (4, ⟨(some 23), .load false none (.t 1), none⟩), (5, ⟨(some 24), .nilCheck (.m 23), none⟩), (6, ⟨(some 25), .fieldAddr 261 (.m 24), none⟩), (7, ⟨(some 26), .load false none (.m 25), none⟩), (8, ⟨(some 27), .build [(.int .i64 0), (.int .i64 0), (.int .i64 0), (.str []), (.int .i64 0)] [(1, 1, (.m 22)), (2, 1, (.m 26))], none⟩), (9, ⟨(some 3), .alloc [(.int .i64 0), (.int .i64 0), (.int .i64 0), (.str []), (.int .i64 0)], none⟩), (10, ⟨none, .store 5 (.m 3) (.m 27), none⟩)] [(0, 9), (3, 9), (4, 9), (7, 9)])
 (.seq (.seq (.draw [(0, ⟨(some 28), .load false none (.t 1), none⟩), (1, ⟨(some 29), .nilCheck (.m 28), none⟩), (2, ⟨(some 30), .fieldAddr 259 (.m 29), none⟩), (3, ⟨(some 31), .load false none (.m 30), none⟩), (4, ⟨(some 32), .load false none (.t 1), none⟩), (5, ⟨(some 33), .nilCheck (.m 32), none⟩), (6, ⟨(some 34), .fieldAddr 260 (.m 33), none⟩), (7, ⟨(some 35), .load false none (.m 34), none⟩), (8, ⟨(some 36), .idxS (.m 31) (.m 35), none⟩), (9, ⟨(some 4), .mv (.m 36), none⟩)] [])
 zj)
 (.seq (.ops [⟨(some 67), .load false none (.t 1), none⟩, ⟨(some 68), .nilCheck (.m 67), none⟩, ⟨(some 69), .fieldAddr 262 (.m 68), none⟩, ⟨(some 70), .load false none (.m 69), none⟩, ⟨(some 71), .isnil true 1 (.m 70), none⟩, ⟨(some 72), .mv (.m 71), none⟩, ⟨(some 73), .mv (.t 0), some (72, false)⟩, ⟨(some 74), .load false (some 5) (.t 3), some (72, false)⟩, ⟨(some 75), .callv (.t 73) [(.t 74)], some (72, false)⟩, ⟨(some 76), .un .not (.t 75), some (72, false)⟩, ⟨(some 77), .pick (.m 72) (.c (.bool true)) (.t 76), none⟩])
 (.cond (.t 77) .ret .skip)))))
 (.ops [⟨(some 17), .load false none (.t 1), none⟩, ⟨(some 18), .call 37 [(.m 17)], none⟩])))
def jbz : ICode := (.draw [(0, ⟨(some 78), .mv (.t 0), none⟩), (1, ⟨(some 79), .load false none (.t 1), none⟩), (2, ⟨(some 80), .nilCheck (.m 79), none⟩), (3, ⟨(some 81), .fieldAddr 260 (.m 80), none⟩), (4, ⟨(some 82), .load false none (.m 81), none⟩), (5, ⟨(some 83), .load false none (.t 1), none⟩), (6, ⟨(some 84), .nilCheck (.m 83), none⟩), (7, ⟨(some 85), .fieldAddr 261 (.m 84), none⟩), (8, ⟨(some 86), .load false none (.m 85), none⟩), (9, ⟨(some 87), .build [(.int .i64 0), (.int .i64 0), (.int .i64 0), (.str []), (.int .i64 0)] [(0, 1, (.c (.int .i64 0))), (1, 1, (.m 82)), (2, 1, (.m 86))], none⟩), (10, ⟨(some 88), .callv (.m 78) [(.m 87)], none⟩)] [])
def je9 : IFunc := ⟨89, 60, 11, 7, (.seq (.seq (.ops [⟨(some 5), .load false none (.t 1), none⟩, ⟨(some 6), .call 37 [(.m 5)], none⟩])
 (.block 0 (.loop zU)))
 jbz), []⟩
/- (*plover/lex.lexer).skip -/
def vA : ICode := (.seq (.seq (.draw [(0, ⟨(some 6), .mv (.t 0), none⟩), (1, ⟨(some 7), .nilCheck (.m 6), none⟩), (2, ⟨(some 8), .fieldAddr 260 (.m 7), none⟩), (3, ⟨(some 9), .load false none (.m 8), none⟩), (4, ⟨(some 10), .mv (.t 0), none⟩), (5, ⟨(some 11), .nilCheck (.m 10), none⟩), (6, ⟨(some 12), .fieldAddr 259 (.m 11), none⟩), (7, ⟨(some 13), .load false none (.m 12), none⟩), (8, ⟨(some 14), .lenS (.t 13), none⟩), (9, ⟨(some 15), .bin .lss (.m 9) (.m 14), none⟩)] [])
 (.cond (.t 15) .skip (.exit 0)))
 (.block 1 (.seq (.draw [(0, ⟨(some 16), .mv (.t 0), none⟩), (1, ⟨(some 17), .nilCheck (.m 16), none⟩), (2, ⟨(some 18), .fieldAddr 259 (.m 17), none⟩), (3, ⟨(some 19), .load false none (.m 18), none⟩), (4, ⟨(some 20), .mv (.t 0), none⟩), (5, ⟨(some 21), .nilCheck (.m 20), none⟩), (6, ⟨(some 22), .fieldAddr 260 (.m 21), none⟩), (7, ⟨(some 23), .load false none (.m 22), none⟩), (8, ⟨(some 24), .sliceS (.m 19) (some (.t 23)) none, none⟩), (9, ⟨(some 2), .mv (.m 24), none⟩)] [])
 (.block 2 (.seq (.draw [(0, ⟨(some 26), .mv (.t 0), none⟩), (1, ⟨(some 27), .nilCheck (.m 26), none⟩), (2, ⟨(some 28), .fieldAddr 0 (.m 27), none⟩), (3, ⟨(some 29), .mv (.t 2), none⟩), (4, ⟨(some 30), .idxS (.m 29) (.c (.int .i64 0)), none⟩), (5, ⟨(some 31), .call 38 [(.m 28), (.m 30), (.c (.int .u8 1))], none⟩), (6, ⟨(some 25), .mv (.m 31), none⟩)] [])
 (.cond (.t 25) (.ops [⟨(some 32), .mv (.t 0), none⟩, ⟨(some 33), .call 55 [(.m 32), (.c (.int .i64 1))], none⟩]) (.seq (.ops [⟨(some 35), .mv (.t 2), none⟩, ⟨(some 36), .call 34 [(.m 35), (.c (.str [47, 47]))], none⟩, ⟨(some 34), .mv (.m 36), none⟩])
 (.cond (.t 34) (.seq (.ops [⟨(some 38), .mv (.t 2), none⟩, ⟨(some 39), .call 56 [(.m 38), (.c (.str [10]))], none⟩, ⟨(some 37), .mv (.m 39), none⟩, ⟨(some 40), .extract (.m 37) 0, none⟩, ⟨(some 41), .extract (.m 37) 1, none⟩, ⟨(some 42), .extract (.m 37) 2, none⟩, ⟨(some 3), .mv (.m 40), none⟩, ⟨(some 4), .mv (.m 41), none⟩, ⟨(some 5), .mv (.m 42), none⟩])
 (.ops [⟨(some 43), .mv (.t 0), none⟩, ⟨(some 44), .mv (.t 3), none⟩, ⟨(some 45), .lenS (.t 44), none⟩, ⟨(some 46), .call 55 [(.m 43), (.m 45)], none⟩])) (.exit 0)))))))))
def jfa : IFunc := ⟨47, 35, 6, 6, (.scope (.seq (.label 0)
 (.block 0 (.loop vA)))), []⟩
/- (*plover/lex.table).is -/
def jfb : IFunc := ⟨21, 7, 9, 5, (.seq (.ops [⟨(some 3), .boxv (.t 0), none⟩, ⟨(some 6), .mv (.c (.bool false)), none⟩])
 (.seq (.ops [⟨(some 7), .load false none (.t 3), none⟩, ⟨(some 8), .nilCheck (.m 7), none⟩, ⟨(some 9), .fieldAddr 0 (.m 8), none⟩, ⟨(some 10), .mkFn (.func 58) [] [(.t 3)], none⟩, ⟨(some 11), .call 57 [(.m 9), (.m 10)], none⟩])
 (.seq (.ops [⟨(some 12), .load false none (.m 3), none⟩, ⟨(some 13), .mv (.m 1), none⟩, ⟨(some 14), .nilCheck (.m 12), none⟩, ⟨(some 15), .fieldAddr 3 (.m 14), none⟩, ⟨(some 16), .idxAddrA 256 1 (.t 15) (.m 13), none⟩, ⟨(some 17), .load false none (.m 16), none⟩, ⟨(some 18), .mv (.m 2), none⟩, ⟨(some 19), .bin .and (.m 17) (.m 18), none⟩, ⟨(some 20), .bin .neq (.m 19) (.c (.int .u8 0)), none⟩, ⟨(some 6), .mv (.m 20), none⟩])
 .ret))), [.t 6]⟩
/- (*plover/lex.lexer).name -/
def jdC : IFunc := ⟨24, 5, 9, 4, (.seq (.ops [⟨(some 5), .mv (.t 0), none⟩, ⟨(some 6), .call 60 [(.m 5), (.c (.int .u8 6))], none⟩, ⟨(some 4), .mv (.m 6), none⟩])
 (.seq (.seq (.ops [⟨(some 7), .mv (.t 4), none⟩, ⟨(some 8), .bin .gtr (.m 7) (.c (.int .i64 16)), none⟩])
 (.cond (.t 8) (.seq (.ops [⟨(some 9), .mv (.m 0), none⟩, ⟨(some 10), .mv (.m 0), none⟩, ⟨(some 11), .nilCheck (.m 10), none⟩, ⟨(some 12), .fieldAddr 260 (.m 11), none⟩, ⟨(some 13), .load false none (.m 12), none⟩, ⟨(some 14), .call 42 [(.m 9), (.c (.int .i64 4)), (.m 13)], none⟩])
 .ret) .skip))
 (.ops [⟨(some 15), .mv (.t 1), none⟩, ⟨(some 16), .mv (.t 1), none⟩, ⟨(some 17), .mv (.t 0), none⟩, ⟨(some 18), .mv (.t 4), none⟩, ⟨(some 19), .call 55 [(.m 17), (.m 18)], none⟩, ⟨(some 20), .nilCheck (.m 15), none⟩, ⟨(some 21), .fieldAddr 0 (.m 20), none⟩, ⟨none, .store 1 (.m 21) (.c (.int .i64 1)), none⟩, ⟨(some 22), .nilCheck (.m 16), none⟩, ⟨(some 23), .fieldAddr 3 (.m 22), none⟩, ⟨none, .store 1 (.m 23) (.m 19), none⟩]))), []⟩
/- (*plover/lex.lexer).number -/
def YR : ICode := (.ops [⟨(some 102), .mv (.t 1), none⟩, ⟨(some 103), .mv (.t 1), none⟩, ⟨(some 104), .mv (.t 1), none⟩, ⟨(some 105), .mv (.t 12), none⟩, ⟨(some 106), .conv (.int .i64) (.m 105), none⟩, ⟨(some 107), .mv (.t 0), none⟩, ⟨(some 108), .mv (.t 6), none⟩, ⟨(some 109), .mv (.t 9), none⟩, ⟨(some 110), .lenS (.t 109), none⟩, ⟨(some 111), .bin .add (.m 108) (.m 110), none⟩, ⟨(some 112), .call 55 [(.m 107), (.m 111)], none⟩, ⟨(some 113), .nilCheck (.m 102), none⟩, ⟨(some 114), .fieldAddr 0 (.m 113), none⟩, ⟨none, .store 1 (.m 114) (.c (.int .i64 2)), none⟩, ⟨(some 115), .nilCheck (.m 103), none⟩, ⟨(some 116), .fieldAddr 4 (.m 115), none⟩, ⟨none, .store 1 (.m 116) (.m 106), none⟩, ⟨(some 117), .nilCheck (.m 104), none⟩, ⟨(some 118), .fieldAddr 3 (.m 117), none⟩, ⟨none, .store 1 (.m 118) (.m 112), none⟩])
def zk : ICode := (.seq (.ops [⟨(some 49), .mv (.t 0), none⟩, ⟨(some 50), .nilCheck (.m 49), none⟩, ⟨(some 51), .fieldAddr 260 (.m 50), none⟩, ⟨(some 52), .load false none (.m 51), none⟩, ⟨(some 53), .mv (.t 6), none⟩, ⟨(some 54), .bin .add (.m 52) (.m 53), none⟩, ⟨(some 55), .mv (.t 9), none⟩, ⟨(some 56), .lenS (.t 55), none⟩, ⟨(some 57), .bin .add (.m 54) (.m 56), none⟩, ⟨(some 11), .mv (.m 57), none⟩])
 (.seq (.seq (.ops [⟨(some 58), .mv (.t 9), none⟩, ⟨(some 59), .bin .eql (.m 58) (.c (.str [])), none⟩])
 (.cond (.t 59) (.seq (.ops [⟨(some 60), .mv (.m 0), none⟩, ⟨(some 61), .mv (.m 11), none⟩, ⟨(some 62), .call 42 [(.m 60), (.c (.int .i64 7)), (.m 61)], none⟩])
 .ret) .skip))
 (.seq (.ops [⟨(some 64), .mv (.t 9), none⟩, ⟨(some 65), .load false none (.t 5), none⟩, ⟨(some 66), .call 64 [(.m 64), (.m 65), (.c (.int .i64 64))], none⟩, ⟨(some 63), .mv (.m 66), none⟩, ⟨(some 67), .extract (.m 63) 0, none⟩, ⟨(some 68), .extract (.m 63) 1, none⟩, ⟨(some 12), .mv (.m 67), none⟩, ⟨(some 13), .mv (.m 68), none⟩])
 (.seq (.block 0 (.seq (.ops [⟨(some 70), .mv (.t 13), none⟩, ⟨(some 71), .isnil true 1 (.m 70), none⟩, ⟨(some 72), .mv (.m 71), none⟩, ⟨(some 73), .mv (.t 12), some (72, false)⟩, ⟨(some 74), .bin .geq (.t 73) (.c (.int .u64 4294967296)), some (72, false)⟩, ⟨(some 75), .pick (.m 72) (.c (.bool true)) (.t 74), none⟩, ⟨(some 69), .mv (.m 75), none⟩])
 (.cond (.t 69) (.ops [⟨(some 76), .mv (.t 0), none⟩, ⟨(some 77), .mv (.t 4), none⟩, ⟨(some 78), .call 42 [(.m 76), (.c (.int .i64 10)), (.m 77)], none⟩]) (.seq (.draw [(0, ⟨(some 80), .mv (.t 11), none⟩), (1, ⟨(some 81), .mv (.t 0), none⟩), (2, ⟨(some 82), .nilCheck (.m 81), none⟩), (3, ⟨(some 83), .fieldAddr 259 (.m 82), none⟩), (4, ⟨(some 84), .load false none (.m 83), none⟩), (5, ⟨(some 85), .lenS (.t 84), none⟩), (6, ⟨(some 86), .bin .lss (.m 80) (.m 85), none⟩), (7, ⟨(some 87), .mv (.m 86), none⟩), (8, ⟨(some 88), .mv (.t 0), some (87, true)⟩), (9, ⟨(some 89), .nilCheck (.t 88), some (87, true)⟩), (10, ⟨(some 90), .fieldAddr 0 (.t 89), some (87, true)⟩), (11, ⟨(some 91), .mv (.t 0), some (87, true)⟩), (12, ⟨(some 92), .nilCheck (.t 91), some (87, true)⟩), (13, ⟨(some 93), .fieldAddr 259 (.t 92), some (87, true)⟩), (14, ⟨(some 94), .load false none (.t 93), some (87, true)⟩), (15, ⟨(some 95), .mv (.t 11), some (87, true)⟩), (16, ⟨(some 96), .idxS (.t 94) (.t 95), some (87, true)⟩), (17, ⟨(some 97), .call 38 [(.t 90), (.t 96), (.c (.int .u8 6))], some (87, true)⟩), (18, ⟨(some 98), .pick (.m 87) (.t 97) (.c (.bool false)), none⟩), (19, ⟨(some 79), .mv (.m 98), none⟩)] [])
 (.cond (.t 79) (.ops [⟨(some 99), .mv (.t 0), none⟩, ⟨(some 100), .mv (.t 11), none⟩, ⟨(some 101), .call 42 [(.m 99), (.c (.int .i64 7)), (.m 100)], none⟩]) .skip)))))
 YR))))
def Kn : ICode := (.seq (.draw [(0, ⟨(some 28), .mv (.t 0), none⟩), (1, ⟨(some 29), .nilCheck (.m 28), none⟩), (2, ⟨(some 30), .fieldAddr 259 (.m 29), none⟩), (3, ⟨(some 31), .load false none (.m 30), none⟩), (4, ⟨(some 32), .mv (.t 0), none⟩), (5, ⟨(some 33), .nilCheck (.m 32), none⟩), (6, ⟨(some 34), .fieldAddr 260 (.m 33), none⟩), (7, ⟨(some 35), .load false none (.m 34), none⟩), (8, ⟨(some 36), .mv (.t 6), none⟩), (9, ⟨(some 37), .bin .add (.m 35) (.m 36), none⟩), (10, ⟨(some 38), .sliceS (.m 31) (some (.t 37)) none, none⟩), (11, ⟨(some 7), .mv (.m 38), none⟩)] [])
 (.seq (.ops [⟨(some 39), .mkFn (.func 61) [] [(.t 5)], none⟩, ⟨(some 8), .mv (.m 39), none⟩])
 (.seq (.ops [⟨(some 40), .mv (.t 7), none⟩, ⟨(some 9), .mv (.m 40), none⟩])
 (.seq (.seq (.ops [⟨(some 41), .mv (.t 7), none⟩, ⟨(some 42), .mv (.t 8), none⟩, ⟨(some 43), .call 63 [(.m 41), (.m 42)], none⟩, ⟨(some 10), .mv (.m 43), none⟩])
 (.seq (.ops [⟨(some 44), .mv (.t 10), none⟩, ⟨(some 45), .bin .geq (.m 44) (.c (.int .i64 0)), none⟩])
 (.cond (.t 45) (.ops [⟨(some 46), .mv (.t 7), none⟩, ⟨(some 47), .mv (.t 10), none⟩, ⟨(some 48), .sliceS (.m 46) none (some (.t 47)), none⟩, ⟨(some 9), .mv (.m 48), none⟩]) .skip)))
 zk))))
def jd9 : IFunc := ⟨119, 80, 19, 7, (.seq (.ops [⟨(some 14), .mv (.t 0), none⟩, ⟨(some 15), .nilCheck (.m 14), none⟩, ⟨(some 16), .fieldAddr 260 (.m 15), none⟩, ⟨(some 17), .load false none (.m 16), none⟩, ⟨(some 4), .mv (.m 17), none⟩])
 (.seq (.ops [⟨(some 5), .alloc [(.int .i64 0)], none⟩, ⟨none, .store 1 (.m 5) (.c (.int .i64 10)), none⟩, ⟨(some 6), .mv (.c (.int .i64 0)), none⟩])
 (.seq (.seq (.draw [(0, ⟨(some 18), .mv (.t 0), none⟩), (1, ⟨(some 19), .nilCheck (.m 18), none⟩), (2, ⟨(some 20), .fieldAddr 259 (.m 19), none⟩), (3, ⟨(some 21), .load false none (.m 20), none⟩), (4, ⟨(some 22), .mv (.t 0), none⟩), (5, ⟨(some 23), .nilCheck (.m 22), none⟩), (6, ⟨(some 24), .fieldAddr 260 (.m 23), none⟩), (7, ⟨(some 25), .load false none (.m 24), none⟩), (8, ⟨(some 26), .sliceS (.m 21) (some (.t 25)) none, none⟩), (9, ⟨(some 27), .call 34 [(.m 26), (.c (.str [48, 120]))], none⟩)] [])
 (.cond (.t 27) (.ops [⟨none, .store 1 (.t 5) (.c (.int .i64 16)), none⟩, ⟨(some 6), .mv (.c (.int .i64 2)), none⟩]) .skip))
 Kn))), []⟩
/- (*plover/lex.lexer).mark -/
def ym : ICode := (.seq (.ops [⟨(some 20), .bin .lss (.t 19) (.t 18), none⟩])
 (.seq (.cond (.t 20) .skip (.exit 0))
 (.seq (.block 1 (.seq (.ops [⟨(some 21), .idxAddr 1 (.t 17) (.t 19), none⟩, ⟨(some 22), .load false none (.m 21), none⟩, ⟨(some 7), .mv (.m 22), none⟩])
 (.seq (.ops [⟨(some 23), .mv (.t 5), none⟩, ⟨(some 24), .mv (.t 7), none⟩, ⟨(some 25), .call 34 [(.m 23), (.m 24)], none⟩])
 (.cond (.t 25) (.seq (.ops [⟨(some 26), .mv (.t 7), none⟩, ⟨(some 27), .lenS (.t 26), none⟩, ⟨(some 4), .mv (.m 27), none⟩])
 (.exit 0)) .skip))))
 (.ops [⟨(some 28), .bin .add (.m 19) (.c (.int .i64 1)), none⟩, ⟨(some 19), .mv (.m 28), none⟩]))))
def jfc : IFunc := ⟨38, 20, 9, 5, (.scope (.seq (.ops [⟨(some 4), .mv (.c (.int .i64 1)), none⟩])
 (.seq (.draw [(0, ⟨(some 8), .mv (.t 0), none⟩), (1, ⟨(some 9), .nilCheck (.m 8), none⟩), (2, ⟨(some 10), .fieldAddr 259 (.m 9), none⟩), (3, ⟨(some 11), .load false none (.m 10), none⟩), (4, ⟨(some 12), .mv (.t 0), none⟩), (5, ⟨(some 13), .nilCheck (.m 12), none⟩), (6, ⟨(some 14), .fieldAddr 260 (.m 13), none⟩), (7, ⟨(some 15), .load false none (.m 14), none⟩), (8, ⟨(some 16), .sliceS (.m 11) (some (.t 15)) none, none⟩), (9, ⟨(some 5), .mv (.m 16), none⟩)] [])
 (.seq (.label 0)
 (.seq (.seq (.ops [⟨(some 17), .call 65 [(.c (.str [60, 60, 32, 62, 62, 32, 60, 61, 32, 62, 61, 32, 61, 61, 32, 33, 61]))], none⟩, ⟨(some 18), .lenL (.t 17), none⟩, ⟨(some 19), .mv (.c (.int .i64 0)), none⟩])
 (.block 0 (.loop ym)))
 (.ops [⟨(some 29), .mv (.t 1), none⟩, ⟨(some 30), .mv (.t 1), none⟩, ⟨(some 31), .mv (.t 0), none⟩, ⟨(some 32), .mv (.t 4), none⟩, ⟨(some 33), .call 55 [(.m 31), (.m 32)], none⟩, ⟨(some 34), .nilCheck (.m 29), none⟩, ⟨(some 35), .fieldAddr 0 (.m 34), none⟩, ⟨none, .store 1 (.m 35) (.c (.int .i64 3)), none⟩, ⟨(some 36), .nilCheck (.m 30), none⟩, ⟨(some 37), .fieldAddr 3 (.m 36), none⟩, ⟨none, .store 1 (.m 37) (.m 33), none⟩])))))), []⟩
/- (*plover/lex.lexer).fail -/
def jea : IFunc := ⟨14, 3, 8, 4, (.ops [⟨(some 6), .mv (.t 0), none⟩, ⟨(some 7), .mv (.t 1), none⟩, ⟨(some 8), .mv (.t 2), none⟩, ⟨(some 9), .build [(.int .i64 0), (.int .i64 0)] [(0, 1, (.m 7)), (1, 1, (.m 8))], none⟩, ⟨(some 10), .boxv (.m 9), none⟩, ⟨(some 11), .mkIface 56 (.m 10), none⟩, ⟨(some 12), .nilCheck (.m 6), none⟩, ⟨(some 13), .fieldAddr 262 (.m 12), none⟩, ⟨none, .store 1 (.m 13) (.m 11), none⟩]), []⟩
/- errors.as -/
def jcv : ICode := (.seq (.ops [⟨(some 51), .bin .lss (.t 50) (.t 49), none⟩])
 (.seq (.cond (.t 51) .skip (.exit 3))
 (.seq (.block 4 (.seq (.ops [⟨(some 52), .idxAddr 1 (.t 48) (.t 50), none⟩, ⟨(some 53), .load false none (.m 52), none⟩, ⟨(some 14), .mv (.m 53), none⟩])
 (.seq (.seq (.ops [⟨(some 54), .mv (.t 14), none⟩, ⟨(some 55), .isnil false 1 (.m 54), none⟩])
 (.cond (.t 55) (.exit 4) .skip))
 (.seq (.ops [⟨(some 56), .mv (.t 14), none⟩, ⟨(some 57), .mv (.t 1), none⟩, ⟨(some 58), .load false (some 3) (.t 6), none⟩, ⟨(some 59), .mv (.t 3), none⟩, ⟨(some 60), .call 47 [(.m 56), (.m 57), (.m 58), (.m 59)], none⟩])
 (.cond (.t 60) (.seq (.ops [⟨(some 8), .mv (.c (.bool true)), none⟩])
 .ret) .skip)))))
 (.ops [⟨(some 61), .bin .add (.m 50) (.c (.int .i64 1)), none⟩, ⟨(some 50), .mv (.m 61), none⟩]))))
def YS : ICode := (.block 1 (.seq (.seq (.ops [⟨(some 16), .mv (.t 0), none⟩, ⟨(some 17), .pur (.ext (.typeOf 125 10)) [(.m 16)], none⟩, ⟨(some 18), .mv (.t 3), none⟩, ⟨(some 19), .pur (.invX [(125, (.rAsg 10 [((35, 35), true), ((35, 56), false), ((35, 26), true), ((35, 80), false), ((35, 125), false), ((35, 156), false), ((56, 35), false), ((56, 56), true), ((56, 26), true), ((56, 80), false), ((56, 125), false), ((56, 156), false), ((26, 35), false), ((26, 56), false), ((26, 80), false), ((26, 125), false), ((26, 156), false), ((80, 35), false), ((80, 56), false), ((80, 26), false), ((80, 80), true), ((80, 125), false), ((80, 156), false), ((125, 35), false), ((125, 56), false), ((125, 26), false), ((125, 80), false), ((125, 125), true), ((125, 156), false), ((156, 35), false), ((156, 56), false), ((156, 26), true), ((156, 80), false), ((156, 125), false), ((156, 156), true)]), .same)]) [(.m 17), (.m 18)], none⟩])
 (.cond (.t 19) (.seq (.ops [⟨(some 20), .load false (some 3) (.t 6), none⟩, ⟨(some 21), .pur (.ext (.vElem 10 [(56, (37, 25)), (80, (56, 22))])) [(.m 20)], none⟩, ⟨(some 22), .mv (.t 0), none⟩, ⟨(some 23), .vOf 10 [(35, 2), (56, 22), (26, 20), (80, 22), (125, 25), (156, 2)] (.m 22), none⟩, ⟨(some 24), .vSet 10 [35, 56, 26, 80, 156] (.m 21) (.m 23), none⟩])
 (.seq (.ops [⟨(some 8), .mv (.c (.bool true)), none⟩])
 .ret)) .skip))
 (.seq (.seq (.ops [⟨(some 26), .mv (.t 0), none⟩, ⟨(some 27), .pur (.tyI [] [35, 56, 26, 80, 125, 156] true) [(.m 26)], none⟩, ⟨(some 25), .mv (.m 27), none⟩, ⟨(some 28), .extract (.m 25) 0, none⟩, ⟨(some 29), .extract (.m 25) 1, none⟩, ⟨(some 9), .mv (.m 28), none⟩, ⟨(some 10), .mv (.m 29), none⟩])
 (.seq (.ops [⟨(some 30), .mv (.t 10), none⟩, ⟨(some 31), .mv (.m 30), none⟩, ⟨(some 32), .mv (.t 9), some (31, true)⟩, ⟨(some 33), .mv (.t 1), some (31, true)⟩, ⟨(some 34), .pur (.invX []) [(.t 32), (.t 33)], some (31, true)⟩, ⟨(some 35), .pick (.m 31) (.t 34) (.c (.bool false)), none⟩])
 (.cond (.t 35) (.seq (.ops [⟨(some 8), .mv (.c (.bool true)), none⟩])
 .ret) .skip)))
 (.seq (.ops [⟨(some 36), .mv (.t 0), none⟩])
 (.block 2 (.seq (.ops [⟨(some 37), .pur (.tyI [56] [35, 26, 80, 125, 156] true) [(.t 36)], none⟩, ⟨(some 38), .extract (.m 37) 1, none⟩, ⟨(some 39), .extract (.m 37) 0, none⟩])
 (.cond (.t 38) (.seq (.ops [⟨(some 11), .mv (.t 39), none⟩])
 (.seq (.ops [⟨(some 40), .mv (.t 11), none⟩, ⟨(some 41), .inv [(56, 153, .same)] (.m 40) [], none⟩, ⟨(some 0), .mv (.m 41), none⟩])
 (.seq (.ops [⟨(some 42), .mv (.t 0), none⟩, ⟨(some 43), .isnil false 1 (.m 42), none⟩])
 (.cond (.t 43) (.seq (.ops [⟨(some 8), .mv (.c (.bool false)), none⟩])
 .ret) .skip)))) (.seq (.ops [⟨(some 44), .pur (.tyI [] [35, 56, 26, 80, 125, 156] true) [(.t 36)], none⟩, ⟨(some 45), .extract (.m 44) 1, none⟩, ⟨(some 46), .extract (.m 44) 0, none⟩])
 (.cond (.t 45) (.seq (.ops [⟨(some 12), .mv (.t 46), none⟩])
 (.seq (.seq (.ops [⟨(some 47), .mv (.t 12), none⟩, ⟨(some 48), .inv [(56, 153, .same)] (.m 47) [], none⟩, ⟨(some 49), .lenL (.t 48), none⟩, ⟨(some 50), .mv (.c (.int .i64 0)), none⟩])
 (.block 3 (.loop jcv)))
 (.seq (.ops [⟨(some 8), .mv (.c (.bool false)), none⟩])
 .ret))) (.seq (.ops [⟨(some 15), .mv (.t 36), none⟩])
 (.seq (.ops [⟨(some 8), .mv (.c (.bool false)), none⟩])
 .ret)))))))))))
def jcu : IFunc := ⟨62, 51, 5, 6, (.seq (.ops [⟨(some 6), .boxv (.t 2), none⟩, ⟨(some 8), .mv (.c (.bool false)), none⟩])
 (.block 0 (.loop YS))), [.t 8]⟩
/- errors.is -/
def jcx : ICode := (.seq (.ops [⟨(some 46), .bin .lss (.t 45) (.t 44), none⟩])
 (.seq (.cond (.t 46) .skip (.exit 3))
 (.seq (.block 4 (.seq (.ops [⟨(some 47), .idxAddr 1 (.t 43) (.t 45), none⟩, ⟨(some 48), .load false none (.m 47), none⟩, ⟨(some 12), .mv (.m 48), none⟩])
 (.seq (.ops [⟨(some 49), .mv (.t 12), none⟩, ⟨(some 50), .mv (.t 1), none⟩, ⟨(some 51), .mv (.t 2), none⟩, ⟨(some 52), .call 49 [(.m 49), (.m 50), (.m 51)], none⟩])
 (.cond (.t 52) (.seq (.ops [⟨(some 6), .mv (.c (.bool true)), none⟩])
 .ret) .skip))))
 (.ops [⟨(some 53), .bin .add (.m 45) (.c (.int .i64 1)), none⟩, ⟨(some 45), .mv (.m 53), none⟩]))))
def YT : ICode := (.block 1 (.seq (.seq (.ops [⟨(some 14), .mv (.t 2), none⟩, ⟨(some 15), .mv (.m 14), none⟩, ⟨(some 16), .mv (.t 0), some (15, true)⟩, ⟨(some 17), .mv (.t 1), some (15, true)⟩, ⟨(some 18), .pur (.eqi false [(35, 0), (156, 0)]) [(.t 16), (.t 17)], some (15, true)⟩, ⟨(some 19), .pick (.m 15) (.t 18) (.c (.bool false)), none⟩])
 (.cond (.t 19) (.seq (.ops [⟨(some 6), .mv (.c (.bool true)), none⟩])
 .ret) .skip))
 (.seq (.seq (.ops [⟨(some 21), .mv (.t 0), none⟩, ⟨(some 22), .pur (.tyI [] [35, 56, 26, 80, 125, 156] true) [(.m 21)], none⟩, ⟨(some 20), .mv (.m 22), none⟩, ⟨(some 23), .extract (.m 20) 0, none⟩, ⟨(some 24), .extract (.m 20) 1, none⟩, ⟨(some 7), .mv (.m 23), none⟩, ⟨(some 8), .mv (.m 24), none⟩])
 (.seq (.ops [⟨(some 25), .mv (.t 8), none⟩, ⟨(some 26), .mv (.m 25), none⟩, ⟨(some 27), .mv (.t 7), some (26, true)⟩, ⟨(some 28), .mv (.t 1), some (26, true)⟩, ⟨(some 29), .pur (.invX []) [(.t 27), (.t 28)], some (26, true)⟩, ⟨(some 30), .pick (.m 26) (.t 29) (.c (.bool false)), none⟩])
 (.cond (.t 30) (.seq (.ops [⟨(some 6), .mv (.c (.bool true)), none⟩])
 .ret) .skip)))
 (.seq (.ops [⟨(some 31), .mv (.t 0), none⟩])
 (.block 2 (.seq (.ops [⟨(some 32), .pur (.tyI [56] [35, 26, 80, 125, 156] true) [(.t 31)], none⟩, ⟨(some 33), .extract (.m 32) 1, none⟩, ⟨(some 34), .extract (.m 32) 0, none⟩])
 (.cond (.t 33) (.seq (.ops [⟨(some 9), .mv (.t 34), none⟩])
 (.seq (.ops [⟨(some 35), .mv (.t 9), none⟩, ⟨(some 36), .inv [(56, 153, .same)] (.m 35) [], none⟩, ⟨(some 0), .mv (.m 36), none⟩])
 (.seq (.ops [⟨(some 37), .mv (.t 0), none⟩, ⟨(some 38), .isnil false 1 (.m 37), none⟩])
 (.cond (.t 38) (.seq (.ops [⟨(some 6), .mv (.c (.bool false)), none⟩])
 .ret) .skip)))) (.seq (.ops [⟨(some 39), .pur (.tyI [] [35, 56, 26, 80, 125, 156] true) [(.t 31)], none⟩, ⟨(some 40), .extract (.m 39) 1, none⟩, ⟨(some 41), .extract (.m 39) 0, none⟩])
 (.cond (.t 40) (.seq (.ops [⟨(some 10), .mv (.t 41), none⟩])
 (.seq (.seq (.ops [⟨(some 42), .mv (.t 10), none⟩, ⟨(some 43), .inv [(56, 153, .same)] (.m 42) [], none⟩, ⟨(some 44), .lenL (.t 43), none⟩, ⟨(some 45), .mv (.c (.int .i64 0)), none⟩])
 (.block 3 (.loop jcx)))
 (.seq (.ops [⟨(some 6), .mv (.c (.bool false)), none⟩])
 .ret))) (.seq (.ops [⟨(some 13), .mv (.t 31), none⟩])
 (.seq (.ops [⟨(some 6), .mv (.c (.bool false)), none⟩])
 .ret)))))))))))
def jcw : IFunc := ⟨54, 46, 4, 6, (.seq (.ops [⟨(some 6), .mv (.c (.bool false)), none⟩])
 (.block 0 (.loop YT))), [.t 6]⟩
/- internal/stringslite.Index -/
def jcy : ICode := (.seq (.seq (.ops [⟨(some 57), .mv (.t 8), none⟩, ⟨(some 58), .mv (.t 9), none⟩, ⟨(some 59), .bin .lss (.m 57) (.m 58), none⟩])
 (.cond (.t 59) .skip (.exit 1)))
 (.block 2 (.seq (.seq (.ops [⟨(some 60), .mv (.t 0), none⟩, ⟨(some 61), .mv (.t 8), none⟩, ⟨(some 62), .idxS (.m 60) (.m 61), none⟩, ⟨(some 63), .mv (.t 6), none⟩, ⟨(some 64), .bin .neq (.m 62) (.m 63), none⟩])
 (.cond (.t 64) (.seq (.ops [⟨(some 65), .mv (.t 0), none⟩, ⟨(some 66), .mv (.t 8), none⟩, ⟨(some 67), .bin .add (.m 66) (.c (.int .i64 1)), none⟩, ⟨(some 68), .mv (.t 9), none⟩, ⟨(some 69), .sliceS (.m 65) (some (.t 67)) (some (.t 68)), none⟩, ⟨(some 70), .mv (.t 6), none⟩, ⟨(some 71), .call 26 [(.m 69), (.m 70)], none⟩, ⟨(some 11), .mv (.m 71), none⟩])
 (.seq (.seq (.ops [⟨(some 72), .mv (.t 11), none⟩, ⟨(some 73), .bin .lss (.m 72) (.c (.int .i64 0)), none⟩])
 (.cond (.t 73) (.seq (.ops [⟨(some 4), .mv (.c (.int .i64 (-1))), none⟩])
 .ret) .skip))
 (.ops [⟨(some 74), .mv (.m 8), none⟩, ⟨(some 75), .mv (.t 11), none⟩, ⟨(some 76), .bin .add (.m 75) (.c (.int .i64 1)), none⟩, ⟨(some 77), .bin .add (.m 74) (.m 76), none⟩, ⟨(some 8), .mv (.m 77), none⟩]))) .skip))
 (.seq (.seq (.ops [⟨(some 78), .mv (.t 0), none⟩, ⟨(some 79), .mv (.t 8), none⟩, ⟨(some 80), .bin .add (.m 79) (.c (.int .i64 1)), none⟩, ⟨(some 81), .idxS (.m 78) (.m 80), none⟩, ⟨(some 82), .mv (.t 7), none⟩, ⟨(some 83), .bin .eql (.m 81) (.m 82), none⟩, ⟨(some 84), .mv (.m 83), none⟩, ⟨(some 85), .mv (.t 0), some (84, true)⟩, ⟨(some 86), .mv (.t 8), some (84, true)⟩, ⟨(some 87), .mv (.t 8), some (84, true)⟩, ⟨(some 88), .mv (.t 5), some (84, true)⟩, ⟨(some 89), .bin .add (.t 87) (.t 88), some (84, true)⟩, ⟨(some 90), .sliceS (.t 85) (some (.t 86)) (some (.t 89)), some (84, true)⟩, ⟨(some 91), .mv (.t 1), some (84, true)⟩, ⟨(some 92), .bin .eql (.t 90) (.t 91), some (84, true)⟩, ⟨(some 93), .pick (.m 84) (.t 92) (.c (.bool false)), none⟩])
 (.cond (.t 93) (.seq (.ops [⟨(some 94), .mv (.m 8), none⟩, ⟨(some 4), .mv (.m 94), none⟩])
 .ret) .skip))
 (.seq (.ops [⟨(some 95), .mv (.m 8), none⟩, ⟨(some 96), .bin .add (.m 95) (.c (.int .i64 1)), none⟩, ⟨(some 8), .mv (.m 96), none⟩])
 (.seq (.ops [⟨(some 97), .mv (.m 10), none⟩, ⟨(some 98), .bin .add (.m 97) (.c (.int .i64 1)), none⟩, ⟨(some 10), .mv (.m 98), none⟩])
 (.seq .stuck
 (.cond (.t 107) (.seq (.ops [⟨(some 108), .mv (.t 0), none⟩, ⟨(some 109), .mv (.t 8), none⟩, ⟨(some 110), .sliceS (.m 108) (some (.t 109)) none, none⟩, ⟨(some 111), .mv (.t 1), none⟩, ⟨(some 112), .call 68 [(.m 110), (.m 111)], none⟩, ⟨(some 12), .mv (.m 112), none⟩])
 (.seq (.seq (.ops [⟨(some 113), .mv (.t 12), none⟩, ⟨(some 114), .bin .geq (.m 113) (.c (.int .i64 0)), none⟩])
 (.cond (.t 114) (.seq (.ops [⟨(some 115), .mv (.m 12), none⟩, ⟨(some 116), .mv (.m 8), none⟩, ⟨(some 117), .bin .add (.m 115) (.m 116), none⟩, ⟨(some 4), .mv (.m 117), none⟩])
 .ret) .skip))
 (.seq (.ops [⟨(some 4), .mv (.c (.int .i64 (-1))), none⟩])
 .ret))) (.seq .stuck
 (.cond (.t 132) (.seq (.ops [⟨(some 133), .mv (.t 0), none⟩, ⟨(some 134), .mv (.t 8), none⟩, ⟨(some 135), .sliceS (.m 133) (some (.t 134)) none, none⟩, ⟨(some 136), .mv (.t 1), none⟩, ⟨(some 137), .call 70 [(.m 135), (.m 136)], none⟩, ⟨(some 13), .mv (.m 137), none⟩])
 (.seq (.seq (.ops [⟨(some 138), .mv (.t 13), none⟩, ⟨(some 139), .bin .lss (.m 138) (.c (.int .i64 0)), none⟩])
 (.cond (.t 139) (.seq (.ops [⟨(some 4), .mv (.c (.int .i64 (-1))), none⟩])
 .ret) .skip))
 (.seq (.ops [⟨(some 140), .mv (.m 8), none⟩, ⟨(some 141), .mv (.m 13), none⟩, ⟨(some 142), .bin .add (.m 140) (.m 141), none⟩, ⟨(some 4), .mv (.m 142), none⟩])
 .ret))) .skip))))))))))
def jbA : IFunc := ⟨143, 37, 16, 6, (.seq (.ops [⟨(some 4), .mv (.c (.int .i64 0)), none⟩])
 (.seq (.ops [⟨(some 14), .mv (.t 1), none⟩, ⟨(some 15), .lenS (.t 14), none⟩, ⟨(some 5), .mv (.m 15), none⟩])
 (.seq (.block 0 (.seq (.ops [⟨(some 17), .mv (.t 5), none⟩, ⟨(some 18), .bin .eql (.m 17) (.c (.int .i64 0)), none⟩, ⟨(some 19), .mv (.m 18), none⟩, ⟨(some 20), .mv (.t 1), some (19, false)⟩, ⟨(some 21), .mv (.t 0), some (19, false)⟩, ⟨(some 22), .bin .eql (.t 20) (.t 21), some (19, false)⟩, ⟨(some 23), .pick (.m 19) (.c (.bool true)) (.t 22), none⟩, ⟨(some 16), .mv (.m 23), none⟩])
 (.cond (.t 16) (.seq (.ops [⟨(some 4), .mv (.c (.int .i64 0)), none⟩])
 .ret) (.seq (.ops [⟨(some 25), .mv (.t 5), none⟩, ⟨(some 26), .bin .eql (.m 25) (.c (.int .i64 1)), none⟩, ⟨(some 24), .mv (.m 26), none⟩])
 (.cond (.t 24) (.seq (.ops [⟨(some 27), .mv (.m 0), none⟩, ⟨(some 28), .mv (.m 1), none⟩, ⟨(some 29), .idxS (.m 28) (.c (.int .i64 0)), none⟩, ⟨(some 30), .call 26 [(.m 27), (.m 29)], none⟩, ⟨(some 4), .mv (.m 30), none⟩])
 .ret) (.seq (.ops [⟨(some 32), .mv (.t 5), none⟩, ⟨(some 33), .mv (.t 0), none⟩, ⟨(some 34), .lenS (.t 33), none⟩, ⟨(some 35), .bin .geq (.m 32) (.m 34), none⟩, ⟨(some 31), .mv (.m 35), none⟩])
 (.cond (.t 31) (.seq (.ops [⟨(some 4), .mv (.c (.int .i64 (-1))), none⟩])
 .ret) (.seq .stuck
 (.cond (.t 36) (.seq (.ops [⟨(some 45), .mv (.m 0), none⟩, ⟨(some 46), .mv (.m 1), none⟩, ⟨(some 47), .call 68 [(.m 45), (.m 46)], none⟩, ⟨(some 4), .mv (.m 47), none⟩])
 .ret) .skip)))))))))
 (.seq (.ops [⟨(some 48), .mv (.t 1), none⟩, ⟨(some 49), .idxS (.m 48) (.c (.int .i64 0)), none⟩, ⟨(some 6), .mv (.m 49), none⟩])
 (.seq (.ops [⟨(some 50), .mv (.t 1), none⟩, ⟨(some 51), .idxS (.m 50) (.c (.int .i64 1)), none⟩, ⟨(some 7), .mv (.m 51), none⟩])
 (.seq (.ops [⟨(some 8), .mv (.c (.int .i64 0)), none⟩])
 (.seq (.ops [⟨(some 52), .mv (.t 0), none⟩, ⟨(some 53), .lenS (.t 52), none⟩, ⟨(some 54), .mv (.t 5), none⟩, ⟨(some 55), .bin .sub (.m 53) (.m 54), none⟩, ⟨(some 56), .bin .add (.m 55) (.c (.int .i64 1)), none⟩, ⟨(some 9), .mv (.m 56), none⟩])
 (.seq (.ops [⟨(some 10), .mv (.c (.int .i64 0)), none⟩])
 (.seq (.block 1 (.loop jcy))
 (.seq (.ops [⟨(some 4), .mv (.c (.int .i64 (-1))), none⟩])
 .ret)))))))))), [.t 4]⟩
/- plover/ploverref02.between -/
/- plover/ploverref02.one -/
/- internal/stringslite.HasPrefix -/
def jbB : IFunc := ⟨18, 5, 13, 5, (.seq (.ops [⟨(some 4), .mv (.c (.bool false)), none⟩])
 (.seq (.ops [⟨(some 5), .mv (.m 0), none⟩, ⟨(some 6), .lenS (.t 5), none⟩, ⟨(some 7), .mv (.m 1), none⟩, ⟨(some 8), .lenS (.t 7), none⟩, ⟨(some 9), .bin .geq (.m 6) (.m 8), none⟩, ⟨(some 10), .mv (.m 9), none⟩, ⟨(some 11), .mv (.t 0), some (10, true)⟩, ⟨(some 12), .mv (.t 1), some (10, true)⟩, ⟨(some 13), .lenS (.t 12), some (10, true)⟩, ⟨(some 14), .sliceS (.t 11) none (some (.t 13)), some (10, true)⟩, ⟨(some 15), .mv (.t 1), some (10, true)⟩, ⟨(some 16), .bin .eql (.t 14) (.t 15), some (10, true)⟩, ⟨(some 17), .pick (.m 10) (.t 16) (.c (.bool false)), none⟩, ⟨(some 4), .mv (.m 17), none⟩])
 .ret)), [.t 4]⟩
/- (*plover/lex.lexer).take -/
def jeb : IFunc := ⟨39, 6, 15, 5, (.seq (.ops [⟨(some 4), .mv (.c (.str [])), none⟩])
 (.seq (.draw [(0, ⟨(some 6), .mv (.t 0), none⟩), (1, ⟨(some 7), .nilCheck (.m 6), none⟩), (2, ⟨(some 8), .fieldAddr 259 (.m 7), none⟩), (3, ⟨(some 9), .load false none (.m 8), none⟩), (4, ⟨(some 10), .mv (.t 0), none⟩), (5, ⟨(some 11), .nilCheck (.m 10), none⟩), (6, ⟨(some 12), .fieldAddr 260 (.m 11), none⟩), (7, ⟨(some 13), .load false none (.m 12), none⟩), (8, ⟨(some 14), .mv (.t 0), none⟩), (9, ⟨(some 15), .nilCheck (.m 14), none⟩), (10, ⟨(some 16), .fieldAddr 260 (.m 15), none⟩), (11, ⟨(some 17), .load false none (.m 16), none⟩), (12, ⟨(some 18), .mv (.t 1), none⟩), (13, ⟨(some 19), .bin .add (.m 17) (.m 18), none⟩), (14, ⟨(some 20), .sliceS (.m 9) (some (.t 13)) (some (.t 19)), none⟩), (15, ⟨(some 5), .mv (.m 20), none⟩)] [])
 (.seq (.ops [⟨(some 21), .mv (.t 0), none⟩, ⟨(some 22), .nilCheck (.m 21), none⟩, ⟨(some 23), .fieldAddr 260 (.m 22), none⟩, ⟨(some 24), .load false none (.m 23), none⟩, ⟨(some 25), .mv (.t 1), none⟩, ⟨(some 26), .bin .add (.m 24) (.m 25), none⟩, ⟨(some 27), .nilCheck (.m 21), none⟩, ⟨(some 28), .fieldAddr 260 (.m 27), none⟩, ⟨none, .store 1 (.m 28) (.m 26), none⟩])
 (.seq (.draw [(0, ⟨(some 29), .mv (.t 0), none⟩), (1, ⟨(some 30), .nilCheck (.m 29), none⟩), (2, ⟨(some 31), .fieldAddr 261 (.m 30), none⟩), (3, ⟨(some 32), .load false none (.m 31), none⟩), (4, ⟨(some 33), .mv (.t 5), none⟩), (5, ⟨(some 34), .call 15 [(.m 33), (.c (.str [10]))], none⟩), (6, ⟨(some 35), .bin .add (.m 32) (.m 34), none⟩), (7, ⟨(some 36), .nilCheck (.m 29), none⟩), (8, ⟨(some 37), .fieldAddr 261 (.m 36), none⟩), (9, ⟨none, .store 1 (.m 37) (.m 35), none⟩)] [(3, 5)])
 (.seq (.ops [⟨(some 38), .mv (.m 5), none⟩, ⟨(some 4), .mv (.m 38), none⟩])
 .ret))))), [.t 4]⟩
/- strings.Cut -/
def jec : IFunc := ⟨13, 7, 6, 4, (.seq (.ops [⟨(some 4), .mv (.c (.str [])), none⟩, ⟨(some 5), .mv (.c (.str [])), none⟩, ⟨(some 6), .mv (.c (.bool false)), none⟩])
 (.seq (.ops [⟨(some 7), .mv (.m 0), none⟩, ⟨(some 8), .mv (.m 1), none⟩, ⟨(some 9), .call 73 [(.m 7), (.m 8)], none⟩, ⟨(some 10), .extract (.m 9) 0, none⟩, ⟨(some 11), .extract (.m 9) 1, none⟩, ⟨(some 12), .extract (.m 9) 2, none⟩, ⟨(some 4), .mv (.m 10), none⟩, ⟨(some 5), .mv (.m 11), none⟩, ⟨(some 6), .mv (.m 12), none⟩])
 .ret)), [.t 4, .t 5, .t 6]⟩
/- (*sync.Once).Do -/
def jed : IFunc := ⟨12, 2, 5, 3, (.seq (.ops [⟨(some 4), .mv (.t 0), none⟩, ⟨(some 5), .nilCheck (.m 4), none⟩, ⟨(some 6), .fieldAddr 0 (.m 5), none⟩, ⟨(some 7), .call 74 [(.m 6)], none⟩, ⟨(some 8), .un .not (.m 7), none⟩])
 (.cond (.t 8) (.ops [⟨(some 9), .mv (.t 0), none⟩, ⟨(some 10), .mv (.t 1), none⟩, ⟨(some 11), .call 75 [(.m 9), (.m 10)], none⟩]) .skip)), []⟩
/- (*plover/lex.table).is$1 -/
def jfd : IFunc := ⟨11, 2, 2, 3, (.seq (.ops [⟨(some 2), .mkFn (.func 59) [] [(.t 0)], none⟩, ⟨(some 1), .mv (.m 2), none⟩])
 (.seq (.ops [⟨(some 3), .mv (.t 1), none⟩, ⟨(some 4), .callv (.m 3) [(.c (.str [32, 9, 10])), (.c (.int .u8 1))], none⟩])
 (.seq (.ops [⟨(some 5), .mv (.t 1), none⟩, ⟨(some 6), .callv (.m 5) [(.c (.str [97, 98, 99, 100, 101, 102, 103, 104, 105, 106, 107, 108, 109, 110, 111, 112, 113, 114, 115, 116, 117, 118, 119, 120, 121, 122, 65, 66, 67, 68, 69, 70, 71, 72, 73, 74, 75, 76, 77, 78, 79, 80, 81, 82, 83, 84, 85, 86, 87, 88, 89, 90, 95])), (.c (.int .u8 2))], none⟩])
 (.seq (.ops [⟨(some 7), .mv (.t 1), none⟩, ⟨(some 8), .callv (.m 7) [(.c (.str [48, 49, 50, 51, 52, 53, 54, 55, 56, 57])), (.c (.int .u8 4))], none⟩])
 (.ops [⟨(some 9), .mv (.t 1), none⟩, ⟨(some 10), .callv (.m 9) [(.c (.str [123, 125, 40, 41, 91, 93, 59, 58, 44, 46, 61, 60, 62, 43, 45, 42, 47, 37, 38, 94, 124, 126, 33])), (.c (.int .u8 8))], none⟩]))))), []⟩
/- (*plover/lex.table).is$1$1 -/
def y4 : ICode := (.seq (.ops [⟨(some 11), .bin .lss (.t 10) (.t 9), none⟩])
 (.seq (.cond (.t 11) .skip (.exit 0))
 (.seq (.block 1 (.seq (.ops [⟨(some 12), .idxAddr 1 (.t 8) (.t 10), none⟩, ⟨(some 13), .load false none (.m 12), none⟩, ⟨(some 6), .mv (.m 13), none⟩])
 (.draw [(0, ⟨(some 14), .load false none (.t 2), none⟩), (1, ⟨(some 15), .mv (.t 6), none⟩), (2, ⟨(some 16), .nilCheck (.t 14), none⟩), (3, ⟨(some 17), .fieldAddr 3 (.m 16), none⟩), (4, ⟨(some 18), .idxAddrA 256 1 (.t 17) (.t 15), none⟩), (5, ⟨(some 19), .load false none (.m 18), none⟩), (6, ⟨(some 20), .mv (.t 1), none⟩), (7, ⟨(some 21), .bin .or (.m 19) (.m 20), none⟩), (8, ⟨(some 22), .nilCheck (.t 14), none⟩), (9, ⟨(some 23), .fieldAddr 3 (.m 22), none⟩), (10, ⟨(some 24), .idxAddrA 256 1 (.t 23) (.t 15), none⟩), (11, ⟨none, .store 1 (.m 24) (.m 21), none⟩)] [])))
 (.ops [⟨(some 25), .bin .add (.m 10) (.c (.int .i64 1)), none⟩, ⟨(some 10), .mv (.m 25), none⟩]))))
def jee : IFunc := ⟨26, 11, 11, 5, (.seq (.ops [⟨(some 7), .mv (.t 0), none⟩, ⟨(some 8), .conv .bytes (.m 7), none⟩, ⟨(some 9), .lenL (.t 8), none⟩, ⟨(some 10), .mv (.c (.int .i64 0)), none⟩])
 (.block 0 (.loop y4))), []⟩
/- (*plover/lex.lexer).while -/
def yn : ICode := (.seq (.ops [⟨(some 19), .bin .lss (.t 18) (.t 17), none⟩])
 (.seq (.cond (.t 19) .skip (.exit 0))
 (.seq (.block 1 (.seq (.ops [⟨(some 20), .mv (.t 18), none⟩, ⟨(some 6), .mv (.m 20), none⟩])
 (.seq (.draw [(0, ⟨(some 21), .mv (.t 0), none⟩), (1, ⟨(some 22), .nilCheck (.m 21), none⟩), (2, ⟨(some 23), .fieldAddr 0 (.m 22), none⟩), (3, ⟨(some 24), .mv (.t 5), none⟩), (4, ⟨(some 25), .mv (.t 6), none⟩), (5, ⟨(some 26), .idxS (.m 24) (.m 25), none⟩), (6, ⟨(some 27), .mv (.t 1), none⟩), (7, ⟨(some 28), .call 38 [(.m 23), (.m 26), (.m 27)], none⟩), (8, ⟨(some 29), .un .not (.m 28), none⟩)] [])
 (.cond (.t 29) (.seq (.ops [⟨(some 30), .mv (.m 6), none⟩, ⟨(some 4), .mv (.m 30), none⟩])
 .ret) .skip))))
 (.ops [⟨(some 31), .bin .add (.m 18) (.c (.int .i64 1)), none⟩, ⟨(some 18), .mv (.m 31), none⟩]))))
def jdD : IFunc := ⟨34, 19, 9, 5, (.seq (.ops [⟨(some 4), .mv (.c (.int .i64 0)), none⟩])
 (.seq (.draw [(0, ⟨(some 7), .mv (.t 0), none⟩), (1, ⟨(some 8), .nilCheck (.m 7), none⟩), (2, ⟨(some 9), .fieldAddr 259 (.m 8), none⟩), (3, ⟨(some 10), .load false none (.m 9), none⟩), (4, ⟨(some 11), .mv (.t 0), none⟩), (5, ⟨(some 12), .nilCheck (.m 11), none⟩), (6, ⟨(some 13), .fieldAddr 260 (.m 12), none⟩), (7, ⟨(some 14), .load false none (.m 13), none⟩), (8, ⟨(some 15), .sliceS (.m 10) (some (.t 14)) none, none⟩), (9, ⟨(some 5), .mv (.m 15), none⟩)] [])
 (.seq (.seq (.ops [⟨(some 16), .mv (.t 5), none⟩, ⟨(some 17), .lenS (.t 16), none⟩, ⟨(some 18), .mv (.c (.int .i64 0)), none⟩])
 (.block 0 (.loop yn)))
 (.seq (.ops [⟨(some 32), .mv (.m 5), none⟩, ⟨(some 33), .lenS (.t 32), none⟩, ⟨(some 4), .mv (.m 33), none⟩])
 .ret)))), [.t 4]⟩
/- (*plover/lex.lexer).number$1 -/
def jdE : IFunc := ⟨16, 4, 12, 5, (.seq (.ops [⟨(some 3), .mv (.c (.bool false)), none⟩])
 (.seq (.ops [⟨(some 4), .load false none (.m 1), none⟩, ⟨(some 5), .bin .eql (.m 4) (.c (.int .i64 10)), none⟩, ⟨(some 6), .mv (.m 5), none⟩, ⟨(some 7), .mv (.t 0), some (6, true)⟩, ⟨(some 8), .call 62 [(.c (.str [48, 49, 50, 51, 52, 53, 54, 55, 56, 57])), (.t 7)], some (6, true)⟩, ⟨(some 9), .un .not (.t 8), some (6, true)⟩, ⟨(some 10), .pick (.m 6) (.t 9) (.c (.bool false)), none⟩, ⟨(some 11), .mv (.m 10), none⟩, ⟨(some 12), .mv (.t 0), some (11, false)⟩, ⟨(some 13), .call 62 [(.c (.str [48, 49, 50, 51, 52, 53, 54, 55, 56, 57, 97, 98, 99, 100, 101, 102, 65, 66, 67, 68, 69, 70])), (.t 12)], some (11, false)⟩, ⟨(some 14), .un .not (.t 13), some (11, false)⟩, ⟨(some 15), .pick (.m 11) (.c (.bool true)) (.t 14), none⟩, ⟨(some 3), .mv (.m 15), none⟩])
 .ret)), [.t 3]⟩
/- strings.ContainsRune -/
def jfe : IFunc := ⟨9, 5, 4, 4, (.seq (.ops [⟨(some 4), .mv (.c (.bool false)), none⟩])
 (.seq (.ops [⟨(some 5), .mv (.m 0), none⟩, ⟨(some 6), .mv (.m 1), none⟩, ⟨(some 7), .call 76 [(.m 5), (.m 6)], none⟩, ⟨(some 8), .bin .geq (.m 7) (.c (.int .i64 0)), none⟩, ⟨(some 4), .mv (.m 8), none⟩])
 .ret)), [.t 4]⟩
/- strings.IndexFunc -/
def jff : IFunc := ⟨8, 5, 3, 4, (.seq (.ops [⟨(some 4), .mv (.c (.int .i64 0)), none⟩])
 (.seq (.ops [⟨(some 5), .mv (.m 0), none⟩, ⟨(some 6), .mv (.m 1), none⟩, ⟨(some 7), .call 77 [(.m 5), (.m 6), (.c (.bool true))], none⟩, ⟨(some 4), .mv (.m 7), none⟩])
 .ret)), [.t 4]⟩
/- strconv.ParseUint -/
def jef : IFunc := ⟨26, 10, 7, 5, (.seq (.ops [⟨(some 6), .mv (.c (.int .u64 0)), none⟩, ⟨(some 7), .mv (.c (.prim .nilIface)), none⟩])
 (.seq (.ops [⟨(some 11), .mv (.t 0), none⟩, ⟨(some 12), .mv (.t 1), none⟩, ⟨(some 13), .mv (.t 2), none⟩, ⟨(some 14), .call 78 [(.m 11), (.m 12), (.m 13)], none⟩, ⟨(some 10), .mv (.m 14), none⟩, ⟨(some 15), .extract (.m 10) 0, none⟩, ⟨(some 16), .extract (.m 10) 1, none⟩, ⟨(some 8), .mv (.m 15), none⟩, ⟨(some 9), .mv (.m 16), none⟩])
 (.seq (.seq (.ops [⟨(some 17), .mv (.t 9), none⟩, ⟨(some 18), .isnil true 1 (.m 17), none⟩])
 (.cond (.t 18) (.seq (.ops [⟨(some 19), .mv (.m 8), none⟩, ⟨(some 20), .mv (.m 0), none⟩, ⟨(some 21), .mv (.m 1), none⟩, ⟨(some 22), .mv (.m 2), none⟩, ⟨(some 23), .mv (.m 9), none⟩, ⟨(some 24), .call 79 [(.c (.str [80, 97, 114, 115, 101, 85, 105, 110, 116])), (.m 20), (.m 21), (.m 22), (.m 23)], none⟩, ⟨(some 6), .mv (.m 19), none⟩, ⟨(some 7), .mv (.m 24), none⟩])
 .ret) .skip))
 (.seq (.ops [⟨(some 25), .mv (.m 8), none⟩, ⟨(some 6), .mv (.m 25), none⟩, ⟨(some 7), .mv (.c (.prim .nilIface)), none⟩])
 .ret)))), [.t 6, .t 7]⟩
/- plover/ploverref02.number -/
/- plover/ploverref02.Marks -/
/- internal/stringslite.Cut -/
def jcz : IFunc := ⟨23, 8, 9, 5, (.seq (.ops [⟨(some 4), .mv (.c (.str [])), none⟩, ⟨(some 5), .mv (.c (.str [])), none⟩, ⟨(some 6), .mv (.c (.bool false)), none⟩])
 (.seq (.seq (.ops [⟨(some 8), .mv (.t 0), none⟩, ⟨(some 9), .mv (.t 1), none⟩, ⟨(some 10), .call 50 [(.m 8), (.m 9)], none⟩, ⟨(some 7), .mv (.m 10), none⟩])
 (.seq (.ops [⟨(some 11), .mv (.t 7), none⟩, ⟨(some 12), .bin .geq (.m 11) (.c (.int .i64 0)), none⟩])
 (.cond (.t 12) (.seq (.draw [(0, ⟨(some 13), .mv (.t 0), none⟩), (1, ⟨(some 14), .mv (.t 7), none⟩), (2, ⟨(some 15), .sliceS (.m 13) none (some (.t 14)), none⟩), (3, ⟨(some 16), .mv (.t 0), none⟩), (4, ⟨(some 17), .mv (.t 7), none⟩), (5, ⟨(some 18), .mv (.t 1), none⟩), (6, ⟨(some 19), .lenS (.t 18), none⟩), (7, ⟨(some 20), .bin .add (.m 17) (.m 19), none⟩), (8, ⟨(some 21), .sliceS (.m 16) (some (.t 20)) none, none⟩), (9, ⟨(some 4), .mv (.m 15), none⟩), (10, ⟨(some 5), .mv (.m 21), none⟩), (11, ⟨(some 6), .mv (.c (.bool true)), none⟩)] [])
 .ret) .skip)))
 (.seq (.ops [⟨(some 22), .mv (.m 0), none⟩, ⟨(some 4), .mv (.m 22), none⟩, ⟨(some 5), .mv (.c (.str [])), none⟩, ⟨(some 6), .mv (.c (.bool false)), none⟩])
 .ret))), [.t 4, .t 5, .t 6]⟩
/- (*sync/atomic.Bool).Load -/
def jeg : IFunc := ⟨8, 3, 5, 4, (.seq (.ops [⟨(some 2), .mv (.c (.bool false)), none⟩])
 (.seq (.ops [⟨(some 3), .mv (.m 0), none⟩, ⟨(some 4), .nilCheck (.m 3), none⟩, ⟨(some 5), .fieldAddr 0 (.m 4), none⟩, ⟨(some 6), .mem (.aload .u32) [(.m 5)], none⟩, ⟨(some 7), .bin .neq (.m 6) (.c (.int .u32 0)), none⟩, ⟨(some 2), .mv (.m 7), none⟩])
 .ret)), [.t 2]⟩
/- (*sync.Once).doSlow -/
def jfg : IFunc := ⟨21, 2, 5, 3, (.seq (.ops [⟨(some 4), .mv (.t 0), none⟩, ⟨(some 5), .nilCheck (.m 4), none⟩, ⟨(some 6), .fieldAddr 1 (.m 5), none⟩, ⟨(some 7), .call 85 [(.m 6)], none⟩])
 (.dfr [⟨(some 8), .mv (.t 0), none⟩, ⟨(some 9), .nilCheck (.m 8), none⟩, ⟨(some 10), .fieldAddr 1 (.m 9), none⟩] (.c (.fn (.func 86) [] [])) [(.m 10)] ⟨86, 6, 1, 4, 3, none⟩ (.ops [⟨(some 2), .mv (.t 0), none⟩, ⟨(some 3), .nilCheck (.m 2), none⟩, ⟨(some 4), .fieldAddr 0 (.m 3), none⟩, ⟨(some 5), .call 97 [(.m 4)], none⟩])
 (.seq (.ops [⟨(some 11), .mv (.t 0), none⟩, ⟨(some 12), .nilCheck (.m 11), none⟩, ⟨(some 13), .fieldAddr 0 (.m 12), none⟩, ⟨(some 14), .call 74 [(.m 13)], none⟩, ⟨(some 15), .un .not (.m 14), none⟩])
 (.cond (.t 15) (.dfr [⟨(some 16), .mv (.t 0), none⟩, ⟨(some 17), .nilCheck (.m 16), none⟩, ⟨(some 18), .fieldAddr 0 (.m 17), none⟩] (.c (.fn (.func 87) [] [])) [(.m 18), (.c (.bool true))] ⟨87, 10, 2, 6, 4, none⟩ (.draw [(0, ⟨(some 4), .mv (.t 0), none⟩), (1, ⟨(some 5), .nilCheck (.m 4), none⟩), (2, ⟨(some 6), .fieldAddr 0 (.m 5), none⟩), (3, ⟨(some 7), .mv (.t 1), none⟩), (4, ⟨(some 8), .call 99 [(.m 7)], none⟩), (5, ⟨(some 9), .mem (.astore .u32) [(.m 6), (.m 8)], none⟩)] [])
 (.ops [⟨(some 19), .mv (.t 1), none⟩, ⟨(some 20), .callv (.m 19) [], none⟩])) .skip)))), []⟩
/- strings.IndexRune -/
def y5 : ICode := (.seq (.ops [⟨(some 176), .mem .next [(.t 175)], none⟩, ⟨(some 177), .extract (.m 176) 0, none⟩])
 (.seq (.cond (.t 177) .skip (.exit 9))
 (.block 10 (.seq (.ops [⟨(some 178), .extract (.t 176) 1, none⟩, ⟨(some 179), .extract (.t 176) 2, none⟩, ⟨(some 5), .mv (.m 178), none⟩, ⟨(some 6), .mv (.m 179), none⟩])
 (.seq (.ops [⟨(some 180), .mv (.t 6), none⟩, ⟨(some 181), .bin .eql (.m 180) (.c (.int .i32 65533)), none⟩])
 (.cond (.t 181) (.seq (.ops [⟨(some 182), .mv (.m 5), none⟩, ⟨(some 4), .mv (.m 182), none⟩])
 .ret) .skip))))))
def jcA : ICode := (.seq (.seq (.ops [⟨(some 48), .mv (.t 12), none⟩, ⟨(some 49), .mv (.t 7), none⟩, ⟨(some 50), .lenS (.t 49), none⟩, ⟨(some 51), .bin .lss (.m 48) (.m 50), none⟩])
 (.cond (.t 51) .skip (.exit 3)))
 (.seq (.block 4 (.seq (.draw [(0, ⟨(some 54), .mv (.t 0), none⟩), (1, ⟨(some 55), .mv (.t 9), none⟩), (2, ⟨(some 56), .mv (.t 12), none⟩), (3, ⟨(some 57), .bin .sub (.m 55) (.m 56), none⟩), (4, ⟨(some 58), .idxS (.m 54) (.m 57), none⟩), (5, ⟨(some 59), .mv (.t 7), none⟩), (6, ⟨(some 60), .mv (.t 8), none⟩), (7, ⟨(some 61), .mv (.t 12), none⟩), (8, ⟨(some 62), .bin .sub (.m 60) (.m 61), none⟩), (9, ⟨(some 63), .idxS (.m 59) (.m 62), none⟩), (10, ⟨(some 64), .bin .neq (.m 58) (.m 63), none⟩)] [])
 (.cond (.t 64) (.goto 0) .skip)))
 (.ops [⟨(some 52), .mv (.m 12), none⟩, ⟨(some 53), .bin .add (.m 52) (.c (.int .i64 1)), none⟩, ⟨(some 12), .mv (.m 53), none⟩])))
def YU : ICode := (.seq (.seq (.ops [⟨(some 23), .mv (.t 9), none⟩, ⟨(some 24), .mv (.t 0), none⟩, ⟨(some 25), .lenS (.t 24), none⟩, ⟨(some 26), .bin .lss (.m 23) (.m 25), none⟩])
 (.cond (.t 26) .skip (.exit 1)))
 (.block 2 (.scope (.seq (.seq (.draw [(0, ⟨(some 27), .mv (.t 0), none⟩), (1, ⟨(some 28), .mv (.t 9), none⟩), (2, ⟨(some 29), .idxS (.m 27) (.m 28), none⟩), (3, ⟨(some 30), .mv (.t 7), none⟩), (4, ⟨(some 31), .mv (.t 8), none⟩), (5, ⟨(some 32), .idxS (.m 30) (.m 31), none⟩), (6, ⟨(some 33), .bin .neq (.m 29) (.m 32), none⟩)] [])
 (.cond (.t 33) (.seq (.draw [(0, ⟨(some 34), .mv (.t 0), none⟩), (1, ⟨(some 35), .mv (.t 9), none⟩), (2, ⟨(some 36), .bin .add (.m 35) (.c (.int .i64 1)), none⟩), (3, ⟨(some 37), .sliceS (.m 34) (some (.t 36)) none, none⟩), (4, ⟨(some 38), .mv (.t 7), none⟩), (5, ⟨(some 39), .mv (.t 8), none⟩), (6, ⟨(some 40), .idxS (.m 38) (.m 39), none⟩), (7, ⟨(some 41), .call 12 [(.m 37), (.m 40)], none⟩), (8, ⟨(some 11), .mv (.m 41), none⟩)] [])
 (.seq (.seq (.ops [⟨(some 42), .mv (.t 11), none⟩, ⟨(some 43), .bin .lss (.m 42) (.c (.int .i64 0)), none⟩])
 (.cond (.t 43) (.seq (.ops [⟨(some 4), .mv (.c (.int .i64 (-1))), none⟩])
 .ret) .skip))
 (.ops [⟨(some 44), .mv (.m 9), none⟩, ⟨(some 45), .mv (.t 11), none⟩, ⟨(some 46), .bin .add (.m 45) (.c (.int .i64 1)), none⟩, ⟨(some 47), .bin .add (.m 44) (.m 46), none⟩, ⟨(some 9), .mv (.m 47), none⟩]))) .skip))
 (.seq (.seq (.ops [⟨(some 12), .mv (.c (.int .i64 1)), none⟩])
 (.block 3 (.loop jcA)))
 (.seq (.seq (.ops [⟨(some 65), .mv (.m 9), none⟩, ⟨(some 66), .mv (.m 8), none⟩, ⟨(some 67), .bin .sub (.m 65) (.m 66), none⟩, ⟨(some 4), .mv (.m 67), none⟩])
 .ret)
 (.seq (.label 0)
 (.seq (.ops [⟨(some 68), .mv (.m 10), none⟩, ⟨(some 69), .bin .add (.m 68) (.c (.int .i64 1)), none⟩, ⟨(some 10), .mv (.m 69), none⟩])
 (.seq (.ops [⟨(some 70), .mv (.m 9), none⟩, ⟨(some 71), .bin .add (.m 70) (.c (.int .i64 1)), none⟩, ⟨(some 9), .mv (.m 71), none⟩])
 (.seq (.ops [⟨(some 72), .mv (.c (.bool true)), none⟩, ⟨(some 73), .mv (.t 10), some (72, true)⟩, ⟨(some 74), .mv (.t 9), some (72, true)⟩, ⟨(some 75), .call 69 [(.t 74)], some (72, true)⟩, ⟨(some 76), .bin .gtr (.t 73) (.t 75), some (72, true)⟩, ⟨(some 77), .pick (.m 72) (.t 76) (.c (.bool false)), none⟩, ⟨(some 78), .mv (.m 77), none⟩, ⟨(some 79), .mv (.t 9), some (78, true)⟩, ⟨(some 80), .mv (.t 0), some (78, true)⟩, ⟨(some 81), .lenS (.t 80), some (78, true)⟩, ⟨(some 82), .bin .lss (.t 79) (.t 81), some (78, true)⟩, ⟨(some 83), .pick (.m 78) (.t 82) (.c (.bool false)), none⟩, ⟨(some 84), .mv (.m 83), none⟩, ⟨(some 85), .mv (.c (.bool false)), some (84, false)⟩, ⟨(some 86), .mv (.t 10), some (85, true)⟩, ⟨(some 87), .mv (.t 9), some (85, true)⟩, ⟨(some 88), .bin .shr (.t 87) (.c (.int .u64 4)), some (85, true)⟩, ⟨(some 89), .bin .add (.c (.int .i64 4)) (.t 88), some (85, true)⟩, ⟨(some 90), .bin .geq (.t 86) (.t 89), some (85, true)⟩, ⟨(some 91), .pick (.t 85) (.t 90) (.c (.bool false)), some (84, false)⟩, ⟨(some 92), .mv (.t 91), some (84, false)⟩, ⟨(some 93), .mv (.t 9), some (92, true)⟩, ⟨(some 94), .mv (.t 0), some (92, true)⟩, ⟨(some 95), .lenS (.t 94), some (92, true)⟩, ⟨(some 96), .bin .lss (.t 93) (.t 95), some (92, true)⟩, ⟨(some 97), .pick (.t 92) (.t 96) (.c (.bool false)), some (84, false)⟩, ⟨(some 98), .pick (.m 84) (.c (.bool true)) (.t 97), none⟩])
 (.cond (.t 98) (.goto 1) .skip)))))))))))
def jcC : ICode := (.seq (.seq (.ops [⟨(some 140), .mv (.t 16), none⟩, ⟨(some 141), .mv (.t 7), none⟩, ⟨(some 142), .lenS (.t 141), none⟩, ⟨(some 143), .bin .lss (.m 140) (.m 142), none⟩])
 (.cond (.t 143) .skip (.exit 7)))
 (.seq (.block 8 (.seq (.draw [(0, ⟨(some 146), .mv (.t 0), none⟩), (1, ⟨(some 147), .mv (.t 9), none⟩), (2, ⟨(some 148), .mv (.t 16), none⟩), (3, ⟨(some 149), .bin .sub (.m 147) (.m 148), none⟩), (4, ⟨(some 150), .idxS (.m 146) (.m 149), none⟩), (5, ⟨(some 151), .mv (.t 7), none⟩), (6, ⟨(some 152), .mv (.t 8), none⟩), (7, ⟨(some 153), .mv (.t 16), none⟩), (8, ⟨(some 154), .bin .sub (.m 152) (.m 153), none⟩), (9, ⟨(some 155), .idxS (.m 151) (.m 154), none⟩), (10, ⟨(some 156), .bin .neq (.m 150) (.m 155), none⟩)] [])
 (.cond (.t 156) (.exit 6) .skip)))
 (.ops [⟨(some 144), .mv (.m 16), none⟩, ⟨(some 145), .bin .add (.m 144) (.c (.int .i64 1)), none⟩, ⟨(some 16), .mv (.m 145), none⟩])))
def jcB : ICode := (.seq (.seq (.ops [⟨(some 121), .mv (.t 9), none⟩, ⟨(some 122), .mv (.t 0), none⟩, ⟨(some 123), .lenS (.t 122), none⟩, ⟨(some 124), .bin .lss (.m 121) (.m 123), none⟩])
 (.cond (.t 124) .skip (.exit 5)))
 (.seq (.block 6 (.seq (.ops [⟨(some 127), .mv (.t 0), none⟩, ⟨(some 128), .mv (.t 9), none⟩, ⟨(some 129), .idxS (.m 127) (.m 128), none⟩, ⟨(some 130), .mv (.t 14), none⟩, ⟨(some 131), .bin .eql (.m 129) (.m 130), none⟩, ⟨(some 132), .mv (.m 131), none⟩, ⟨(some 133), .mv (.t 0), some (132, true)⟩, ⟨(some 134), .mv (.t 9), some (132, true)⟩, ⟨(some 135), .bin .sub (.t 134) (.c (.int .i64 1)), some (132, true)⟩, ⟨(some 136), .idxS (.t 133) (.t 135), some (132, true)⟩, ⟨(some 137), .mv (.t 15), some (132, true)⟩, ⟨(some 138), .bin .eql (.t 136) (.t 137), some (132, true)⟩, ⟨(some 139), .pick (.m 132) (.t 138) (.c (.bool false)), none⟩])
 (.cond (.t 139) (.seq (.seq (.ops [⟨(some 16), .mv (.c (.int .i64 2)), none⟩])
 (.block 7 (.loop jcC)))
 (.seq (.ops [⟨(some 157), .mv (.m 9), none⟩, ⟨(some 158), .mv (.m 8), none⟩, ⟨(some 159), .bin .sub (.m 157) (.m 158), none⟩, ⟨(some 4), .mv (.m 159), none⟩])
 .ret)) .skip)))
 (.ops [⟨(some 125), .mv (.m 9), none⟩, ⟨(some 126), .bin .add (.m 125) (.c (.int .i64 1)), none⟩, ⟨(some 9), .mv (.m 126), none⟩])))
def jbC : IFunc := ⟨187, 184, 3, 8, (.seq (.ops [⟨(some 4), .mv (.c (.int .i64 0)), none⟩])
 (.block 0 (.seq (.ops [⟨(some 161), .mv (.t 1), none⟩, ⟨(some 162), .bin .leq (.c (.int .i32 0)) (.m 161), none⟩, ⟨(some 163), .mv (.m 162), none⟩, ⟨(some 164), .mv (.t 1), some (163, true)⟩, ⟨(some 165), .bin .lss (.t 164) (.c (.int .i32 128)), some (163, true)⟩, ⟨(some 166), .pick (.m 163) (.t 165) (.c (.bool false)), none⟩, ⟨(some 160), .mv (.m 166), none⟩])
 (.cond (.t 160) (.seq (.ops [⟨(some 167), .mv (.m 0), none⟩, ⟨(some 168), .mv (.m 1), none⟩, ⟨(some 169), .conv (.int .u8) (.m 168), none⟩, ⟨(some 170), .call 12 [(.m 167), (.m 169)], none⟩, ⟨(some 4), .mv (.m 170), none⟩])
 .ret) (.seq (.ops [⟨(some 172), .mv (.t 1), none⟩, ⟨(some 173), .bin .eql (.m 172) (.c (.int .i32 65533)), none⟩, ⟨(some 171), .mv (.m 173), none⟩])
 (.cond (.t 171) (.seq (.seq (.ops [⟨(some 174), .mv (.t 0), none⟩, ⟨(some 175), .mem .iter [(.m 174)], none⟩])
 (.block 9 (.loop y5)))
 (.seq (.ops [⟨(some 4), .mv (.c (.int .i64 (-1))), none⟩])
 .ret)) (.seq (.ops [⟨(some 184), .mv (.t 1), none⟩, ⟨(some 185), .call 88 [(.m 184)], none⟩, ⟨(some 186), .un .not (.m 185), none⟩, ⟨(some 183), .mv (.m 186), none⟩])
 (.cond (.t 183) (.seq (.ops [⟨(some 4), .mv (.c (.int .i64 (-1))), none⟩])
 .ret) (.scope (.seq (.ops [⟨(some 17), .mv (.t 1), none⟩, ⟨(some 18), .pur .rune [(.m 17)], none⟩, ⟨(some 7), .mv (.m 18), none⟩])
 (.seq (.ops [⟨(some 19), .mv (.t 7), none⟩, ⟨(some 20), .lenS (.t 19), none⟩, ⟨(some 21), .bin .sub (.m 20) (.c (.int .i64 1)), none⟩, ⟨(some 8), .mv (.m 21), none⟩])
 (.seq (.ops [⟨(some 22), .mv (.t 8), none⟩, ⟨(some 9), .mv (.m 22), none⟩])
 (.seq (.ops [⟨(some 10), .mv (.c (.int .i64 0)), none⟩])
 (.seq (.block 1 (.loop YU))
 (.seq (.seq (.ops [⟨(some 4), .mv (.c (.int .i64 (-1))), none⟩])
 .ret)
 (.seq (.label 1)
 (.seq (.cond (.c (.bool true)) (.seq (.ops [⟨(some 99), .mv (.t 0), none⟩, ⟨(some 100), .mv (.t 9), none⟩, ⟨(some 101), .mv (.t 8), none⟩, ⟨(some 102), .bin .sub (.m 100) (.m 101), none⟩, ⟨(some 103), .sliceS (.m 99) (some (.t 102)) none, none⟩, ⟨(some 104), .mv (.t 1), none⟩, ⟨(some 105), .pur .rune [(.m 104)], none⟩, ⟨(some 106), .call 68 [(.m 103), (.m 105)], none⟩, ⟨(some 13), .mv (.m 106), none⟩])
 (.seq (.ops [⟨(some 107), .mv (.t 13), none⟩, ⟨(some 108), .bin .geq (.m 107) (.c (.int .i64 0)), none⟩])
 (.cond (.t 108) (.seq (.ops [⟨(some 109), .mv (.m 9), none⟩, ⟨(some 110), .mv (.m 13), none⟩, ⟨(some 111), .bin .add (.m 109) (.m 110), none⟩, ⟨(some 112), .mv (.m 8), none⟩, ⟨(some 113), .bin .sub (.m 111) (.m 112), none⟩, ⟨(some 4), .mv (.m 113), none⟩])
 .ret) .skip))) (.scope (.seq (.ops [⟨(some 114), .mv (.t 7), none⟩, ⟨(some 115), .mv (.t 8), none⟩, ⟨(some 116), .idxS (.m 114) (.m 115), none⟩, ⟨(some 14), .mv (.m 116), none⟩])
 (.seq (.ops [⟨(some 117), .mv (.t 7), none⟩, ⟨(some 118), .mv (.t 8), none⟩, ⟨(some 119), .bin .sub (.m 118) (.c (.int .i64 1)), none⟩, ⟨(some 120), .idxS (.m 117) (.m 119), none⟩, ⟨(some 15), .mv (.m 120), none⟩])
 (.seq (.label 2)
 (.block 5 (.loop jcB)))))))
 (.seq (.ops [⟨(some 4), .mv (.c (.int .i64 (-1))), none⟩])
 .ret)))))))))))))))))), [.t 4]⟩
/- strings.indexFunc -/
def vV : ICode := (.seq (.ops [⟨(some 11), .mem .next [(.t 10)], none⟩, ⟨(some 12), .extract (.m 11) 0, none⟩])
 (.seq (.cond (.t 12) .skip (.exit 0))
 (.block 1 (.seq (.ops [⟨(some 13), .extract (.t 11) 1, none⟩, ⟨(some 14), .extract (.t 11) 2, none⟩, ⟨(some 7), .mv (.m 13), none⟩, ⟨(some 8), .mv (.m 14), none⟩])
 (.seq (.ops [⟨(some 15), .mv (.t 1), none⟩, ⟨(some 16), .mv (.t 8), none⟩, ⟨(some 17), .callv (.m 15) [(.m 16)], none⟩, ⟨(some 18), .mv (.t 2), none⟩, ⟨(some 19), .eqb false (.m 17) (.m 18), none⟩])
 (.cond (.t 19) (.seq (.ops [⟨(some 20), .mv (.m 7), none⟩, ⟨(some 6), .mv (.m 20), none⟩])
 .ret) .skip))))))
def jfh : IFunc := ⟨21, 12, 5, 5, (.seq (.ops [⟨(some 6), .mv (.c (.int .i64 0)), none⟩])
 (.seq (.seq (.ops [⟨(some 9), .mv (.t 0), none⟩, ⟨(some 10), .mem .iter [(.m 9)], none⟩])
 (.block 0 (.loop vV)))
 (.seq (.ops [⟨(some 6), .mv (.c (.int .i64 (-1))), none⟩])
 .ret))), [.t 6]⟩
/- internal/strconv.ParseUint -/
def qy : ICode := (.seq (.ops [⟨(some 102), .bin .lss (.t 101) (.t 100), none⟩])
 (.seq (.cond (.t 102) .skip (.exit 3))
 (.seq (.block 4 (.seq (.ops [⟨(some 103), .idxAddr 1 (.t 99) (.t 101), none⟩, ⟨(some 104), .load false none (.m 103), none⟩, ⟨(some 15), .mv (.m 104), none⟩])
 (.seq (.ops [⟨(some 16), .mv (.c (.int .u8 0)), none⟩])
 (.seq (.block 5 (.seq (.ops [⟨(some 107), .mv (.t 15), none⟩, ⟨(some 108), .bin .eql (.m 107) (.c (.int .u8 95)), none⟩, ⟨(some 109), .mv (.m 108), none⟩, ⟨(some 110), .mv (.t 8), some (109, true)⟩, ⟨(some 111), .pick (.m 109) (.t 110) (.c (.bool false)), none⟩, ⟨(some 106), .mv (.m 111), none⟩])
 (.cond (.t 106) (.seq (.ops [⟨(some 12), .mv (.c (.bool true)), none⟩])
 (.exit 4)) (.seq (.ops [⟨(some 113), .mv (.t 15), none⟩, ⟨(some 114), .bin .leq (.c (.int .u8 48)) (.m 113), none⟩, ⟨(some 115), .mv (.m 114), none⟩, ⟨(some 116), .mv (.t 15), some (115, true)⟩, ⟨(some 117), .bin .leq (.t 116) (.c (.int .u8 57)), some (115, true)⟩, ⟨(some 118), .pick (.m 115) (.t 117) (.c (.bool false)), none⟩, ⟨(some 112), .mv (.m 118), none⟩])
 (.cond (.t 112) (.ops [⟨(some 119), .mv (.t 15), none⟩, ⟨(some 120), .bin .sub (.m 119) (.c (.int .u8 48)), none⟩, ⟨(some 16), .mv (.m 120), none⟩]) (.seq (.ops [⟨(some 122), .mv (.t 15), none⟩, ⟨(some 123), .call 89 [(.m 122)], none⟩, ⟨(some 124), .bin .leq (.c (.int .u8 97)) (.m 123), none⟩, ⟨(some 125), .mv (.m 124), none⟩, ⟨(some 126), .mv (.t 15), some (125, true)⟩, ⟨(some 127), .call 89 [(.t 126)], some (125, true)⟩, ⟨(some 128), .bin .leq (.t 127) (.c (.int .u8 122)), some (125, true)⟩, ⟨(some 129), .pick (.m 125) (.t 128) (.c (.bool false)), none⟩, ⟨(some 121), .mv (.m 129), none⟩])
 (.cond (.t 121) (.ops [⟨(some 130), .mv (.t 15), none⟩, ⟨(some 131), .call 89 [(.m 130)], none⟩, ⟨(some 132), .bin .sub (.m 131) (.c (.int .u8 97)), none⟩, ⟨(some 133), .bin .add (.m 132) (.c (.int .u8 10)), none⟩, ⟨(some 16), .mv (.m 133), none⟩]) (.seq (.ops [⟨(some 105), .mkIface 156 (.c (.int .i64 2)), none⟩, ⟨(some 6), .mv (.c (.int .u64 0)), none⟩, ⟨(some 7), .mv (.m 105), none⟩])
 .ret))))))))
 (.seq (.seq (.ops [⟨(some 134), .mv (.t 16), none⟩, ⟨(some 135), .mv (.t 1), none⟩, ⟨(some 136), .conv (.int .u8) (.m 135), none⟩, ⟨(some 137), .bin .geq (.m 134) (.m 136), none⟩])
 (.cond (.t 137) (.seq (.ops [⟨(some 138), .mkIface 156 (.c (.int .i64 2)), none⟩, ⟨(some 6), .mv (.c (.int .u64 0)), none⟩, ⟨(some 7), .mv (.m 138), none⟩])
 .ret) .skip))
 (.seq (.seq (.ops [⟨(some 139), .mv (.t 13), none⟩, ⟨(some 140), .mv (.t 10), none⟩, ⟨(some 141), .bin .geq (.m 139) (.m 140), none⟩])
 (.cond (.t 141) (.seq (.ops [⟨(some 142), .mv (.m 11), none⟩, ⟨(some 143), .mkIface 156 (.c (.int .i64 1)), none⟩, ⟨(some 6), .mv (.m 142), none⟩, ⟨(some 7), .mv (.m 143), none⟩])
 .ret) .skip))
 (.seq (.ops [⟨(some 144), .mv (.m 13), none⟩, ⟨(some 145), .mv (.t 1), none⟩, ⟨(some 146), .conv (.int .u64) (.m 145), none⟩, ⟨(some 147), .bin .mul (.m 144) (.m 146), none⟩, ⟨(some 13), .mv (.m 147), none⟩])
 (.seq (.ops [⟨(some 148), .mv (.t 13), none⟩, ⟨(some 149), .mv (.t 16), none⟩, ⟨(some 150), .conv (.int .u64) (.m 149), none⟩, ⟨(some 151), .bin .add (.m 148) (.m 150), none⟩, ⟨(some 17), .mv (.m 151), none⟩])
 (.seq (.seq (.ops [⟨(some 152), .mv (.t 17), none⟩, ⟨(some 153), .mv (.t 13), none⟩, ⟨(some 154), .bin .lss (.m 152) (.m 153), none⟩, ⟨(some 155), .mv (.m 154), none⟩, ⟨(some 156), .mv (.t 17), some (155, false)⟩, ⟨(some 157), .mv (.t 11), some (155, false)⟩, ⟨(some 158), .bin .gtr (.t 156) (.t 157), some (155, false)⟩, ⟨(some 159), .pick (.m 155) (.c (.bool true)) (.t 158), none⟩])
 (.cond (.t 159) (.seq (.ops [⟨(some 160), .mv (.m 11), none⟩, ⟨(some 161), .mkIface 156 (.c (.int .i64 1)), none⟩, ⟨(some 6), .mv (.m 160), none⟩, ⟨(some 7), .mv (.m 161), none⟩])
 .ret) .skip))
 (.ops [⟨(some 162), .mv (.t 17), none⟩, ⟨(some 13), .mv (.m 162), none⟩]))))))))))
 (.ops [⟨(some 163), .bin .add (.m 101) (.c (.int .i64 1)), none⟩, ⟨(some 101), .mv (.m 163), none⟩]))))
def jdF : IFunc := ⟨172, 122, 8, 8, (.seq (.ops [⟨(some 6), .mv (.c (.int .u64 0)), none⟩, ⟨(some 7), .mv (.c (.prim .nilIface)), none⟩])
 (.seq (.seq (.ops [⟨(some 18), .mv (.t 0), none⟩, ⟨(some 19), .bin .eql (.m 18) (.c (.str [])), none⟩])
 (.cond (.t 19) (.seq (.ops [⟨(some 20), .mkIface 156 (.c (.int .i64 2)), none⟩, ⟨(some 6), .mv (.c (.int .u64 0)), none⟩, ⟨(some 7), .mv (.m 20), none⟩])
 .ret) .skip))
 (.seq (.ops [⟨(some 21), .mv (.t 1), none⟩, ⟨(some 22), .bin .eql (.m 21) (.c (.int .i64 0)), none⟩, ⟨(some 8), .mv (.m 22), none⟩])
 (.seq (.ops [⟨(some 23), .mv (.t 0), none⟩, ⟨(some 9), .mv (.m 23), none⟩])
 (.seq (.block 0 (.seq (.ops [⟨(some 26), .mv (.t 1), none⟩, ⟨(some 27), .bin .leq (.c (.int .i64 2)) (.m 26), none⟩, ⟨(some 28), .mv (.m 27), none⟩, ⟨(some 29), .mv (.t 1), some (28, true)⟩, ⟨(some 30), .bin .leq (.t 29) (.c (.int .i64 36)), some (28, true)⟩, ⟨(some 31), .pick (.m 28) (.t 30) (.c (.bool false)), none⟩, ⟨(some 25), .mv (.m 31), none⟩])
 (.cond (.t 25) .skip (.seq (.ops [⟨(some 33), .mv (.t 1), none⟩, ⟨(some 34), .bin .eql (.m 33) (.c (.int .i64 0)), none⟩, ⟨(some 32), .mv (.m 34), none⟩])
 (.cond (.t 32) (.seq (.ops [⟨(some 1), .mv (.c (.int .i64 10)), none⟩])
 (.seq (.ops [⟨(some 35), .mv (.t 0), none⟩, ⟨(some 36), .idxS (.m 35) (.c (.int .i64 0)), none⟩, ⟨(some 37), .bin .eql (.m 36) (.c (.int .u8 48)), none⟩])
 (.cond (.t 37) (.block 1 (.seq (.ops [⟨(some 41), .mv (.t 0), none⟩, ⟨(some 42), .lenS (.t 41), none⟩, ⟨(some 43), .bin .geq (.m 42) (.c (.int .i64 3)), none⟩, ⟨(some 44), .mv (.m 43), none⟩, ⟨(some 45), .mv (.t 0), some (44, true)⟩, ⟨(some 46), .idxS (.t 45) (.c (.int .i64 1)), some (44, true)⟩, ⟨(some 47), .call 89 [(.t 46)], some (44, true)⟩, ⟨(some 48), .bin .eql (.t 47) (.c (.int .u8 98)), some (44, true)⟩, ⟨(some 49), .pick (.m 44) (.t 48) (.c (.bool false)), none⟩, ⟨(some 40), .mv (.m 49), none⟩])
 (.cond (.t 40) (.seq (.ops [⟨(some 1), .mv (.c (.int .i64 2)), none⟩])
 (.ops [⟨(some 50), .mv (.m 0), none⟩, ⟨(some 51), .sliceS (.m 50) (some (.c (.int .i64 2))) none, none⟩, ⟨(some 0), .mv (.m 51), none⟩])) (.seq (.ops [⟨(some 53), .mv (.t 0), none⟩, ⟨(some 54), .lenS (.t 53), none⟩, ⟨(some 55), .bin .geq (.m 54) (.c (.int .i64 3)), none⟩, ⟨(some 56), .mv (.m 55), none⟩, ⟨(some 57), .mv (.t 0), some (56, true)⟩, ⟨(some 58), .idxS (.t 57) (.c (.int .i64 1)), some (56, true)⟩, ⟨(some 59), .call 89 [(.t 58)], some (56, true)⟩, ⟨(some 60), .bin .eql (.t 59) (.c (.int .u8 111)), some (56, true)⟩, ⟨(some 61), .pick (.m 56) (.t 60) (.c (.bool false)), none⟩, ⟨(some 52), .mv (.m 61), none⟩])
 (.cond (.t 52) (.seq (.ops [⟨(some 1), .mv (.c (.int .i64 8)), none⟩])
 (.ops [⟨(some 62), .mv (.m 0), none⟩, ⟨(some 63), .sliceS (.m 62) (some (.c (.int .i64 2))) none, none⟩, ⟨(some 0), .mv (.m 63), none⟩])) (.seq (.ops [⟨(some 65), .mv (.t 0), none⟩, ⟨(some 66), .lenS (.t 65), none⟩, ⟨(some 67), .bin .geq (.m 66) (.c (.int .i64 3)), none⟩, ⟨(some 68), .mv (.m 67), none⟩, ⟨(some 69), .mv (.t 0), some (68, true)⟩, ⟨(some 70), .idxS (.t 69) (.c (.int .i64 1)), some (68, true)⟩, ⟨(some 71), .call 89 [(.t 70)], some (68, true)⟩, ⟨(some 72), .bin .eql (.t 71) (.c (.int .u8 120)), some (68, true)⟩, ⟨(some 73), .pick (.m 68) (.t 72) (.c (.bool false)), none⟩, ⟨(some 64), .mv (.m 73), none⟩])
 (.cond (.t 64) (.seq (.ops [⟨(some 1), .mv (.c (.int .i64 16)), none⟩])
 (.ops [⟨(some 74), .mv (.m 0), none⟩, ⟨(some 75), .sliceS (.m 74) (some (.c (.int .i64 2))) none, none⟩, ⟨(some 0), .mv (.m 75), none⟩])) (.seq (.ops [⟨(some 1), .mv (.c (.int .i64 8)), none⟩])
 (.ops [⟨(some 38), .mv (.m 0), none⟩, ⟨(some 39), .sliceS (.m 38) (some (.c (.int .i64 1))) none, none⟩, ⟨(some 0), .mv (.m 39), none⟩]))))))))) .skip))) (.seq (.ops [⟨(some 24), .mkIface 156 (.c (.int .i64 3)), none⟩, ⟨(some 6), .mv (.c (.int .u64 0)), none⟩, ⟨(some 7), .mv (.m 24), none⟩])
 .ret))))))
 (.seq (.seq (.ops [⟨(some 76), .mv (.t 2), none⟩, ⟨(some 77), .bin .eql (.m 76) (.c (.int .i64 0)), none⟩])
 (.cond (.t 77) (.ops [⟨(some 2), .mv (.c (.int .i64 64)), none⟩]) (.seq (.ops [⟨(some 78), .mv (.t 2), none⟩, ⟨(some 79), .bin .lss (.m 78) (.c (.int .i64 0)), none⟩, ⟨(some 80), .mv (.m 79), none⟩, ⟨(some 81), .mv (.t 2), some (80, false)⟩, ⟨(some 82), .bin .gtr (.t 81) (.c (.int .i64 64)), some (80, false)⟩, ⟨(some 83), .pick (.m 80) (.c (.bool true)) (.t 82), none⟩])
 (.cond (.t 83) (.seq (.ops [⟨(some 84), .mkIface 156 (.c (.int .i64 4)), none⟩, ⟨(some 6), .mv (.c (.int .u64 0)), none⟩, ⟨(some 7), .mv (.m 84), none⟩])
 .ret) .skip))))
 (.seq (.ops [⟨(some 10), .mv (.c (.int .u64 0)), none⟩])
 (.seq (.seq (.ops [⟨(some 85), .mv (.t 1), none⟩])
 (.block 2 (.seq (.ops [⟨(some 91), .bin .eql (.t 85) (.c (.int .i64 10)), none⟩, ⟨(some 90), .mv (.m 91), none⟩])
 (.cond (.t 90) (.ops [⟨(some 10), .mv (.c (.int .u64 1844674407370955162)), none⟩]) (.seq (.ops [⟨(some 93), .bin .eql (.t 85) (.c (.int .i64 16)), none⟩, ⟨(some 92), .mv (.m 93), none⟩])
 (.cond (.t 92) (.ops [⟨(some 10), .mv (.c (.int .u64 1152921504606846976)), none⟩]) (.ops [⟨(some 86), .mv (.t 1), none⟩, ⟨(some 87), .conv (.int .u64) (.m 86), none⟩, ⟨(some 88), .bin .quo (.c (.int .u64 18446744073709551615)) (.m 87), none⟩, ⟨(some 89), .bin .add (.m 88) (.c (.int .u64 1)), none⟩, ⟨(some 10), .mv (.m 89), none⟩])))))))
 (.seq (.ops [⟨(some 94), .mv (.t 2), none⟩, ⟨(some 95), .conv (.int .u64) (.m 94), none⟩, ⟨(some 96), .bin .shl (.c (.int .u64 1)) (.m 95), none⟩, ⟨(some 97), .bin .sub (.m 96) (.c (.int .u64 1)), none⟩, ⟨(some 11), .mv (.m 97), none⟩])
 (.seq (.ops [⟨(some 12), .mv (.c (.bool false)), none⟩])
 (.seq (.ops [⟨(some 13), .mv (.c (.int .u64 0)), none⟩])
 (.seq (.seq (.ops [⟨(some 98), .mv (.t 0), none⟩, ⟨(some 99), .conv .bytes (.m 98), none⟩, ⟨(some 100), .lenL (.t 99), none⟩, ⟨(some 101), .mv (.c (.int .i64 0)), none⟩])
 (.block 3 (.loop qy)))
 (.seq (.seq (.ops [⟨(some 164), .mv (.t 12), none⟩, ⟨(some 165), .mv (.m 164), none⟩, ⟨(some 166), .mv (.t 9), some (165, true)⟩, ⟨(some 167), .call 90 [(.t 166)], some (165, true)⟩, ⟨(some 168), .un .not (.t 167), some (165, true)⟩, ⟨(some 169), .pick (.m 165) (.t 168) (.c (.bool false)), none⟩])
 (.cond (.t 169) (.seq (.ops [⟨(some 170), .mkIface 156 (.c (.int .i64 2)), none⟩, ⟨(some 6), .mv (.c (.int .u64 0)), none⟩, ⟨(some 7), .mv (.m 170), none⟩])
 .ret) .skip))
 (.seq (.ops [⟨(some 171), .mv (.m 13), none⟩, ⟨(some 6), .mv (.m 171), none⟩, ⟨(some 7), .mv (.c (.prim .nilIface)), none⟩])
 .ret)))))))))))))), [.t 6, .t 7]⟩
/- strconv.toError -/
def jfi : IFunc := ⟨43, 35, 5, 6, (.seq (.ops [⟨(some 10), .mv (.c (.prim .nilIface)), none⟩])
 (.seq (.seq (.ops [⟨(some 11), .mv (.t 4), none⟩])
 (.block 0 (.seq (.ops [⟨(some 13), .mkIface 156 (.c (.int .i64 2)), none⟩, ⟨(some 14), .pur (.eqi false [(35, 0), (156, 0)]) [(.t 11), (.m 13)], none⟩, ⟨(some 12), .mv (.m 14), none⟩])
 (.cond (.t 12) (.seq (.ops [⟨(some 15), .mv (.m 0), none⟩, ⟨(some 16), .mv (.m 1), none⟩, ⟨(some 17), .call 91 [(.m 15), (.m 16)], none⟩, ⟨(some 18), .mkIface 158 (.m 17), none⟩, ⟨(some 10), .mv (.m 18), none⟩])
 .ret) (.seq (.ops [⟨(some 20), .mkIface 156 (.c (.int .i64 1)), none⟩, ⟨(some 21), .pur (.eqi false [(35, 0), (156, 0)]) [(.t 11), (.m 20)], none⟩, ⟨(some 19), .mv (.m 21), none⟩])
 (.cond (.t 19) (.seq (.ops [⟨(some 22), .mv (.m 0), none⟩, ⟨(some 23), .mv (.m 1), none⟩, ⟨(some 24), .call 92 [(.m 22), (.m 23)], none⟩, ⟨(some 25), .mkIface 158 (.m 24), none⟩, ⟨(some 10), .mv (.m 25), none⟩])
 .ret) (.seq (.ops [⟨(some 27), .mkIface 156 (.c (.int .i64 3)), none⟩, ⟨(some 28), .pur (.eqi false [(35, 0), (156, 0)]) [(.t 11), (.m 27)], none⟩, ⟨(some 26), .mv (.m 28), none⟩])
 (.cond (.t 26) (.seq (.ops [⟨(some 29), .mv (.m 0), none⟩, ⟨(some 30), .mv (.m 1), none⟩, ⟨(some 31), .mv (.m 2), none⟩, ⟨(some 32), .call 93 [(.m 29), (.m 30), (.m 31)], none⟩, ⟨(some 33), .mkIface 158 (.m 32), none⟩, ⟨(some 10), .mv (.m 33), none⟩])
 .ret) (.seq (.ops [⟨(some 35), .mkIface 156 (.c (.int .i64 4)), none⟩, ⟨(some 36), .pur (.eqi false [(35, 0), (156, 0)]) [(.t 11), (.m 35)], none⟩, ⟨(some 34), .mv (.m 36), none⟩])
 (.cond (.t 34) (.seq (.ops [⟨(some 37), .mv (.m 0), none⟩, ⟨(some 38), .mv (.m 1), none⟩, ⟨(some 39), .mv (.m 3), none⟩, ⟨(some 40), .call 94 [(.m 37), (.m 38), (.m 39)], none⟩, ⟨(some 41), .mkIface 158 (.m 40), none⟩, ⟨(some 10), .mv (.m 41), none⟩])
 .ret) .skip))))))))))
 (.seq (.ops [⟨(some 42), .mv (.m 4), none⟩, ⟨(some 10), .mv (.m 42), none⟩])
 .ret))), [.t 10]⟩
/- plover/ploverref02.hex -/
/- (*sync.Mutex).Lock -/
def jeh : IFunc := ⟨6, 1, 4, 3, (.ops [⟨(some 2), .mv (.t 0), none⟩, ⟨(some 3), .nilCheck (.m 2), none⟩, ⟨(some 4), .fieldAddr 0 (.m 3), none⟩, ⟨(some 5), .call 96 [(.m 4)], none⟩]), []⟩
/- (*sync.Mutex).Unlock -/
def jf8 : IFunc := ⟨6, 1, 4, 3, (.ops [⟨(some 2), .mv (.t 0), none⟩, ⟨(some 3), .nilCheck (.m 2), none⟩, ⟨(some 4), .fieldAddr 0 (.m 3), none⟩, ⟨(some 5), .call 97 [(.m 4)], none⟩]), []⟩
/- (*sync/atomic.Bool).Store -/
def jf9 : IFunc := ⟨10, 2, 6, 4, (.draw [(0, ⟨(some 4), .mv (.t 0), none⟩), (1, ⟨(some 5), .nilCheck (.m 4), none⟩), (2, ⟨(some 6), .fieldAddr 0 (.m 5), none⟩), (3, ⟨(some 7), .mv (.t 1), none⟩), (4, ⟨(some 8), .call 99 [(.m 7)], none⟩), (5, ⟨(some 9), .mem (.astore .u32) [(.m 6), (.m 8)], none⟩)] []), []⟩
/- unicode/utf8.ValidRune -/
def ZZ : IFunc := ⟨17, 11, 6, 5, (.seq (.ops [⟨(some 2), .mv (.c (.bool false)), none⟩])
 (.seq (.block 0 (.seq (.ops [⟨(some 4), .mv (.t 0), none⟩, ⟨(some 5), .bin .leq (.c (.int .i32 0)) (.m 4), none⟩, ⟨(some 6), .mv (.m 5), none⟩, ⟨(some 7), .mv (.t 0), some (6, true)⟩, ⟨(some 8), .bin .lss (.t 7) (.c (.int .i32 55296)), some (6, true)⟩, ⟨(some 9), .pick (.m 6) (.t 8) (.c (.bool false)), none⟩, ⟨(some 3), .mv (.m 9), none⟩])
 (.cond (.t 3) (.seq (.ops [⟨(some 2), .mv (.c (.bool true)), none⟩])
 .ret) (.seq (.ops [⟨(some 11), .mv (.t 0), none⟩, ⟨(some 12), .bin .lss (.c (.int .i32 57343)) (.m 11), none⟩, ⟨(some 13), .mv (.m 12), none⟩, ⟨(some 14), .mv (.t 0), some (13, true)⟩, ⟨(some 15), .bin .leq (.t 14) (.c (.int .i32 1114111)), some (13, true)⟩, ⟨(some 16), .pick (.m 13) (.t 15) (.c (.bool false)), none⟩, ⟨(some 10), .mv (.m 16), none⟩])
 (.cond (.t 10) (.seq (.ops [⟨(some 2), .mv (.c (.bool true)), none⟩])
 .ret) .skip)))))
 (.seq (.ops [⟨(some 2), .mv (.c (.bool false)), none⟩])
 .ret))), [.t 2]⟩
/- internal/strconv.lower -/
def jcD : IFunc := ⟨5, 3, 2, 3, (.seq (.ops [⟨(some 2), .mv (.c (.int .u8 0)), none⟩])
 (.seq (.ops [⟨(some 3), .mv (.m 0), none⟩, ⟨(some 4), .bin .or (.m 3) (.c (.int .u8 32)), none⟩, ⟨(some 2), .mv (.m 4), none⟩])
 .ret)), [.t 2]⟩
/- (*internal/sync.Mutex).Lock -/
def jdG : IFunc := ⟨13, 1, 4, 3, (.seq (.ops [⟨(some 2), .pur (.ext (.mk0 true)) [], none⟩])
 (.seq (.seq (.ops [⟨(some 3), .mv (.t 0), none⟩, ⟨(some 4), .nilCheck (.m 3), none⟩, ⟨(some 5), .fieldAddr 0 (.m 4), none⟩, ⟨(some 6), .mem (.acas .i32) [(.m 5), (.c (.int .i32 0)), (.c (.int .i32 1))], none⟩])
 (.cond (.t 6) (.seq (.cond (.c (.bool true)) (.seq (.ops [⟨(some 7), .pur (.ext (.mk0 false)) [], none⟩])
 (.ops [⟨(some 8), .mv (.m 0), none⟩, ⟨(some 9), .mem .uptr [(.m 8)], none⟩, ⟨(some 10), .pur (.ext (.mk1 true)) [(.m 9)], none⟩])) .skip)
 .ret) .skip))
 (.ops [⟨(some 11), .mv (.t 0), none⟩, ⟨(some 12), .call 109 [(.m 11)], none⟩]))), []⟩
/- (*internal/sync.Mutex).Unlock -/
def jei : IFunc := ⟨21, 3, 4, 3, (.seq (.cond (.c (.bool true)) (.seq (.ops [⟨(some 3), .mv (.t 0), none⟩, ⟨(some 4), .nilCheck (.m 3), none⟩, ⟨(some 5), .fieldAddr 0 (.m 4), none⟩, ⟨(some 6), .load false none (.m 5), none⟩])
 (.seq (.ops [⟨(some 7), .mv (.t 0), none⟩, ⟨(some 8), .mem .uptr [(.m 7)], none⟩, ⟨(some 9), .pur (.ext (.mk1 false)) [(.m 8)], none⟩])
 (.ops [⟨(some 10), .pur (.ext (.mk0 true)) [], none⟩]))) .skip)
 (.seq (.ops [⟨(some 11), .mv (.t 0), none⟩, ⟨(some 12), .nilCheck (.m 11), none⟩, ⟨(some 13), .fieldAddr 0 (.m 12), none⟩, ⟨(some 14), .mem (.aadd .i32) [(.m 13), (.c (.int .i32 (-1)))], none⟩, ⟨(some 2), .mv (.m 14), none⟩])
 (.seq (.seq (.ops [⟨(some 15), .mv (.t 2), none⟩, ⟨(some 16), .bin .neq (.m 15) (.c (.int .i32 0)), none⟩])
 (.cond (.t 16) (.ops [⟨(some 17), .mv (.t 0), none⟩, ⟨(some 18), .mv (.t 2), none⟩, ⟨(some 19), .call 112 [(.m 17), (.m 18)], none⟩]) .skip))
 (.ops [⟨(some 20), .pur (.ext (.mk0 false)) [], none⟩])))), []⟩
/- sync/atomic.b32 -/
def jej : IFunc := ⟨4, 3, 1, 3, (.seq (.ops [⟨(some 2), .mv (.c (.int .u32 0)), none⟩])
 (.seq (.seq (.ops [⟨(some 3), .mv (.t 0), none⟩])
 (.cond (.t 3) (.seq (.ops [⟨(some 2), .mv (.c (.int .u32 1)), none⟩])
 .ret) .skip))
 (.seq (.ops [⟨(some 2), .mv (.c (.int .u32 0)), none⟩])
 .ret))), [.t 2]⟩
/- (*plover/api.Fault).Unwrap -/
def Qr : IFunc := ⟨8, 3, 5, 4, (.seq (.ops [⟨(some 2), .mv (.c (.prim .nilIface)), none⟩])
 (.seq (.ops [⟨(some 3), .mv (.m 0), none⟩, ⟨(some 4), .nilCheck (.m 3), none⟩, ⟨(some 5), .fieldAddr 0 (.m 4), none⟩, ⟨(some 6), .load false none (.m 5), none⟩, ⟨(some 7), .mkIface 35 (.m 6), none⟩, ⟨(some 2), .mv (.m 7), none⟩])
 .ret)), [.t 2]⟩
end Go.Idl.Lx
namespace Go.Idl.Lx
open Go Go.Idl Go.Idl.En
variable {F : kg}
abbrev I (n : Int) : IVal := .int .i64 n
abbrev Q (n : Int) : IVal := .int .u64 n
abbrev B (n : Nat) : IVal := .int .u8 n
theorem get_app {σ l : List IObj} (k : Nat) : (σ ++ l)[σ.length + k]? = l[k]? := by rw [rS (by omega)]; congr 1; omega
theorem get_app0 {σ l : List IObj} : (σ ++ l)[σ.length]? = l[0]? := get_app 0
theorem set_app {σ l : List IObj} (k : Nat) (x : IObj) : (σ ++ l).set (σ.length + k) x = σ ++ l.set k x := by rw [List.set_append_right _ _ (by omega)]; congr 2; omega
theorem set_app0 {σ l : List IObj} (x : IObj) : (σ ++ l).set σ.length x = σ ++ l.set 0 x := set_app 0 x
theorem jk {σ : List IObj} {id : Nat} {o : IObj} (h : σ[id]? = some o) : id < σ.length := by
 rcases Nat.lt_or_ge id σ.length with h2 | h2
 . exact h2
 . rw [rV h2] at h; cases h
theorem vb {σ : List IObj} {id : Nat} {o : IObj} (h : σ[id]? = some o) (l : List IObj) : (σ ++ l)[id]? = some o := by rw [List.getElem?_append_left (jk h), h]
theorem take_app {σ l : List IObj} : (σ ++ l).take σ.length = σ := by simp
theorem vg {σ l : List IObj} {id : Nat} {o : IObj} (h : id < σ.length) : (σ ++ l).set id o = σ.set id o ++ l := List.set_append_left _ _ h
theorem get_set {σ : List IObj} {i j : Nat} {o x : IObj} (h : σ[i]? = some o) (hne : j ≠ i) : (σ.set j x)[i]? = some o := by rw [rA hne, h]
theorem vt {σ : List IObj} {i : Nat} {o : IObj} (h : σ[i]? = some o) : σ.set i o = σ := by
 have h2 := jk h
 rw [rG h2] at h; cases h
 exact List.set_getElem_self h2
theorem dlt (n k : Nat) (h : 0 < k) : decide (n < n + k) = true := rB (by omega)
theorem dge (n k : Nat) (h : 0 < k) : decide (n + k < n) = false := rE (by omega)
theorem dle (n k : Nat) : decide (n <= n + k) = true := rB (by omega)
theorem isNil_p (a b : Nat) : isNil 0 (.ptr a b) = some false := rfl
theorem isNil_n : isNil 0 (.prim (.pointer none)) = some true := rfl
theorem isNil_i : isNil 1 (.prim .nilIface) = some true := rfl
theorem isNil_f (t : TypeId) (v : IVal) : isNil 1 (.iface t v) = some false := rfl
theorem bff : (false != false) = false := rfl
theorem btt : (true != true) = false := rfl
theorem btf2 : (false != true) = true := rfl
theorem qN {n : Int} (h : -9223372036854775808 <= n) (h2 : n < 9223372036854775808) : IntKind.wrap .i64 n = n := by
 simp only [IntKind.wrap, IntKind.bits, IntKind.signed]; simp; omega
theorem vx (n : Int) : IntKind.u64.wrap n = n % 18446744073709551616 := by
 simp only [IntKind.wrap, IntKind.bits, IntKind.signed]; simp
theorem zb (n : Int) : IntKind.u8.wrap n = n % 256 := by
 simp only [IntKind.wrap, IntKind.bits, IntKind.signed]; simp
theorem Je {n : Nat} (h : n < 1000000) : IntKind.i64.wrap ((n : Int) + 1) = ((n + 1 : Nat) : Int) := by rw [qN (by omega) (by omega)]; omega
theorem nilOwn_nil (e o : Nat) : nilOwn e (.sl o true []) = .sl e true [] := rfl
theorem nilOwn_rs (e a b c d : Nat) : nilOwn e (.rs a b c d) = .rs a b c d := rfl
theorem ext_nil : ext [] = false := rfl
theorem cells_agg (xs : List IVal) : IVal.cells (.agg xs) = xs := rfl
theorem un2_agg (xs : List IVal) : un2 (.agg xs) = .agg (xs.map un1) := rfl
theorem nr2_agg (xs : List IVal) : nr2 (.agg xs) = xs.all nr1 := rfl
theorem tk2_0 (a b : IVal) : jA none [a, b] 0 = some a := rfl
theorem tk2_1 (a b : IVal) : jA none [a, b] 1 = some b := rfl
theorem tk3_0 (a b c : IVal) : jA none [a, b, c] 0 = some a := rfl
theorem tk3_1 (a b c : IVal) : jA none [a, b, c] 1 = some b := rfl
theorem tk3_2 (a b c : IVal) : jA none [a, b, c] 2 = some c := rfl
theorem st2_0 (a b x : IVal) : [a, b].set 0 x = [x, b] := rfl
theorem st2_1 (a b x : IVal) : [a, b].set 1 x = [a, x] := rfl
theorem st3_0 (a b c x : IVal) : [a, b, c].set 0 x = [x, b, c] := rfl
theorem st3_1 (a b c x : IVal) : [a, b, c].set 1 x = [a, x, c] := rfl
theorem st3_2 (a b c x : IVal) : [a, b, c].set 2 x = [a, b, x] := rfl
theorem nt_fn (g : Fn) (xs ys : List IVal) : nt (.fn g xs ys) = true := rfl
theorem nt_pv (r : Bool) (cs : List IVal) (o : Nat) : nt (.pv r cs o) = true := rfl
theorem un2_fn (g : Fn) (xs ys : List IVal) : un2 (.fn g xs ys) = .fn g xs ys := rfl
theorem un1_fn (g : Fn) (xs ys : List IVal) : un1 (.fn g xs ys) = .fn g xs ys := rfl
theorem un2_pv (r : Bool) (cs : List IVal) (o : Nat) : un2 (.pv r cs o) = .pv r cs o := rfl
theorem un1_pv (r : Bool) (cs : List IVal) (o : Nat) : un1 (.pv r cs o) = .pv r cs o := rfl
theorem cells_fn (g : Fn) (xs ys : List IVal) : (IVal.fn g xs ys).cells = [.fn g xs ys] := rfl
theorem cells_pv (r : Bool) (cs : List IVal) (o : Nat) : (IVal.pv r cs o).cells = [.pv r cs o] := rfl
theorem isCell_fn (g : Fn) (xs ys : List IVal) : (IVal.fn g xs ys).isCell = true := rfl
theorem isCell_pv (r : Bool) (cs : List IVal) (o : Nat) : (IVal.pv r cs o).isCell = true := rfl
theorem nr3_fn (g : Fn) (y : IVal) (xs ys : List IVal) : nr3 (.fn g xs (y :: ys)) = false := by cases xs <;> rfl
theorem nr2_fn (g : Fn) (y : IVal) (xs ys : List IVal) : nr2 (.fn g xs (y :: ys)) = false := by cases xs <;> rfl
theorem nr1_fn (g : Fn) (y : IVal) (xs ys : List IVal) : nr1 (.fn g xs (y :: ys)) = false := by cases xs <;> rfl
theorem nt_if (t : TypeId) (v : IVal) : nt (.iface t v) = true := rfl
theorem un3_if (t : TypeId) (v : IVal) : un3 (.iface t v) = .iface t v := rfl
theorem un2_if (t : TypeId) (v : IVal) : un2 (.iface t v) = .iface t v := rfl
theorem un1_if (t : TypeId) (v : IVal) : un1 (.iface t v) = .iface t v := rfl
theorem cells_if (t : TypeId) (v : IVal) : (IVal.iface t v).cells = [.iface t v] := rfl
theorem isCell_if (t : TypeId) (v : IVal) : (IVal.iface t v).isCell = true := rfl
theorem nr1_if (t : TypeId) (r : Bool) (cs : List IVal) (o : Nat) : nr1 (.iface t (.pv r cs o)) = !r := rfl
theorem nr2_if (t : TypeId) (r : Bool) (cs : List IVal) (o : Nat) : nr2 (.iface t (.pv r cs o)) = !r := rfl
theorem nr3_if (t : TypeId) (r : Bool) (cs : List IVal) (o : Nat) : nr3 (.iface t (.pv r cs o)) = !r := rfl
theorem nt_prim (v : Value) : nt (.prim v) = true := rfl
theorem cells_prim (v : Value) : (IVal.prim v).cells = [.prim v] := rfl
theorem isCell_prim (v : Value) : (IVal.prim v).isCell = true := rfl
theorem nr1_prim (v : Value) : nr1 (.prim v) = true := rfl
theorem nr2_prim (v : Value) : nr2 (.prim v) = true := rfl
theorem nr3_prim (v : Value) : nr3 (.prim v) = true := rfl
theorem un1_prim (v : Value) : un1 (.prim v) = .prim v := rfl
theorem un2_prim (v : Value) : un2 (.prim v) = .prim v := rfl
abbrev Fl (wr : List (Nat × Bool)) : Prop := wr.all (fun q => !q.2) = true
theorem kb {n : Nat} {wr : List (Nat × Bool)} (h : Fl wr) : wr.all (fun p => !p.2 || decide (n <= p.1)) = true := by
 rw [Fl, rD] at h
 rw [rD]
 intro q hq; have := h q hq; simp at this; simp [this]
theorem jN {f : Nat × Bool -> Bool} {wr : List (Nat × Bool)} (h : Fl wr) : Fl (wr.filter f) := by
 rw [Fl, rD] at h ⊢
 intro q hq; exact h q (List.mem_filter.mp hq).1
theorem jQ {a b : List (Nat × Bool)} (h : Fl a) (h2 : Fl b) : Fl (a ++ b) := by
 rw [Fl, List.all_append, h, h2]; rfl
theorem KK {p : Nat} {a : List (Nat × Bool)} (h : Fl a) : Fl ((p, false) :: a) := by
 rw [Fl, List.all_cons, h]; rfl
theorem V1 {c : Prop} [Decidable c] {a b : List (Nat × Bool)} (h : Fl a) (h2 : Fl b) : Fl (if c then a else b) := by split <;> assumption
theorem take_set {σ : List IObj} {q : Nat} {x : IObj} : (σ.set q x).take σ.length = σ.set q x := by
 rw [rU (by simp)]
theorem QZ {σ l : List IObj} {q : Nat} {x : IObj} : (σ.set q x ++ l).take σ.length = σ.set q x := by
 have := take_app (σ := σ.set q x) (l := l); rwa [rC] at this
theorem gs {σ : List IObj} {q : Nat} {x y : IObj} (h : σ[q]? = some x) : (σ.set q y)[q]? = some y := rH (jk h)
def Xr (f : Nat -> Nat) : List IVal := (List.range 256).map fun i => B (f i)
theorem qJ (f : Nat -> Nat) : (Xr f).length = 256 := by simp [Xr]
theorem Jn (f : Nat -> Nat) {i : Nat} (h : i < 256) : (Xr f)[i]? = some (B (f i)) := by simp [Xr, h]
theorem jbi (f : Nat -> Nat) {i v : Nat} (h : i < 256) : (Xr f).set i (B v) = Xr fun j => if j = i then v else f j := by
 apply List.ext_getElem?
 intro k
 by_cases e : k = i
 . subst e; rw [rH (by rw [qJ]; exact h), Jn _ h, if_pos rfl]
 . rw [rA (fun x => e x.symm)]
   by_cases h2 : k < 256
   . rw [Jn _ h2, Jn _ h2, if_neg e]
   . rw [rV (by rw [qJ]; omega), rV (by rw [qJ]; omega)]
def LC (d st : Int) (f : Nat -> Nat) (tx : List UInt8) (at' ln : Int) (er : IVal) : List IVal := .int .u32 d :: .int .i32 st :: .int .u32 0 :: (Xr f ++ [.str tx, I at', I ln, er])
section
variable (d st : Int) (f : Nat -> Nat) (tx : List UInt8) (at' ln : Int) (er : IVal)
theorem jr : (LC d st f tx at' ln er).length = 263 := by simp [LC, qJ]
theorem lc0 : (LC d st f tx at' ln er)[0]? = some (.int .u32 d) := rfl
theorem lc1 : (LC d st f tx at' ln er)[1]? = some (.int .i32 st) := rfl
theorem V4 (k : Nat) : (LC d st f tx at' ln er)[259 + k]? = [IVal.str tx, I at', I ln, er][k]? := by
 have e : 259 + k = (256 + k) + 1 + 1 + 1 := by omega
 rw [e]
 show (Xr f ++ [IVal.str tx, I at', I ln, er])[256 + k]? = _
 rw [rS (by rw [qJ]; omega), qJ, Nat.add_sub_cancel_left]
theorem jE : (LC d st f tx at' ln er)[259]? = some (.str tx) := V4 d st f tx at' ln er 0
theorem jF : (LC d st f tx at' ln er)[260]? = some (I at') := V4 d st f tx at' ln er 1
theorem jG : (LC d st f tx at' ln er)[261]? = some (I ln) := V4 d st f tx at' ln er 2
theorem jH : (LC d st f tx at' ln er)[262]? = some er := V4 d st f tx at' ln er 3
theorem jbF {i : Nat} (h : i < 256) : (LC d st f tx at' ln er)[3 + i]? = some (B (f i)) := by
 have e : 3 + i = i + 1 + 1 + 1 := by omega
 rw [e]
 show (Xr f ++ [IVal.str tx, I at', I ln, er])[i]? = _
 rw [List.getElem?_append_left (by rw [qJ]; exact h), Jn _ h]
theorem j7 (d' : Int) : (LC d st f tx at' ln er).set 0 (.int .u32 d') = LC d' st f tx at' ln er := rfl
theorem j8 (s' : Int) : (LC d st f tx at' ln er).set 1 (.int .i32 s') = LC d s' f tx at' ln er := rfl
theorem V5 (k : Nat) (v : IVal) : (LC d st f tx at' ln er).set (259 + k) v = .int .u32 d :: .int .i32 st :: .int .u32 0 :: (Xr f ++ [IVal.str tx, I at', I ln, er].set k v) := by
 have e : 259 + k = (256 + k) + 1 + 1 + 1 := by omega
 rw [e]
 show IVal.int .u32 d :: .int .i32 st :: .int .u32 0 :: (Xr f ++ [IVal.str tx, I at', I ln, er]).set (256 + k) v = _
 rw [List.set_append_right _ _ (by rw [qJ]; omega), qJ, Nat.add_sub_cancel_left]
theorem ju (n : Int) : (LC d st f tx at' ln er).set 260 (.int .i64 n) = LC d st f tx n ln er := V5 d st f tx at' ln er 1 _
theorem jt (n : Int) : (LC d st f tx at' ln er).set 261 (.int .i64 n) = LC d st f tx at' n er := V5 d st f tx at' ln er 2 _
theorem jv (v : IVal) : (LC d st f tx at' ln er).set 262 v = LC d st f tx at' ln v := V5 d st f tx at' ln er 3 _
theorem jcL {i : Nat} (v : Nat) (h : i < 256) : (LC d st f tx at' ln er).set (3 + i) (B v) = LC d st (fun j => if j = i then v else f j) tx at' ln er := by
 have e : 3 + i = i + 1 + 1 + 1 := by omega
 rw [e]
 show IVal.int .u32 d :: .int .i32 st :: .int .u32 0 :: (Xr f ++ [IVal.str tx, I at', I ln, er]).set i (B v) = _
 rw [List.set_append_left _ _ (by rw [qJ]; exact h), jbi _ h]; rfl
end
theorem zS : type_of% (And.intro (And.intro (And.intro (And.intro (And.intro (And.intro (And.intro (@nilOwn_self) (@nilOwn_nil)) (And.intro (@nilOwn_rs) (And.intro (@List.isEmpty_cons.{0}) (@ext_nil)))) (And.intro (And.intro (@get_app) (And.intro (@get_app0) (@set_app))) (And.intro (@set_app0) (And.intro (@cells_agg) (@un2_agg))))) (And.intro (And.intro (And.intro (@nr2_agg) (And.intro (@List.append_assoc.{0}) (@List.drop_zero.{0}))) (And.intro (@List.isEmpty_nil.{0}) (And.intro (@List.getElem?_cons_zero.{0}) (@List.getElem?_cons_succ.{0})))) (And.intro (And.intro (@List.set_cons_succ.{0}) (And.intro (@List.flatMap_nil.{0,0}) (@List.take_zero.{0}))) (And.intro (@Nat.zero_le) (And.intro (@Nat.le_refl) (@Nat.lt_irrefl)))))) (And.intro (And.intro (And.intro (And.intro (@List.nil_append.{0}) (@List.length_append.{0})) (And.intro (@dlt) (And.intro (@dge) (@dle)))) (And.intro (And.intro (@take_app) (And.intro (@isNil_p) (@isNil_n))) (And.intro (@bff) (And.intro (@btt) (@btf2))))) (And.intro (And.intro (And.intro (@tk2_0) (And.intro (@tk2_1) (@tk3_0))) (And.intro (@tk3_1) (And.intro (@tk3_2) (@st2_0)))) (And.intro (And.intro (@st2_1) (And.intro (@st3_0) (@st3_1))) (And.intro (@st3_2) (And.intro (@isNil_i) (@isNil_f))))))) (And.intro (And.intro (And.intro (And.intro (And.intro (@List.take_length.{0}) (@evw_draw)) (And.intro (@Bool.true_or) (And.intro (@Bool.or_true) (@Bool.false_or)))) (And.intro (And.intro (@Bool.or_false) (And.intro (@bne_self_eq_false.{0}) (@Nat.lt_add_one))) (And.intro (@Nat.lt_succ_self) (And.intro (@entry_E) (@E_ds))))) (And.intro (And.intro (And.intro (@List.map_nil.{0,0}) (And.intro (@List.map_cons.{0,0}) (@List.all_nil.{0}))) (And.intro (@List.all_cons.{0}) (And.intro (@nt_int) (@nt_bool)))) (And.intro (And.intro (@nt_str) (And.intro (@nt_rs) (@nt_ptr))) (And.intro (@nt_sl) (And.intro (@nt_agg) (@nr3_int)))))) (And.intro (And.intro (And.intro (And.intro (@nr3_bool) (@nr3_str)) (And.intro (@nr3_sl) (And.intro (@nr3_rs) (@nr3_ptr)))) (And.intro (And.intro (@nr3_tup) (And.intro (@nr3_agg) (@nr2_int))) (And.intro (@nr2_bool) (And.intro (@nr2_str) (@nr2_sl))))) (And.intro (And.intro (And.intro (@nr2_rs) (And.intro (@nr2_ptr) (@Bool.and_true))) (And.intro (@Bool.true_and) (And.intro (@Bool.false_and) (@Bool.and_false)))) (And.intro (And.intro (@Bool.not_false) (And.intro (@Bool.not_true) (@List.filter_nil.{0}))) (And.intro (@List.filter_cons.{0}) (And.intro (@Bool.false_eq_true) (@evw_cond)))))))) (And.intro (And.intro (And.intro (And.intro (And.intro (And.intro (@evw_seq) (@evw_ops)) (And.intro (@evw_ret) (And.intro (@evw_skip) (@evw_exit)))) (And.intro (And.intro (@evw_block) (And.intro (@evw_scope) (@evw_label))) (And.intro (@E_get?) (And.intro (@E_set) (@upd_get))))) (And.intro (And.intro (And.intro (@base_get) (And.intro (@ins_base) (@ins_eq))) (And.intro (@ins_lt) (And.intro (@ins_gt) (@cells_int)))) (And.intro (And.intro (@cells_bool) (And.intro (@cells_str) (@cells_rs))) (And.intro (@cells_ptr) (And.intro (@cells_sl) (@List.length_range)))))) (And.intro (And.intro (And.intro (And.intro (@isCell_int) (@isCell_bool)) (And.intro (@isCell_str) (And.intro (@isCell_rs) (@isCell_ptr)))) (And.intro (And.intro (@isCell_sl) (And.intro (@nr1_int) (@nr1_bool))) (And.intro (@nr1_str) (And.intro (@nr1_rs) (@nr1_ptr))))) (And.intro (And.intro (And.intro (@nr1_sl) (And.intro (@List.set_cons_zero.{0}) (@un3_int))) (And.intro (@un3_bool) (And.intro (@un3_str) (@un3_rs)))) (And.intro (And.intro (@un3_ptr) (And.intro (@un3_map) (@un3_iface))) (And.intro (@un3_prim) (And.intro (@un3_fn) (@un3_yl))))))) (And.intro (And.intro (And.intro (And.intro (And.intro (@un3_sl) (@un3_agg)) (And.intro (@un3_tup) (And.intro (@un3_pv) (@un2_int)))) (And.intro (And.intro (@un2_bool) (And.intro (@un2_str) (@un2_rs))) (And.intro (@un2_ptr) (And.intro (@un2_sl) (@un1_int))))) (And.intro (And.intro (And.intro (@un1_bool) (And.intro (@un1_str) (@un1_rs))) (And.intro (@un1_ptr) (And.intro (@un1_sl) (@Int.cast_ofNat_Int)))) (And.intro (And.intro (@Nat.zero_add) (And.intro (@Nat.add_zero) (@Nat.mul_one))) (And.intro (@bft) (And.intro (@btf) (@beq_self_eq_true.{0})))))) (And.intro (And.intro (And.intro (And.intro (@true_and) (And.intro (@and_true) (@and_self))) (And.intro (@if_true.{0}) (And.intro (@if_false.{0}) (@ite_true.{0})))) (And.intro (And.intro (@ite_false.{0}) (And.intro (@c0) (@c1))) (And.intro (@not_true_eq_false) (And.intro (@not_false_eq_true) (@Bool.true_eq_false))))) (And.intro (And.intro (And.intro (@Option.some.injEq.{0}) (And.intro (@Prod.mk.injEq.{0,0}) (@exists_eq_left.{0}))) (And.intro (@List.length_map.{0,0}) (And.intro (@List.getElem?_map.{0,0}) (@Option.map_some.{0,0})))) (And.intro (And.intro (@List.cons_append.{0}) (And.intro (@List.length_cons.{0}) (@List.length_nil.{0}))) (And.intro (@List.append_nil.{0}) (And.intro (@decide_true) (@decide_false))))))))) := ⟨⟨⟨⟨⟨⟨⟨@nilOwn_self, @nilOwn_nil⟩, ⟨@nilOwn_rs, ⟨@List.isEmpty_cons.{0}, @ext_nil⟩⟩⟩, ⟨⟨@get_app, ⟨@get_app0, @set_app⟩⟩, ⟨@set_app0, ⟨@cells_agg, @un2_agg⟩⟩⟩⟩, ⟨⟨⟨@nr2_agg, ⟨@List.append_assoc.{0}, @List.drop_zero.{0}⟩⟩, ⟨@List.isEmpty_nil.{0}, ⟨@List.getElem?_cons_zero.{0}, @List.getElem?_cons_succ.{0}⟩⟩⟩, ⟨⟨@List.set_cons_succ.{0}, ⟨@List.flatMap_nil.{0,0}, @List.take_zero.{0}⟩⟩, ⟨@Nat.zero_le, ⟨@Nat.le_refl, @Nat.lt_irrefl⟩⟩⟩⟩⟩, ⟨⟨⟨⟨@List.nil_append.{0}, @List.length_append.{0}⟩, ⟨@dlt, ⟨@dge, @dle⟩⟩⟩, ⟨⟨@take_app, ⟨@isNil_p, @isNil_n⟩⟩, ⟨@bff, ⟨@btt, @btf2⟩⟩⟩⟩, ⟨⟨⟨@tk2_0, ⟨@tk2_1, @tk3_0⟩⟩, ⟨@tk3_1, ⟨@tk3_2, @st2_0⟩⟩⟩, ⟨⟨@st2_1, ⟨@st3_0, @st3_1⟩⟩, ⟨@st3_2, ⟨@isNil_i, @isNil_f⟩⟩⟩⟩⟩⟩, ⟨⟨⟨⟨⟨@List.take_length.{0}, @evw_draw⟩, ⟨@Bool.true_or, ⟨@Bool.or_true, @Bool.false_or⟩⟩⟩, ⟨⟨@Bool.or_false, ⟨@bne_self_eq_false.{0}, @Nat.lt_add_one⟩⟩, ⟨@Nat.lt_succ_self, ⟨@entry_E, @E_ds⟩⟩⟩⟩, ⟨⟨⟨@List.map_nil.{0,0}, ⟨@List.map_cons.{0,0}, @List.all_nil.{0}⟩⟩, ⟨@List.all_cons.{0}, ⟨@nt_int, @nt_bool⟩⟩⟩, ⟨⟨@nt_str, ⟨@nt_rs, @nt_ptr⟩⟩, ⟨@nt_sl, ⟨@nt_agg, @nr3_int⟩⟩⟩⟩⟩, ⟨⟨⟨⟨@nr3_bool, @nr3_str⟩, ⟨@nr3_sl, ⟨@nr3_rs, @nr3_ptr⟩⟩⟩, ⟨⟨@nr3_tup, ⟨@nr3_agg, @nr2_int⟩⟩, ⟨@nr2_bool, ⟨@nr2_str, @nr2_sl⟩⟩⟩⟩, ⟨⟨⟨@nr2_rs, ⟨@nr2_ptr, @Bool.and_true⟩⟩, ⟨@Bool.true_and, ⟨@Bool.false_and, @Bool.and_false⟩⟩⟩, ⟨⟨@Bool.not_false, ⟨@Bool.not_true, @List.filter_nil.{0}⟩⟩, ⟨@List.filter_cons.{0}, ⟨@Bool.false_eq_true, @evw_cond⟩⟩⟩⟩⟩⟩⟩, ⟨⟨⟨⟨⟨⟨@evw_seq, @evw_ops⟩, ⟨@evw_ret, ⟨@evw_skip, @evw_exit⟩⟩⟩, ⟨⟨@evw_block, ⟨@evw_scope, @evw_label⟩⟩, ⟨@E_get?, ⟨@E_set, @upd_get⟩⟩⟩⟩, ⟨⟨⟨@base_get, ⟨@ins_base, @ins_eq⟩⟩, ⟨@ins_lt, ⟨@ins_gt, @cells_int⟩⟩⟩, ⟨⟨@cells_bool, ⟨@cells_str, @cells_rs⟩⟩, ⟨@cells_ptr, ⟨@cells_sl, @List.length_range⟩⟩⟩⟩⟩, ⟨⟨⟨⟨@isCell_int, @isCell_bool⟩, ⟨@isCell_str, ⟨@isCell_rs, @isCell_ptr⟩⟩⟩, ⟨⟨@isCell_sl, ⟨@nr1_int, @nr1_bool⟩⟩, ⟨@nr1_str, ⟨@nr1_rs, @nr1_ptr⟩⟩⟩⟩, ⟨⟨⟨@nr1_sl, ⟨@List.set_cons_zero.{0}, @un3_int⟩⟩, ⟨@un3_bool, ⟨@un3_str, @un3_rs⟩⟩⟩, ⟨⟨@un3_ptr, ⟨@un3_map, @un3_iface⟩⟩, ⟨@un3_prim, ⟨@un3_fn, @un3_yl⟩⟩⟩⟩⟩⟩, ⟨⟨⟨⟨⟨@un3_sl, @un3_agg⟩, ⟨@un3_tup, ⟨@un3_pv, @un2_int⟩⟩⟩, ⟨⟨@un2_bool, ⟨@un2_str, @un2_rs⟩⟩, ⟨@un2_ptr, ⟨@un2_sl, @un1_int⟩⟩⟩⟩, ⟨⟨⟨@un1_bool, ⟨@un1_str, @un1_rs⟩⟩, ⟨@un1_ptr, ⟨@un1_sl, @Int.cast_ofNat_Int⟩⟩⟩, ⟨⟨@Nat.zero_add, ⟨@Nat.add_zero, @Nat.mul_one⟩⟩, ⟨@bft, ⟨@btf, @beq_self_eq_true.{0}⟩⟩⟩⟩⟩, ⟨⟨⟨⟨@true_and, ⟨@and_true, @and_self⟩⟩, ⟨@if_true.{0}, ⟨@if_false.{0}, @ite_true.{0}⟩⟩⟩, ⟨⟨@ite_false.{0}, ⟨@c0, @c1⟩⟩, ⟨@not_true_eq_false, ⟨@not_false_eq_true, @Bool.true_eq_false⟩⟩⟩⟩, ⟨⟨⟨@Option.some.injEq.{0}, ⟨@Prod.mk.injEq.{0,0}, @exists_eq_left.{0}⟩⟩, ⟨@List.length_map.{0,0}, ⟨@List.getElem?_map.{0,0}, @Option.map_some.{0,0}⟩⟩⟩, ⟨⟨@List.cons_append.{0}, ⟨@List.length_cons.{0}, @List.length_nil.{0}⟩⟩, ⟨@List.append_nil.{0}, ⟨@decide_true, @decide_false⟩⟩⟩⟩⟩⟩⟩⟩
theorem zV : type_of% (And.intro (And.intro (And.intro (And.intro (@nt_fn) (And.intro (@nt_pv) (@un2_fn))) (And.intro (And.intro (@un1_fn) (@un2_pv)) (And.intro (@un1_pv) (@cells_fn)))) (And.intro (And.intro (And.intro (@cells_pv) (@isCell_fn)) (And.intro (@isCell_pv) (@nr3_fn))) (And.intro (And.intro (@nr2_fn) (@nr1_fn)) (And.intro (@nt_if) (@un2_if))))) (And.intro (And.intro (And.intro (@un1_if) (And.intro (@un3_if) (@cells_if))) (And.intro (And.intro (@isCell_if) (@nr1_if)) (And.intro (@nr2_if) (@nr3_if)))) (And.intro (And.intro (And.intro (@nt_prim) (@cells_prim)) (And.intro (@isCell_prim) (@nr1_prim))) (And.intro (And.intro (@nr2_prim) (@nr3_prim)) (And.intro (@un1_prim) (@un2_prim)))))) := ⟨⟨⟨⟨@nt_fn, ⟨@nt_pv, @un2_fn⟩⟩, ⟨⟨@un1_fn, @un2_pv⟩, ⟨@un1_pv, @cells_fn⟩⟩⟩, ⟨⟨⟨@cells_pv, @isCell_fn⟩, ⟨@isCell_pv, @nr3_fn⟩⟩, ⟨⟨@nr2_fn, @nr1_fn⟩, ⟨@nt_if, @un2_if⟩⟩⟩⟩, ⟨⟨⟨@un1_if, ⟨@un3_if, @cells_if⟩⟩, ⟨⟨@isCell_if, @nr1_if⟩, ⟨@nr2_if, @nr3_if⟩⟩⟩, ⟨⟨⟨@nt_prim, @cells_prim⟩, ⟨@isCell_prim, @nr1_prim⟩⟩, ⟨⟨@nr2_prim, @nr3_prim⟩, ⟨@un1_prim, @un2_prim⟩⟩⟩⟩⟩
end Go.Idl.Lx
namespace Go.Idl.Lx
open Go Go.Idl Go.Idl.En
variable {F : kg}
theorem jcj (l : List IOper) (x : Opd) (xs : List Opd) (d : DInfo) (c b : ICode) (s : St) : evw F (.dfr l x xs d c b) s = Yr (evw F) (cfw F) l x xs d c b s := vD F _ s
section
variable {d st : Int} {f : Nat -> Nat} {tx : List UInt8} {at' ln : Int} {er : IVal} {q : Nat} {σ : List IObj}
theorem jbH (h : F 74 = some jeg) (hq : σ[q]? = some (.cells (LC d st f tx at' ln er))) : cfw F (.f 74) [.ptr q 0] σ = some ⟨false, .bool (d != 0), σ, []⟩ := by
 rw [cfw_of jeg h, jw]
 simp only [jeg, jO, hq, jA, Option.toList, jq, nat, j6, j5, jr, lc0, lc1, jE, jF, jG, jH, j7, j8, ju, jt, jv, zV, zS, jC, jS, jc, jh, jX, je, jl, jd, jx, jU, jj, ji, jp, jR, jy, jw, Ts.fill, jY, jV, jf, jZ, jo, jm, jg, ja, getAll, stepCall, jn, unI, Opd.get, jB, tag, jz, jb, jP, rv, bin, j0, Nat.reduceAdd, Nat.reduceSub, Nat.reduceMul, Nat.reduceDiv, Nat.reduceMod, Nat.reducePow, Nat.reduceLT, Nat.reduceLeDiff, Nat.reduceEqDiff, Nat.reduceBEq, Nat.reduceBNe, reduceIte, Int.reduceEq, Int.reduceLT, Int.reduceLE, Int.reduceNeg, Int.reduceToNat, Int.reduceMul, Int.reduceAdd, Int.reduceSub, Int.reduceBEq, Int.reduceBNe, reduceCtorEq]
theorem jer (h : F 96 = some jdG) (hq : σ[q]? = some (.cells (LC d 0 f tx at' ln er))) : ∃ wr, cfw F (.f 96) [.ptr q 1] σ = some ⟨false, .tup [], σ.set q (.cells (LC d 1 f tx at' ln er)), wr⟩ /\ Fl wr := by
 rw [cfw_of jdG h, jw]
 simp only [jdG, jO, hq, j5, gs hq, take_set, jA, Option.toList, jq, nat, j6, jr, lc0, lc1, jE, jF, jG, jH, j7, j8, ju, jt, jv, zV, zS, jC, jS, jc, jh, jX, je, jl, jd, jx, jU, jj, ji, jp, jR, jy, jw, Ts.fill, jY, jV, jf, jZ, jo, jm, jg, ja, getAll, stepCall, jn, unI, Opd.get, jB, tag, jz, jb, jP, rv, bin, j0, Nat.reduceAdd, Nat.reduceSub, Nat.reduceMul, Nat.reduceDiv, Nat.reduceMod, Nat.reducePow, Nat.reduceLT, Nat.reduceLeDiff, Nat.reduceEqDiff, Nat.reduceBEq, Nat.reduceBNe, reduceIte, Int.reduceEq, Int.reduceLT, Int.reduceLE, Int.reduceNeg, Int.reduceToNat, Int.reduceMul, Int.reduceAdd, Int.reduceSub, Int.reduceBEq, Int.reduceBNe, reduceCtorEq]
 exact ⟨_, rfl, by simp⟩
theorem jeq (h : F 85 = some jeh) (h96 : F 96 = some jdG) (hq : σ[q]? = some (.cells (LC d 0 f tx at' ln er))) : ∃ wr, cfw F (.f 85) [.ptr q 1] σ = some ⟨false, .tup [], σ.set q (.cells (LC d 1 f tx at' ln er)), wr⟩ /\ Fl wr := by
 rw [cfw_of jeh h, jw]
 obtain ⟨wr, u, hw⟩ := jer h96 hq
 simp only [jeh, u, take_set, kb hw, jA, Option.toList, jq, nat, j6, jO, j5, jr, lc0, lc1, jE, jF, jG, jH, j7, j8, ju, jt, jv, zV, zS, jC, jS, jc, jh, jX, je, jl, jd, jx, jU, jj, ji, jp, jR, jy, jw, Ts.fill, jY, jV, jf, jZ, jo, jm, jg, ja, getAll, stepCall, jn, unI, Opd.get, jB, tag, jz, jb, jP, rv, bin, j0, Nat.reduceAdd, Nat.reduceSub, Nat.reduceMul, Nat.reduceDiv, Nat.reduceMod, Nat.reducePow, Nat.reduceLT, Nat.reduceLeDiff, Nat.reduceEqDiff, Nat.reduceBEq, Nat.reduceBNe, reduceIte, Int.reduceEq, Int.reduceLT, Int.reduceLE, Int.reduceNeg, Int.reduceToNat, Int.reduceMul, Int.reduceAdd, Int.reduceSub, Int.reduceBEq, Int.reduceBNe, reduceCtorEq]
 exact ⟨_, rfl, jN hw⟩
theorem jf1 (h : F 97 = some jei) (hq : σ[q]? = some (.cells (LC d 1 f tx at' ln er))) : ∃ wr, cfw F (.f 97) [.ptr q 1] σ = some ⟨false, .tup [], σ.set q (.cells (LC d 0 f tx at' ln er)), wr⟩ /\ Fl wr := by
 rw [cfw_of jei h, jw]
 have w : IntKind.i32.wrap 0 = 0 := rfl
 have b0 : ((0 : Int) != 0) = false := rfl
 simp only [jei, jO, hq, j5, gs hq, take_set, w, b0, jA, Option.toList, jq, nat, j6, jr, lc0, lc1, jE, jF, jG, jH, j7, j8, ju, jt, jv, zV, zS, jC, jS, jc, jh, jX, je, jl, jd, jx, jU, jj, ji, jp, jR, jy, jw, Ts.fill, jY, jV, jf, jZ, jo, jm, jg, ja, getAll, stepCall, jn, unI, Opd.get, jB, tag, jz, jb, jP, rv, bin, j0, Nat.reduceAdd, Nat.reduceSub, Nat.reduceMul, Nat.reduceDiv, Nat.reduceMod, Nat.reducePow, Nat.reduceLT, Nat.reduceLeDiff, Nat.reduceEqDiff, Nat.reduceBEq, Nat.reduceBNe, reduceIte, Int.reduceEq, Int.reduceLT, Int.reduceLE, Int.reduceNeg, Int.reduceToNat, Int.reduceMul, Int.reduceAdd, Int.reduceSub, Int.reduceBEq, Int.reduceBNe, reduceCtorEq]
 exact ⟨_, rfl, by simp⟩
theorem b99 (h : F 99 = some jej) : cfw F (.f 99) [.bool true] σ = some ⟨false, .int .u32 1, σ, []⟩ := by
 rw [cfw_of jej h, jw]
 simp only [jej, zV, zS, jC, jS, jc, jh, jX, je, jl, jd, jx, jU, jj, ji, jp, jR, jy, jw, Ts.fill, jY, jV, jf, jZ, jo, jm, jg, ja, getAll, stepCall, jn, unI, Opd.get, jB, tag, jz, jb, jP, rv, bin, j0, Nat.reduceAdd, Nat.reduceSub, Nat.reduceMul, Nat.reduceDiv, Nat.reduceMod, Nat.reducePow, Nat.reduceLT, Nat.reduceLeDiff, Nat.reduceEqDiff, Nat.reduceBEq, Nat.reduceBNe, reduceIte, Int.reduceEq, Int.reduceLT, Int.reduceLE, Int.reduceNeg, Int.reduceToNat, Int.reduceMul, Int.reduceAdd, Int.reduceSub, Int.reduceBEq, Int.reduceBNe, reduceCtorEq]
def or8 (a b : Nat) : Nat := (BitVec.ofInt 8 a ||| BitVec.ofInt 8 b).toNat
theorem jbS (a b : Nat) : IntKind.u8.wrap (((BitVec.ofInt IntKind.u8.bits (a : Int) ||| BitVec.ofInt IntKind.u8.bits (b : Int)).toNat : Nat) : Int) = ((or8 a b : Nat) : Int) := by
 rw [zb]
 have : (BitVec.ofInt IntKind.u8.bits (a : Int) ||| BitVec.ofInt IntKind.u8.bits (b : Int)).toNat < 256 := (BitVec.ofInt 8 (a : Int) ||| BitVec.ofInt 8 (b : Int)).isLt
 show _ = (((BitVec.ofInt IntKind.u8.bits (a : Int) ||| BitVec.ofInt IntKind.u8.bits (b : Int)).toNat : Nat) : Int)
 omega
def mkT (k : Nat) : List UInt8 -> (Nat -> Nat) -> Nat -> Nat
 | [], f => f
 | c :: s, f => mkT k s fun j => if j = c.toNat then or8 (f c.toNat) k else f j
theorem qG {α : Type} {l : List α} {i : Nat} {c : α} (h : l[i]? = some c) : l.drop i = c :: l.drop (i + 1) := by
 obtain ⟨h1, h2⟩ := List.getElem?_eq_some_iff.1 h
 rw [List.drop_eq_getElem_cons h1, h2]
theorem qT {α : Type} {l : List α} {i : Nat} (h : i < l.length) : ∃ c, l[i]? = some c := ⟨l[i], rG h⟩
set_option maxRecDepth 20000 in
theorem jbI {k : Nat} {l : List UInt8} (hl : l.length < 1000) : ∀ (m i : Nat) (f : Nat -> Nat) (f0 : Nat -> Option (Nat × IVal)) (σ : List IObj) (wr : List (Nat × Bool)) (R : Option (IExit × St)), evw F (.loop y4) ⟨E 11 11 5 [] f0, σ, wr⟩ = R -> i + m = l.length -> σ[q]? = some (.cells (LC d st f tx at' ln er)) -> f0 1 = some (1, B k) -> f0 2 = some (2, .pv true [.ptr q 0] 0) -> f0 8 = some (8, .sl 0 false (l.map fun c => .int .u8 c.toNat)) -> f0 9 = some (9, I l.length) -> f0 10 = some (10, I i) -> Fl wr ->
   ∃ f1 wr1, R = some (.exit 0, ⟨E 11 11 5 [] f1, σ.set q (.cells (LC d st (mkT k (l.drop i) f) tx at' ln er)), wr1⟩) /\ Fl wr1
 | 0, i, f, f0, σ, wr, R, hE, hm, hq, e1, e2, e8, e9, e10, hw => by
   have d1 : decide ((i : Int) < (l.length : Nat)) = false := rE (by omega)
   change evw F (.loop y4) ⟨E 11 11 5 [] (base f0), σ, wr⟩ = R at hE
   rw [jT] at hE
   simp only [y4, e1, e2, e8, e9, e10, d1, jA, Option.toList, jq, nat, j6, jO, j5, jr, lc0, lc1, jE, jF, jG, jH, j7, j8, ju, jt, jv, zV, zS, jC, jS, jc, jh, jX, je, jl, jd, jx, jU, jj, ji, jp, jR, jy, jw, Ts.fill, jY, jV, jf, jZ, jo, jm, jg, ja, getAll, stepCall, jn, unI, Opd.get, jB, tag, jz, jb, jP, rv, bin, j0, Nat.reduceAdd, Nat.reduceSub, Nat.reduceMul, Nat.reduceDiv, Nat.reduceMod, Nat.reducePow, Nat.reduceLT, Nat.reduceLeDiff, Nat.reduceEqDiff, Nat.reduceBEq, Nat.reduceBNe, reduceIte, Int.reduceEq, Int.reduceLT, Int.reduceLE, Int.reduceNeg, Int.reduceToNat, Int.reduceMul, Int.reduceAdd, Int.reduceSub, Int.reduceBEq, Int.reduceBNe, reduceCtorEq] at hE
   rw [tN (by omega), mkT, vt hq]
   exact ⟨_, _, hE.symm, hw⟩
 | m + 1, i, f, f0, σ, wr, R, hE, hm, hq, e1, e2, e8, e9, e10, hw => by
   obtain ⟨c, hg⟩ := qT (l := l) (i := i) (by omega)
   have d1 : decide ((i : Int) < (l.length : Nat)) = true := rB (by omega)
   have d2 : (0 : Int) <= (i : Int) := by omega
   have hc : c.toNat < 256 := c.toNat_lt
   have d3 : (0 : Int) <= ((c.toNat : Nat) : Int) := by omega
   have d4 : ((c.toNat : Nat) : Int) < 256 := by omega
   have d5 : 3 + c.toNat + 1 <= 263 := by omega
   have w1 := Je (n := i) (by omega)
   have t1 := jbF d st f tx at' ln er hc
   have t2 := jcL d st f tx at' ln er (or8 (f c.toNat) k) hc
   change evw F (.loop y4) ⟨E 11 11 5 [] (base f0), σ, wr⟩ = R at hE
   rw [jT] at hE
   simp only [y4, e1, e2, e8, e9, e10, d1, d2, d3, d4, d5, hg, w1, t1, t2, hq, jbS, rI, jA, Option.toList, jq, nat, j6, jO, j5, jr, lc0, lc1, jE, jF, jG, jH, j7, j8, ju, jt, jv, zV, zS, jC, jS, jc, jh, jX, je, jl, jd, jx, jU, jj, ji, jp, jR, jy, jw, Ts.fill, jY, jV, jf, jZ, jo, jm, jg, ja, getAll, stepCall, jn, unI, Opd.get, jB, tag, jz, jb, jP, rv, bin, j0, Nat.reduceAdd, Nat.reduceSub, Nat.reduceMul, Nat.reduceDiv, Nat.reduceMod, Nat.reducePow, Nat.reduceLT, Nat.reduceLeDiff, Nat.reduceEqDiff, Nat.reduceBEq, Nat.reduceBNe, reduceIte, Int.reduceEq, Int.reduceLT, Int.reduceLE, Int.reduceNeg, Int.reduceToNat, Int.reduceMul, Int.reduceAdd, Int.reduceSub, Int.reduceBEq, Int.reduceBNe, reduceCtorEq] at hE
   obtain ⟨f1, wr1, u, gw⟩ := jbI hl m (i + 1) _ _ _ _ _ hE (by omega) (gs hq) (by first | exact e1 | rfl) (by first | exact e2 | rfl) (by first | exact e8 | rfl) (by first | exact e9 | rfl) (by rfl) (by simpa using hw)
   refine ⟨f1, wr1, ?_, gw⟩
   rw [u, qG hg]
   simp only [mkT, r7]
set_option maxRecDepth 20000 in
theorem V7 (h : F 59 = some jee) {k : Nat} {l : List UInt8} (hl : l.length < 1000) (hq : σ[q]? = some (.cells (LC d st f tx at' ln er))) : ∃ wr, cfw F (.f 59) [.str l, B k, .pv true [.ptr q 0] 0] σ = some ⟨false, .tup [], σ.set q (.cells (LC d st (mkT k l f) tx at' ln er)), wr⟩ /\ Fl wr := by
 rw [cfw_of jee h, jw]
 simp only [jee, jA, Option.toList, jq, nat, j6, jO, j5, jr, lc0, lc1, jE, jF, jG, jH, j7, j8, ju, jt, jv, zV, zS, jC, jS, jc, jh, jX, je, jl, jd, jx, jU, jj, ji, jp, jR, jy, jw, Ts.fill, jY, jV, jf, jZ, jo, jm, jg, ja, getAll, stepCall, jn, unI, Opd.get, jB, tag, jz, jb, jP, rv, bin, j0, Nat.reduceAdd, Nat.reduceSub, Nat.reduceMul, Nat.reduceDiv, Nat.reduceMod, Nat.reducePow, Nat.reduceLT, Nat.reduceLeDiff, Nat.reduceEqDiff, Nat.reduceBEq, Nat.reduceBNe, reduceIte, Int.reduceEq, Int.reduceLT, Int.reduceLE, Int.reduceNeg, Int.reduceToNat, Int.reduceMul, Int.reduceAdd, Int.reduceSub, Int.reduceBEq, Int.reduceBNe, reduceCtorEq]
 generalize hE : evw F (ICode.loop y4) _ = R
 obtain ⟨f1, wr1, rfl, gw⟩ := jbI hl l.length 0 _ _ _ _ _ hE (by omega) hq (by rfl) (by rfl) (by rfl) (by rfl) (by rfl) rfl
 simp only [take_set, kb gw, jA, Option.toList, jq, nat, j6, jO, j5, jr, lc0, lc1, jE, jF, jG, jH, j7, j8, ju, jt, jv, zV, zS, jC, jS, jc, jh, jX, je, jl, jd, jx, jU, jj, ji, jp, jR, jy, jw, Ts.fill, jY, jV, jf, jZ, jo, jm, jg, ja, getAll, stepCall, jn, unI, Opd.get, jB, tag, jz, jb, jP, rv, bin, j0, Nat.reduceAdd, Nat.reduceSub, Nat.reduceMul, Nat.reduceDiv, Nat.reduceMod, Nat.reducePow, Nat.reduceLT, Nat.reduceLeDiff, Nat.reduceEqDiff, Nat.reduceBEq, Nat.reduceBNe, reduceIte, Int.reduceEq, Int.reduceLT, Int.reduceLE, Int.reduceNeg, Int.reduceToNat, Int.reduceMul, Int.reduceAdd, Int.reduceSub, Int.reduceBEq, Int.reduceBNe, reduceCtorEq]
 exact ⟨_, rfl, jN gw⟩
end
end Go.Idl.Lx
namespace Go.Idl.Lx
open Go Go.Idl Go.Idl.En
variable {F : kg}
structure FTab (F : kg) : Prop where
 h38 : F 38 = some jfb
 h57 : F 57 = some jed
 h58 : F 58 = some jfd
 h59 : F 59 = some jee
 h74 : F 74 = some jeg
 h75 : F 75 = some jfg
 h85 : F 85 = some jeh
 h86 : F 86 = some jf8
 h87 : F 87 = some jf9
 h96 : F 96 = some jdG
 h97 : F 97 = some jei
 h99 : F 99 = some jej
def jcM : List UInt8 := [97, 98, 99, 100, 101, 102, 103, 104, 105, 106, 107, 108, 109, 110, 111, 112, 113, 114, 115, 116, 117, 118, 119, 120, 121, 122, 65, 66, 67, 68, 69, 70, 71, 72, 73, 74, 75, 76, 77, 78, 79, 80, 81, 82, 83, 84, 85, 86, 87, 88, 89, 90, 95]
def jeU : List UInt8 := [123, 125, 40, 41, 91, 93, 59, 58, 44, 46, 61, 60, 62, 43, 45, 42, 47, 37, 38, 94, 124, 126, 33]
def digs : List UInt8 := [48, 49, 50, 51, 52, 53, 54, 55, 56, 57]
def Ve (f : Nat -> Nat) : Nat -> Nat := mkT 8 jeU (mkT 4 digs (mkT 2 jcM (mkT 1 [32, 9, 10] f)))
def jeZ : Nat -> Nat := Ve fun _ => 0
section
variable {d st : Int} {f : Nat -> Nat} {tx : List UInt8} {at' ln : Int} {er : IVal} {q : Nat} {σ : List IObj}
set_option maxRecDepth 20000 in
theorem jfV (H : FTab F) (hq : σ[q]? = some (.cells (LC d st f tx at' ln er))) : ∃ wr, cfw F (.f 58) [.pv true [.ptr q 0] 0] σ = some ⟨false, .tup [], σ.set q (.cells (LC d st (Ve f) tx at' ln er)), wr⟩ /\ Fl wr := by
 rw [cfw_of jfd H.h58, jw]
 obtain ⟨w1, u1, g1⟩ := V7 H.h59 (k := 1) (l := [32, 9, 10]) (by simp) hq
 obtain ⟨w2, u2, g2⟩ := V7 H.h59 (k := 2) (l := jcM) (by simp [jcM]) (gs hq (y := .cells (LC d st (mkT 1 [32, 9, 10] f) tx at' ln er)))
 obtain ⟨w3, u3, g3⟩ := V7 H.h59 (k := 4) (l := digs) (by simp [digs]) (gs hq (y := .cells (LC d st (mkT 2 jcM (mkT 1 [32, 9, 10] f)) tx at' ln er)))
 obtain ⟨w4, u4, g4⟩ := V7 H.h59 (k := 8) (l := jeU) (by simp [jeU]) (gs hq (y := .cells (LC d st (mkT 4 digs (mkT 2 jcM (mkT 1 [32, 9, 10] f))) tx at' ln er)))
 have u1 : cfw F (.f 59) [.str [32, 9, 10], .int .u8 1, .pv true [.ptr q 0] 0] σ = _ := u1
 simp only [r7] at u2 u3 u4
 have u2 : cfw F (.f 59) [.str jcM, .int .u8 2, .pv true [.ptr q 0] 0] _ = _ := u2
 have u3 : cfw F (.f 59) [.str digs, .int .u8 4, .pv true [.ptr q 0] 0] _ = _ := u3
 have u4 : cfw F (.f 59) [.str jeU, .int .u8 8, .pv true [.ptr q 0] 0] _ = _ := u4
 simp only [jcM, digs, jeU] at u2 u3 u4
 simp only [jfd, u1, u2, u3, u4, take_set, jA, Option.toList, jq, nat, j6, jO, j5, jr, lc0, lc1, jE, jF, jG, jH, j7, j8, ju, jt, jv, zV, zS, jC, jS, jc, jh, jX, je, jl, jd, jx, jU, jj, ji, jp, jR, jy, jw, Ts.fill, jY, jV, jf, jZ, jo, jm, jg, ja, getAll, stepCall, jn, unI, Opd.get, jB, tag, jz, jb, jP, rv, bin, j0, Nat.reduceAdd, Nat.reduceSub, Nat.reduceMul, Nat.reduceDiv, Nat.reduceMod, Nat.reducePow, Nat.reduceLT, Nat.reduceLeDiff, Nat.reduceEqDiff, Nat.reduceBEq, Nat.reduceBNe, reduceIte, Int.reduceEq, Int.reduceLT, Int.reduceLE, Int.reduceNeg, Int.reduceToNat, Int.reduceMul, Int.reduceAdd, Int.reduceSub, Int.reduceBEq, Int.reduceBNe, reduceCtorEq]
 rw [kb (jQ g4 (jQ g3 (jQ g2 g1)))]
 exact ⟨_, rfl, jN (jQ g4 (jQ g3 (jQ g2 g1)))⟩
set_option maxRecDepth 20000 in
theorem jeX (H : FTab F) (hq : σ[q]? = some (.cells (LC 0 0 f tx at' ln er))) : ∃ wr, cfw F (.f 75) [.ptr q 0, .fn (.func 58) [] [.pv true [.ptr q 0] 0]] σ = some ⟨false, .tup [], σ.set q (.cells (LC 1 0 (Ve f) tx at' ln er)), wr⟩ /\ Fl wr := by
 rw [cfw_of jfg H.h75, jw]
 obtain ⟨w1, u1, g1⟩ := jeq H.h85 H.h96 hq
 have u2 := jbH H.h74 (gs hq (y := .cells (LC 0 1 f tx at' ln er)))
 obtain ⟨w3, u3, g3⟩ := jfV H (gs hq (y := .cells (LC 0 1 f tx at' ln er)))
 obtain ⟨w5, u5, g5⟩ := jf1 H.h97 (gs hq (y := .cells (LC 1 1 (Ve f) tx at' ln er)))
 have u4 := fun σ => b99 H.h99 (σ := σ)
 have b0 : ((0 : Int) != 0) = false := rfl
 have hs := gs hq (y := .cells (LC 0 1 (Ve f) tx at' ln er))
 simp only [r7, b0] at u2 u3 u5
 simp only [jfg, jcj, Yr, yf, Ju, zo, jck, dTs, u1, u2, u3, u4, u5, hs, jO, r7, take_set, nr3_fn, jA, Option.toList, jq, nat, j6, j5, jr, lc0, lc1, jE, jF, jG, jH, j7, j8, ju, jt, jv, zV, zS, jC, jS, jc, jh, jX, je, jl, jd, jx, jU, jj, ji, jp, jR, jy, jw, Ts.fill, jY, jV, jf, jZ, jo, jm, jg, ja, getAll, stepCall, jn, unI, Opd.get, jB, tag, jz, jb, jP, rv, bin, j0, Nat.reduceAdd, Nat.reduceSub, Nat.reduceMul, Nat.reduceDiv, Nat.reduceMod, Nat.reducePow, Nat.reduceLT, Nat.reduceLeDiff, Nat.reduceEqDiff, Nat.reduceBEq, Nat.reduceBNe, reduceIte, Int.reduceEq, Int.reduceLT, Int.reduceLE, Int.reduceNeg, Int.reduceToNat, Int.reduceMul, Int.reduceAdd, Int.reduceSub, Int.reduceBEq, Int.reduceBNe, reduceCtorEq]
 have fa : Fl (w5 ++ ((q, false) :: (w3 ++ w1))) := jQ g5 (by simpa using jQ g3 g1)
 rw [kb fa]
 exact ⟨_, rfl, jN fa⟩
theorem jgl (H : FTab F) (hd : d = 0 \/ d = 1) (hq : σ[q]? = some (.cells (LC d 0 f tx at' ln er))) : ∃ wr, cfw F (.f 57) [.ptr q 0, .fn (.func 58) [] [.pv true [.ptr q 0] 0]] σ = some ⟨false, .tup [], σ.set q (.cells (LC 1 0 (if d = 0 then Ve f else f) tx at' ln er)), wr⟩ /\ Fl wr := by
 rw [cfw_of jed H.h57, jw]
 have u2 := jbH H.h74 hq
 rcases hd with rfl | rfl
 . obtain ⟨w3, u3, g3⟩ := jeX H hq
   have b0 : ((0 : Int) != 0) = false := rfl
   rw [b0] at u2
   simp only [jed, u2, u3, take_set, kb g3, jA, Option.toList, jq, nat, j6, jO, j5, jr, lc0, lc1, jE, jF, jG, jH, j7, j8, ju, jt, jv, zV, zS, jC, jS, jc, jh, jX, je, jl, jd, jx, jU, jj, ji, jp, jR, jy, jw, Ts.fill, jY, jV, jf, jZ, jo, jm, jg, ja, getAll, stepCall, jn, unI, Opd.get, jB, tag, jz, jb, jP, rv, bin, j0, Nat.reduceAdd, Nat.reduceSub, Nat.reduceMul, Nat.reduceDiv, Nat.reduceMod, Nat.reducePow, Nat.reduceLT, Nat.reduceLeDiff, Nat.reduceEqDiff, Nat.reduceBEq, Nat.reduceBNe, reduceIte, Int.reduceEq, Int.reduceLT, Int.reduceLE, Int.reduceNeg, Int.reduceToNat, Int.reduceMul, Int.reduceAdd, Int.reduceSub, Int.reduceBEq, Int.reduceBNe, reduceCtorEq]
   exact ⟨_, rfl, jN g3⟩
 . have b0 : ((1 : Int) != 0) = true := rfl
   have b1 : (1 : Int) ≠ 0 := by decide
   rw [b0] at u2
   simp only [jed, u2, b1, take_set, jA, Option.toList, jq, nat, j6, jO, j5, jr, lc0, lc1, jE, jF, jG, jH, j7, j8, ju, jt, jv, zV, zS, jC, jS, jc, jh, jX, je, jl, jd, jx, jU, jj, ji, jp, jR, jy, jw, Ts.fill, jY, jV, jf, jZ, jo, jm, jg, ja, getAll, stepCall, jn, unI, Opd.get, jB, tag, jz, jb, jP, rv, bin, j0, Nat.reduceAdd, Nat.reduceSub, Nat.reduceMul, Nat.reduceDiv, Nat.reduceMod, Nat.reducePow, Nat.reduceLT, Nat.reduceLeDiff, Nat.reduceEqDiff, Nat.reduceBEq, Nat.reduceBNe, reduceIte, Int.reduceEq, Int.reduceLT, Int.reduceLE, Int.reduceNeg, Int.reduceToNat, Int.reduceMul, Int.reduceAdd, Int.reduceSub, Int.reduceBEq, Int.reduceBNe, reduceCtorEq]
   rw [vt hq]
   exact ⟨_, rfl, rfl⟩
end
end Go.Idl.Lx
