/- SnapPlays: what the ideal machine makes of its functions, part W; no conditions. -/
import Derived.Test.YtpbpcdhhclnodaaDoorSpA
set_option linter.unusedSectionVars false
set_option linter.unusedVariables false
set_option linter.unusedSimpArgs false
namespace Go.Idl.Sp
open Go Go.Idl
/- plover/ploverlaw28.works -/
def jdT : ICode := (.seq (.seq (.ops [⟨(some 16), .mv (.t 2), none⟩, ⟨(some 17), .bin .lss (.m 16) (.c (.int .i64 10)), none⟩])
 (.cond (.t 17) .skip (.exit 0)))
 (.seq (.block 1 (.seq (.ops [⟨(some 20), .mv (.t 1), none⟩, ⟨(some 21), .mv (.t 2), none⟩, ⟨(some 22), .mv (.t 2), none⟩, ⟨(some 23), .bin .mul (.c (.int .i64 3)) (.m 22), none⟩, ⟨(some 24), .conv (.int .u64) (.m 23), none⟩, ⟨(some 25), .build Z55 [(52, 1, (.m 21)), (50, 1, (.m 24))], none⟩, ⟨(some 26), .call 8 [(.m 20), (.m 25)], none⟩, ⟨(some 27), .mv (.t 2), none⟩, ⟨(some 28), .bin .rem (.m 27) (.c (.int .i64 4)), none⟩, ⟨(some 29), .bin .eql (.m 28) (.c (.int .i64 0)), none⟩, ⟨(some 30), .eqb true (.m 26) (.m 29), none⟩])
 (.cond (.t 30) (.seq (.ops [⟨(some 0), .mv (.c (.bool false)), none⟩])
 .ret) .skip)))
 (.ops [⟨(some 18), .mv (.m 2), none⟩, ⟨(some 19), .bin .add (.m 18) (.c (.int .i64 1)), none⟩, ⟨(some 2), .mv (.m 19), none⟩])))
def jg5 : IFunc := ⟨93, 13, 36, 6, (.seq (.ops [⟨(some 0), .mv (.c (.bool false)), none⟩])
 (.seq (.ops [⟨(some 13), .call 4 [(.c (.int .i64 4))], none⟩, ⟨(some 1), .mv (.m 13), none⟩])
 (.seq (.seq (.ops [⟨(some 14), .mv (.t 1), none⟩, ⟨(some 15), .isnil false 0 (.m 14), none⟩])
 (.cond (.t 15) (.seq (.ops [⟨(some 0), .mv (.c (.bool false)), none⟩])
 .ret) .skip))
 (.seq (.seq (.ops [⟨(some 2), .mv (.c (.int .i64 0)), none⟩])
 (.block 0 (.loop jdT)))
 (.seq (.ops [⟨(some 32), .mv (.t 1), none⟩, ⟨(some 33), .call 11 [(.m 32), (.c (.int .i64 7))], none⟩, ⟨(some 31), .mv (.m 33), none⟩, ⟨(some 34), .extract (.m 31) 0, none⟩, ⟨(some 35), .extract (.m 31) 1, none⟩, ⟨(some 3), .alloc Z55, none⟩, ⟨none, .store 55 (.m 3) (.m 34), none⟩, ⟨(some 4), .mv (.m 35), none⟩])
 (.seq (.ops [⟨(some 37), .mv (.t 1), none⟩, ⟨(some 38), .call 11 [(.m 37), (.c (.int .i64 8))], none⟩, ⟨(some 36), .mv (.m 38), none⟩, ⟨(some 39), .extract (.m 36) 0, none⟩, ⟨(some 40), .extract (.m 36) 1, none⟩, ⟨(some 5), .alloc Z55, none⟩, ⟨none, .store 55 (.m 5) (.m 39), none⟩, ⟨(some 6), .mv (.m 40), none⟩])
 (.seq (.ops [⟨(some 42), .mv (.t 1), none⟩, ⟨(some 43), .call 11 [(.m 42), (.c (.int .i64 (-1)))], none⟩, ⟨(some 41), .mv (.m 43), none⟩, ⟨(some 44), .extract (.m 41) 0, none⟩, ⟨(some 45), .extract (.m 41) 1, none⟩, ⟨(some 7), .alloc Z55, none⟩, ⟨none, .store 55 (.m 7) (.m 44), none⟩, ⟨(some 8), .mv (.m 45), none⟩])
 (.seq (.ops [⟨(some 47), .mv (.t 1), none⟩, ⟨(some 48), .call 13 [(.m 47), (.c (.int .u64 13))], none⟩, ⟨(some 46), .mv (.m 48), none⟩, ⟨(some 49), .extract (.m 46) 0, none⟩, ⟨(some 50), .extract (.m 46) 1, none⟩, ⟨(some 9), .alloc Z55, none⟩, ⟨none, .store 55 (.m 9) (.m 49), none⟩, ⟨(some 10), .mv (.m 50), none⟩])
 (.seq (.ops [⟨(some 51), .mv (.t 1), none⟩, ⟨(some 52), .call 6 [(.m 51), (.c (.int .i64 5))], none⟩])
 (.seq (.ops [⟨(some 54), .call 27 [(.c (.str []))], none⟩, ⟨(some 53), .mv (.m 54), none⟩, ⟨(some 55), .extract (.m 53) 0, none⟩, ⟨(some 56), .extract (.m 53) 1, none⟩, ⟨(some 11), .alloc Z55, none⟩, ⟨none, .store 55 (.m 11) (.m 55), none⟩, ⟨(some 12), .mv (.m 56), none⟩])
 (.seq (.ops [⟨(some 57), .mv (.m 4), none⟩, ⟨(some 58), .mv (.m 57), none⟩, ⟨(some 59), .fieldAddr 52 (.t 3), some (58, true)⟩, ⟨(some 60), .load false none (.t 59), some (58, true)⟩, ⟨(some 61), .bin .eql (.t 60) (.c (.int .i64 4)), some (58, true)⟩, ⟨(some 62), .pick (.m 58) (.t 61) (.c (.bool false)), none⟩, ⟨(some 63), .mv (.m 62), none⟩, ⟨(some 64), .mv (.t 6), some (63, true)⟩, ⟨(some 65), .pick (.m 63) (.t 64) (.c (.bool false)), none⟩, ⟨(some 66), .mv (.m 65), none⟩, ⟨(some 67), .fieldAddr 52 (.t 5), some (66, true)⟩, ⟨(some 68), .load false none (.t 67), some (66, true)⟩, ⟨(some 69), .bin .eql (.t 68) (.c (.int .i64 8)), some (66, true)⟩, ⟨(some 70), .pick (.m 66) (.t 69) (.c (.bool false)), none⟩, ⟨(some 71), .mv (.m 70), none⟩, ⟨(some 72), .mv (.t 8), some (71, true)⟩, ⟨(some 73), .un .not (.t 72), some (71, true)⟩, ⟨(some 74), .pick (.m 71) (.t 73) (.c (.bool false)), none⟩, ⟨(some 75), .mv (.m 74), none⟩, ⟨(some 76), .mv (.t 10), some (75, true)⟩, ⟨(some 77), .pick (.m 75) (.t 76) (.c (.bool false)), none⟩, ⟨(some 78), .mv (.m 77), none⟩, ⟨(some 79), .fieldAddr 52 (.t 9), some (78, true)⟩, ⟨(some 80), .load false none (.t 79), some (78, true)⟩, ⟨(some 81), .bin .eql (.t 80) (.c (.int .i64 4)), some (78, true)⟩, ⟨(some 82), .pick (.m 78) (.t 81) (.c (.bool false)), none⟩, ⟨(some 83), .mv (.m 82), none⟩, ⟨(some 84), .mv (.t 1), some (83, true)⟩, ⟨(some 85), .call 16 [(.t 84)], some (83, true)⟩, ⟨(some 86), .bin .eql (.t 85) (.c (.int .i64 2)), some (83, true)⟩, ⟨(some 87), .pick (.m 83) (.t 86) (.c (.bool false)), none⟩, ⟨(some 88), .mv (.m 87), none⟩, ⟨(some 89), .mv (.t 12), some (88, true)⟩, ⟨(some 90), .build [(.int .i64 0), (.int .i64 0)] [(0, 1, (.c (.int .i64 3)))], some (88, true)⟩, ⟨(some 91), .call 28 [(.t 89), (.t 90)], some (88, true)⟩, ⟨(some 92), .pick (.m 88) (.t 91) (.c (.bool false)), none⟩, ⟨(some 0), .mv (.m 92), none⟩])
 .ret))))))))))), [.t 0]⟩
/- plover/snap.Decode -/
def jg6 : IFunc := ⟨20, 7, 4, 4, (.seq (.ops [⟨(some 2), .alloc Z55, none⟩, ⟨(some 3), .mv (.c (.prim .nilIface)), none⟩])
 (.seq (.ops [⟨(some 7), .mv (.t 0), none⟩, ⟨(some 8), .call 33 [(.m 7)], none⟩, ⟨(some 4), .mv (.m 8), none⟩])
 (.seq (.ops [⟨(some 5), .alloc Z55, none⟩])
 (.seq (.ops [⟨(some 9), .mv (.t 4), none⟩, ⟨(some 10), .build [(.prim (.pointer none))] [(0, 1, (.m 9))], none⟩, ⟨(some 11), .mkIface 109 (.m 10), none⟩, ⟨(some 12), .call 34 [(.m 11), (.t 5)], none⟩])
 (.seq (.seq (.ops [⟨(some 13), .mv (.t 4), none⟩, ⟨(some 14), .call 35 [(.m 13)], none⟩, ⟨(some 6), .mv (.m 14), none⟩])
 (.seq (.ops [⟨(some 15), .mv (.t 6), none⟩, ⟨(some 16), .isnil true 1 (.m 15), none⟩])
 (.cond (.t 16) (.seq (.ops [⟨(some 17), .build Z55 [], none⟩, ⟨(some 18), .mv (.m 6), none⟩, ⟨none, .store 55 (.m 2) (.m 17), none⟩, ⟨(some 3), .mv (.m 18), none⟩])
 .ret) .skip)))
 (.seq (.ops [⟨(some 19), .load true (some 55) (.m 5), none⟩, ⟨none, .store 55 (.m 2) (.m 19), none⟩, ⟨(some 3), .mv (.c (.prim .nilIface)), none⟩])
 .ret)))))), [.cell 2 (some 55), .t 3]⟩
/- plover/ploverlaw28.told -/
def jg7 : IFunc := ⟨28, 6, 17, 5, (.seq (.ops [⟨(some 3), .boxv (.t 1), none⟩, ⟨(some 4), .mv (.c (.bool false)), none⟩])
 (.seq (.seq (.ops [⟨(some 6), .fieldAddr 0 (.t 3), none⟩, ⟨(some 7), .load false none (.m 6), none⟩, ⟨(some 8), .bin .eql (.m 7) (.c (.int .i64 0)), none⟩])
 (.cond (.t 8) (.seq (.ops [⟨(some 9), .mv (.m 0), none⟩, ⟨(some 10), .isnil false 1 (.m 9), none⟩, ⟨(some 4), .mv (.m 10), none⟩])
 .ret) .skip))
 (.seq (.ops [⟨(some 5), .alloc [(.prim (.pointer none))], none⟩])
 (.seq (.draw [(0, ⟨(some 11), .mv (.m 0), none⟩), (1, ⟨(some 12), .mkIface 114 (.m 5), none⟩), (2, ⟨(some 13), .call 36 [(.m 11), (.m 12)], none⟩), (3, ⟨(some 14), .mv (.m 13), none⟩), (4, ⟨(some 15), .load false none (.t 5), some (14, true)⟩), (5, ⟨(some 16), .nilCheck (.t 15), some (14, true)⟩), (6, ⟨(some 17), .load false (some 2) (.t 16), some (14, true)⟩), (7, ⟨(some 18), .load false (some 2) (.t 3), some (14, true)⟩), (8, ⟨(some 19), .pur (.eqa false [0, 0]) [(.t 17), (.t 18)], some (14, true)⟩), (9, ⟨(some 20), .pick (.m 14) (.t 19) (.c (.bool false)), none⟩), (10, ⟨(some 21), .mv (.m 20), none⟩), (11, ⟨(some 22), .mv (.t 0), some (21, true)⟩), (12, ⟨(some 23), .fieldAddr 0 (.t 3), some (21, true)⟩), (13, ⟨(some 24), .load false none (.t 23), some (21, true)⟩), (14, ⟨(some 25), .mkIface 94 (.t 24), some (21, true)⟩), (15, ⟨(some 26), .call 37 [(.t 22), (.t 25)], some (21, true)⟩), (16, ⟨(some 27), .pick (.m 21) (.t 26) (.c (.bool false)), none⟩), (17, ⟨(some 4), .mv (.m 27), none⟩)] [])
 .ret)))), [.t 4]⟩
/- plover/wire.New -/
def jg8 : IFunc := ⟨6, 3, 3, 3, (.seq (.ops [⟨(some 2), .mv (.c (.prim (.pointer none))), none⟩])
 (.seq (.ops [⟨(some 3), .mv (.m 0), none⟩, ⟨(some 4), .build [(.str []), (.int .i64 0), (.prim .nilIface)] [(0, 1, (.m 3))], none⟩, ⟨(some 5), .box (.m 4), none⟩, ⟨(some 2), .mv (.m 5), none⟩])
 .ret)), [.t 2]⟩
/- plover/snap.state -/
def jdU : ICode := (.seq (.ops [⟨(some 27), .bin .lss (.t 26) (.c (.int .i64 8)), none⟩])
 (.seq (.cond (.t 27) .skip (.exit 0))
 (.seq (.block 1 (.seq (.ops [⟨(some 28), .mv (.t 26), none⟩, ⟨(some 4), .mv (.m 28), none⟩])
 (.ops [⟨(some 29), .mv (.t 0), none⟩, ⟨(some 30), .mv (.t 1), none⟩, ⟨(some 31), .mv (.t 4), none⟩, ⟨(some 32), .nilCheck (.m 30), none⟩, ⟨(some 33), .fieldAddr 5 (.m 32), none⟩, ⟨(some 34), .idxAddrA 8 1 (.t 33) (.m 31), none⟩, ⟨(some 35), .call 40 [(.m 29), (.m 34)], none⟩])))
 (.ops [⟨(some 36), .bin .add (.m 26) (.c (.int .i64 1)), none⟩, ⟨(some 26), .mv (.m 36), none⟩]))))
def jg9 : IFunc := ⟨171, 27, 18, 6, (.seq (.draw [(0, ⟨(some 6), .mv (.t 0), none⟩), (1, ⟨(some 7), .mv (.t 1), none⟩), (2, ⟨(some 8), .nilCheck (.m 7), none⟩), (3, ⟨(some 9), .fieldAddr 0 (.m 8), none⟩), (4, ⟨(some 10), .mv (.t 1), none⟩), (5, ⟨(some 11), .nilCheck (.m 10), none⟩), (6, ⟨(some 12), .fieldAddr 1 (.m 11), none⟩), (7, ⟨(some 13), .mv (.t 1), none⟩), (8, ⟨(some 14), .nilCheck (.m 13), none⟩), (9, ⟨(some 15), .fieldAddr 2 (.m 14), none⟩), (10, ⟨(some 16), .mv (.t 1), none⟩), (11, ⟨(some 17), .nilCheck (.m 16), none⟩), (12, ⟨(some 18), .fieldAddr 3 (.m 17), none⟩), (13, ⟨(some 19), .buildSl 1 [(.m 9), (.m 12), (.m 15), (.m 18)], none⟩), (14, ⟨(some 20), .call 39 [(.m 6), (.m 19)], none⟩)] [])
 (.seq (.ops [⟨(some 21), .mv (.t 0), none⟩, ⟨(some 22), .mv (.t 1), none⟩, ⟨(some 23), .nilCheck (.m 22), none⟩, ⟨(some 24), .fieldAddr 4 (.m 23), none⟩, ⟨(some 25), .call 40 [(.m 21), (.m 24)], none⟩])
 (.seq (.seq (.ops [⟨(some 26), .mv (.c (.int .i64 0)), none⟩])
 (.block 0 (.loop jdU)))
 (.seq (.ops [⟨(some 37), .mv (.t 0), none⟩, ⟨(some 38), .mv (.t 1), none⟩, ⟨(some 39), .nilCheck (.m 38), none⟩, ⟨(some 40), .fieldAddr 13 (.m 39), none⟩, ⟨(some 41), .call 41 [(.m 37), (.m 40), (.c (.int .i64 512)), (.c (.fn (.func 40) [] []))], none⟩])
 (.seq (.ops [⟨(some 42), .mv (.t 0), none⟩, ⟨(some 43), .mv (.t 1), none⟩, ⟨(some 44), .nilCheck (.m 43), none⟩, ⟨(some 45), .fieldAddr 14 (.m 44), none⟩, ⟨(some 46), .call 41 [(.m 42), (.m 45), (.c (.int .i64 8000)), (.c (.fn (.func 40) [] []))], none⟩])
 (.seq (.ops [⟨(some 47), .mv (.t 0), none⟩, ⟨(some 48), .mv (.t 1), none⟩, ⟨(some 49), .nilCheck (.m 48), none⟩, ⟨(some 50), .fieldAddr 15 (.m 49), none⟩, ⟨(some 51), .buildSl 1 [(.m 50)], none⟩, ⟨(some 52), .call 39 [(.m 47), (.m 51)], none⟩])
 (.seq (.ops [⟨(some 53), .mv (.t 0), none⟩, ⟨(some 54), .mv (.t 1), none⟩, ⟨(some 55), .nilCheck (.m 54), none⟩, ⟨(some 56), .fieldAddr 16 (.m 55), none⟩, ⟨(some 57), .call 42 [(.m 53), (.m 56), (.c (.int .i64 8)), (.c (.fn (.func 43) [] []))], none⟩])
 (.seq (.ops [⟨(some 58), .mv (.t 1), none⟩, ⟨(some 59), .nilCheck (.m 58), none⟩, ⟨(some 60), .fieldAddr 17 (.m 59), none⟩, ⟨(some 5), .mv (.m 60), none⟩])
 (.seq (.draw [(0, ⟨(some 61), .mv (.t 0), none⟩), (1, ⟨(some 62), .mv (.t 5), none⟩), (2, ⟨(some 63), .nilCheck (.m 62), none⟩), (3, ⟨(some 64), .fieldAddr 0 (.m 63), none⟩), (4, ⟨(some 65), .fieldAddr 0 (.m 64), none⟩), (5, ⟨(some 66), .mv (.t 5), none⟩), (6, ⟨(some 67), .nilCheck (.m 66), none⟩), (7, ⟨(some 68), .fieldAddr 0 (.m 67), none⟩), (8, ⟨(some 69), .fieldAddr 1 (.m 68), none⟩), (9, ⟨(some 70), .mv (.t 5), none⟩), (10, ⟨(some 71), .nilCheck (.m 70), none⟩), (11, ⟨(some 72), .fieldAddr 0 (.m 71), none⟩), (12, ⟨(some 73), .fieldAddr 2 (.m 72), none⟩), (13, ⟨(some 74), .buildSl 1 [(.m 65), (.m 69), (.m 73)], none⟩), (14, ⟨(some 75), .pur (.mkM "plover/snap.bytes") [(.m 61)], none⟩), (15, ⟨(some 76), .pur (.nilM [109] "plover/snap.bytes") [(.t 75)], none⟩), (16, ⟨(some 77), .mv (.m 61), none⟩), (17, ⟨(some 78), .inv [(109, 77, .same)] (.m 77) [(.m 74)], none⟩)] [])
 (.seq (.ops [⟨(some 79), .mv (.t 0), none⟩, ⟨(some 80), .mv (.t 5), none⟩, ⟨(some 81), .nilCheck (.m 80), none⟩, ⟨(some 82), .fieldAddr 3 (.m 81), none⟩, ⟨(some 83), .fieldAddr 0 (.m 82), none⟩, ⟨(some 84), .call 44 [(.m 79), (.m 83)], none⟩])
 (.seq (.ops [⟨(some 85), .mv (.t 0), none⟩, ⟨(some 86), .mv (.t 5), none⟩, ⟨(some 87), .nilCheck (.m 86), none⟩, ⟨(some 88), .fieldAddr 3 (.m 87), none⟩, ⟨(some 89), .fieldAddr 9 (.m 88), none⟩, ⟨(some 90), .call 44 [(.m 85), (.m 89)], none⟩])
 (.seq (.draw [(0, ⟨(some 91), .mv (.t 0), none⟩), (1, ⟨(some 92), .mv (.t 5), none⟩), (2, ⟨(some 93), .nilCheck (.m 92), none⟩), (3, ⟨(some 94), .fieldAddr 3 (.m 93), none⟩), (4, ⟨(some 95), .fieldAddr 18 (.m 94), none⟩), (5, ⟨(some 96), .pur (.mkM "plover/snap.truth") [(.m 91)], none⟩), (6, ⟨(some 97), .pur (.nilM [109] "plover/snap.truth") [(.t 96)], none⟩), (7, ⟨(some 98), .mv (.m 91), none⟩), (8, ⟨(some 99), .inv [(109, 79, .same)] (.m 98) [(.m 95)], none⟩)] [])
 (.seq (.draw [(0, ⟨(some 100), .mv (.t 0), none⟩), (1, ⟨(some 101), .mv (.t 5), none⟩), (2, ⟨(some 102), .nilCheck (.m 101), none⟩), (3, ⟨(some 103), .fieldAddr 3 (.m 102), none⟩), (4, ⟨(some 104), .fieldAddr 19 (.m 103), none⟩), (5, ⟨(some 105), .mv (.t 5), none⟩), (6, ⟨(some 106), .nilCheck (.m 105), none⟩), (7, ⟨(some 107), .fieldAddr 3 (.m 106), none⟩), (8, ⟨(some 108), .fieldAddr 20 (.m 107), none⟩), (9, ⟨(some 109), .buildSl 1 [(.m 104), (.m 108)], none⟩), (10, ⟨(some 110), .pur (.mkM "plover/snap.bytes") [(.m 100)], none⟩), (11, ⟨(some 111), .pur (.nilM [109] "plover/snap.bytes") [(.t 110)], none⟩), (12, ⟨(some 112), .mv (.m 100), none⟩), (13, ⟨(some 113), .inv [(109, 77, .same)] (.m 112) [(.m 109)], none⟩)] [])
 (.seq (.ops [⟨(some 114), .mv (.t 0), none⟩, ⟨(some 115), .mv (.t 5), none⟩, ⟨(some 116), .nilCheck (.m 115), none⟩, ⟨(some 117), .fieldAddr 24 (.m 116), none⟩, ⟨(some 118), .idxAddrA 2 3 (.t 117) (.c (.int .i64 0)), none⟩, ⟨(some 119), .call 45 [(.m 114), (.m 118)], none⟩])
 (.seq (.ops [⟨(some 120), .mv (.t 0), none⟩, ⟨(some 121), .mv (.t 5), none⟩, ⟨(some 122), .nilCheck (.m 121), none⟩, ⟨(some 123), .fieldAddr 24 (.m 122), none⟩, ⟨(some 124), .idxAddrA 2 3 (.t 123) (.c (.int .i64 1)), none⟩, ⟨(some 125), .call 45 [(.m 120), (.m 124)], none⟩])
 (.seq (.draw [(0, ⟨(some 126), .mv (.t 0), none⟩), (1, ⟨(some 127), .mv (.t 5), none⟩), (2, ⟨(some 128), .nilCheck (.m 127), none⟩), (3, ⟨(some 129), .fieldAddr 30 (.m 128), none⟩), (4, ⟨(some 130), .fieldAddr 0 (.m 129), none⟩), (5, ⟨(some 131), .mv (.t 5), none⟩), (6, ⟨(some 132), .nilCheck (.m 131), none⟩), (7, ⟨(some 133), .fieldAddr 30 (.m 132), none⟩), (8, ⟨(some 134), .fieldAddr 1 (.m 133), none⟩), (9, ⟨(some 135), .mv (.t 1), none⟩), (10, ⟨(some 136), .nilCheck (.m 135), none⟩), (11, ⟨(some 137), .fieldAddr 49 (.m 136), none⟩), (12, ⟨(some 138), .buildSl 1 [(.m 130), (.m 134), (.m 137)], none⟩), (13, ⟨(some 139), .pur (.mkM "plover/snap.bytes") [(.m 126)], none⟩), (14, ⟨(some 140), .pur (.nilM [109] "plover/snap.bytes") [(.t 139)], none⟩), (15, ⟨(some 141), .mv (.m 126), none⟩), (16, ⟨(some 142), .inv [(109, 77, .same)] (.m 141) [(.m 138)], none⟩)] [])
 (.seq (.draw [(0, ⟨(some 143), .mv (.t 0), none⟩), (1, ⟨(some 144), .mv (.t 1), none⟩), (2, ⟨(some 145), .nilCheck (.m 144), none⟩), (3, ⟨(some 146), .fieldAddr 50 (.m 145), none⟩), (4, ⟨(some 147), .pur (.mkM "plover/snap.number") [(.m 143)], none⟩), (5, ⟨(some 148), .pur (.nilM [109] "plover/snap.number") [(.t 147)], none⟩), (6, ⟨(some 149), .mv (.m 143), none⟩), (7, ⟨(some 150), .inv [(109, 78, .same)] (.m 149) [(.m 146), (.c (.int .u64 1152921504606846975))], none⟩)] [])
 (.seq (.draw [(0, ⟨(some 151), .mv (.t 0), none⟩), (1, ⟨(some 152), .mv (.t 1), none⟩), (2, ⟨(some 153), .nilCheck (.m 152), none⟩), (3, ⟨(some 154), .fieldAddr 51 (.m 153), none⟩), (4, ⟨(some 155), .pur (.mkM "plover/snap.number") [(.m 151)], none⟩), (5, ⟨(some 156), .pur (.nilM [109] "plover/snap.number") [(.t 155)], none⟩), (6, ⟨(some 157), .mv (.m 151), none⟩), (7, ⟨(some 158), .inv [(109, 78, .same)] (.m 157) [(.m 154), (.c (.int .u64 1152921504606846975))], none⟩)] [])
 (.draw [(0, ⟨(some 159), .mv (.t 0), none⟩), (1, ⟨(some 160), .mv (.t 1), none⟩), (2, ⟨(some 161), .nilCheck (.m 160), none⟩), (3, ⟨(some 162), .fieldAddr 52 (.m 161), none⟩), (4, ⟨(some 163), .mv (.t 1), none⟩), (5, ⟨(some 164), .nilCheck (.m 163), none⟩), (6, ⟨(some 165), .fieldAddr 53 (.m 164), none⟩), (7, ⟨(some 166), .mv (.t 1), none⟩), (8, ⟨(some 167), .nilCheck (.m 166), none⟩), (9, ⟨(some 168), .fieldAddr 54 (.m 167), none⟩), (10, ⟨(some 169), .buildSl 1 [(.m 162), (.m 165), (.m 168)], none⟩), (11, ⟨(some 170), .call 39 [(.m 159), (.m 169)], none⟩)] []))))))))))))))))))), []⟩
/- (*plover/wire.In).End -/
def jha : IFunc := ⟨20, 3, 8, 4, (.seq (.ops [⟨(some 2), .mv (.c (.prim .nilIface)), none⟩])
 (.seq (.seq (.ops [⟨(some 3), .mv (.t 0), none⟩, ⟨(some 4), .call 46 [(.m 3)], none⟩, ⟨(some 5), .un .not (.m 4), none⟩, ⟨(some 6), .mv (.m 5), none⟩, ⟨(some 7), .mv (.t 0), some (6, true)⟩, ⟨(some 8), .call 47 [(.t 7)], some (6, true)⟩, ⟨(some 9), .bin .gtr (.t 8) (.c (.int .i64 0)), some (6, true)⟩, ⟨(some 10), .pick (.m 6) (.t 9) (.c (.bool false)), none⟩])
 (.cond (.t 10) (.seq (.ops [⟨(some 11), .mv (.m 0), none⟩, ⟨(some 12), .nilCheck (.m 11), none⟩, ⟨(some 13), .fieldAddr 1 (.m 12), none⟩, ⟨(some 14), .load false none (.m 13), none⟩, ⟨(some 15), .build [(.int .i64 0), (.int .i64 0)] [(0, 1, (.c (.int .i64 4))), (1, 1, (.m 14))], none⟩, ⟨(some 16), .boxv (.m 15), none⟩, ⟨(some 17), .mkIface 112 (.m 16), none⟩, ⟨(some 2), .mv (.m 17), none⟩])
 .ret) .skip))
 (.seq (.ops [⟨(some 18), .mv (.m 0), none⟩, ⟨(some 19), .call 48 [(.m 18)], none⟩, ⟨(some 2), .mv (.m 19), none⟩])
 .ret))), [.t 2]⟩
/- errors.As -/
def jhb : IFunc := ⟨42, 8, 9, 5, (.seq (.ops [⟨(some 4), .mv (.c (.bool false)), none⟩])
 (.seq (.seq (.ops [⟨(some 8), .mv (.t 0), none⟩, ⟨(some 9), .isnil false 1 (.m 8), none⟩])
 (.cond (.t 9) (.seq (.ops [⟨(some 4), .mv (.c (.bool false)), none⟩])
 .ret) .skip))
 (.seq (.seq (.ops [⟨(some 10), .mv (.t 1), none⟩, ⟨(some 11), .isnil false 1 (.m 10), none⟩])
 (.cond (.t 11) (.ops [⟨(some 12), .mkIface 9 (.c (.str [101, 114, 114, 111, 114, 115, 58, 32, 116, 97, 114, 103, 101, 116, 32, 99, 97, 110, 110, 111, 116, 32, 98, 101, 32, 110, 105, 108])), none⟩, ⟨none, .panic (.m 12), none⟩]) .skip))
 (.seq (.ops [⟨(some 13), .mv (.t 1), none⟩, ⟨(some 14), .vOf 1 [(8, 25), (10, 24), (11, 24), (14, 25), (15, 22), (16, 22), (19, 25), (94, 2), (112, 22), (164, 22), (90, 20), (114, 22), (163, 25), (24, 22), (26, 22), (65, 25), (105, 22), (108, 25), (109, 25)] (.m 13), none⟩, ⟨(some 5), .alloc [(.prim (.pointer none)), (.prim (.pointer none)), (.int .u64 0)], none⟩, ⟨none, .store 3 (.m 5) (.m 14), none⟩])
 (.seq (.ops [⟨(some 15), .load false (some 3) (.t 5), none⟩, ⟨(some 16), .pur (.ext (.vType 163 1)) [(.m 15)], none⟩, ⟨(some 6), .mv (.m 16), none⟩])
 (.seq (.seq (.ops [⟨(some 17), .mv (.t 6), none⟩, ⟨(some 18), .pur (.invX [(163, (.aKind 1 [(8, 25), (10, 24), (11, 24), (14, 25), (15, 22), (16, 22), (19, 25), (94, 2), (112, 22), (164, 22), (90, 20), (114, 22), (163, 25), (24, 22), (26, 22), (65, 25), (105, 22), (108, 25), (109, 25)]), (.fld 0 none))]) [(.m 17)], none⟩, ⟨(some 19), .bin .neq (.m 18) (.c (.int .u8 22)), none⟩, ⟨(some 20), .mv (.m 19), none⟩, ⟨(some 21), .load false (some 3) (.t 5), some (20, false)⟩, ⟨(some 22), .pur (.ext (.vIsNil 1 [10, 11, 15, 16, 94, 112, 164, 90, 114, 24, 26, 105])) [(.t 21)], some (20, false)⟩, ⟨(some 23), .pick (.m 20) (.c (.bool true)) (.t 22), none⟩])
 (.cond (.t 23) (.ops [⟨(some 24), .mkIface 9 (.c (.str [101, 114, 114, 111, 114, 115, 58, 32, 116, 97, 114, 103, 101, 116, 32, 109, 117, 115, 116, 32, 98, 101, 32, 97, 32, 110, 111, 110, 45, 110, 105, 108, 32, 112, 111, 105, 110, 116, 101, 114])), none⟩, ⟨none, .panic (.m 24), none⟩]) .skip))
 (.seq (.ops [⟨(some 25), .mv (.t 6), none⟩, ⟨(some 26), .pur (.invX [(163, (.rElem 163 1 [(15, 179), (16, 182), (112, 96), (164, 210), (114, 112), (24, 82), (26, 77), (105, 118)]), .same)]) [(.m 25)], none⟩, ⟨(some 7), .mv (.m 26), none⟩])
 (.seq (.seq (.ops [⟨(some 27), .mv (.t 7), none⟩, ⟨(some 28), .pur (.invX [(163, (.aKind 1 [(8, 25), (10, 24), (11, 24), (14, 25), (15, 22), (16, 22), (19, 25), (94, 2), (112, 22), (164, 22), (90, 20), (114, 22), (163, 25), (24, 22), (26, 22), (65, 25), (105, 22), (108, 25), (109, 25)]), (.fld 0 none))]) [(.m 27)], none⟩, ⟨(some 29), .bin .neq (.m 28) (.c (.int .u8 20)), none⟩, ⟨(some 30), .mv (.m 29), none⟩, ⟨(some 31), .mv (.t 7), some (30, true)⟩, ⟨(some 32), .load false none (.c (.pv false [(.iface 163 (.agg [(.prim (.pointer (some ⟨1, 90, none⟩)))]))] 0)), some (30, true)⟩, ⟨(some 33), .pur (.invX [(163, (.rImpl 1 [((8, 90), true), ((10, 90), true), ((11, 90), true), ((14, 90), true), ((15, 90), true), ((16, 90), true), ((19, 90), true), ((94, 90), true), ((112, 90), true), ((164, 90), true), ((114, 90), false), ((163, 90), false), ((24, 90), false), ((26, 90), false), ((65, 90), false), ((105, 90), false), ((108, 90), false), ((109, 90), false)]), .same)]) [(.t 31), (.t 32)], some (30, true)⟩, ⟨(some 34), .un .not (.t 33), some (30, true)⟩, ⟨(some 35), .pick (.m 30) (.t 34) (.c (.bool false)), none⟩])
 (.cond (.t 35) (.ops [⟨(some 36), .mkIface 9 (.c (.str [101, 114, 114, 111, 114, 115, 58, 32, 42, 116, 97, 114, 103, 101, 116, 32, 109, 117, 115, 116, 32, 98, 101, 32, 105, 110, 116, 101, 114, 102, 97, 99, 101, 32, 111, 114, 32, 105, 109, 112, 108, 101, 109, 101, 110, 116, 32, 101, 114, 114, 111, 114])), none⟩, ⟨none, .panic (.m 36), none⟩]) .skip))
 (.seq (.ops [⟨(some 37), .mv (.m 0), none⟩, ⟨(some 38), .mv (.m 1), none⟩, ⟨(some 39), .load false (some 3) (.m 5), none⟩, ⟨(some 40), .mv (.m 7), none⟩, ⟨(some 41), .call 52 [(.m 37), (.m 38), (.m 39), (.m 40)], none⟩, ⟨(some 4), .mv (.m 41), none⟩])
 .ret))))))))), [.t 4]⟩
/- errors.Is -/
def jhc : IFunc := ⟨22, 6, 6, 4, (.seq (.ops [⟨(some 4), .mv (.c (.bool false)), none⟩])
 (.seq (.seq (.ops [⟨(some 6), .mv (.t 0), none⟩, ⟨(some 7), .isnil false 1 (.m 6), none⟩, ⟨(some 8), .mv (.m 7), none⟩, ⟨(some 9), .mv (.t 1), some (8, false)⟩, ⟨(some 10), .isnil false 1 (.t 9), some (8, false)⟩, ⟨(some 11), .pick (.m 8) (.c (.bool true)) (.t 10), none⟩])
 (.cond (.t 11) (.seq (.ops [⟨(some 12), .mv (.m 0), none⟩, ⟨(some 13), .mv (.m 1), none⟩, ⟨(some 14), .pur (.eqi false [(10, 1), (11, 1), (94, 0)]) [(.m 12), (.m 13)], none⟩, ⟨(some 4), .mv (.m 14), none⟩])
 .ret) .skip))
 (.seq (.ops [⟨(some 15), .mv (.t 1), none⟩, ⟨(some 16), .pur (.ext (.typeOf 163 1)) [(.m 15)], none⟩, ⟨(some 17), .pur (.invX [(163, (.rCmp 1 [(8, true), (10, true), (11, true), (14, true), (15, true), (16, true), (19, true), (94, true), (112, true), (164, true), (90, true), (114, true), (163, true), (24, true), (26, true), (65, false), (105, true), (108, true), (109, true)]), .same)]) [(.m 16)], none⟩, ⟨(some 5), .mv (.m 17), none⟩])
 (.seq (.ops [⟨(some 18), .mv (.m 0), none⟩, ⟨(some 19), .mv (.m 1), none⟩, ⟨(some 20), .mv (.m 5), none⟩, ⟨(some 21), .call 54 [(.m 18), (.m 19), (.m 20)], none⟩, ⟨(some 4), .mv (.m 21), none⟩])
 .ret)))), [.t 4]⟩
/- plover/snap.places -/
def jdV : ICode := (.seq (.ops [⟨(some 10), .bin .lss (.t 9) (.t 8), none⟩])
 (.seq (.cond (.t 10) .skip (.exit 0))
 (.seq (.block 1 (.seq (.ops [⟨(some 11), .idxAddr 1 (.t 7) (.t 9), none⟩, ⟨(some 12), .load false none (.m 11), none⟩, ⟨(some 5), .mv (.m 12), none⟩])
 (.seq (.ops [⟨(some 13), .mv (.t 5), none⟩, ⟨(some 14), .nilCheck (.m 13), none⟩, ⟨(some 15), .load false none (.m 14), none⟩, ⟨(some 6), .alloc [(.int .i64 0)], none⟩, ⟨none, .store 1 (.m 6) (.m 15), none⟩])
 (.seq (.ops [⟨(some 16), .mv (.t 0), none⟩, ⟨(some 17), .inv [(109, 80, .same)] (.m 16) [(.t 6), (.c (.int .i64 (-1152921504606846976))), (.c (.int .i64 1152921504606846976))], none⟩])
 (.ops [⟨(some 18), .mv (.t 5), none⟩, ⟨(some 19), .load false none (.t 6), none⟩, ⟨(some 20), .nilCheck (.m 18), none⟩, ⟨none, .store 1 (.m 20) (.m 19), none⟩])))))
 (.ops [⟨(some 21), .bin .add (.m 9) (.c (.int .i64 1)), none⟩, ⟨(some 9), .mv (.m 21), none⟩]))))
def jhd : IFunc := ⟨22, 10, 3, 4, (.seq (.ops [⟨(some 7), .mv (.t 1), none⟩, ⟨(some 8), .lenL (.t 7), none⟩, ⟨(some 9), .mv (.c (.int .i64 0)), none⟩])
 (.block 0 (.loop jdV))), []⟩
/- plover/snap.word -/
def jhe : IFunc := ⟨15, 5, 4, 4, (.seq (.ops [⟨(some 5), .mv (.t 1), none⟩, ⟨(some 6), .nilCheck (.m 5), none⟩, ⟨(some 7), .load false none (.m 6), none⟩, ⟨(some 8), .conv (.int .i64) (.m 7), none⟩, ⟨(some 4), .alloc [(.int .i64 0)], none⟩, ⟨none, .store 1 (.m 4) (.m 8), none⟩])
 (.seq (.ops [⟨(some 9), .mv (.t 0), none⟩, ⟨(some 10), .inv [(109, 80, .same)] (.m 9) [(.t 4), (.c (.int .i64 (-2147483648))), (.c (.int .i64 2147483647))], none⟩])
 (.ops [⟨(some 11), .mv (.t 1), none⟩, ⟨(some 12), .load false none (.t 4), none⟩, ⟨(some 13), .conv (.int .i32) (.m 12), none⟩, ⟨(some 14), .nilCheck (.m 11), none⟩, ⟨none, .store 1 (.m 14) (.m 13), none⟩]))), []⟩
/- plover/snap.list[int32] -/
def jdW : ICode := (.seq (.ops [⟨(some 26), .bin .lss (.t 25) (.t 24), none⟩])
 (.seq (.cond (.t 26) .skip (.exit 0))
 (.seq (.block 1 (.seq (.ops [⟨(some 27), .mv (.t 25), none⟩, ⟨(some 9), .mv (.m 27), none⟩])
 (.seq (.seq (.ops [⟨(some 28), .mv (.t 9), none⟩, ⟨(some 29), .mv (.t 1), none⟩, ⟨(some 30), .nilCheck (.m 29), none⟩, ⟨(some 31), .load false none (.m 30), none⟩, ⟨(some 32), .lenL (.t 31), none⟩, ⟨(some 33), .bin .eql (.m 28) (.m 32), none⟩])
 (.cond (.t 33) (.seq (.ops [⟨(some 10), .mv (.c (.int .i32 0)), none⟩])
 (.ops [⟨(some 34), .mv (.t 1), none⟩, ⟨(some 35), .mv (.t 1), none⟩, ⟨(some 36), .nilCheck (.m 35), none⟩, ⟨(some 37), .load false none (.m 36), none⟩, ⟨(some 38), .mv (.t 10), none⟩, ⟨(some 39), .buildSl 1 [(.m 38)], none⟩, ⟨(some 40), .append true false 1 4 (.m 37) (.m 39), none⟩, ⟨(some 41), .nilCheck (.m 34), none⟩, ⟨none, .store 1 (.m 41) (.m 40), none⟩])) .skip))
 (.ops [⟨(some 42), .mv (.t 3), none⟩, ⟨(some 43), .mv (.t 0), none⟩, ⟨(some 44), .mv (.t 1), none⟩, ⟨(some 45), .nilCheck (.m 44), none⟩, ⟨(some 46), .load false none (.m 45), none⟩, ⟨(some 47), .mv (.t 9), none⟩, ⟨(some 48), .idxAddr 1 (.t 46) (.m 47), none⟩, ⟨(some 49), .callv (.m 42) [(.m 43), (.m 48)], none⟩]))))
 (.ops [⟨(some 50), .bin .add (.m 25) (.c (.int .i64 1)), none⟩, ⟨(some 25), .mv (.m 50), none⟩]))))
def jhf : IFunc := ⟨51, 26, 8, 6, (.seq (.ops [⟨(some 11), .mv (.t 1), none⟩, ⟨(some 12), .nilCheck (.m 11), none⟩, ⟨(some 13), .load false none (.m 12), none⟩, ⟨(some 14), .lenL (.t 13), none⟩, ⟨(some 15), .conv (.int .u64) (.m 14), none⟩, ⟨(some 8), .alloc [(.int .u64 0)], none⟩, ⟨none, .store 1 (.m 8) (.m 15), none⟩])
 (.seq (.ops [⟨(some 16), .mv (.t 0), none⟩, ⟨(some 17), .mv (.t 2), none⟩, ⟨(some 18), .conv (.int .u64) (.m 17), none⟩, ⟨(some 19), .inv [(109, 78, .same)] (.m 16) [(.t 8), (.m 18)], none⟩])
 (.seq (.ops [⟨(some 20), .load false none (.t 8), none⟩, ⟨(some 21), .mv (.t 2), none⟩, ⟨(some 22), .conv (.int .u64) (.m 21), none⟩, ⟨(some 23), .minmax false [(.m 20), (.m 22)], none⟩, ⟨(some 24), .conv (.int .i64) (.m 23), none⟩, ⟨(some 25), .mv (.c (.int .i64 0)), none⟩])
 (.block 0 (.loop jdW))))), []⟩
/- plover/snap.list[plover/api.Ran] -/
def jdX : ICode := (.seq (.ops [⟨(some 26), .bin .lss (.t 25) (.t 24), none⟩])
 (.seq (.cond (.t 26) .skip (.exit 0))
 (.seq (.block 1 (.seq (.ops [⟨(some 27), .mv (.t 25), none⟩, ⟨(some 9), .mv (.m 27), none⟩])
 (.seq (.seq (.ops [⟨(some 28), .mv (.t 9), none⟩, ⟨(some 29), .mv (.t 1), none⟩, ⟨(some 30), .nilCheck (.m 29), none⟩, ⟨(some 31), .load false none (.m 30), none⟩, ⟨(some 32), .lenL (.t 31), none⟩, ⟨(some 33), .bin .eql (.m 28) (.m 32), none⟩])
 (.cond (.t 33) (.seq (.ops [⟨(some 10), .alloc [(.int .i64 0), (.int .i64 0), (.bool false)], none⟩])
 (.draw [(0, ⟨(some 34), .mv (.t 1), none⟩), (1, ⟨(some 35), .mv (.t 1), none⟩), (2, ⟨(some 36), .nilCheck (.m 35), none⟩), (3, ⟨(some 37), .load true none (.m 36), none⟩), (4, ⟨(some 38), .load false (some 3) (.t 10), none⟩), (5, ⟨(some 39), .buildSl 3 [(.m 38)], none⟩), (6, ⟨(some 40), .append false false 3 24 (.m 37) (.m 39), none⟩), (7, ⟨(some 41), .nilCheck (.m 34), none⟩), (8, ⟨none, .store 1 (.m 41) (.m 40), none⟩)] [(4, 3)])) .skip))
 (.ops [⟨(some 42), .mv (.t 3), none⟩, ⟨(some 43), .mv (.t 0), none⟩, ⟨(some 44), .mv (.t 1), none⟩, ⟨(some 45), .nilCheck (.m 44), none⟩, ⟨(some 46), .load false none (.m 45), none⟩, ⟨(some 47), .mv (.t 9), none⟩, ⟨(some 48), .idxAddr 3 (.t 46) (.m 47), none⟩, ⟨(some 49), .callv (.m 42) [(.m 43), (.m 48)], none⟩]))))
 (.ops [⟨(some 50), .bin .add (.m 25) (.c (.int .i64 1)), none⟩, ⟨(some 25), .mv (.m 50), none⟩]))))
def jhg : IFunc := ⟨51, 26, 8, 6, (.seq (.ops [⟨(some 11), .mv (.t 1), none⟩, ⟨(some 12), .nilCheck (.m 11), none⟩, ⟨(some 13), .load false none (.m 12), none⟩, ⟨(some 14), .lenL (.t 13), none⟩, ⟨(some 15), .conv (.int .u64) (.m 14), none⟩, ⟨(some 8), .alloc [(.int .u64 0)], none⟩, ⟨none, .store 1 (.m 8) (.m 15), none⟩])
 (.seq (.ops [⟨(some 16), .mv (.t 0), none⟩, ⟨(some 17), .mv (.t 2), none⟩, ⟨(some 18), .conv (.int .u64) (.m 17), none⟩, ⟨(some 19), .inv [(109, 78, .same)] (.m 16) [(.t 8), (.m 18)], none⟩])
 (.seq (.ops [⟨(some 20), .load false none (.t 8), none⟩, ⟨(some 21), .mv (.t 2), none⟩, ⟨(some 22), .conv (.int .u64) (.m 21), none⟩, ⟨(some 23), .minmax false [(.m 20), (.m 22)], none⟩, ⟨(some 24), .conv (.int .i64) (.m 23), none⟩, ⟨(some 25), .mv (.c (.int .i64 0)), none⟩])
 (.block 0 (.loop jdX))))), []⟩
/- plover/snap.queue -/
def jdY : ICode := (.seq (.ops [⟨(some 12), .bin .lss (.t 11) (.c (.int .i64 8)), none⟩])
 (.seq (.cond (.t 12) .skip (.exit 0))
 (.seq (.block 1 (.seq (.ops [⟨(some 13), .mv (.t 11), none⟩, ⟨(some 4), .mv (.m 13), none⟩])
 (.draw [(0, ⟨(some 14), .mv (.t 0), none⟩), (1, ⟨(some 15), .mv (.t 1), none⟩), (2, ⟨(some 16), .mv (.t 4), none⟩), (3, ⟨(some 17), .nilCheck (.m 15), none⟩), (4, ⟨(some 18), .fieldAddr 1 (.m 17), none⟩), (5, ⟨(some 19), .idxAddrA 8 1 (.t 18) (.m 16), none⟩), (6, ⟨(some 20), .buildSl 1 [(.m 19)], none⟩), (7, ⟨(some 21), .pur (.mkM "plover/snap.bytes") [(.m 14)], none⟩), (8, ⟨(some 22), .pur (.nilM [109] "plover/snap.bytes") [(.t 21)], none⟩), (9, ⟨(some 23), .mv (.m 14), none⟩), (10, ⟨(some 24), .inv [(109, 77, .same)] (.m 23) [(.m 20)], none⟩)] [])))
 (.ops [⟨(some 25), .bin .add (.m 11) (.c (.int .i64 1)), none⟩, ⟨(some 11), .mv (.m 25), none⟩]))))
def jhh : IFunc := ⟨26, 12, 11, 5, (.seq (.ops [⟨(some 5), .mv (.t 0), none⟩, ⟨(some 6), .mv (.t 1), none⟩, ⟨(some 7), .nilCheck (.m 6), none⟩, ⟨(some 8), .fieldAddr 0 (.m 7), none⟩, ⟨(some 9), .buildSl 1 [(.m 8)], none⟩, ⟨(some 10), .call 39 [(.m 5), (.m 9)], none⟩])
 (.seq (.ops [⟨(some 11), .mv (.c (.int .i64 0)), none⟩])
 (.block 0 (.loop jdY)))), []⟩
/- plover/snap.clock -/
def jdZ : ICode := (.seq (.ops [⟨(some 19), .bin .lss (.t 18) (.t 17), none⟩])
 (.seq (.cond (.t 19) .skip (.exit 0))
 (.seq (.block 1 (.seq (.ops [⟨(some 20), .idxAddr 1 (.t 16) (.t 18), none⟩, ⟨(some 21), .load false none (.m 20), none⟩, ⟨(some 5), .mv (.m 21), none⟩])
 (.seq (.ops [⟨(some 22), .mv (.t 5), none⟩, ⟨(some 23), .nilCheck (.m 22), none⟩, ⟨(some 24), .load false none (.m 23), none⟩, ⟨(some 25), .conv (.int .u64) (.m 24), none⟩, ⟨(some 6), .alloc [(.int .u64 0)], none⟩, ⟨none, .store 1 (.m 6) (.m 25), none⟩])
 (.seq (.ops [⟨(some 26), .mv (.t 0), none⟩, ⟨(some 27), .inv [(109, 78, .same)] (.m 26) [(.t 6), (.c (.int .u64 65535))], none⟩])
 (.ops [⟨(some 28), .mv (.t 5), none⟩, ⟨(some 29), .load false none (.t 6), none⟩, ⟨(some 30), .conv (.int .u16) (.m 29), none⟩, ⟨(some 31), .nilCheck (.m 28), none⟩, ⟨none, .store 1 (.m 31) (.m 30), none⟩])))))
 (.ops [⟨(some 32), .bin .add (.m 18) (.c (.int .i64 1)), none⟩, ⟨(some 18), .mv (.m 32), none⟩]))))
def jhi : IFunc := ⟨33, 19, 4, 5, (.seq (.draw [(0, ⟨(some 7), .mv (.t 1), none⟩), (1, ⟨(some 8), .nilCheck (.m 7), none⟩), (2, ⟨(some 9), .fieldAddr 0 (.m 8), none⟩), (3, ⟨(some 10), .mv (.t 1), none⟩), (4, ⟨(some 11), .nilCheck (.m 10), none⟩), (5, ⟨(some 12), .fieldAddr 1 (.m 11), none⟩), (6, ⟨(some 13), .mv (.t 1), none⟩), (7, ⟨(some 14), .nilCheck (.m 13), none⟩), (8, ⟨(some 15), .fieldAddr 2 (.m 14), none⟩), (9, ⟨(some 16), .buildSl 1 [(.m 9), (.m 12), (.m 15)], none⟩), (10, ⟨(some 17), .lenL (.t 16), none⟩), (11, ⟨(some 18), .mv (.c (.int .i64 0)), none⟩)] [])
 (.block 0 (.loop jdZ))), []⟩
/- (*plover/wire.In).bad -/
def jhj : IFunc := ⟨16, 5, 8, 4, (.seq (.ops [⟨(some 2), .mv (.c (.bool false)), none⟩])
 (.seq (.seq (.ops [⟨(some 5), .mv (.t 0), none⟩, ⟨(some 6), .isnil false 0 (.m 5), none⟩])
 (.cond (.t 6) (.seq (.ops [⟨(some 2), .mv (.c (.bool true)), none⟩])
 .ret) .skip))
 (.seq (.ops [⟨(some 8), .mv (.t 0), none⟩, ⟨(some 9), .nilCheck (.m 8), none⟩, ⟨(some 10), .fieldAddr 2 (.m 9), none⟩, ⟨(some 11), .load false none (.m 10), none⟩, ⟨(some 12), .pur (.tyC 112 true (.prim (.pointer none))) [(.m 11)], none⟩, ⟨(some 7), .mv (.m 12), none⟩, ⟨(some 13), .extract (.m 7) 0, none⟩, ⟨(some 14), .extract (.m 7) 1, none⟩, ⟨(some 3), .mv (.m 13), none⟩, ⟨(some 4), .mv (.m 14), none⟩])
 (.seq (.ops [⟨(some 15), .mv (.m 4), none⟩, ⟨(some 2), .mv (.m 15), none⟩])
 .ret)))), [.t 2]⟩
/- (*plover/wire.In).Left -/
def jhk : IFunc := ⟨15, 3, 10, 4, (.seq (.ops [⟨(some 2), .mv (.c (.int .i64 0)), none⟩])
 (.seq (.seq (.ops [⟨(some 3), .mv (.t 0), none⟩, ⟨(some 4), .isnil false 0 (.m 3), none⟩])
 (.cond (.t 4) (.seq (.ops [⟨(some 2), .mv (.c (.int .i64 0)), none⟩])
 .ret) .skip))
 (.seq (.draw [(0, ⟨(some 5), .mv (.t 0), none⟩), (1, ⟨(some 6), .nilCheck (.m 5), none⟩), (2, ⟨(some 7), .fieldAddr 0 (.m 6), none⟩), (3, ⟨(some 8), .load false none (.m 7), none⟩), (4, ⟨(some 9), .lenS (.t 8), none⟩), (5, ⟨(some 10), .mv (.t 0), none⟩), (6, ⟨(some 11), .nilCheck (.m 10), none⟩), (7, ⟨(some 12), .fieldAddr 1 (.m 11), none⟩), (8, ⟨(some 13), .load false none (.m 12), none⟩), (9, ⟨(some 14), .bin .sub (.m 9) (.m 13), none⟩), (10, ⟨(some 2), .mv (.m 14), none⟩)] [])
 .ret))), [.t 2]⟩
/- (*plover/wire.In).Err -/
def jhl : IFunc := ⟨12, 3, 4, 3, (.seq (.ops [⟨(some 2), .mv (.c (.prim .nilIface)), none⟩])
 (.seq (.seq (.ops [⟨(some 3), .mv (.t 0), none⟩, ⟨(some 4), .isnil false 0 (.m 3), none⟩])
 (.cond (.t 4) (.seq (.ops [⟨(some 5), .build [(.int .i64 0), (.int .i64 0)] [(0, 1, (.c (.int .i64 1)))], none⟩, ⟨(some 6), .boxv (.m 5), none⟩, ⟨(some 7), .mkIface 112 (.m 6), none⟩, ⟨(some 2), .mv (.m 7), none⟩])
 .ret) .skip))
 (.seq (.ops [⟨(some 8), .mv (.m 0), none⟩, ⟨(some 9), .nilCheck (.m 8), none⟩, ⟨(some 10), .fieldAddr 2 (.m 9), none⟩, ⟨(some 11), .load false none (.m 10), none⟩, ⟨(some 2), .mv (.m 11), none⟩])
 .ret))), [.t 2]⟩
/- errors.as -/
def jd1 : ICode := (.seq (.ops [⟨(some 51), .bin .lss (.t 50) (.t 49), none⟩])
 (.seq (.cond (.t 51) .skip (.exit 3))
 (.seq (.block 4 (.seq (.ops [⟨(some 52), .idxAddr 1 (.t 48) (.t 50), none⟩, ⟨(some 53), .load false none (.m 52), none⟩, ⟨(some 14), .mv (.m 53), none⟩])
 (.seq (.seq (.ops [⟨(some 54), .mv (.t 14), none⟩, ⟨(some 55), .isnil false 1 (.m 54), none⟩])
 (.cond (.t 55) (.exit 4) .skip))
 (.seq (.ops [⟨(some 56), .mv (.t 14), none⟩, ⟨(some 57), .mv (.t 1), none⟩, ⟨(some 58), .load false (some 3) (.t 6), none⟩, ⟨(some 59), .mv (.t 3), none⟩, ⟨(some 60), .call 52 [(.m 56), (.m 57), (.m 58), (.m 59)], none⟩])
 (.cond (.t 60) (.seq (.ops [⟨(some 8), .mv (.c (.bool true)), none⟩])
 .ret) .skip)))))
 (.ops [⟨(some 61), .bin .add (.m 50) (.c (.int .i64 1)), none⟩, ⟨(some 50), .mv (.m 61), none⟩]))))
def jd0 : ICode := (.block 1 (.seq (.seq (.ops [⟨(some 16), .mv (.t 0), none⟩, ⟨(some 17), .pur (.ext (.typeOf 163 1)) [(.m 16)], none⟩, ⟨(some 18), .mv (.t 3), none⟩, ⟨(some 19), .pur (.invX [(163, (.rAsg 1 [((8, 8), true), ((8, 10), false), ((8, 11), false), ((8, 14), false), ((8, 15), false), ((8, 16), false), ((8, 19), false), ((8, 94), false), ((8, 112), false), ((8, 164), false), ((8, 90), true), ((8, 114), false), ((8, 163), false), ((8, 24), false), ((8, 26), false), ((8, 65), false), ((8, 105), false), ((8, 108), false), ((8, 109), false), ((10, 8), false), ((10, 10), true), ((10, 11), false), ((10, 14), false), ((10, 15), false), ((10, 16), false), ((10, 19), false), ((10, 94), false), ((10, 112), false), ((10, 164), false), ((10, 90), true), ((10, 114), false), ((10, 163), false), ((10, 24), false), ((10, 26), false), ((10, 65), false), ((10, 105), false), ((10, 108), false), ((10, 109), false), ((11, 8), false), ((11, 10), false), ((11, 11), true), ((11, 14), false), ((11, 15), false), ((11, 16), false), ((11, 19), false), ((11, 94), false), ((11, 112), false), ((11, 164), false), ((11, 90), true), ((11, 114), false), ((11, 163), false), ((11, 24), false), ((11, 26), false), ((11, 65), false), ((11, 105), false), ((11, 108), false), ((11, 109), false), ((14, 8), false), ((14, 10), false), ((14, 11), false), ((14, 14), true), ((14, 15), false), ((14, 16), false), ((14, 19), false), ((14, 94), false), ((14, 112), false), ((14, 164), false), ((14, 90), true), ((14, 114), false), ((14, 163), false), ((14, 24), false), ((14, 26), false), ((14, 65), false), ((14, 105), false), ((14, 108), false), ((14, 109), false), ((15, 8), false), ((15, 10), false), ((15, 11), false), ((15, 14), false), ((15, 15), true), ((15, 16), false), ((15, 19), false), ((15, 94), false), ((15, 112), false), ((15, 164), false), ((15, 90), true), ((15, 114), false), ((15, 163), false), ((15, 24), false), ((15, 26), false), ((15, 65), false), ((15, 105), false), ((15, 108), false), ((15, 109), false), ((16, 8), false), ((16, 10), false), ((16, 11), false), ((16, 14), false), ((16, 15), false), ((16, 16), true), ((16, 19), false), ((16, 94), false), ((16, 112), false), ((16, 164), false), ((16, 90), true), ((16, 114), false), ((16, 163), false), ((16, 24), false), ((16, 26), false), ((16, 65), false), ((16, 105), false), ((16, 108), false), ((16, 109), false), ((19, 8), false), ((19, 10), false), ((19, 11), false), ((19, 14), false), ((19, 15), false), ((19, 16), false), ((19, 19), true), ((19, 94), false), ((19, 112), false), ((19, 164), false), ((19, 90), true), ((19, 114), false), ((19, 163), false), ((19, 24), false), ((19, 26), false), ((19, 65), false), ((19, 105), false), ((19, 108), false), ((19, 109), false), ((94, 8), false), ((94, 10), false), ((94, 11), false), ((94, 14), false), ((94, 15), false), ((94, 16), false), ((94, 19), false), ((94, 94), true), ((94, 112), false), ((94, 164), false), ((94, 90), true), ((94, 114), false), ((94, 163), false), ((94, 24), false), ((94, 26), false), ((94, 65), false), ((94, 105), false), ((94, 108), false), ((94, 109), false), ((112, 8), false), ((112, 10), false), ((112, 11), false), ((112, 14), false), ((112, 15), false), ((112, 16), false), ((112, 19), false), ((112, 94), false), ((112, 112), true), ((112, 164), false), ((112, 90), true), ((112, 114), false), ((112, 163), false), ((112, 24), false), ((112, 26), false), ((112, 65), false), ((112, 105), false), ((112, 108), false), ((112, 109), false), ((164, 8), false), ((164, 10), false), ((164, 11), false), ((164, 14), false), ((164, 15), false), ((164, 16), false), ((164, 19), false), ((164, 94), false), ((164, 112), false), ((164, 164), true), ((164, 90), true), ((164, 114), false), ((164, 163), false), ((164, 24), false), ((164, 26), false), ((164, 65), false), ((164, 105), false), ((164, 108), false), ((164, 109), false), ((90, 8), false), ((90, 10), false), ((90, 11), false), ((90, 14), false), ((90, 15), false), ((90, 16), false), ((90, 19), false), ((90, 94), false), ((90, 112), false), ((90, 164), false), ((90, 114), false), ((90, 163), false), ((90, 24), false), ((90, 26), false), ((90, 65), false), ((90, 105), false), ((90, 108), false), ((90, 109), false), ((114, 8), false), ((114, 10), false), ((114, 11), false), ((114, 14), false), ((114, 15), false), ((114, 16), false), ((114, 19), false), ((114, 94), false), ((114, 112), false), ((114, 164), false), ((114, 90), false), ((114, 114), true), ((114, 163), false), ((114, 24), false), ((114, 26), false), ((114, 65), false), ((114, 105), false), ((114, 108), false), ((114, 109), false), ((163, 8), false), ((163, 10), false), ((163, 11), false), ((163, 14), false), ((163, 15), false), ((163, 16), false), ((163, 19), false), ((163, 94), false), ((163, 112), false), ((163, 164), false), ((163, 90), false), ((163, 114), false), ((163, 163), true), ((163, 24), false), ((163, 26), false), ((163, 65), false), ((163, 105), false), ((163, 108), false), ((163, 109), false), ((24, 8), false), ((24, 10), false), ((24, 11), false), ((24, 14), false), ((24, 15), false), ((24, 16), false), ((24, 19), false), ((24, 94), false), ((24, 112), false), ((24, 164), false), ((24, 90), false), ((24, 114), false), ((24, 163), false), ((24, 24), true), ((24, 26), false), ((24, 65), false), ((24, 105), false), ((24, 108), false), ((24, 109), false), ((26, 8), false), ((26, 10), false), ((26, 11), false), ((26, 14), false), ((26, 15), false), ((26, 16), false), ((26, 19), false), ((26, 94), false), ((26, 112), false), ((26, 164), false), ((26, 90), false), ((26, 114), false), ((26, 163), false), ((26, 24), false), ((26, 26), true), ((26, 65), false), ((26, 105), false), ((26, 108), false), ((26, 109), false), ((65, 8), false), ((65, 10), false), ((65, 11), false), ((65, 14), false), ((65, 15), false), ((65, 16), false), ((65, 19), false), ((65, 94), false), ((65, 112), false), ((65, 164), false), ((65, 90), false), ((65, 114), false), ((65, 163), false), ((65, 24), false), ((65, 26), false), ((65, 65), true), ((65, 105), false), ((65, 108), false), ((65, 109), false), ((105, 8), false), ((105, 10), false), ((105, 11), false), ((105, 14), false), ((105, 15), false), ((105, 16), false), ((105, 19), false), ((105, 94), false), ((105, 112), false), ((105, 164), false), ((105, 90), false), ((105, 114), false), ((105, 163), false), ((105, 24), false), ((105, 26), false), ((105, 65), false), ((105, 105), true), ((105, 108), false), ((105, 109), false), ((108, 8), false), ((108, 10), false), ((108, 11), false), ((108, 14), false), ((108, 15), false), ((108, 16), false), ((108, 19), false), ((108, 94), false), ((108, 112), false), ((108, 164), false), ((108, 90), false), ((108, 114), false), ((108, 163), false), ((108, 24), false), ((108, 26), false), ((108, 65), false), ((108, 105), false), ((108, 108), true), ((108, 109), true), ((109, 8), false), ((109, 10), false), ((109, 11), false), ((109, 14), false), ((109, 15), false), ((109, 16), false), ((109, 19), false), ((109, 94), false), ((109, 112), false), ((109, 164), false), ((109, 90), false), ((109, 114), false), ((109, 163), false), ((109, 24), false), ((109, 26), false), ((109, 65), false), ((109, 105), false), ((109, 108), true), ((109, 109), true)]), .same)]) [(.m 17), (.m 18)], none⟩])
 (.cond (.t 19) (.seq (.ops [⟨(some 20), .load false (some 3) (.t 6), none⟩, ⟨(some 21), .pur (.ext (.vElem 1 [(15, (179, 25)), (16, (182, 25)), (112, (96, 25)), (164, (210, 25)), (114, (112, 22)), (24, (82, 25)), (26, (77, 25)), (105, (118, 25))])) [(.m 20)], none⟩, ⟨(some 22), .mv (.t 0), none⟩, ⟨(some 23), .vOf 1 [(8, 25), (10, 24), (11, 24), (14, 25), (15, 22), (16, 22), (19, 25), (94, 2), (112, 22), (164, 22), (90, 20), (114, 22), (163, 25), (24, 22), (26, 22), (65, 25), (105, 22), (108, 25), (109, 25)] (.m 22), none⟩, ⟨(some 24), .vSet 1 [10, 11, 15, 16, 94, 112, 164, 90, 114, 24, 26, 105] (.m 21) (.m 23), none⟩])
 (.seq (.ops [⟨(some 8), .mv (.c (.bool true)), none⟩])
 .ret)) .skip))
 (.seq (.seq (.ops [⟨(some 26), .mv (.t 0), none⟩, ⟨(some 27), .pur (.tyI [] [8, 10, 11, 14, 15, 16, 19, 94, 112, 164, 90, 114, 163, 24, 26, 65, 105, 108, 109] true) [(.m 26)], none⟩, ⟨(some 25), .mv (.m 27), none⟩, ⟨(some 28), .extract (.m 25) 0, none⟩, ⟨(some 29), .extract (.m 25) 1, none⟩, ⟨(some 9), .mv (.m 28), none⟩, ⟨(some 10), .mv (.m 29), none⟩])
 (.seq (.ops [⟨(some 30), .mv (.t 10), none⟩, ⟨(some 31), .mv (.m 30), none⟩, ⟨(some 32), .mv (.t 9), some (31, true)⟩, ⟨(some 33), .mv (.t 1), some (31, true)⟩, ⟨(some 34), .pur (.invX []) [(.t 32), (.t 33)], some (31, true)⟩, ⟨(some 35), .pick (.m 31) (.t 34) (.c (.bool false)), none⟩])
 (.cond (.t 35) (.seq (.ops [⟨(some 8), .mv (.c (.bool true)), none⟩])
 .ret) .skip)))
 (.seq (.ops [⟨(some 36), .mv (.t 0), none⟩])
 (.block 2 (.seq (.ops [⟨(some 37), .pur (.tyI [112] [8, 10, 11, 14, 15, 16, 19, 94, 164, 90, 114, 163, 24, 26, 65, 105, 108, 109] true) [(.t 36)], none⟩, ⟨(some 38), .extract (.m 37) 1, none⟩, ⟨(some 39), .extract (.m 37) 0, none⟩])
 (.cond (.t 38) (.seq (.ops [⟨(some 11), .mv (.t 39), none⟩])
 (.seq (.ops [⟨(some 40), .mv (.t 11), none⟩, ⟨(some 41), .inv [(112, 91, .same)] (.m 40) [], none⟩, ⟨(some 0), .mv (.m 41), none⟩])
 (.seq (.ops [⟨(some 42), .mv (.t 0), none⟩, ⟨(some 43), .isnil false 1 (.m 42), none⟩])
 (.cond (.t 43) (.seq (.ops [⟨(some 8), .mv (.c (.bool false)), none⟩])
 .ret) .skip)))) (.seq (.ops [⟨(some 44), .pur (.tyI [] [8, 10, 11, 14, 15, 16, 19, 94, 112, 164, 90, 114, 163, 24, 26, 65, 105, 108, 109] true) [(.t 36)], none⟩, ⟨(some 45), .extract (.m 44) 1, none⟩, ⟨(some 46), .extract (.m 44) 0, none⟩])
 (.cond (.t 45) (.seq (.ops [⟨(some 12), .mv (.t 46), none⟩])
 (.seq (.seq (.ops [⟨(some 47), .mv (.t 12), none⟩, ⟨(some 48), .inv [(112, 91, .same)] (.m 47) [], none⟩, ⟨(some 49), .lenL (.t 48), none⟩, ⟨(some 50), .mv (.c (.int .i64 0)), none⟩])
 (.block 3 (.loop jd1)))
 (.seq (.ops [⟨(some 8), .mv (.c (.bool false)), none⟩])
 .ret))) (.seq (.ops [⟨(some 15), .mv (.t 36), none⟩])
 (.seq (.ops [⟨(some 8), .mv (.c (.bool false)), none⟩])
 .ret)))))))))))
def jhm : IFunc := ⟨62, 51, 5, 6, (.seq (.ops [⟨(some 6), .boxv (.t 2), none⟩, ⟨(some 8), .mv (.c (.bool false)), none⟩])
 (.block 0 (.loop jd0))), [.t 8]⟩
/- errors.is -/
def jd3 : ICode := (.seq (.ops [⟨(some 46), .bin .lss (.t 45) (.t 44), none⟩])
 (.seq (.cond (.t 46) .skip (.exit 3))
 (.seq (.block 4 (.seq (.ops [⟨(some 47), .idxAddr 1 (.t 43) (.t 45), none⟩, ⟨(some 48), .load false none (.m 47), none⟩, ⟨(some 12), .mv (.m 48), none⟩])
 (.seq (.ops [⟨(some 49), .mv (.t 12), none⟩, ⟨(some 50), .mv (.t 1), none⟩, ⟨(some 51), .mv (.t 2), none⟩, ⟨(some 52), .call 54 [(.m 49), (.m 50), (.m 51)], none⟩])
 (.cond (.t 52) (.seq (.ops [⟨(some 6), .mv (.c (.bool true)), none⟩])
 .ret) .skip))))
 (.ops [⟨(some 53), .bin .add (.m 45) (.c (.int .i64 1)), none⟩, ⟨(some 45), .mv (.m 53), none⟩]))))
def jd2 : ICode := (.block 1 (.seq (.seq (.ops [⟨(some 14), .mv (.t 2), none⟩, ⟨(some 15), .mv (.m 14), none⟩, ⟨(some 16), .mv (.t 0), some (15, true)⟩, ⟨(some 17), .mv (.t 1), some (15, true)⟩, ⟨(some 18), .pur (.eqi false [(10, 1), (11, 1), (94, 0)]) [(.t 16), (.t 17)], some (15, true)⟩, ⟨(some 19), .pick (.m 15) (.t 18) (.c (.bool false)), none⟩])
 (.cond (.t 19) (.seq (.ops [⟨(some 6), .mv (.c (.bool true)), none⟩])
 .ret) .skip))
 (.seq (.seq (.ops [⟨(some 21), .mv (.t 0), none⟩, ⟨(some 22), .pur (.tyI [] [8, 10, 11, 14, 15, 16, 19, 94, 112, 164, 90, 114, 163, 24, 26, 65, 105, 108, 109] true) [(.m 21)], none⟩, ⟨(some 20), .mv (.m 22), none⟩, ⟨(some 23), .extract (.m 20) 0, none⟩, ⟨(some 24), .extract (.m 20) 1, none⟩, ⟨(some 7), .mv (.m 23), none⟩, ⟨(some 8), .mv (.m 24), none⟩])
 (.seq (.ops [⟨(some 25), .mv (.t 8), none⟩, ⟨(some 26), .mv (.m 25), none⟩, ⟨(some 27), .mv (.t 7), some (26, true)⟩, ⟨(some 28), .mv (.t 1), some (26, true)⟩, ⟨(some 29), .pur (.invX []) [(.t 27), (.t 28)], some (26, true)⟩, ⟨(some 30), .pick (.m 26) (.t 29) (.c (.bool false)), none⟩])
 (.cond (.t 30) (.seq (.ops [⟨(some 6), .mv (.c (.bool true)), none⟩])
 .ret) .skip)))
 (.seq (.ops [⟨(some 31), .mv (.t 0), none⟩])
 (.block 2 (.seq (.ops [⟨(some 32), .pur (.tyI [112] [8, 10, 11, 14, 15, 16, 19, 94, 164, 90, 114, 163, 24, 26, 65, 105, 108, 109] true) [(.t 31)], none⟩, ⟨(some 33), .extract (.m 32) 1, none⟩, ⟨(some 34), .extract (.m 32) 0, none⟩])
 (.cond (.t 33) (.seq (.ops [⟨(some 9), .mv (.t 34), none⟩])
 (.seq (.ops [⟨(some 35), .mv (.t 9), none⟩, ⟨(some 36), .inv [(112, 91, .same)] (.m 35) [], none⟩, ⟨(some 0), .mv (.m 36), none⟩])
 (.seq (.ops [⟨(some 37), .mv (.t 0), none⟩, ⟨(some 38), .isnil false 1 (.m 37), none⟩])
 (.cond (.t 38) (.seq (.ops [⟨(some 6), .mv (.c (.bool false)), none⟩])
 .ret) .skip)))) (.seq (.ops [⟨(some 39), .pur (.tyI [] [8, 10, 11, 14, 15, 16, 19, 94, 112, 164, 90, 114, 163, 24, 26, 65, 105, 108, 109] true) [(.t 31)], none⟩, ⟨(some 40), .extract (.m 39) 1, none⟩, ⟨(some 41), .extract (.m 39) 0, none⟩])
 (.cond (.t 40) (.seq (.ops [⟨(some 10), .mv (.t 41), none⟩])
 (.seq (.seq (.ops [⟨(some 42), .mv (.t 10), none⟩, ⟨(some 43), .inv [(112, 91, .same)] (.m 42) [], none⟩, ⟨(some 44), .lenL (.t 43), none⟩, ⟨(some 45), .mv (.c (.int .i64 0)), none⟩])
 (.block 3 (.loop jd3)))
 (.seq (.ops [⟨(some 6), .mv (.c (.bool false)), none⟩])
 .ret))) (.seq (.ops [⟨(some 13), .mv (.t 31), none⟩])
 (.seq (.ops [⟨(some 6), .mv (.c (.bool false)), none⟩])
 .ret)))))))))))
def jhn : IFunc := ⟨54, 46, 4, 6, (.seq (.ops [⟨(some 6), .mv (.c (.bool false)), none⟩])
 (.block 0 (.loop jd2))), [.t 6]⟩
/- (*plover/wire.In).B -/
def jho : IFunc := ⟨31, 3, 9, 4, (.seq (.ops [⟨(some 2), .mv (.c (.int .u8 0)), none⟩])
 (.seq (.seq (.ops [⟨(some 3), .mv (.t 0), none⟩, ⟨(some 4), .call 46 [(.m 3)], none⟩])
 (.cond (.t 4) (.seq (.ops [⟨(some 2), .mv (.c (.int .u8 0)), none⟩])
 .ret) .skip))
 (.seq (.seq (.ops [⟨(some 5), .mv (.t 0), none⟩, ⟨(some 6), .call 47 [(.m 5)], none⟩, ⟨(some 7), .bin .eql (.m 6) (.c (.int .i64 0)), none⟩])
 (.cond (.t 7) (.seq (.ops [⟨(some 8), .mv (.t 0), none⟩, ⟨(some 9), .mv (.t 0), none⟩, ⟨(some 10), .nilCheck (.m 9), none⟩, ⟨(some 11), .fieldAddr 1 (.m 10), none⟩, ⟨(some 12), .load false none (.m 11), none⟩, ⟨(some 13), .call 81 [(.m 8), (.c (.int .i64 3)), (.m 12)], none⟩])
 (.seq (.ops [⟨(some 2), .mv (.c (.int .u8 0)), none⟩])
 .ret)) .skip))
 (.seq (.draw [(0, ⟨(some 14), .mv (.t 0), none⟩), (1, ⟨(some 15), .nilCheck (.m 14), none⟩), (2, ⟨(some 16), .fieldAddr 0 (.m 15), none⟩), (3, ⟨(some 17), .load false none (.m 16), none⟩), (4, ⟨(some 18), .mv (.t 0), none⟩), (5, ⟨(some 19), .nilCheck (.m 18), none⟩), (6, ⟨(some 20), .fieldAddr 1 (.m 19), none⟩), (7, ⟨(some 21), .load false none (.m 20), none⟩), (8, ⟨(some 22), .idxS (.m 17) (.m 21), none⟩), (9, ⟨(some 2), .mv (.m 22), none⟩)] [])
 (.seq (.ops [⟨(some 23), .mv (.t 0), none⟩, ⟨(some 24), .nilCheck (.m 23), none⟩, ⟨(some 25), .fieldAddr 1 (.m 24), none⟩, ⟨(some 26), .load false none (.m 25), none⟩, ⟨(some 27), .bin .add (.m 26) (.c (.int .i64 1)), none⟩, ⟨(some 28), .nilCheck (.m 23), none⟩, ⟨(some 29), .fieldAddr 1 (.m 28), none⟩, ⟨none, .store 1 (.m 29) (.m 27), none⟩])
 (.seq (.ops [⟨(some 30), .mv (.m 2), none⟩, ⟨(some 2), .mv (.m 30), none⟩])
 .ret)))))), [.t 2]⟩
/- (plover/snap.reads).bytes -/
def jd4 : ICode := (.seq (.ops [⟨(some 9), .bin .lss (.t 8) (.t 7), none⟩])
 (.seq (.cond (.t 9) .skip (.exit 0))
 (.seq (.block 1 (.seq (.ops [⟨(some 10), .idxAddr 1 (.t 6) (.t 8), none⟩, ⟨(some 11), .load false none (.m 10), none⟩, ⟨(some 5), .mv (.m 11), none⟩])
 (.ops [⟨(some 12), .mv (.t 5), none⟩, ⟨(some 13), .fieldAddr 0 (.t 2), none⟩, ⟨(some 14), .load false none (.m 13), none⟩, ⟨(some 15), .call 76 [(.m 14)], none⟩, ⟨(some 16), .nilCheck (.m 12), none⟩, ⟨none, .store 1 (.m 16) (.m 15), none⟩])))
 (.ops [⟨(some 17), .bin .add (.m 8) (.c (.int .i64 1)), none⟩, ⟨(some 8), .mv (.m 17), none⟩]))))
def jhp : IFunc := ⟨18, 9, 5, 4, (.seq (.ops [⟨(some 2), .boxv (.t 0), none⟩])
 (.seq (.ops [⟨(some 6), .mv (.t 1), none⟩, ⟨(some 7), .lenL (.t 6), none⟩, ⟨(some 8), .mv (.c (.int .i64 0)), none⟩])
 (.block 0 (.loop jd4)))), []⟩
/- (plover/snap.reads).number -/
def jhq : IFunc := ⟨23, 8, 6, 4, (.seq (.ops [⟨(some 3), .boxv (.t 0), none⟩])
 (.seq (.ops [⟨(some 8), .fieldAddr 0 (.t 3), none⟩, ⟨(some 9), .load false none (.m 8), none⟩, ⟨(some 10), .call 82 [(.m 9)], none⟩, ⟨(some 6), .mv (.m 10), none⟩])
 (.seq (.ops [⟨(some 11), .fieldAddr 0 (.t 3), none⟩, ⟨(some 12), .load false none (.m 11), none⟩, ⟨(some 13), .call 83 [(.m 12)], none⟩, ⟨(some 7), .mv (.m 13), none⟩])
 (.seq (.ops [⟨(some 14), .load false (some 1) (.t 3), none⟩, ⟨(some 15), .mv (.t 7), none⟩, ⟨(some 16), .mv (.t 2), none⟩, ⟨(some 17), .bin .leq (.m 15) (.m 16), none⟩, ⟨(some 18), .mv (.t 6), none⟩, ⟨(some 19), .call 84 [(.m 14), (.m 17), (.m 18)], none⟩])
 (.cond (.t 19) (.ops [⟨(some 20), .mv (.t 1), none⟩, ⟨(some 21), .mv (.t 7), none⟩, ⟨(some 22), .nilCheck (.m 20), none⟩, ⟨none, .store 1 (.m 22) (.m 21), none⟩]) .skip))))), []⟩
/- (plover/snap.reads).truth -/
def jhr : IFunc := ⟨9, 3, 5, 4, (.seq (.ops [⟨(some 2), .boxv (.t 0), none⟩])
 (.ops [⟨(some 4), .mv (.t 1), none⟩, ⟨(some 5), .fieldAddr 0 (.t 2), none⟩, ⟨(some 6), .load false none (.m 5), none⟩, ⟨(some 7), .call 85 [(.m 6)], none⟩, ⟨(some 8), .nilCheck (.m 4), none⟩, ⟨none, .store 1 (.m 8) (.m 7), none⟩])), []⟩
/- (plover/snap.reads).whole -/
def jhs : IFunc := ⟨30, 10, 11, 5, (.seq (.ops [⟨(some 4), .boxv (.t 0), none⟩])
 (.seq (.ops [⟨(some 10), .fieldAddr 0 (.t 4), none⟩, ⟨(some 11), .load false none (.m 10), none⟩, ⟨(some 12), .call 82 [(.m 11)], none⟩, ⟨(some 8), .mv (.m 12), none⟩])
 (.seq (.ops [⟨(some 13), .fieldAddr 0 (.t 4), none⟩, ⟨(some 14), .load false none (.m 13), none⟩, ⟨(some 15), .call 86 [(.m 14)], none⟩, ⟨(some 9), .mv (.m 15), none⟩])
 (.seq (.ops [⟨(some 16), .load false (some 1) (.t 4), none⟩, ⟨(some 17), .mv (.t 9), none⟩, ⟨(some 18), .mv (.t 2), none⟩, ⟨(some 19), .bin .geq (.m 17) (.m 18), none⟩, ⟨(some 20), .mv (.m 19), none⟩, ⟨(some 21), .mv (.t 9), some (20, true)⟩, ⟨(some 22), .mv (.t 3), some (20, true)⟩, ⟨(some 23), .bin .leq (.t 21) (.t 22), some (20, true)⟩, ⟨(some 24), .pick (.m 20) (.t 23) (.c (.bool false)), none⟩, ⟨(some 25), .mv (.t 8), none⟩, ⟨(some 26), .call 84 [(.m 16), (.m 24), (.m 25)], none⟩])
 (.cond (.t 26) (.ops [⟨(some 27), .mv (.t 1), none⟩, ⟨(some 28), .mv (.t 9), none⟩, ⟨(some 29), .nilCheck (.m 27), none⟩, ⟨none, .store 1 (.m 29) (.m 28), none⟩]) .skip))))), []⟩
/- (*plover/wire.In).Fail -/
def jht : IFunc := ⟨21, 3, 8, 4, (.seq (.ops [⟨(some 6), .mv (.t 0), none⟩, ⟨(some 7), .call 46 [(.m 6)], none⟩, ⟨(some 8), .un .not (.m 7), none⟩, ⟨(some 9), .mv (.m 8), none⟩, ⟨(some 10), .mv (.t 1), some (9, true)⟩, ⟨(some 11), .bin .neq (.t 10) (.c (.int .i64 0)), some (9, true)⟩, ⟨(some 12), .pick (.m 9) (.t 11) (.c (.bool false)), none⟩])
 (.cond (.t 12) (.ops [⟨(some 13), .mv (.t 0), none⟩, ⟨(some 14), .mv (.t 1), none⟩, ⟨(some 15), .mv (.t 2), none⟩, ⟨(some 16), .build [(.int .i64 0), (.int .i64 0)] [(0, 1, (.m 14)), (1, 1, (.m 15))], none⟩, ⟨(some 17), .boxv (.m 16), none⟩, ⟨(some 18), .mkIface 112 (.m 17), none⟩, ⟨(some 19), .nilCheck (.m 13), none⟩, ⟨(some 20), .fieldAddr 2 (.m 19), none⟩, ⟨none, .store 1 (.m 20) (.m 18), none⟩]) .skip)), []⟩
/- (*plover/wire.In).Place -/
def jhu : IFunc := ⟨9, 3, 4, 3, (.seq (.ops [⟨(some 2), .mv (.c (.int .i64 0)), none⟩])
 (.seq (.seq (.ops [⟨(some 3), .mv (.t 0), none⟩, ⟨(some 4), .isnil false 0 (.m 3), none⟩])
 (.cond (.t 4) (.seq (.ops [⟨(some 2), .mv (.c (.int .i64 0)), none⟩])
 .ret) .skip))
 (.seq (.ops [⟨(some 5), .mv (.m 0), none⟩, ⟨(some 6), .nilCheck (.m 5), none⟩, ⟨(some 7), .fieldAddr 1 (.m 6), none⟩, ⟨(some 8), .load false none (.m 7), none⟩, ⟨(some 2), .mv (.m 8), none⟩])
 .ret))), [.t 2]⟩
/- (*plover/wire.In).U -/
def jhv : IFunc := ⟨30, 6, 8, 4, (.seq (.ops [⟨(some 2), .mv (.c (.int .u64 0)), none⟩])
 (.seq (.seq (.ops [⟨(some 6), .mv (.t 0), none⟩, ⟨(some 7), .call 46 [(.m 6)], none⟩])
 (.cond (.t 7) (.seq (.ops [⟨(some 2), .mv (.c (.int .u64 0)), none⟩])
 .ret) .skip))
 (.seq (.ops [⟨(some 9), .mv (.t 0), none⟩, ⟨(some 10), .call 87 [(.m 9)], none⟩, ⟨(some 8), .mv (.m 10), none⟩, ⟨(some 11), .extract (.m 8) 0, none⟩, ⟨(some 12), .extract (.m 8) 1, none⟩, ⟨(some 13), .extract (.m 8) 2, none⟩, ⟨(some 3), .mv (.m 11), none⟩, ⟨(some 4), .mv (.m 12), none⟩, ⟨(some 5), .mv (.m 13), none⟩])
 (.seq (.ops [⟨(some 14), .mv (.t 0), none⟩, ⟨(some 15), .mv (.t 5), none⟩, ⟨(some 16), .mv (.t 0), none⟩, ⟨(some 17), .nilCheck (.m 16), none⟩, ⟨(some 18), .fieldAddr 1 (.m 17), none⟩, ⟨(some 19), .load false none (.m 18), none⟩, ⟨(some 20), .call 81 [(.m 14), (.m 15), (.m 19)], none⟩])
 (.seq (.ops [⟨(some 21), .mv (.t 0), none⟩, ⟨(some 22), .nilCheck (.m 21), none⟩, ⟨(some 23), .fieldAddr 1 (.m 22), none⟩, ⟨(some 24), .load false none (.m 23), none⟩, ⟨(some 25), .mv (.t 4), none⟩, ⟨(some 26), .bin .add (.m 24) (.m 25), none⟩, ⟨(some 27), .nilCheck (.m 21), none⟩, ⟨(some 28), .fieldAddr 1 (.m 27), none⟩, ⟨none, .store 1 (.m 28) (.m 26), none⟩])
 (.seq (.ops [⟨(some 29), .mv (.m 3), none⟩, ⟨(some 2), .mv (.m 29), none⟩])
 .ret)))))), [.t 2]⟩
/- (plover/snap.reads).within -/
def jhw : IFunc := ⟨23, 7, 8, 4, (.seq (.ops [⟨(some 3), .boxv (.t 0), none⟩, ⟨(some 6), .mv (.c (.bool false)), none⟩])
 (.seq (.seq (.ops [⟨(some 7), .fieldAddr 0 (.t 3), none⟩, ⟨(some 8), .load false none (.m 7), none⟩, ⟨(some 9), .call 48 [(.m 8)], none⟩, ⟨(some 10), .isnil false 1 (.m 9), none⟩, ⟨(some 11), .mv (.m 10), none⟩, ⟨(some 12), .mv (.t 1), some (11, true)⟩, ⟨(some 13), .un .not (.t 12), some (11, true)⟩, ⟨(some 14), .pick (.m 11) (.t 13) (.c (.bool false)), none⟩])
 (.cond (.t 14) (.ops [⟨(some 15), .fieldAddr 0 (.t 3), none⟩, ⟨(some 16), .load false none (.m 15), none⟩, ⟨(some 17), .mv (.t 2), none⟩, ⟨(some 18), .call 81 [(.m 16), (.c (.int .i64 4)), (.m 17)], none⟩]) .skip))
 (.seq (.ops [⟨(some 19), .fieldAddr 0 (.m 3), none⟩, ⟨(some 20), .load false none (.m 19), none⟩, ⟨(some 21), .call 48 [(.m 20)], none⟩, ⟨(some 22), .isnil false 1 (.m 21), none⟩, ⟨(some 6), .mv (.m 22), none⟩])
 .ret))), [.t 6]⟩
/- (*plover/wire.In).T -/
def jhx : IFunc := ⟨32, 3, 20, 5, (.seq (.ops [⟨(some 2), .mv (.c (.bool false)), none⟩])
 (.seq (.seq (.draw [(0, ⟨(some 3), .mv (.t 0), none⟩), (1, ⟨(some 4), .call 46 [(.m 3)], none⟩), (2, ⟨(some 5), .un .not (.m 4), none⟩), (3, ⟨(some 6), .mv (.m 5), none⟩), (4, ⟨(some 7), .mv (.t 0), some (6, true)⟩), (5, ⟨(some 8), .call 47 [(.t 7)], some (6, true)⟩), (6, ⟨(some 9), .bin .gtr (.t 8) (.c (.int .i64 0)), some (6, true)⟩), (7, ⟨(some 10), .pick (.m 6) (.t 9) (.c (.bool false)), none⟩), (8, ⟨(some 11), .mv (.m 10), none⟩), (9, ⟨(some 12), .mv (.t 0), some (11, true)⟩), (10, ⟨(some 13), .nilCheck (.t 12), some (11, true)⟩), (11, ⟨(some 14), .fieldAddr 0 (.t 13), some (11, true)⟩), (12, ⟨(some 15), .load false none (.t 14), some (11, true)⟩), (13, ⟨(some 16), .mv (.t 0), some (11, true)⟩), (14, ⟨(some 17), .nilCheck (.t 16), some (11, true)⟩), (15, ⟨(some 18), .fieldAddr 1 (.t 17), some (11, true)⟩), (16, ⟨(some 19), .load false none (.t 18), some (11, true)⟩), (17, ⟨(some 20), .idxS (.t 15) (.t 19), some (11, true)⟩), (18, ⟨(some 21), .bin .gtr (.t 20) (.c (.int .u8 1)), some (11, true)⟩), (19, ⟨(some 22), .pick (.m 11) (.t 21) (.c (.bool false)), none⟩)] [])
 (.cond (.t 22) (.ops [⟨(some 23), .mv (.t 0), none⟩, ⟨(some 24), .mv (.t 0), none⟩, ⟨(some 25), .nilCheck (.m 24), none⟩, ⟨(some 26), .fieldAddr 1 (.m 25), none⟩, ⟨(some 27), .load false none (.m 26), none⟩, ⟨(some 28), .call 81 [(.m 23), (.c (.int .i64 5)), (.m 27)], none⟩]) .skip))
 (.seq (.ops [⟨(some 29), .mv (.m 0), none⟩, ⟨(some 30), .call 76 [(.m 29)], none⟩, ⟨(some 31), .bin .eql (.m 30) (.c (.int .u8 1)), none⟩, ⟨(some 2), .mv (.m 31), none⟩])
 .ret))), [.t 2]⟩
/- (*plover/wire.In).I -/
def jhy : IFunc := ⟨14, 4, 8, 4, (.seq (.ops [⟨(some 2), .mv (.c (.int .i64 0)), none⟩])
 (.seq (.ops [⟨(some 4), .mv (.t 0), none⟩, ⟨(some 5), .call 83 [(.m 4)], none⟩, ⟨(some 3), .mv (.m 5), none⟩])
 (.seq (.ops [⟨(some 6), .mv (.m 3), none⟩, ⟨(some 7), .bin .shr (.m 6) (.c (.int .u64 1)), none⟩, ⟨(some 8), .conv (.int .i64) (.m 7), none⟩, ⟨(some 9), .mv (.m 3), none⟩, ⟨(some 10), .bin .and (.m 9) (.c (.int .u64 1)), none⟩, ⟨(some 11), .conv (.int .i64) (.m 10), none⟩, ⟨(some 12), .un .neg (.m 11), none⟩, ⟨(some 13), .bin .xor (.m 8) (.m 12), none⟩, ⟨(some 2), .mv (.m 13), none⟩])
 .ret))), [.t 2]⟩
/- (*plover/wire.In).number -/
def jd5 : ICode := (.seq (.ops [⟨(some 46), .bin .lss (.t 45) (.t 44), none⟩])
 (.seq (.cond (.t 46) .skip (.exit 0))
 (.seq (.block 1 (.seq (.ops [⟨(some 47), .idxAddr 1 (.t 43) (.t 45), none⟩, ⟨(some 48), .load false none (.m 47), none⟩, ⟨(some 7), .mv (.m 48), none⟩])
 (.ops [⟨(some 49), .mv (.m 2), none⟩, ⟨(some 50), .bin .shl (.m 49) (.c (.int .u64 8)), none⟩, ⟨(some 51), .mv (.t 7), none⟩, ⟨(some 52), .conv (.int .u64) (.m 51), none⟩, ⟨(some 53), .bin .or (.m 50) (.m 52), none⟩, ⟨(some 2), .mv (.m 53), none⟩])))
 (.ops [⟨(some 54), .bin .add (.m 45) (.c (.int .i64 1)), none⟩, ⟨(some 45), .mv (.m 54), none⟩]))))
def jhz : IFunc := ⟨69, 46, 8, 6, (.seq (.ops [⟨(some 2), .mv (.c (.int .u64 0)), none⟩, ⟨(some 3), .mv (.c (.int .i64 0)), none⟩, ⟨(some 4), .mv (.c (.int .i64 0)), none⟩])
 (.seq (.seq (.ops [⟨(some 8), .mv (.t 0), none⟩, ⟨(some 9), .call 47 [(.m 8)], none⟩, ⟨(some 10), .bin .eql (.m 9) (.c (.int .i64 0)), none⟩])
 (.cond (.t 10) (.seq (.ops [⟨(some 2), .mv (.c (.int .u64 0)), none⟩, ⟨(some 3), .mv (.c (.int .i64 0)), none⟩, ⟨(some 4), .mv (.c (.int .i64 3)), none⟩])
 .ret) .skip))
 (.seq (.draw [(0, ⟨(some 11), .mv (.t 0), none⟩), (1, ⟨(some 12), .nilCheck (.m 11), none⟩), (2, ⟨(some 13), .fieldAddr 0 (.m 12), none⟩), (3, ⟨(some 14), .load false none (.m 13), none⟩), (4, ⟨(some 15), .mv (.t 0), none⟩), (5, ⟨(some 16), .nilCheck (.m 15), none⟩), (6, ⟨(some 17), .fieldAddr 1 (.m 16), none⟩), (7, ⟨(some 18), .load false none (.m 17), none⟩), (8, ⟨(some 19), .idxS (.m 14) (.m 18), none⟩), (9, ⟨(some 20), .bin .shr (.m 19) (.c (.int .u64 6)), none⟩), (10, ⟨(some 21), .conv (.int .i64) (.m 20), none⟩), (11, ⟨(some 5), .mv (.m 21), none⟩)] [])
 (.seq (.seq (.ops [⟨(some 22), .mv (.t 5), none⟩, ⟨(some 23), .call 88 [(.m 22)], none⟩, ⟨(some 3), .mv (.m 23), none⟩])
 (.seq (.ops [⟨(some 24), .mv (.t 0), none⟩, ⟨(some 25), .call 47 [(.m 24)], none⟩, ⟨(some 26), .mv (.t 3), none⟩, ⟨(some 27), .bin .lss (.m 25) (.m 26), none⟩])
 (.cond (.t 27) (.seq (.ops [⟨(some 2), .mv (.c (.int .u64 0)), none⟩, ⟨(some 3), .mv (.c (.int .i64 0)), none⟩, ⟨(some 4), .mv (.c (.int .i64 3)), none⟩])
 .ret) .skip)))
 (.seq (.seq (.draw [(0, ⟨(some 28), .mv (.t 0), none⟩), (1, ⟨(some 29), .nilCheck (.m 28), none⟩), (2, ⟨(some 30), .fieldAddr 0 (.m 29), none⟩), (3, ⟨(some 31), .load false none (.m 30), none⟩), (4, ⟨(some 32), .mv (.t 0), none⟩), (5, ⟨(some 33), .nilCheck (.m 32), none⟩), (6, ⟨(some 34), .fieldAddr 1 (.m 33), none⟩), (7, ⟨(some 35), .load false none (.m 34), none⟩), (8, ⟨(some 36), .mv (.t 0), none⟩), (9, ⟨(some 37), .nilCheck (.m 36), none⟩), (10, ⟨(some 38), .fieldAddr 1 (.m 37), none⟩), (11, ⟨(some 39), .load false none (.m 38), none⟩), (12, ⟨(some 40), .mv (.t 3), none⟩), (13, ⟨(some 41), .bin .add (.m 39) (.m 40), none⟩), (14, ⟨(some 42), .sliceS (.m 31) (some (.t 35)) (some (.t 41)), none⟩), (15, ⟨(some 43), .conv .bytes (.m 42), none⟩), (16, ⟨(some 44), .lenL (.t 43), none⟩), (17, ⟨(some 45), .mv (.c (.int .i64 0)), none⟩)] [])
 (.block 0 (.loop jd5)))
 (.seq (.seq (.ops [⟨(some 55), .mv (.m 2), none⟩, ⟨(some 56), .mv (.t 5), none⟩, ⟨(some 57), .conv (.int .u64) (.m 56), none⟩, ⟨(some 58), .mv (.t 3), none⟩, ⟨(some 59), .bin .mul (.c (.int .i64 8)) (.m 58), none⟩, ⟨(some 60), .bin .sub (.m 59) (.c (.int .i64 2)), none⟩, ⟨(some 61), .bin .shl (.m 57) (.m 60), none⟩, ⟨(some 62), .bin .andNot (.m 55) (.m 61), none⟩, ⟨(some 2), .mv (.m 62), none⟩])
 (.seq (.ops [⟨(some 63), .mv (.t 2), none⟩, ⟨(some 64), .call 89 [(.m 63)], none⟩, ⟨(some 65), .mv (.t 5), none⟩, ⟨(some 66), .bin .neq (.m 64) (.m 65), none⟩])
 (.cond (.t 66) (.seq (.ops [⟨(some 2), .mv (.c (.int .u64 0)), none⟩, ⟨(some 3), .mv (.c (.int .i64 0)), none⟩, ⟨(some 4), .mv (.c (.int .i64 5)), none⟩])
 .ret) .skip)))
 (.seq (.ops [⟨(some 67), .mv (.m 2), none⟩, ⟨(some 68), .mv (.m 3), none⟩, ⟨(some 2), .mv (.m 67), none⟩, ⟨(some 3), .mv (.m 68), none⟩, ⟨(some 4), .mv (.c (.int .i64 0)), none⟩])
 .ret))))))), [.t 2, .t 3, .t 4]⟩
/- (*plover/api.Fault).Unwrap -/
def jhA : IFunc := ⟨8, 3, 5, 4, (.seq (.ops [⟨(some 2), .mv (.c (.prim .nilIface)), none⟩])
 (.seq (.ops [⟨(some 3), .mv (.m 0), none⟩, ⟨(some 4), .nilCheck (.m 3), none⟩, ⟨(some 5), .fieldAddr 0 (.m 4), none⟩, ⟨(some 6), .load false none (.m 5), none⟩, ⟨(some 7), .mkIface 94 (.m 6), none⟩, ⟨(some 2), .mv (.m 7), none⟩])
 .ret)), [.t 2]⟩
noncomputable def F1 : vM := fun n => bif Nat.beq n 4 then some ir4 else bif Nat.beq n 6 then some ir6 else bif Nat.beq n 8 then some ir8 else bif Nat.beq n 11 then some jaj else bif Nat.beq n 13 then some jak else bif Nat.beq n 16 then some jal else bif Nat.beq n 17 then some jg5 else bif Nat.beq n 18 then some XI else bif Nat.beq n 19 then some jam else bif Nat.beq n 20 then some QE else bif Nat.beq n 22 then some XJ else bif Nat.beq n 23 then some jda else bif Nat.beq n 24 then some jdb else bif Nat.beq n 27 then some jg6 else bif Nat.beq n 28 then some jg7 else bif Nat.beq n 29 then some XM else bif Nat.beq n 30 then some KK else bif Nat.beq n 31 then some Qz else bif Nat.beq n 32 then some VT else bif Nat.beq n 33 then some jg8 else bif Nat.beq n 34 then some jg9 else bif Nat.beq n 35 then some jha else bif Nat.beq n 36 then some jhb else bif Nat.beq n 37 then some jhc else bif Nat.beq n 38 then some Xv else bif Nat.beq n 39 then some jhd else bif Nat.beq n 40 then some jhe else bif Nat.beq n 41 then some jhf else bif Nat.beq n 42 then some jhg else bif Nat.beq n 44 then some jhh else bif Nat.beq n 45 then some jhi else bif Nat.beq n 46 then some jhj else bif Nat.beq n 47 then some jhk else bif Nat.beq n 48 then some jhl else bif Nat.beq n 52 then some jhm else bif Nat.beq n 54 then some jhn else bif Nat.beq n 76 then some jho else bif Nat.beq n 77 then some jhp else bif Nat.beq n 78 then some jhq else bif Nat.beq n 79 then some jhr else bif Nat.beq n 80 then some jhs else bif Nat.beq n 81 then some jht else bif Nat.beq n 82 then some jhu else bif Nat.beq n 83 then some jhv else bif Nat.beq n 84 then some jhw else bif Nat.beq n 85 then some jhx else bif Nat.beq n 86 then some jhy else bif Nat.beq n 87 then some jhz else bif Nat.beq n 91 then some jhA else none
end Go.Idl.Sp
