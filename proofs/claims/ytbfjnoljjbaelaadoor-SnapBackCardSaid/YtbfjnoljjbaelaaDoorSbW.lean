/- SnapBack: what the ideal machine makes of its functions, part W; no conditions. -/
import Derived.Test.YtbfjnoljjbaelaaDoorSbA
set_option linter.unusedSectionVars false
set_option linter.unusedVariables false
set_option linter.unusedSimpArgs false
namespace Go.Idl.Sb
open Go Go.Idl
/- plover/ploverlaw28.works -/
def jf7 : ICode := (.seq (.seq (.ops [⟨(some 16), .mv (.t 2), none⟩, ⟨(some 17), .bin .lss (.m 16) (.c (.int .i64 10)), none⟩])
 (.cond (.t 17) .skip (.exit 0)))
 (.seq (.block 1 (.seq (.ops [⟨(some 20), .mv (.t 1), none⟩, ⟨(some 21), .mv (.t 2), none⟩, ⟨(some 22), .mv (.t 2), none⟩, ⟨(some 23), .bin .mul (.c (.int .i64 3)) (.m 22), none⟩, ⟨(some 24), .conv (.int .u64) (.m 23), none⟩, ⟨(some 25), .build Z55 [(52, 1, (.m 21)), (50, 1, (.m 24))], none⟩, ⟨(some 26), .call 10 [(.m 20), (.m 25)], none⟩, ⟨(some 27), .mv (.t 2), none⟩, ⟨(some 28), .bin .rem (.m 27) (.c (.int .i64 4)), none⟩, ⟨(some 29), .bin .eql (.m 28) (.c (.int .i64 0)), none⟩, ⟨(some 30), .eqb true (.m 26) (.m 29), none⟩])
 (.cond (.t 30) (.seq (.ops [⟨(some 0), .mv (.c (.bool false)), none⟩])
 .ret) .skip)))
 (.ops [⟨(some 18), .mv (.m 2), none⟩, ⟨(some 19), .bin .add (.m 18) (.c (.int .i64 1)), none⟩, ⟨(some 2), .mv (.m 19), none⟩])))
def ir4 : IFunc := ⟨93, 13, 36, 6, (.seq (.ops [⟨(some 0), .mv (.c (.bool false)), none⟩])
 (.seq (.ops [⟨(some 13), .call 9 [(.c (.int .i64 4))], none⟩, ⟨(some 1), .mv (.m 13), none⟩])
 (.seq (.seq (.ops [⟨(some 14), .mv (.t 1), none⟩, ⟨(some 15), .isnil false 0 (.m 14), none⟩])
 (.cond (.t 15) (.seq (.ops [⟨(some 0), .mv (.c (.bool false)), none⟩])
 .ret) .skip))
 (.seq (.seq (.ops [⟨(some 2), .mv (.c (.int .i64 0)), none⟩])
 (.block 0 (.loop jf7)))
 (.seq (.ops [⟨(some 32), .mv (.t 1), none⟩, ⟨(some 33), .call 11 [(.m 32), (.c (.int .i64 7))], none⟩, ⟨(some 31), .mv (.m 33), none⟩, ⟨(some 34), .extract (.m 31) 0, none⟩, ⟨(some 35), .extract (.m 31) 1, none⟩, ⟨(some 3), .alloc Z55, none⟩, ⟨none, .store 55 (.m 3) (.m 34), none⟩, ⟨(some 4), .mv (.m 35), none⟩])
 (.seq (.ops [⟨(some 37), .mv (.t 1), none⟩, ⟨(some 38), .call 11 [(.m 37), (.c (.int .i64 8))], none⟩, ⟨(some 36), .mv (.m 38), none⟩, ⟨(some 39), .extract (.m 36) 0, none⟩, ⟨(some 40), .extract (.m 36) 1, none⟩, ⟨(some 5), .alloc Z55, none⟩, ⟨none, .store 55 (.m 5) (.m 39), none⟩, ⟨(some 6), .mv (.m 40), none⟩])
 (.seq (.ops [⟨(some 42), .mv (.t 1), none⟩, ⟨(some 43), .call 11 [(.m 42), (.c (.int .i64 (-1)))], none⟩, ⟨(some 41), .mv (.m 43), none⟩, ⟨(some 44), .extract (.m 41) 0, none⟩, ⟨(some 45), .extract (.m 41) 1, none⟩, ⟨(some 7), .alloc Z55, none⟩, ⟨none, .store 55 (.m 7) (.m 44), none⟩, ⟨(some 8), .mv (.m 45), none⟩])
 (.seq (.ops [⟨(some 47), .mv (.t 1), none⟩, ⟨(some 48), .call 12 [(.m 47), (.c (.int .u64 13))], none⟩, ⟨(some 46), .mv (.m 48), none⟩, ⟨(some 49), .extract (.m 46) 0, none⟩, ⟨(some 50), .extract (.m 46) 1, none⟩, ⟨(some 9), .alloc Z55, none⟩, ⟨none, .store 55 (.m 9) (.m 49), none⟩, ⟨(some 10), .mv (.m 50), none⟩])
 (.seq (.ops [⟨(some 51), .mv (.t 1), none⟩, ⟨(some 52), .call 13 [(.m 51), (.c (.int .i64 5))], none⟩])
 (.seq (.ops [⟨(some 54), .call 7 [(.c (.str []))], none⟩, ⟨(some 53), .mv (.m 54), none⟩, ⟨(some 55), .extract (.m 53) 0, none⟩, ⟨(some 56), .extract (.m 53) 1, none⟩, ⟨(some 11), .alloc Z55, none⟩, ⟨none, .store 55 (.m 11) (.m 55), none⟩, ⟨(some 12), .mv (.m 56), none⟩])
 (.seq (.ops [⟨(some 57), .mv (.m 4), none⟩, ⟨(some 58), .mv (.m 57), none⟩, ⟨(some 59), .fieldAddr 52 (.t 3), some (58, true)⟩, ⟨(some 60), .load false none (.t 59), some (58, true)⟩, ⟨(some 61), .bin .eql (.t 60) (.c (.int .i64 4)), some (58, true)⟩, ⟨(some 62), .pick (.m 58) (.t 61) (.c (.bool false)), none⟩, ⟨(some 63), .mv (.m 62), none⟩, ⟨(some 64), .mv (.t 6), some (63, true)⟩, ⟨(some 65), .pick (.m 63) (.t 64) (.c (.bool false)), none⟩, ⟨(some 66), .mv (.m 65), none⟩, ⟨(some 67), .fieldAddr 52 (.t 5), some (66, true)⟩, ⟨(some 68), .load false none (.t 67), some (66, true)⟩, ⟨(some 69), .bin .eql (.t 68) (.c (.int .i64 8)), some (66, true)⟩, ⟨(some 70), .pick (.m 66) (.t 69) (.c (.bool false)), none⟩, ⟨(some 71), .mv (.m 70), none⟩, ⟨(some 72), .mv (.t 8), some (71, true)⟩, ⟨(some 73), .un .not (.t 72), some (71, true)⟩, ⟨(some 74), .pick (.m 71) (.t 73) (.c (.bool false)), none⟩, ⟨(some 75), .mv (.m 74), none⟩, ⟨(some 76), .mv (.t 10), some (75, true)⟩, ⟨(some 77), .pick (.m 75) (.t 76) (.c (.bool false)), none⟩, ⟨(some 78), .mv (.m 77), none⟩, ⟨(some 79), .fieldAddr 52 (.t 9), some (78, true)⟩, ⟨(some 80), .load false none (.t 79), some (78, true)⟩, ⟨(some 81), .bin .eql (.t 80) (.c (.int .i64 4)), some (78, true)⟩, ⟨(some 82), .pick (.m 78) (.t 81) (.c (.bool false)), none⟩, ⟨(some 83), .mv (.m 82), none⟩, ⟨(some 84), .mv (.t 1), some (83, true)⟩, ⟨(some 85), .call 14 [(.t 84)], some (83, true)⟩, ⟨(some 86), .bin .eql (.t 85) (.c (.int .i64 2)), some (83, true)⟩, ⟨(some 87), .pick (.m 83) (.t 86) (.c (.bool false)), none⟩, ⟨(some 88), .mv (.m 87), none⟩, ⟨(some 89), .mv (.t 12), some (88, true)⟩, ⟨(some 90), .build [(.int .i64 0), (.int .i64 0)] [(0, 1, (.c (.int .i64 3)))], some (88, true)⟩, ⟨(some 91), .call 15 [(.t 89), (.t 90)], some (88, true)⟩, ⟨(some 92), .pick (.m 88) (.t 91) (.c (.bool false)), none⟩, ⟨(some 0), .mv (.m 92), none⟩])
 .ret))))))))))), [.t 0]⟩
/- plover/snap.New -/
def ir9 : IFunc := ⟨8, 3, 3, 3, (.seq (.ops [⟨(some 2), .mv (.c (.prim (.pointer none))), none⟩])
 (.seq (.seq (.ops [⟨(some 3), .mv (.t 0), none⟩, ⟨(some 4), .bin .lss (.m 3) (.c (.int .i64 1)), none⟩])
 (.cond (.t 4) (.seq (.ops [⟨(some 2), .mv (.c (.prim (.pointer none))), none⟩])
 .ret) .skip))
 (.seq (.ops [⟨(some 5), .mv (.m 0), none⟩, ⟨(some 6), .build [(.int .i64 0), (.sl 55 true [])] [(0, 1, (.m 5))], none⟩, ⟨(some 7), .box (.m 6), none⟩, ⟨(some 2), .mv (.m 7), none⟩])
 .ret))), [.t 2]⟩
/- (*plover/snap.Snaps).Add -/
def jhy : IFunc := ⟨51, 7, 15, 5, (.seq (.ops [⟨(some 3), .boxv (.t 1), none⟩, ⟨(some 4), .mv (.c (.bool false)), none⟩])
 (.seq (.seq (.ops [⟨(some 7), .mv (.t 0), none⟩, ⟨(some 8), .isnil false 0 (.m 7), none⟩])
 (.cond (.t 8) (.seq (.ops [⟨(some 4), .mv (.c (.bool false)), none⟩])
 .ret) .skip))
 (.seq (.seq (.ops [⟨(some 9), .mv (.t 0), none⟩, ⟨(some 10), .nilCheck (.m 9), none⟩, ⟨(some 11), .fieldAddr 1 (.m 10), none⟩, ⟨(some 12), .load false none (.m 11), none⟩, ⟨(some 13), .lenL (.t 12), none⟩, ⟨(some 5), .mv (.m 13), none⟩])
 (.seq (.ops [⟨(some 14), .mv (.t 5), none⟩, ⟨(some 15), .bin .gtr (.m 14) (.c (.int .i64 0)), none⟩])
 (.cond (.t 15) (.seq (.ops [⟨(some 16), .mv (.t 0), none⟩, ⟨(some 17), .nilCheck (.m 16), none⟩, ⟨(some 18), .fieldAddr 1 (.m 17), none⟩, ⟨(some 19), .load false none (.m 18), none⟩, ⟨(some 20), .mv (.t 5), none⟩, ⟨(some 21), .bin .sub (.m 20) (.c (.int .i64 1)), none⟩, ⟨(some 22), .idxAddr 55 (.t 19) (.m 21), none⟩, ⟨(some 23), .fieldAddr 52 (.m 22), none⟩, ⟨(some 24), .load false none (.m 23), none⟩, ⟨(some 6), .mv (.m 24), none⟩])
 (.seq (.draw [(0, ⟨(some 25), .fieldAddr 52 (.t 3), none⟩), (1, ⟨(some 26), .load false none (.m 25), none⟩), (2, ⟨(some 27), .mv (.t 6), none⟩), (3, ⟨(some 28), .bin .lss (.m 26) (.m 27), none⟩), (4, ⟨(some 29), .mv (.m 28), none⟩), (5, ⟨(some 30), .fieldAddr 52 (.t 3), some (29, false)⟩), (6, ⟨(some 31), .load false none (.t 30), some (29, false)⟩), (7, ⟨(some 32), .mv (.t 6), some (29, false)⟩), (8, ⟨(some 33), .bin .sub (.t 31) (.t 32), some (29, false)⟩), (9, ⟨(some 34), .mv (.t 0), some (29, false)⟩), (10, ⟨(some 35), .nilCheck (.t 34), some (29, false)⟩), (11, ⟨(some 36), .fieldAddr 0 (.t 35), some (29, false)⟩), (12, ⟨(some 37), .load false none (.t 36), some (29, false)⟩), (13, ⟨(some 38), .bin .lss (.t 33) (.t 37), some (29, false)⟩), (14, ⟨(some 39), .pick (.m 29) (.c (.bool true)) (.t 38), none⟩)] [])
 (.cond (.t 39) (.seq (.ops [⟨(some 4), .mv (.c (.bool false)), none⟩])
 .ret) .skip))) .skip)))
 (.seq (.draw [(0, ⟨(some 40), .mv (.t 0), none⟩), (1, ⟨(some 41), .mv (.t 0), none⟩), (2, ⟨(some 42), .nilCheck (.m 41), none⟩), (3, ⟨(some 43), .fieldAddr 1 (.m 42), none⟩), (4, ⟨(some 44), .load false none (.m 43), none⟩), (5, ⟨(some 45), .load false (some 55) (.t 3), none⟩), (6, ⟨(some 46), .call 17 [(.m 45)], none⟩), (7, ⟨(some 47), .buildSl 55 [(.m 46)], none⟩), (8, ⟨(some 48), .append true false 55 264 (.m 44) (.m 47), none⟩), (9, ⟨(some 49), .nilCheck (.m 40), none⟩), (10, ⟨(some 50), .fieldAddr 1 (.m 49), none⟩), (11, ⟨none, .store 1 (.m 50) (.m 48), none⟩)] [(4, 6)])
 (.seq (.ops [⟨(some 4), .mv (.c (.bool true)), none⟩])
 .ret))))), [.t 4]⟩
/- (*plover/snap.Snaps).Before -/
def jhz : IFunc := ⟨11, 6, 5, 4, (.seq (.ops [⟨(some 3), .boxv (.t 1), none⟩, ⟨(some 4), .alloc Z55, none⟩, ⟨(some 5), .mv (.c (.bool false)), none⟩])
 (.seq (.ops [⟨(some 6), .mv (.m 0), none⟩, ⟨(some 7), .mkFn (.func 25) [] [(.m 3)], none⟩, ⟨(some 8), .call 24 [(.m 6), (.m 7)], none⟩, ⟨(some 9), .extract (.m 8) 0, none⟩, ⟨(some 10), .extract (.m 8) 1, none⟩, ⟨none, .store 55 (.m 4) (.m 9), none⟩, ⟨(some 5), .mv (.m 10), none⟩])
 .ret)), [.cell 4 (some 55), .t 5]⟩
/- (*plover/snap.Snaps).Retired -/
def jhA : IFunc := ⟨11, 6, 5, 4, (.seq (.ops [⟨(some 3), .boxv (.t 1), none⟩, ⟨(some 4), .alloc Z55, none⟩, ⟨(some 5), .mv (.c (.bool false)), none⟩])
 (.seq (.ops [⟨(some 6), .mv (.m 0), none⟩, ⟨(some 7), .mkFn (.func 26) [] [(.m 3)], none⟩, ⟨(some 8), .call 24 [(.m 6), (.m 7)], none⟩, ⟨(some 9), .extract (.m 8) 0, none⟩, ⟨(some 10), .extract (.m 8) 1, none⟩, ⟨none, .store 55 (.m 4) (.m 9), none⟩, ⟨(some 5), .mv (.m 10), none⟩])
 .ret)), [.cell 4 (some 55), .t 5]⟩
/- (*plover/snap.Snaps).Cut -/
def jhB : IFunc := ⟨15, 4, 9, 4, (.seq (.ops [⟨(some 3), .boxv (.t 1), none⟩])
 (.seq (.ops [⟨(some 4), .mv (.t 0), none⟩, ⟨(some 5), .isnil true 0 (.m 4), none⟩])
 (.cond (.t 5) (.ops [⟨(some 6), .mv (.t 0), none⟩, ⟨(some 7), .mv (.t 0), none⟩, ⟨(some 8), .nilCheck (.m 7), none⟩, ⟨(some 9), .fieldAddr 1 (.m 8), none⟩, ⟨(some 10), .load true none (.m 9), none⟩, ⟨(some 11), .mkFn (.func 28) [] [(.t 3)], none⟩, ⟨(some 12), .call 27 [(.m 10), (.m 11)], none⟩, ⟨(some 13), .nilCheck (.m 6), none⟩, ⟨(some 14), .fieldAddr 1 (.m 13), none⟩, ⟨none, .store 1 (.m 14) (.m 12), none⟩]) .skip))), []⟩
/- (*plover/snap.Snaps).Len -/
def jhC : IFunc := ⟨10, 3, 5, 4, (.seq (.ops [⟨(some 2), .mv (.c (.int .i64 0)), none⟩])
 (.seq (.seq (.ops [⟨(some 3), .mv (.t 0), none⟩, ⟨(some 4), .isnil false 0 (.m 3), none⟩])
 (.cond (.t 4) (.seq (.ops [⟨(some 2), .mv (.c (.int .i64 0)), none⟩])
 .ret) .skip))
 (.seq (.ops [⟨(some 5), .mv (.m 0), none⟩, ⟨(some 6), .nilCheck (.m 5), none⟩, ⟨(some 7), .fieldAddr 1 (.m 6), none⟩, ⟨(some 8), .load false none (.m 7), none⟩, ⟨(some 9), .lenL (.t 8), none⟩, ⟨(some 2), .mv (.m 9), none⟩])
 .ret))), [.t 2]⟩
/- plover/ploverlaw28.told -/
def jhD : IFunc := ⟨28, 6, 17, 5, (.seq (.ops [⟨(some 3), .boxv (.t 1), none⟩, ⟨(some 4), .mv (.c (.bool false)), none⟩])
 (.seq (.seq (.ops [⟨(some 6), .fieldAddr 0 (.t 3), none⟩, ⟨(some 7), .load false none (.m 6), none⟩, ⟨(some 8), .bin .eql (.m 7) (.c (.int .i64 0)), none⟩])
 (.cond (.t 8) (.seq (.ops [⟨(some 9), .mv (.m 0), none⟩, ⟨(some 10), .isnil false 1 (.m 9), none⟩, ⟨(some 4), .mv (.m 10), none⟩])
 .ret) .skip))
 (.seq (.ops [⟨(some 5), .alloc [(.prim (.pointer none))], none⟩])
 (.seq (.draw [(0, ⟨(some 11), .mv (.m 0), none⟩), (1, ⟨(some 12), .mkIface 91 (.m 5), none⟩), (2, ⟨(some 13), .call 29 [(.m 11), (.m 12)], none⟩), (3, ⟨(some 14), .mv (.m 13), none⟩), (4, ⟨(some 15), .load false none (.t 5), some (14, true)⟩), (5, ⟨(some 16), .nilCheck (.t 15), some (14, true)⟩), (6, ⟨(some 17), .load false (some 2) (.t 16), some (14, true)⟩), (7, ⟨(some 18), .load false (some 2) (.t 3), some (14, true)⟩), (8, ⟨(some 19), .pur (.eqa false [0, 0]) [(.t 17), (.t 18)], some (14, true)⟩), (9, ⟨(some 20), .pick (.m 14) (.t 19) (.c (.bool false)), none⟩), (10, ⟨(some 21), .mv (.m 20), none⟩), (11, ⟨(some 22), .mv (.t 0), some (21, true)⟩), (12, ⟨(some 23), .fieldAddr 0 (.t 3), some (21, true)⟩), (13, ⟨(some 24), .load false none (.t 23), some (21, true)⟩), (14, ⟨(some 25), .mkIface 62 (.t 24), some (21, true)⟩), (15, ⟨(some 26), .call 30 [(.t 22), (.t 25)], some (21, true)⟩), (16, ⟨(some 27), .pick (.m 21) (.t 26) (.c (.bool false)), none⟩), (17, ⟨(some 4), .mv (.m 27), none⟩)] [])
 .ret)))), [.t 4]⟩
/- (*plover/snap.Snaps).last -/
def jhE : IFunc := ⟨24, 18, 3, 5, (.seq (.ops [⟨(some 3), .boxv (.t 1), none⟩, ⟨(some 4), .alloc Z55, none⟩, ⟨(some 5), .alloc [(.bool false)], none⟩])
 (.seq (.seq (.ops [⟨(some 8), .mv (.t 0), none⟩, ⟨(some 9), .isnil false 0 (.m 8), none⟩])
 (.cond (.t 9) (.seq (.ops [⟨(some 10), .build Z55 [], none⟩, ⟨none, .store 55 (.m 4) (.m 10), none⟩, ⟨none, .store 1 (.m 5) (.c (.bool false)), none⟩])
 .ret) .skip))
 (.seq (.seq (.ops [⟨(some 11), .mv (.t 0), none⟩, ⟨(some 12), .nilCheck (.m 11), none⟩, ⟨(some 13), .fieldAddr 1 (.m 12), none⟩, ⟨(some 14), .load false none (.m 13), none⟩, ⟨(some 15), .call 43 [(.m 14)], none⟩])
 (.block 0 (.rangeF (.t 15) [16, 17] (.ops [⟨(some 7), .alloc Z55, none⟩, ⟨none, .store 55 (.m 7) (.t 17), none⟩]) (.block 1 (.seq (.ops [⟨(some 18), .load false none (.t 3), none⟩, ⟨(some 19), .load false (some 55) (.t 7), none⟩, ⟨(some 20), .callv (.m 18) [(.m 19)], none⟩])
 (.cond (.t 20) (.seq (.ops [⟨(some 21), .load true (some 55) (.m 7), none⟩, ⟨(some 22), .call 17 [(.m 21)], none⟩, ⟨none, .store 55 (.m 4) (.m 22), none⟩, ⟨none, .store 1 (.m 5) (.c (.bool true)), none⟩])
 .ret) .skip))))))
 (.seq (.ops [⟨(some 23), .build Z55 [], none⟩, ⟨none, .store 55 (.m 4) (.m 23), none⟩, ⟨none, .store 1 (.m 5) (.c (.bool false)), none⟩])
 .ret)))), [.cell 4 (some 55), .cell 5 none]⟩
/- (*plover/snap.Snaps).Before$1 -/
def jhF : IFunc := ⟨8, 4, 4, 4, (.seq (.ops [⟨(some 2), .boxv (.t 0), none⟩, ⟨(some 3), .mv (.c (.bool false)), none⟩])
 (.seq (.ops [⟨(some 4), .fieldAddr 52 (.m 2), none⟩, ⟨(some 5), .load false none (.m 4), none⟩, ⟨(some 6), .load false none (.m 1), none⟩, ⟨(some 7), .bin .leq (.m 5) (.m 6), none⟩, ⟨(some 3), .mv (.m 7), none⟩])
 .ret)), [.t 3]⟩
/- (*plover/snap.Snaps).Retired$1 -/
def jhG : IFunc := ⟨8, 4, 4, 4, (.seq (.ops [⟨(some 2), .boxv (.t 0), none⟩, ⟨(some 3), .mv (.c (.bool false)), none⟩])
 (.seq (.ops [⟨(some 4), .fieldAddr 50 (.m 2), none⟩, ⟨(some 5), .load false none (.m 4), none⟩, ⟨(some 6), .load false none (.m 1), none⟩, ⟨(some 7), .bin .leq (.m 5) (.m 6), none⟩, ⟨(some 3), .mv (.m 7), none⟩])
 .ret)), [.t 3]⟩
/- slices.DeleteFunc[[]plover/vm.State,plover/vm.State] -/
def jeg : ICode := (.seq (.seq (.ops [⟨(some 16), .mv (.t 6), none⟩, ⟨(some 17), .mv (.t 0), none⟩, ⟨(some 18), .lenL (.t 17), none⟩, ⟨(some 19), .bin .lss (.m 16) (.m 18), none⟩])
 (.cond (.t 19) .skip (.exit 0)))
 (.seq (.block 1 (.seq (.ops [⟨(some 22), .mv (.t 0), none⟩, ⟨(some 23), .mv (.t 6), none⟩, ⟨(some 24), .idxAddr 55 (.t 22) (.m 23), none⟩, ⟨(some 25), .load true (some 55) (.m 24), none⟩, ⟨(some 7), .alloc Z55, none⟩, ⟨none, .store 55 (.m 7) (.m 25), none⟩])
 (.seq (.ops [⟨(some 26), .mv (.t 1), none⟩, ⟨(some 27), .load false (some 55) (.t 7), none⟩, ⟨(some 28), .callv (.m 26) [(.m 27)], none⟩, ⟨(some 29), .un .not (.m 28), none⟩])
 (.cond (.t 29) (.seq (.ops [⟨(some 30), .mv (.t 0), none⟩, ⟨(some 31), .mv (.t 5), none⟩, ⟨(some 32), .load true (some 55) (.t 7), none⟩, ⟨(some 33), .idxAddr 55 (.t 30) (.m 31), none⟩, ⟨none, .store 55 (.m 33) (.m 32), none⟩])
 (.ops [⟨(some 34), .mv (.m 5), none⟩, ⟨(some 35), .bin .add (.m 34) (.c (.int .i64 1)), none⟩, ⟨(some 5), .mv (.m 35), none⟩])) .skip))))
 (.ops [⟨(some 20), .mv (.m 6), none⟩, ⟨(some 21), .bin .add (.m 20) (.c (.int .i64 1)), none⟩, ⟨(some 6), .mv (.m 21), none⟩])))
def jhH : IFunc := ⟨42, 8, 4, 4, (.seq (.ops [⟨(some 4), .mv (.c (.sl 55 true [])), none⟩])
 (.seq (.ops [⟨(some 8), .mv (.t 0), none⟩, ⟨(some 9), .mv (.t 1), none⟩, ⟨(some 10), .call 44 [(.m 8), (.m 9)], none⟩, ⟨(some 5), .mv (.m 10), none⟩])
 (.seq (.seq (.ops [⟨(some 11), .mv (.t 5), none⟩, ⟨(some 12), .bin .eql (.m 11) (.c (.int .i64 (-1))), none⟩])
 (.cond (.t 12) (.seq (.ops [⟨(some 13), .mv (.m 0), none⟩, ⟨(some 4), .mv (.m 13), none⟩])
 .ret) .skip))
 (.seq (.seq (.ops [⟨(some 14), .mv (.t 5), none⟩, ⟨(some 15), .bin .add (.m 14) (.c (.int .i64 1)), none⟩, ⟨(some 6), .mv (.m 15), none⟩])
 (.block 0 (.loop jeg)))
 (.seq (.ops [⟨(some 36), .mv (.t 0), none⟩, ⟨(some 37), .mv (.t 5), none⟩, ⟨(some 38), .sliceL 55 (.m 36) (some (.t 37)) none none, none⟩, ⟨none, .clear Z55 (.t 38), none⟩])
 (.seq (.ops [⟨(some 39), .mv (.m 0), none⟩, ⟨(some 40), .mv (.m 5), none⟩, ⟨(some 41), .sliceL 55 (.m 39) none (some (.t 40)) none, none⟩, ⟨(some 4), .mv (.m 41), none⟩])
 .ret)))))), [.t 4]⟩
/- (*plover/snap.Snaps).Cut$1 -/
def jhI : IFunc := ⟨8, 4, 4, 4, (.seq (.ops [⟨(some 2), .boxv (.t 0), none⟩, ⟨(some 3), .mv (.c (.bool false)), none⟩])
 (.seq (.ops [⟨(some 4), .fieldAddr 52 (.m 2), none⟩, ⟨(some 5), .load false none (.m 4), none⟩, ⟨(some 6), .load false none (.m 1), none⟩, ⟨(some 7), .bin .gtr (.m 5) (.m 6), none⟩, ⟨(some 3), .mv (.m 7), none⟩])
 .ret)), [.t 3]⟩
/- errors.As -/
def jhJ : IFunc := ⟨42, 8, 9, 5, (.seq (.ops [⟨(some 4), .mv (.c (.bool false)), none⟩])
 (.seq (.seq (.ops [⟨(some 8), .mv (.t 0), none⟩, ⟨(some 9), .isnil false 1 (.m 8), none⟩])
 (.cond (.t 9) (.seq (.ops [⟨(some 4), .mv (.c (.bool false)), none⟩])
 .ret) .skip))
 (.seq (.seq (.ops [⟨(some 10), .mv (.t 1), none⟩, ⟨(some 11), .isnil false 1 (.m 10), none⟩])
 (.cond (.t 11) (.ops [⟨(some 12), .mkIface 9 (.c (.str [101, 114, 114, 111, 114, 115, 58, 32, 116, 97, 114, 103, 101, 116, 32, 99, 97, 110, 110, 111, 116, 32, 98, 101, 32, 110, 105, 108])), none⟩, ⟨none, .panic (.m 12), none⟩]) .skip))
 (.seq (.ops [⟨(some 13), .mv (.t 1), none⟩, ⟨(some 14), .vOf 1 [(8, 25), (10, 24), (11, 24), (14, 25), (15, 22), (16, 22), (19, 25), (62, 2), (89, 22), (145, 22), (47, 20), (91, 22), (144, 25), (53, 22), (69, 22), (75, 22), (77, 25), (78, 25)] (.m 13), none⟩, ⟨(some 5), .alloc [(.prim (.pointer none)), (.prim (.pointer none)), (.int .u64 0)], none⟩, ⟨none, .store 3 (.m 5) (.m 14), none⟩])
 (.seq (.ops [⟨(some 15), .load false (some 3) (.t 5), none⟩, ⟨(some 16), .pur (.ext (.vType 144 1)) [(.m 15)], none⟩, ⟨(some 6), .mv (.m 16), none⟩])
 (.seq (.seq (.ops [⟨(some 17), .mv (.t 6), none⟩, ⟨(some 18), .pur (.invX [(144, (.aKind 1 [(8, 25), (10, 24), (11, 24), (14, 25), (15, 22), (16, 22), (19, 25), (62, 2), (89, 22), (145, 22), (47, 20), (91, 22), (144, 25), (53, 22), (69, 22), (75, 22), (77, 25), (78, 25)]), (.fld 0 none))]) [(.m 17)], none⟩, ⟨(some 19), .bin .neq (.m 18) (.c (.int .u8 22)), none⟩, ⟨(some 20), .mv (.m 19), none⟩, ⟨(some 21), .load false (some 3) (.t 5), some (20, false)⟩, ⟨(some 22), .pur (.ext (.vIsNil 1 [10, 11, 15, 16, 62, 89, 145, 47, 91, 53, 69, 75])) [(.t 21)], some (20, false)⟩, ⟨(some 23), .pick (.m 20) (.c (.bool true)) (.t 22), none⟩])
 (.cond (.t 23) (.ops [⟨(some 24), .mkIface 9 (.c (.str [101, 114, 114, 111, 114, 115, 58, 32, 116, 97, 114, 103, 101, 116, 32, 109, 117, 115, 116, 32, 98, 101, 32, 97, 32, 110, 111, 110, 45, 110, 105, 108, 32, 112, 111, 105, 110, 116, 101, 114])), none⟩, ⟨none, .panic (.m 24), none⟩]) .skip))
 (.seq (.ops [⟨(some 25), .mv (.t 6), none⟩, ⟨(some 26), .pur (.invX [(144, (.rElem 144 1 [(15, 160), (16, 163), (89, 64), (145, 193), (91, 89), (53, 86), (69, 72), (75, 117)]), .same)]) [(.m 25)], none⟩, ⟨(some 7), .mv (.m 26), none⟩])
 (.seq (.seq (.ops [⟨(some 27), .mv (.t 7), none⟩, ⟨(some 28), .pur (.invX [(144, (.aKind 1 [(8, 25), (10, 24), (11, 24), (14, 25), (15, 22), (16, 22), (19, 25), (62, 2), (89, 22), (145, 22), (47, 20), (91, 22), (144, 25), (53, 22), (69, 22), (75, 22), (77, 25), (78, 25)]), (.fld 0 none))]) [(.m 27)], none⟩, ⟨(some 29), .bin .neq (.m 28) (.c (.int .u8 20)), none⟩, ⟨(some 30), .mv (.m 29), none⟩, ⟨(some 31), .mv (.t 7), some (30, true)⟩, ⟨(some 32), .load false none (.c (.pv false [(.iface 144 (.agg [(.prim (.pointer (some ⟨1, 47, none⟩)))]))] 0)), some (30, true)⟩, ⟨(some 33), .pur (.invX [(144, (.rImpl 1 [((8, 47), true), ((10, 47), true), ((11, 47), true), ((14, 47), true), ((15, 47), true), ((16, 47), true), ((19, 47), true), ((62, 47), true), ((89, 47), true), ((145, 47), true), ((91, 47), false), ((144, 47), false), ((53, 47), false), ((69, 47), false), ((75, 47), false), ((77, 47), false), ((78, 47), false)]), .same)]) [(.t 31), (.t 32)], some (30, true)⟩, ⟨(some 34), .un .not (.t 33), some (30, true)⟩, ⟨(some 35), .pick (.m 30) (.t 34) (.c (.bool false)), none⟩])
 (.cond (.t 35) (.ops [⟨(some 36), .mkIface 9 (.c (.str [101, 114, 114, 111, 114, 115, 58, 32, 42, 116, 97, 114, 103, 101, 116, 32, 109, 117, 115, 116, 32, 98, 101, 32, 105, 110, 116, 101, 114, 102, 97, 99, 101, 32, 111, 114, 32, 105, 109, 112, 108, 101, 109, 101, 110, 116, 32, 101, 114, 114, 111, 114])), none⟩, ⟨none, .panic (.m 36), none⟩]) .skip))
 (.seq (.ops [⟨(some 37), .mv (.m 0), none⟩, ⟨(some 38), .mv (.m 1), none⟩, ⟨(some 39), .load false (some 3) (.m 5), none⟩, ⟨(some 40), .mv (.m 7), none⟩, ⟨(some 41), .call 48 [(.m 37), (.m 38), (.m 39), (.m 40)], none⟩, ⟨(some 4), .mv (.m 41), none⟩])
 .ret))))))))), [.t 4]⟩
/- errors.Is -/
def jhK : IFunc := ⟨22, 6, 6, 4, (.seq (.ops [⟨(some 4), .mv (.c (.bool false)), none⟩])
 (.seq (.seq (.ops [⟨(some 6), .mv (.t 0), none⟩, ⟨(some 7), .isnil false 1 (.m 6), none⟩, ⟨(some 8), .mv (.m 7), none⟩, ⟨(some 9), .mv (.t 1), some (8, false)⟩, ⟨(some 10), .isnil false 1 (.t 9), some (8, false)⟩, ⟨(some 11), .pick (.m 8) (.c (.bool true)) (.t 10), none⟩])
 (.cond (.t 11) (.seq (.ops [⟨(some 12), .mv (.m 0), none⟩, ⟨(some 13), .mv (.m 1), none⟩, ⟨(some 14), .pur (.eqi false [(10, 1), (11, 1), (62, 0)]) [(.m 12), (.m 13)], none⟩, ⟨(some 4), .mv (.m 14), none⟩])
 .ret) .skip))
 (.seq (.ops [⟨(some 15), .mv (.t 1), none⟩, ⟨(some 16), .pur (.ext (.typeOf 144 1)) [(.m 15)], none⟩, ⟨(some 17), .pur (.invX [(144, (.rCmp 1 [(8, true), (10, true), (11, true), (14, true), (15, true), (16, true), (19, true), (62, true), (89, true), (145, true), (47, true), (91, true), (144, true), (53, true), (69, true), (75, true), (77, true), (78, true)]), .same)]) [(.m 16)], none⟩, ⟨(some 5), .mv (.m 17), none⟩])
 (.seq (.ops [⟨(some 18), .mv (.m 0), none⟩, ⟨(some 19), .mv (.m 1), none⟩, ⟨(some 20), .mv (.m 5), none⟩, ⟨(some 21), .call 50 [(.m 18), (.m 19), (.m 20)], none⟩, ⟨(some 4), .mv (.m 21), none⟩])
 .ret)))), [.t 4]⟩
/- slices.Backward[[]plover/vm.State,plover/vm.State] -/
def jhL : IFunc := ⟨4, 3, 1, 3, (.seq (.ops [⟨(some 1), .boxv (.t 0), none⟩, ⟨(some 2), .mv (.c (.prim .nilFunc)), none⟩])
 (.seq (.ops [⟨(some 3), .mkFn (.func 51) [] [(.m 1)], none⟩, ⟨(some 2), .mv (.m 3), none⟩])
 .ret)), [.t 2]⟩
/- slices.IndexFunc[[]plover/vm.State,plover/vm.State] -/
def jeh : ICode := (.seq (.ops [⟨(some 9), .bin .lss (.t 8) (.t 7), none⟩])
 (.seq (.cond (.t 9) .skip (.exit 0))
 (.seq (.block 1 (.seq (.ops [⟨(some 10), .mv (.t 8), none⟩, ⟨(some 5), .mv (.m 10), none⟩])
 (.seq (.ops [⟨(some 11), .mv (.t 1), none⟩, ⟨(some 12), .mv (.t 0), none⟩, ⟨(some 13), .mv (.t 5), none⟩, ⟨(some 14), .idxAddr 55 (.t 12) (.m 13), none⟩, ⟨(some 15), .load false (some 55) (.m 14), none⟩, ⟨(some 16), .callv (.m 11) [(.m 15)], none⟩])
 (.cond (.t 16) (.seq (.ops [⟨(some 17), .mv (.m 5), none⟩, ⟨(some 4), .mv (.m 17), none⟩])
 .ret) .skip))))
 (.ops [⟨(some 18), .bin .add (.m 8) (.c (.int .i64 1)), none⟩, ⟨(some 8), .mv (.m 18), none⟩]))))
def jhM : IFunc := ⟨19, 9, 6, 4, (.seq (.ops [⟨(some 4), .mv (.c (.int .i64 0)), none⟩])
 (.seq (.seq (.ops [⟨(some 6), .mv (.t 0), none⟩, ⟨(some 7), .lenL (.t 6), none⟩, ⟨(some 8), .mv (.c (.int .i64 0)), none⟩])
 (.block 0 (.loop jeh)))
 (.seq (.ops [⟨(some 4), .mv (.c (.int .i64 (-1))), none⟩])
 .ret))), [.t 4]⟩
/- errors.as -/
def jej : ICode := (.seq (.ops [⟨(some 51), .bin .lss (.t 50) (.t 49), none⟩])
 (.seq (.cond (.t 51) .skip (.exit 3))
 (.seq (.block 4 (.seq (.ops [⟨(some 52), .idxAddr 1 (.t 48) (.t 50), none⟩, ⟨(some 53), .load false none (.m 52), none⟩, ⟨(some 14), .mv (.m 53), none⟩])
 (.seq (.seq (.ops [⟨(some 54), .mv (.t 14), none⟩, ⟨(some 55), .isnil false 1 (.m 54), none⟩])
 (.cond (.t 55) (.exit 4) .skip))
 (.seq (.ops [⟨(some 56), .mv (.t 14), none⟩, ⟨(some 57), .mv (.t 1), none⟩, ⟨(some 58), .load false (some 3) (.t 6), none⟩, ⟨(some 59), .mv (.t 3), none⟩, ⟨(some 60), .call 48 [(.m 56), (.m 57), (.m 58), (.m 59)], none⟩])
 (.cond (.t 60) (.seq (.ops [⟨(some 8), .mv (.c (.bool true)), none⟩])
 .ret) .skip)))))
 (.ops [⟨(some 61), .bin .add (.m 50) (.c (.int .i64 1)), none⟩, ⟨(some 50), .mv (.m 61), none⟩]))))
def jei : ICode := (.block 1 (.seq (.seq (.ops [⟨(some 16), .mv (.t 0), none⟩, ⟨(some 17), .pur (.ext (.typeOf 144 1)) [(.m 16)], none⟩, ⟨(some 18), .mv (.t 3), none⟩, ⟨(some 19), .pur (.invX [(144, (.rAsg 1 [((8, 8), true), ((8, 10), false), ((8, 11), false), ((8, 14), false), ((8, 15), false), ((8, 16), false), ((8, 19), false), ((8, 62), false), ((8, 89), false), ((8, 145), false), ((8, 47), true), ((8, 91), false), ((8, 144), false), ((8, 53), false), ((8, 69), false), ((8, 75), false), ((8, 77), false), ((8, 78), false), ((10, 8), false), ((10, 10), true), ((10, 11), false), ((10, 14), false), ((10, 15), false), ((10, 16), false), ((10, 19), false), ((10, 62), false), ((10, 89), false), ((10, 145), false), ((10, 47), true), ((10, 91), false), ((10, 144), false), ((10, 53), false), ((10, 69), false), ((10, 75), false), ((10, 77), false), ((10, 78), false), ((11, 8), false), ((11, 10), false), ((11, 11), true), ((11, 14), false), ((11, 15), false), ((11, 16), false), ((11, 19), false), ((11, 62), false), ((11, 89), false), ((11, 145), false), ((11, 47), true), ((11, 91), false), ((11, 144), false), ((11, 53), false), ((11, 69), false), ((11, 75), false), ((11, 77), false), ((11, 78), false), ((14, 8), false), ((14, 10), false), ((14, 11), false), ((14, 14), true), ((14, 15), false), ((14, 16), false), ((14, 19), false), ((14, 62), false), ((14, 89), false), ((14, 145), false), ((14, 47), true), ((14, 91), false), ((14, 144), false), ((14, 53), false), ((14, 69), false), ((14, 75), false), ((14, 77), false), ((14, 78), false), ((15, 8), false), ((15, 10), false), ((15, 11), false), ((15, 14), false), ((15, 15), true), ((15, 16), false), ((15, 19), false), ((15, 62), false), ((15, 89), false), ((15, 145), false), ((15, 47), true), ((15, 91), false), ((15, 144), false), ((15, 53), false), ((15, 69), false), ((15, 75), false), ((15, 77), false), ((15, 78), false), ((16, 8), false), ((16, 10), false), ((16, 11), false), ((16, 14), false), ((16, 15), false), ((16, 16), true), ((16, 19), false), ((16, 62), false), ((16, 89), false), ((16, 145), false), ((16, 47), true), ((16, 91), false), ((16, 144), false), ((16, 53), false), ((16, 69), false), ((16, 75), false), ((16, 77), false), ((16, 78), false), ((19, 8), false), ((19, 10), false), ((19, 11), false), ((19, 14), false), ((19, 15), false), ((19, 16), false), ((19, 19), true), ((19, 62), false), ((19, 89), false), ((19, 145), false), ((19, 47), true), ((19, 91), false), ((19, 144), false), ((19, 53), false), ((19, 69), false), ((19, 75), false), ((19, 77), false), ((19, 78), false), ((62, 8), false), ((62, 10), false), ((62, 11), false), ((62, 14), false), ((62, 15), false), ((62, 16), false), ((62, 19), false), ((62, 62), true), ((62, 89), false), ((62, 145), false), ((62, 47), true), ((62, 91), false), ((62, 144), false), ((62, 53), false), ((62, 69), false), ((62, 75), false), ((62, 77), false), ((62, 78), false), ((89, 8), false), ((89, 10), false), ((89, 11), false), ((89, 14), false), ((89, 15), false), ((89, 16), false), ((89, 19), false), ((89, 62), false), ((89, 89), true), ((89, 145), false), ((89, 47), true), ((89, 91), false), ((89, 144), false), ((89, 53), false), ((89, 69), false), ((89, 75), false), ((89, 77), false), ((89, 78), false), ((145, 8), false), ((145, 10), false), ((145, 11), false), ((145, 14), false), ((145, 15), false), ((145, 16), false), ((145, 19), false), ((145, 62), false), ((145, 89), false), ((145, 145), true), ((145, 47), true), ((145, 91), false), ((145, 144), false), ((145, 53), false), ((145, 69), false), ((145, 75), false), ((145, 77), false), ((145, 78), false), ((47, 8), false), ((47, 10), false), ((47, 11), false), ((47, 14), false), ((47, 15), false), ((47, 16), false), ((47, 19), false), ((47, 62), false), ((47, 89), false), ((47, 145), false), ((47, 91), false), ((47, 144), false), ((47, 53), false), ((47, 69), false), ((47, 75), false), ((47, 77), false), ((47, 78), false), ((91, 8), false), ((91, 10), false), ((91, 11), false), ((91, 14), false), ((91, 15), false), ((91, 16), false), ((91, 19), false), ((91, 62), false), ((91, 89), false), ((91, 145), false), ((91, 47), false), ((91, 91), true), ((91, 144), false), ((91, 53), false), ((91, 69), false), ((91, 75), false), ((91, 77), false), ((91, 78), false), ((144, 8), false), ((144, 10), false), ((144, 11), false), ((144, 14), false), ((144, 15), false), ((144, 16), false), ((144, 19), false), ((144, 62), false), ((144, 89), false), ((144, 145), false), ((144, 47), false), ((144, 91), false), ((144, 144), true), ((144, 53), false), ((144, 69), false), ((144, 75), false), ((144, 77), false), ((144, 78), false), ((53, 8), false), ((53, 10), false), ((53, 11), false), ((53, 14), false), ((53, 15), false), ((53, 16), false), ((53, 19), false), ((53, 62), false), ((53, 89), false), ((53, 145), false), ((53, 47), false), ((53, 91), false), ((53, 144), false), ((53, 53), true), ((53, 69), false), ((53, 75), false), ((53, 77), false), ((53, 78), false), ((69, 8), false), ((69, 10), false), ((69, 11), false), ((69, 14), false), ((69, 15), false), ((69, 16), false), ((69, 19), false), ((69, 62), false), ((69, 89), false), ((69, 145), false), ((69, 47), false), ((69, 91), false), ((69, 144), false), ((69, 53), false), ((69, 69), true), ((69, 75), false), ((69, 77), false), ((69, 78), false), ((75, 8), false), ((75, 10), false), ((75, 11), false), ((75, 14), false), ((75, 15), false), ((75, 16), false), ((75, 19), false), ((75, 62), false), ((75, 89), false), ((75, 145), false), ((75, 47), false), ((75, 91), false), ((75, 144), false), ((75, 53), false), ((75, 69), false), ((75, 75), true), ((75, 77), false), ((75, 78), false), ((77, 8), false), ((77, 10), false), ((77, 11), false), ((77, 14), false), ((77, 15), false), ((77, 16), false), ((77, 19), false), ((77, 62), false), ((77, 89), false), ((77, 145), false), ((77, 47), false), ((77, 91), false), ((77, 144), false), ((77, 53), false), ((77, 69), false), ((77, 75), false), ((77, 77), true), ((77, 78), true), ((78, 8), false), ((78, 10), false), ((78, 11), false), ((78, 14), false), ((78, 15), false), ((78, 16), false), ((78, 19), false), ((78, 62), false), ((78, 89), false), ((78, 145), false), ((78, 47), false), ((78, 91), false), ((78, 144), false), ((78, 53), false), ((78, 69), false), ((78, 75), false), ((78, 77), true), ((78, 78), true)]), .same)]) [(.m 17), (.m 18)], none⟩])
 (.cond (.t 19) (.seq (.ops [⟨(some 20), .load false (some 3) (.t 6), none⟩, ⟨(some 21), .pur (.ext (.vElem 1 [(15, (160, 25)), (16, (163, 25)), (89, (64, 25)), (145, (193, 25)), (91, (89, 22)), (53, (86, 25)), (69, (72, 25)), (75, (117, 25))])) [(.m 20)], none⟩, ⟨(some 22), .mv (.t 0), none⟩, ⟨(some 23), .vOf 1 [(8, 25), (10, 24), (11, 24), (14, 25), (15, 22), (16, 22), (19, 25), (62, 2), (89, 22), (145, 22), (47, 20), (91, 22), (144, 25), (53, 22), (69, 22), (75, 22), (77, 25), (78, 25)] (.m 22), none⟩, ⟨(some 24), .vSet 1 [10, 11, 15, 16, 62, 89, 145, 47, 91, 53, 69, 75] (.m 21) (.m 23), none⟩])
 (.seq (.ops [⟨(some 8), .mv (.c (.bool true)), none⟩])
 .ret)) .skip))
 (.seq (.seq (.ops [⟨(some 26), .mv (.t 0), none⟩, ⟨(some 27), .pur (.tyI [] [8, 10, 11, 14, 15, 16, 19, 62, 89, 145, 47, 91, 144, 53, 69, 75, 77, 78] true) [(.m 26)], none⟩, ⟨(some 25), .mv (.m 27), none⟩, ⟨(some 28), .extract (.m 25) 0, none⟩, ⟨(some 29), .extract (.m 25) 1, none⟩, ⟨(some 9), .mv (.m 28), none⟩, ⟨(some 10), .mv (.m 29), none⟩])
 (.seq (.ops [⟨(some 30), .mv (.t 10), none⟩, ⟨(some 31), .mv (.m 30), none⟩, ⟨(some 32), .mv (.t 9), some (31, true)⟩, ⟨(some 33), .mv (.t 1), some (31, true)⟩, ⟨(some 34), .pur (.invX []) [(.t 32), (.t 33)], some (31, true)⟩, ⟨(some 35), .pick (.m 31) (.t 34) (.c (.bool false)), none⟩])
 (.cond (.t 35) (.seq (.ops [⟨(some 8), .mv (.c (.bool true)), none⟩])
 .ret) .skip)))
 (.seq (.ops [⟨(some 36), .mv (.t 0), none⟩])
 (.block 2 (.seq (.ops [⟨(some 37), .pur (.tyI [89] [8, 10, 11, 14, 15, 16, 19, 62, 145, 47, 91, 144, 53, 69, 75, 77, 78] true) [(.t 36)], none⟩, ⟨(some 38), .extract (.m 37) 1, none⟩, ⟨(some 39), .extract (.m 37) 0, none⟩])
 (.cond (.t 38) (.seq (.ops [⟨(some 11), .mv (.t 39), none⟩])
 (.seq (.ops [⟨(some 40), .mv (.t 11), none⟩, ⟨(some 41), .inv [(89, 95, .same)] (.m 40) [], none⟩, ⟨(some 0), .mv (.m 41), none⟩])
 (.seq (.ops [⟨(some 42), .mv (.t 0), none⟩, ⟨(some 43), .isnil false 1 (.m 42), none⟩])
 (.cond (.t 43) (.seq (.ops [⟨(some 8), .mv (.c (.bool false)), none⟩])
 .ret) .skip)))) (.seq (.ops [⟨(some 44), .pur (.tyI [] [8, 10, 11, 14, 15, 16, 19, 62, 89, 145, 47, 91, 144, 53, 69, 75, 77, 78] true) [(.t 36)], none⟩, ⟨(some 45), .extract (.m 44) 1, none⟩, ⟨(some 46), .extract (.m 44) 0, none⟩])
 (.cond (.t 45) (.seq (.ops [⟨(some 12), .mv (.t 46), none⟩])
 (.seq (.seq (.ops [⟨(some 47), .mv (.t 12), none⟩, ⟨(some 48), .inv [(89, 95, .same)] (.m 47) [], none⟩, ⟨(some 49), .lenL (.t 48), none⟩, ⟨(some 50), .mv (.c (.int .i64 0)), none⟩])
 (.block 3 (.loop jej)))
 (.seq (.ops [⟨(some 8), .mv (.c (.bool false)), none⟩])
 .ret))) (.seq (.ops [⟨(some 15), .mv (.t 36), none⟩])
 (.seq (.ops [⟨(some 8), .mv (.c (.bool false)), none⟩])
 .ret)))))))))))
def jhN : IFunc := ⟨62, 51, 5, 6, (.seq (.ops [⟨(some 6), .boxv (.t 2), none⟩, ⟨(some 8), .mv (.c (.bool false)), none⟩])
 (.block 0 (.loop jei))), [.t 8]⟩
/- errors.is -/
def jel : ICode := (.seq (.ops [⟨(some 46), .bin .lss (.t 45) (.t 44), none⟩])
 (.seq (.cond (.t 46) .skip (.exit 3))
 (.seq (.block 4 (.seq (.ops [⟨(some 47), .idxAddr 1 (.t 43) (.t 45), none⟩, ⟨(some 48), .load false none (.m 47), none⟩, ⟨(some 12), .mv (.m 48), none⟩])
 (.seq (.ops [⟨(some 49), .mv (.t 12), none⟩, ⟨(some 50), .mv (.t 1), none⟩, ⟨(some 51), .mv (.t 2), none⟩, ⟨(some 52), .call 50 [(.m 49), (.m 50), (.m 51)], none⟩])
 (.cond (.t 52) (.seq (.ops [⟨(some 6), .mv (.c (.bool true)), none⟩])
 .ret) .skip))))
 (.ops [⟨(some 53), .bin .add (.m 45) (.c (.int .i64 1)), none⟩, ⟨(some 45), .mv (.m 53), none⟩]))))
def jek : ICode := (.block 1 (.seq (.seq (.ops [⟨(some 14), .mv (.t 2), none⟩, ⟨(some 15), .mv (.m 14), none⟩, ⟨(some 16), .mv (.t 0), some (15, true)⟩, ⟨(some 17), .mv (.t 1), some (15, true)⟩, ⟨(some 18), .pur (.eqi false [(10, 1), (11, 1), (62, 0)]) [(.t 16), (.t 17)], some (15, true)⟩, ⟨(some 19), .pick (.m 15) (.t 18) (.c (.bool false)), none⟩])
 (.cond (.t 19) (.seq (.ops [⟨(some 6), .mv (.c (.bool true)), none⟩])
 .ret) .skip))
 (.seq (.seq (.ops [⟨(some 21), .mv (.t 0), none⟩, ⟨(some 22), .pur (.tyI [] [8, 10, 11, 14, 15, 16, 19, 62, 89, 145, 47, 91, 144, 53, 69, 75, 77, 78] true) [(.m 21)], none⟩, ⟨(some 20), .mv (.m 22), none⟩, ⟨(some 23), .extract (.m 20) 0, none⟩, ⟨(some 24), .extract (.m 20) 1, none⟩, ⟨(some 7), .mv (.m 23), none⟩, ⟨(some 8), .mv (.m 24), none⟩])
 (.seq (.ops [⟨(some 25), .mv (.t 8), none⟩, ⟨(some 26), .mv (.m 25), none⟩, ⟨(some 27), .mv (.t 7), some (26, true)⟩, ⟨(some 28), .mv (.t 1), some (26, true)⟩, ⟨(some 29), .pur (.invX []) [(.t 27), (.t 28)], some (26, true)⟩, ⟨(some 30), .pick (.m 26) (.t 29) (.c (.bool false)), none⟩])
 (.cond (.t 30) (.seq (.ops [⟨(some 6), .mv (.c (.bool true)), none⟩])
 .ret) .skip)))
 (.seq (.ops [⟨(some 31), .mv (.t 0), none⟩])
 (.block 2 (.seq (.ops [⟨(some 32), .pur (.tyI [89] [8, 10, 11, 14, 15, 16, 19, 62, 145, 47, 91, 144, 53, 69, 75, 77, 78] true) [(.t 31)], none⟩, ⟨(some 33), .extract (.m 32) 1, none⟩, ⟨(some 34), .extract (.m 32) 0, none⟩])
 (.cond (.t 33) (.seq (.ops [⟨(some 9), .mv (.t 34), none⟩])
 (.seq (.ops [⟨(some 35), .mv (.t 9), none⟩, ⟨(some 36), .inv [(89, 95, .same)] (.m 35) [], none⟩, ⟨(some 0), .mv (.m 36), none⟩])
 (.seq (.ops [⟨(some 37), .mv (.t 0), none⟩, ⟨(some 38), .isnil false 1 (.m 37), none⟩])
 (.cond (.t 38) (.seq (.ops [⟨(some 6), .mv (.c (.bool false)), none⟩])
 .ret) .skip)))) (.seq (.ops [⟨(some 39), .pur (.tyI [] [8, 10, 11, 14, 15, 16, 19, 62, 89, 145, 47, 91, 144, 53, 69, 75, 77, 78] true) [(.t 31)], none⟩, ⟨(some 40), .extract (.m 39) 1, none⟩, ⟨(some 41), .extract (.m 39) 0, none⟩])
 (.cond (.t 40) (.seq (.ops [⟨(some 10), .mv (.t 41), none⟩])
 (.seq (.seq (.ops [⟨(some 42), .mv (.t 10), none⟩, ⟨(some 43), .inv [(89, 95, .same)] (.m 42) [], none⟩, ⟨(some 44), .lenL (.t 43), none⟩, ⟨(some 45), .mv (.c (.int .i64 0)), none⟩])
 (.block 3 (.loop jel)))
 (.seq (.ops [⟨(some 6), .mv (.c (.bool false)), none⟩])
 .ret))) (.seq (.ops [⟨(some 13), .mv (.t 31), none⟩])
 (.seq (.ops [⟨(some 6), .mv (.c (.bool false)), none⟩])
 .ret)))))))))))
def jhO : IFunc := ⟨54, 46, 4, 6, (.seq (.ops [⟨(some 6), .mv (.c (.bool false)), none⟩])
 (.block 0 (.loop jek))), [.t 6]⟩
/- slices.Backward[[]plover/vm.State,plover/vm.State]$1 -/
def jem : ICode := (.seq (.seq (.ops [⟨(some 7), .mv (.t 3), none⟩, ⟨(some 8), .bin .geq (.m 7) (.c (.int .i64 0)), none⟩])
 (.cond (.t 8) .skip (.exit 0)))
 (.seq (.block 1 (.seq (.ops [⟨(some 11), .mv (.t 0), none⟩, ⟨(some 12), .mv (.t 3), none⟩, ⟨(some 13), .load false none (.t 1), none⟩, ⟨(some 14), .mv (.t 3), none⟩, ⟨(some 15), .idxAddr 55 (.t 13) (.m 14), none⟩, ⟨(some 16), .load false (some 55) (.m 15), none⟩, ⟨(some 17), .callv (.m 11) [(.m 12), (.m 16)], none⟩, ⟨(some 18), .un .not (.m 17), none⟩])
 (.cond (.t 18) .ret .skip)))
 (.ops [⟨(some 9), .mv (.m 3), none⟩, ⟨(some 10), .bin .sub (.m 9) (.c (.int .i64 1)), none⟩, ⟨(some 3), .mv (.m 10), none⟩])))
def jhP : IFunc := ⟨19, 4, 8, 4, (.seq (.ops [⟨(some 4), .load false none (.t 1), none⟩, ⟨(some 5), .lenL (.t 4), none⟩, ⟨(some 6), .bin .sub (.m 5) (.c (.int .i64 1)), none⟩, ⟨(some 3), .mv (.m 6), none⟩])
 (.block 0 (.loop jem))), []⟩
/- (*plover/api.Fault).Unwrap -/
def jhQ : IFunc := ⟨8, 3, 5, 4, (.seq (.ops [⟨(some 2), .mv (.c (.prim .nilIface)), none⟩])
 (.seq (.ops [⟨(some 3), .mv (.m 0), none⟩, ⟨(some 4), .nilCheck (.m 3), none⟩, ⟨(some 5), .fieldAddr 0 (.m 4), none⟩, ⟨(some 6), .load false none (.m 5), none⟩, ⟨(some 7), .mkIface 62 (.m 6), none⟩, ⟨(some 2), .mv (.m 7), none⟩])
 .ret)), [.t 2]⟩
noncomputable def F1 : jJ := fun n => bif Nat.beq n 4 then some ir4 else bif Nat.beq n 7 then some ir7 else bif Nat.beq n 9 then some ir9 else bif Nat.beq n 10 then some jhy else bif Nat.beq n 11 then some jhz else bif Nat.beq n 12 then some jhA else bif Nat.beq n 13 then some jhB else bif Nat.beq n 14 then some jhC else bif Nat.beq n 15 then some jhD else bif Nat.beq n 17 then some jef else bif Nat.beq n 18 then some jbF else bif Nat.beq n 19 then some jdq else bif Nat.beq n 20 then some jbG else bif Nat.beq n 24 then some jhE else bif Nat.beq n 25 then some jhF else bif Nat.beq n 26 then some jhG else bif Nat.beq n 27 then some jhH else bif Nat.beq n 28 then some jhI else bif Nat.beq n 29 then some jhJ else bif Nat.beq n 30 then some jhK else bif Nat.beq n 31 then some jap else bif Nat.beq n 32 then some jaq else bif Nat.beq n 33 then some KS else bif Nat.beq n 34 then some QB else bif Nat.beq n 35 then some Xt else bif Nat.beq n 36 then some Xu else bif Nat.beq n 38 then some ZG else bif Nat.beq n 39 then some ZH else bif Nat.beq n 40 then some KM else bif Nat.beq n 41 then some K9 else bif Nat.beq n 42 then some Yp else bif Nat.beq n 43 then some jhL else bif Nat.beq n 44 then some jhM else bif Nat.beq n 48 then some jhN else bif Nat.beq n 50 then some jhO else bif Nat.beq n 51 then some jhP else bif Nat.beq n 82 then some Zc else bif Nat.beq n 83 then some jep else bif Nat.beq n 84 then some jdr else bif Nat.beq n 85 then some jeq else bif Nat.beq n 86 then some jer else bif Nat.beq n 87 then some QC else bif Nat.beq n 88 then some jcf else bif Nat.beq n 89 then some jar else bif Nat.beq n 90 then some jas else bif Nat.beq n 91 then some jat else bif Nat.beq n 92 then some jds else bif Nat.beq n 93 then some Zd else bif Nat.beq n 95 then some jhQ else none
end Go.Idl.Sb
