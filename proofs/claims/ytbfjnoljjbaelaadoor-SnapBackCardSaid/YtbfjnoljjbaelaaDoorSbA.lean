/- SnapBack: what the ideal machine makes of its functions, part A; no conditions. -/
import Derived.Test.YtbfjnoljjbaelaaDoorIdlE
set_option linter.unusedSectionVars false
set_option linter.unusedVariables false
set_option linter.unusedSimpArgs false
namespace Go.Idl.Sb
open Go Go.Idl
/-- A state of nothing. -/
def Z55 : List IVal := [(.int .i64 0), (.int .i64 0), (.int .i64 0), (.int .i64 0), (.int .i32 0), (.int .i32 0), (.int .i32 0), (.int .i32 0), (.int .i32 0), (.int .i32 0), (.int .i32 0), (.int .i32 0), (.int .i32 0), (.sl 1 true []), (.sl 1 true []), (.int .i64 0), (.sl 3 true []), (.int .u8 0), (.int .u8 0), (.int .u8 0), (.int .i64 0), (.int .u8 0), (.int .u8 0), (.int .u8 0), (.int .u8 0), (.int .u8 0), (.int .u8 0), (.int .u8 0), (.int .u8 0), (.int .i64 0), (.int .u8 0), (.int .u8 0), (.int .u8 0), (.int .u8 0), (.int .u8 0), (.int .u8 0), (.int .u8 0), (.int .u8 0), (.bool false), (.int .u8 0), (.int .u8 0), (.int .u16 0), (.int .u16 0), (.int .u16 0), (.int .u16 0), (.int .u16 0), (.int .u16 0), (.int .u8 0), (.int .u8 0), (.int .u8 0), (.int .u64 0), (.int .u64 0), (.int .i64 0), (.int .i64 0), (.int .i64 0)]
/- plover/ploverlaw28.SnapBack -/
def K8 : ICode := (.seq (.ops [⟨(some 70), .bin .lss (.t 69) (.c (.int .i64 2)), none⟩])
 (.seq (.cond (.t 70) .skip (.exit 0))
 (.seq (.block 1 (.seq (.ops [⟨(some 71), .idxA 2 1 none (.t 68) (.t 69), none⟩, ⟨(some 13), .mv (.m 71), none⟩])
 (.seq (.ops [⟨(some 73), .mv (.t 13), none⟩, ⟨(some 74), .call 7 [(.m 73)], none⟩, ⟨(some 72), .mv (.m 74), none⟩, ⟨(some 75), .extract (.m 72) 0, none⟩, ⟨(some 76), .extract (.m 72) 1, none⟩, ⟨(some 14), .alloc Z55, none⟩, ⟨none, .store 55 (.m 14) (.m 75), none⟩, ⟨(some 15), .mv (.m 76), none⟩])
 (.seq (.ops [⟨(some 77), .mv (.t 15), none⟩, ⟨(some 78), .isnil false 1 (.m 77), none⟩, ⟨(some 79), .mv (.m 78), none⟩, ⟨(some 80), .load false (some 55) (.t 14), some (79, true)⟩, ⟨(some 81), .call 6 [(.t 80)], some (79, true)⟩, ⟨(some 82), .mv (.t 13), some (79, true)⟩, ⟨(some 83), .bin .neq (.t 81) (.t 82), some (79, true)⟩, ⟨(some 84), .pick (.m 79) (.t 83) (.c (.bool false)), none⟩])
 (.cond (.t 84) (.seq (.ops [⟨(some 6), .mv (.c (.bool false)), none⟩])
 .ret) .skip)))))
 (.ops [⟨(some 85), .bin .add (.m 69) (.c (.int .i64 1)), none⟩, ⟨(some 69), .mv (.m 85), none⟩]))))
def ir3 : IFunc := ⟨86, 70, 8, 7, (.seq (.ops [⟨(some 3), .box (.t 0), none⟩, ⟨(some 6), .mv (.c (.bool false)), none⟩])
 (.seq (.seq (.ops [⟨(some 16), .call 4 [], none⟩, ⟨(some 17), .un .not (.m 16), none⟩])
 (.cond (.t 17) (.seq (.ops [⟨(some 6), .mv (.c (.bool false)), none⟩])
 .ret) .skip))
 (.seq (.ops [⟨(some 18), .load true (some 55) (.t 3), none⟩, ⟨(some 19), .call 5 [(.m 18)], none⟩, ⟨none, .store 55 (.t 3) (.m 19), none⟩])
 (.seq (.ops [⟨(some 20), .load false (some 55) (.t 3), none⟩, ⟨(some 21), .call 6 [(.m 20)], none⟩, ⟨(some 7), .mv (.m 21), none⟩])
 (.seq (.ops [⟨(some 23), .mv (.t 7), none⟩, ⟨(some 24), .call 7 [(.m 23)], none⟩, ⟨(some 22), .mv (.m 24), none⟩, ⟨(some 25), .extract (.m 22) 0, none⟩, ⟨(some 26), .extract (.m 22) 1, none⟩, ⟨(some 8), .alloc Z55, none⟩, ⟨none, .store 55 (.m 8) (.m 25), none⟩, ⟨(some 9), .mv (.m 26), none⟩])
 (.seq (.seq (.ops [⟨(some 27), .mv (.t 7), none⟩, ⟨(some 28), .lenS (.t 27), none⟩, ⟨(some 29), .bin .eql (.m 28) (.c (.int .i64 0)), none⟩, ⟨(some 30), .mv (.m 29), none⟩, ⟨(some 31), .mv (.t 9), some (30, false)⟩, ⟨(some 32), .isnil true 1 (.t 31), some (30, false)⟩, ⟨(some 33), .pick (.m 30) (.c (.bool true)) (.t 32), none⟩, ⟨(some 34), .mv (.m 33), none⟩, ⟨(some 35), .load false (some 55) (.t 8), some (34, false)⟩, ⟨(some 36), .load false (some 55) (.t 3), some (34, false)⟩, ⟨(some 37), .call 8 [(.t 35), (.t 36)], some (34, false)⟩, ⟨(some 38), .un .not (.t 37), some (34, false)⟩, ⟨(some 39), .pick (.m 34) (.c (.bool true)) (.t 38), none⟩])
 (.cond (.t 39) (.seq (.ops [⟨(some 6), .mv (.c (.bool false)), none⟩])
 .ret) .skip))
 (.seq (.ops [⟨(some 41), .mv (.t 7), none⟩, ⟨(some 42), .mv (.t 1), none⟩, ⟨(some 43), .conv (.int .i64) (.m 42), none⟩, ⟨(some 44), .mv (.t 7), none⟩, ⟨(some 45), .lenS (.t 44), none⟩, ⟨(some 46), .bin .rem (.m 43) (.m 45), none⟩, ⟨(some 47), .sliceS (.m 41) none (some (.t 46)), none⟩, ⟨(some 48), .call 7 [(.m 47)], none⟩, ⟨(some 40), .mv (.m 48), none⟩, ⟨(some 49), .extract (.m 40) 0, none⟩, ⟨(some 50), .extract (.m 40) 1, none⟩, ⟨(some 10), .alloc Z55, none⟩, ⟨none, .store 55 (.m 10) (.m 49), none⟩, ⟨(some 11), .mv (.m 50), none⟩])
 (.seq (.seq (.ops [⟨(some 51), .mv (.t 11), none⟩, ⟨(some 52), .isnil false 1 (.m 51), none⟩])
 (.cond (.t 52) (.seq (.ops [⟨(some 6), .mv (.c (.bool false)), none⟩])
 .ret) .skip))
 (.seq (.ops [⟨(some 53), .mv (.m 2), none⟩, ⟨(some 54), .mv (.m 2), none⟩, ⟨(some 55), .lenS (.t 54), none⟩, ⟨(some 56), .minmax false [(.m 55), (.c (.int .i64 200))], none⟩, ⟨(some 57), .sliceS (.m 53) none (some (.t 56)), none⟩, ⟨(some 2), .mv (.m 57), none⟩])
 (.seq (.seq (.ops [⟨(some 58), .mv (.t 2), none⟩, ⟨(some 59), .mv (.t 7), none⟩, ⟨(some 60), .mv (.t 1), none⟩, ⟨(some 61), .conv (.int .i64) (.m 60), none⟩, ⟨(some 62), .mv (.t 7), none⟩, ⟨(some 63), .lenS (.t 62), none⟩, ⟨(some 64), .bin .rem (.m 61) (.m 63), none⟩, ⟨(some 65), .sliceS (.m 59) none (some (.t 64)), none⟩, ⟨(some 66), .mv (.t 2), none⟩, ⟨(some 67), .bin .add (.m 65) (.m 66), none⟩, ⟨(some 68), .build [(.str []), (.str [])] [(0, 1, (.m 58)), (1, 1, (.m 67))], none⟩, ⟨(some 69), .mv (.c (.int .i64 0)), none⟩])
 (.block 0 (.loop K8)))
 (.seq (.ops [⟨(some 6), .mv (.c (.bool true)), none⟩])
 .ret))))))))))), [.t 6]⟩
/- plover/ploverlaw28.near -/
def Vu : ICode := (.seq (.ops [⟨(some 28), .bin .lss (.t 27) (.t 26), none⟩])
 (.seq (.cond (.t 28) .skip (.exit 0))
 (.seq (.block 1 (.seq (.ops [⟨(some 29), .idxAddr 1 (.t 25) (.t 27), none⟩, ⟨(some 30), .load false none (.m 29), none⟩, ⟨(some 4), .mv (.m 30), none⟩])
 (.ops [⟨(some 31), .mv (.t 4), none⟩, ⟨(some 32), .mv (.t 4), none⟩, ⟨(some 33), .nilCheck (.m 32), none⟩, ⟨(some 34), .load false none (.m 33), none⟩, ⟨(some 35), .bin .rem (.m 34) (.c (.int .i64 1152921504606846976)), none⟩, ⟨(some 36), .nilCheck (.m 31), none⟩, ⟨none, .store 1 (.m 36) (.m 35), none⟩])))
 (.ops [⟨(some 37), .bin .add (.m 27) (.c (.int .i64 1)), none⟩, ⟨(some 27), .mv (.m 37), none⟩]))))
def Vv : ICode := (.seq (.seq (.ops [⟨(some 54), .mv (.t 6), none⟩, ⟨(some 55), .mv (.t 5), none⟩, ⟨(some 56), .lenL (.t 55), none⟩, ⟨(some 57), .bin .lss (.m 54) (.m 56), none⟩])
 (.cond (.t 57) .skip (.exit 2)))
 (.seq (.block 3 (.draw [(0, ⟨(some 60), .fieldAddr 16 (.t 1), none⟩), (1, ⟨(some 61), .load true none (.m 60), none⟩), (2, ⟨(some 62), .mv (.t 5), none⟩), (3, ⟨(some 63), .mv (.t 6), none⟩), (4, ⟨(some 64), .idxAddr 3 (.t 62) (.m 63), none⟩), (5, ⟨(some 65), .fieldAddr 0 (.m 64), none⟩), (6, ⟨(some 66), .load false none (.m 65), none⟩), (7, ⟨(some 67), .bin .rem (.m 66) (.c (.int .i64 100)), none⟩), (8, ⟨(some 68), .mv (.t 5), none⟩), (9, ⟨(some 69), .mv (.t 6), none⟩), (10, ⟨(some 70), .idxAddr 3 (.t 68) (.m 69), none⟩), (11, ⟨(some 71), .fieldAddr 1 (.m 70), none⟩), (12, ⟨(some 72), .load false none (.m 71), none⟩), (13, ⟨(some 73), .bin .rem (.m 72) (.c (.int .i64 100)), none⟩), (14, ⟨(some 74), .mv (.t 5), none⟩), (15, ⟨(some 75), .mv (.t 6), none⟩), (16, ⟨(some 76), .idxAddr 3 (.t 74) (.m 75), none⟩), (17, ⟨(some 77), .fieldAddr 2 (.m 76), none⟩), (18, ⟨(some 78), .load false none (.m 77), none⟩), (19, ⟨(some 79), .build [(.int .i64 0), (.int .i64 0), (.bool false)] [(0, 1, (.m 67)), (1, 1, (.m 73)), (2, 1, (.m 78))], none⟩), (20, ⟨(some 80), .buildSl 3 [(.m 79)], none⟩), (21, ⟨(some 81), .append false false 3 24 (.m 61) (.m 80), none⟩), (22, ⟨(some 82), .fieldAddr 16 (.t 1), none⟩), (23, ⟨none, .store 1 (.m 82) (.m 81), none⟩)] [(6, 1), (12, 1), (18, 1)]))
 (.ops [⟨(some 58), .mv (.m 6), none⟩, ⟨(some 59), .bin .add (.m 58) (.c (.int .i64 1)), none⟩, ⟨(some 6), .mv (.m 59), none⟩])))
def ir5 : IFunc := ⟨84, 28, 23, 6, (.seq (.ops [⟨(some 1), .box (.t 0), none⟩, ⟨(some 2), .alloc Z55, none⟩])
 (.seq (.ops [⟨(some 7), .load true (some 55) (.t 1), none⟩, ⟨(some 8), .call 16 [(.m 7)], none⟩, ⟨none, .store 55 (.t 1) (.m 8), none⟩])
 (.seq (.seq (.ops [⟨(some 9), .fieldAddr 0 (.t 1), none⟩, ⟨(some 10), .fieldAddr 1 (.t 1), none⟩, ⟨(some 11), .fieldAddr 2 (.t 1), none⟩, ⟨(some 12), .fieldAddr 3 (.t 1), none⟩, ⟨(some 13), .fieldAddr 15 (.t 1), none⟩, ⟨(some 14), .fieldAddr 52 (.t 1), none⟩, ⟨(some 15), .fieldAddr 53 (.t 1), none⟩, ⟨(some 16), .fieldAddr 54 (.t 1), none⟩, ⟨(some 17), .fieldAddr 17 (.t 1), none⟩, ⟨(some 18), .fieldAddr 3 (.m 17), none⟩, ⟨(some 19), .fieldAddr 0 (.m 18), none⟩, ⟨(some 20), .fieldAddr 0 (.m 19), none⟩, ⟨(some 21), .fieldAddr 17 (.t 1), none⟩, ⟨(some 22), .fieldAddr 3 (.m 21), none⟩, ⟨(some 23), .fieldAddr 9 (.m 22), none⟩, ⟨(some 24), .fieldAddr 0 (.m 23), none⟩, ⟨(some 25), .buildSl 1 [(.m 9), (.m 10), (.m 11), (.m 12), (.m 13), (.m 14), (.m 15), (.m 16), (.m 20), (.m 24)], none⟩, ⟨(some 26), .lenL (.t 25), none⟩, ⟨(some 27), .mv (.c (.int .i64 0)), none⟩])
 (.block 0 (.loop Vu)))
 (.seq (.ops [⟨(some 38), .fieldAddr 50 (.t 1), none⟩, ⟨(some 39), .load false none (.m 38), none⟩, ⟨(some 40), .bin .rem (.m 39) (.c (.int .u64 1152921504606846976)), none⟩, ⟨(some 41), .fieldAddr 50 (.t 1), none⟩, ⟨none, .store 1 (.m 41) (.m 40), none⟩])
 (.seq (.ops [⟨(some 42), .fieldAddr 51 (.t 1), none⟩, ⟨(some 43), .load false none (.m 42), none⟩, ⟨(some 44), .bin .rem (.m 43) (.c (.int .u64 1152921504606846976)), none⟩, ⟨(some 45), .fieldAddr 51 (.t 1), none⟩, ⟨none, .store 1 (.m 45) (.m 44), none⟩])
 (.seq (.ops [⟨(some 46), .fieldAddr 16 (.t 1), none⟩, ⟨(some 47), .load false none (.m 46), none⟩, ⟨(some 48), .fieldAddr 16 (.t 1), none⟩, ⟨(some 49), .load false none (.m 48), none⟩, ⟨(some 50), .lenL (.t 49), none⟩, ⟨(some 51), .minmax false [(.m 50), (.c (.int .i64 8))], none⟩, ⟨(some 52), .sliceL 3 (.m 47) none (some (.t 51)) none, none⟩, ⟨(some 5), .mv (.m 52), none⟩])
 (.seq (.ops [⟨(some 53), .fieldAddr 16 (.t 1), none⟩, ⟨none, .store 1 (.m 53) (.c (.sl 3 true [])), none⟩])
 (.seq (.seq (.ops [⟨(some 6), .mv (.c (.int .i64 0)), none⟩])
 (.block 2 (.loop Vv)))
 (.seq (.ops [⟨(some 83), .load true (some 55) (.m 1), none⟩, ⟨none, .store 55 (.m 2) (.m 83), none⟩])
 .ret))))))))), [.cell 2 (some 55)]⟩
/- plover/snap.Encode -/
def ir6 : IFunc := ⟨20, 4, 5, 4, (.seq (.ops [⟨(some 1), .box (.t 0), none⟩, ⟨(some 2), .mv (.c (.str [])), none⟩])
 (.seq (.ops [⟨(some 4), .build [(.sl 1 true []), (.bool false)] [], none⟩, ⟨(some 5), .box (.m 4), none⟩, ⟨(some 3), .mv (.m 5), none⟩])
 (.seq (.ops [⟨(some 6), .load true (some 55) (.t 1), none⟩, ⟨(some 7), .call 17 [(.m 6)], none⟩, ⟨none, .store 55 (.t 1) (.m 7), none⟩])
 (.seq (.ops [⟨(some 8), .mv (.t 3), none⟩, ⟨(some 9), .mkIface 69 (.m 8), none⟩, ⟨(some 10), .call 18 [(.m 9), (.t 1)], none⟩])
 (.seq (.seq (.ops [⟨(some 11), .mv (.t 3), none⟩, ⟨(some 12), .nilCheck (.m 11), none⟩, ⟨(some 13), .fieldAddr 1 (.m 12), none⟩, ⟨(some 14), .load false none (.m 13), none⟩])
 (.cond (.t 14) (.seq (.ops [⟨(some 2), .mv (.c (.str [])), none⟩])
 .ret) .skip))
 (.seq (.ops [⟨(some 15), .mv (.m 3), none⟩, ⟨(some 16), .nilCheck (.m 15), none⟩, ⟨(some 17), .fieldAddr 0 (.m 16), none⟩, ⟨(some 18), .load false none (.m 17), none⟩, ⟨(some 19), .pur .text [(.m 18)], none⟩, ⟨(some 2), .mv (.m 19), none⟩])
 .ret)))))), [.t 2]⟩
/- plover/snap.Decode -/
def ir7 : IFunc := ⟨20, 7, 4, 4, (.seq (.ops [⟨(some 2), .alloc Z55, none⟩, ⟨(some 3), .mv (.c (.prim .nilIface)), none⟩])
 (.seq (.ops [⟨(some 7), .mv (.t 0), none⟩, ⟨(some 8), .call 19 [(.m 7)], none⟩, ⟨(some 4), .mv (.m 8), none⟩])
 (.seq (.ops [⟨(some 5), .alloc Z55, none⟩])
 (.seq (.ops [⟨(some 9), .mv (.t 4), none⟩, ⟨(some 10), .build [(.prim (.pointer none))] [(0, 1, (.m 9))], none⟩, ⟨(some 11), .mkIface 78 (.m 10), none⟩, ⟨(some 12), .call 18 [(.m 11), (.t 5)], none⟩])
 (.seq (.seq (.ops [⟨(some 13), .mv (.t 4), none⟩, ⟨(some 14), .call 20 [(.m 13)], none⟩, ⟨(some 6), .mv (.m 14), none⟩])
 (.seq (.ops [⟨(some 15), .mv (.t 6), none⟩, ⟨(some 16), .isnil true 1 (.m 15), none⟩])
 (.cond (.t 16) (.seq (.ops [⟨(some 17), .build Z55 [], none⟩, ⟨(some 18), .mv (.m 6), none⟩, ⟨none, .store 55 (.m 2) (.m 17), none⟩, ⟨(some 3), .mv (.m 18), none⟩])
 .ret) .skip)))
 (.seq (.ops [⟨(some 19), .load true (some 55) (.m 5), none⟩, ⟨none, .store 55 (.m 2) (.m 19), none⟩, ⟨(some 3), .mv (.c (.prim .nilIface)), none⟩])
 .ret)))))), [.cell 2 (some 55), .t 3]⟩
/- plover/vm.Same -/
def ir8 : IFunc := ⟨78, 7, 52, 6, (.seq (.ops [⟨(some 2), .boxv (.t 0), none⟩, ⟨(some 3), .boxv (.t 1), none⟩, ⟨(some 4), .mv (.c (.bool false)), none⟩])
 (.seq (.ops [⟨(some 7), .fieldAddr 13 (.t 2), none⟩, ⟨(some 8), .load false none (.m 7), none⟩, ⟨(some 9), .fieldAddr 13 (.t 3), none⟩, ⟨(some 10), .load false none (.m 9), none⟩, ⟨(some 11), .call 21 [(.m 8), (.m 10)], none⟩, ⟨(some 12), .mv (.m 11), none⟩, ⟨(some 13), .fieldAddr 14 (.t 2), some (12, true)⟩, ⟨(some 14), .load false none (.t 13), some (12, true)⟩, ⟨(some 15), .fieldAddr 14 (.t 3), some (12, true)⟩, ⟨(some 16), .load false none (.t 15), some (12, true)⟩, ⟨(some 17), .call 21 [(.t 14), (.t 16)], some (12, true)⟩, ⟨(some 18), .pick (.m 12) (.t 17) (.c (.bool false)), none⟩, ⟨(some 19), .mv (.m 18), none⟩, ⟨(some 20), .fieldAddr 16 (.t 2), some (19, true)⟩, ⟨(some 21), .load false none (.t 20), some (19, true)⟩, ⟨(some 22), .fieldAddr 16 (.t 3), some (19, true)⟩, ⟨(some 23), .load false none (.t 22), some (19, true)⟩, ⟨(some 24), .call 22 [(.t 21), (.t 23)], some (19, true)⟩, ⟨(some 25), .pick (.m 19) (.t 24) (.c (.bool false)), none⟩, ⟨(some 5), .mv (.m 25), none⟩])
 (.seq (.ops [⟨(some 6), .mv (.c (.fn (.func 23) [] [])), none⟩])
 (.seq (.draw [(0, ⟨(some 26), .mv (.m 5), none⟩), (1, ⟨(some 27), .mv (.m 26), none⟩), (2, ⟨(some 28), .mv (.t 6), some (27, true)⟩), (3, ⟨(some 29), .load false (some 55) (.t 2), some (27, true)⟩), (5, ⟨(some 31), .mv (.t 6), some (27, true)⟩), (6, ⟨(some 32), .load false (some 55) (.t 3), some (27, true)⟩), (4, ⟨(some 30), .callv (.t 28) [(.t 29)], some (27, true)⟩), (7, ⟨(some 33), .callv (.t 31) [(.t 32)], some (27, true)⟩), (8, ⟨(some 34), .pur (.eqa false [0, 0, 0, 0, 0, 0, 0, 0]) [(.t 30), (.t 33)], some (27, true)⟩), (9, ⟨(some 35), .pick (.m 27) (.t 34) (.c (.bool false)), none⟩), (10, ⟨(some 36), .mv (.m 35), none⟩), (11, ⟨(some 37), .fieldAddr 4 (.t 2), some (36, true)⟩), (12, ⟨(some 38), .load false none (.t 37), some (36, true)⟩), (13, ⟨(some 39), .fieldAddr 4 (.t 3), some (36, true)⟩), (14, ⟨(some 40), .load false none (.t 39), some (36, true)⟩), (15, ⟨(some 41), .bin .eql (.t 38) (.t 40), some (36, true)⟩), (16, ⟨(some 42), .pick (.m 36) (.t 41) (.c (.bool false)), none⟩), (17, ⟨(some 43), .mv (.m 42), none⟩), (18, ⟨(some 44), .fieldAddr 5 (.t 2), some (43, true)⟩), (19, ⟨(some 45), .load false (some 8) (.t 44), some (43, true)⟩), (20, ⟨(some 46), .fieldAddr 5 (.t 3), some (43, true)⟩), (21, ⟨(some 47), .load false (some 8) (.t 46), some (43, true)⟩), (22, ⟨(some 48), .pur (.eqa false [0, 0, 0, 0, 0, 0, 0, 0]) [(.t 45), (.t 47)], some (43, true)⟩), (23, ⟨(some 49), .pick (.m 43) (.t 48) (.c (.bool false)), none⟩), (24, ⟨(some 50), .mv (.m 49), none⟩), (25, ⟨(some 51), .fieldAddr 17 (.t 2), some (50, true)⟩), (26, ⟨(some 52), .load false (some 32) (.t 51), some (50, true)⟩), (27, ⟨(some 53), .fieldAddr 17 (.t 3), some (50, true)⟩), (28, ⟨(some 54), .load false (some 32) (.t 53), some (50, true)⟩), (29, ⟨(some 55), .pur (.eqa false [0, 0, 0, 0, 0, 0, 0, 0, 0, 0, 0, 0, 0, 0, 0, 0, 0, 0, 0, 0, 0, 2, 0, 0, 0, 0, 0, 0, 0, 0, 0, 0]) [(.t 52), (.t 54)], some (50, true)⟩), (30, ⟨(some 56), .pick (.m 50) (.t 55) (.c (.bool false)), none⟩), (31, ⟨(some 57), .mv (.m 56), none⟩), (32, ⟨(some 58), .fieldAddr 49 (.t 2), some (57, true)⟩), (33, ⟨(some 59), .load false none (.t 58), some (57, true)⟩), (34, ⟨(some 60), .fieldAddr 49 (.t 3), some (57, true)⟩), (35, ⟨(some 61), .load false none (.t 60), some (57, true)⟩), (36, ⟨(some 62), .bin .eql (.t 59) (.t 61), some (57, true)⟩), (37, ⟨(some 63), .pick (.m 57) (.t 62) (.c (.bool false)), none⟩), (38, ⟨(some 64), .mv (.m 63), none⟩), (39, ⟨(some 65), .fieldAddr 50 (.t 2), some (64, true)⟩), (40, ⟨(some 66), .load false none (.t 65), some (64, true)⟩), (41, ⟨(some 67), .fieldAddr 50 (.t 3), some (64, true)⟩), (42, ⟨(some 68), .load false none (.t 67), some (64, true)⟩), (43, ⟨(some 69), .bin .eql (.t 66) (.t 68), some (64, true)⟩), (44, ⟨(some 70), .pick (.m 64) (.t 69) (.c (.bool false)), none⟩), (45, ⟨(some 71), .mv (.m 70), none⟩), (46, ⟨(some 72), .fieldAddr 51 (.t 2), some (71, true)⟩), (47, ⟨(some 73), .load false none (.t 72), some (71, true)⟩), (48, ⟨(some 74), .fieldAddr 51 (.t 3), some (71, true)⟩), (49, ⟨(some 75), .load false none (.t 74), some (71, true)⟩), (50, ⟨(some 76), .bin .eql (.t 73) (.t 75), some (71, true)⟩), (51, ⟨(some 77), .pick (.m 71) (.t 76) (.c (.bool false)), none⟩), (52, ⟨(some 4), .mv (.m 77), none⟩)] [(6, 4)])
 .ret)))), [.t 4]⟩
/- plover/ploverlaw28.few -/
def jfo : IFunc := ⟨28, 3, 8, 4, (.seq (.ops [⟨(some 1), .box (.t 0), none⟩, ⟨(some 2), .alloc Z55, none⟩])
 (.seq (.ops [⟨(some 3), .fieldAddr 13 (.t 1), none⟩, ⟨(some 4), .load true none (.m 3), none⟩, ⟨(some 5), .fieldAddr 13 (.t 1), none⟩, ⟨(some 6), .load true none (.m 5), none⟩, ⟨(some 7), .lenL (.t 6), none⟩, ⟨(some 8), .minmax false [(.m 7), (.c (.int .i64 40))], none⟩, ⟨(some 9), .sliceL 1 (.m 4) none (some (.t 8)) none, none⟩, ⟨(some 10), .fieldAddr 13 (.t 1), none⟩, ⟨none, .store 1 (.m 10) (.m 9), none⟩])
 (.seq (.ops [⟨(some 11), .fieldAddr 14 (.t 1), none⟩, ⟨(some 12), .load true none (.m 11), none⟩, ⟨(some 13), .fieldAddr 14 (.t 1), none⟩, ⟨(some 14), .load true none (.m 13), none⟩, ⟨(some 15), .lenL (.t 14), none⟩, ⟨(some 16), .minmax false [(.m 15), (.c (.int .i64 40))], none⟩, ⟨(some 17), .sliceL 1 (.m 12) none (some (.t 16)) none, none⟩, ⟨(some 18), .fieldAddr 14 (.t 1), none⟩, ⟨none, .store 1 (.m 18) (.m 17), none⟩])
 (.seq (.ops [⟨(some 19), .fieldAddr 16 (.t 1), none⟩, ⟨(some 20), .load true none (.m 19), none⟩, ⟨(some 21), .fieldAddr 16 (.t 1), none⟩, ⟨(some 22), .load true none (.m 21), none⟩, ⟨(some 23), .lenL (.t 22), none⟩, ⟨(some 24), .minmax false [(.m 23), (.c (.int .i64 9))], none⟩, ⟨(some 25), .sliceL 3 (.m 20) none (some (.t 24)) none, none⟩, ⟨(some 26), .fieldAddr 16 (.t 1), none⟩, ⟨none, .store 1 (.m 26) (.m 25), none⟩])
 (.seq (.ops [⟨(some 27), .load true (some 55) (.m 1), none⟩, ⟨none, .store 55 (.m 2) (.m 27), none⟩])
 .ret))))), [.cell 2 (some 55)]⟩
/- plover/snap.own -/
def jef : IFunc := ⟨16, 3, 12, 4, (.seq (.ops [⟨(some 1), .box (.t 0), none⟩, ⟨(some 2), .alloc Z55, none⟩])
 (.seq (.draw [(0, ⟨(some 3), .fieldAddr 13 (.t 1), none⟩), (1, ⟨(some 4), .load false none (.m 3), none⟩), (3, ⟨(some 6), .fieldAddr 14 (.t 1), none⟩), (4, ⟨(some 7), .load false none (.m 6), none⟩), (6, ⟨(some 9), .fieldAddr 16 (.t 1), none⟩), (7, ⟨(some 10), .load false none (.m 9), none⟩), (2, ⟨(some 5), .call 31 [(.m 4)], none⟩), (9, ⟨(some 12), .fieldAddr 13 (.t 1), none⟩), (5, ⟨(some 8), .call 31 [(.m 7)], none⟩), (8, ⟨(some 11), .call 32 [(.m 10)], none⟩), (10, ⟨none, .store 1 (.m 12) (.m 5), none⟩), (11, ⟨(some 13), .fieldAddr 14 (.t 1), none⟩), (12, ⟨none, .store 1 (.m 13) (.m 8), none⟩), (13, ⟨(some 14), .fieldAddr 16 (.t 1), none⟩), (14, ⟨none, .store 1 (.m 14) (.m 11), none⟩)] [(4, 2), (7, 2), (7, 5)])
 (.seq (.ops [⟨(some 15), .load true (some 55) (.m 1), none⟩, ⟨none, .store 55 (.m 2) (.m 15), none⟩])
 .ret))), [.cell 2 (some 55)]⟩
/- plover/snap.state -/
def J7 : ICode := (.seq (.ops [⟨(some 27), .bin .lss (.t 26) (.c (.int .i64 8)), none⟩])
 (.seq (.cond (.t 27) .skip (.exit 0))
 (.seq (.block 1 (.seq (.ops [⟨(some 28), .mv (.t 26), none⟩, ⟨(some 4), .mv (.m 28), none⟩])
 (.ops [⟨(some 29), .mv (.t 0), none⟩, ⟨(some 30), .mv (.t 1), none⟩, ⟨(some 31), .mv (.t 4), none⟩, ⟨(some 32), .nilCheck (.m 30), none⟩, ⟨(some 33), .fieldAddr 5 (.m 32), none⟩, ⟨(some 34), .idxAddrA 8 1 (.t 33) (.m 31), none⟩, ⟨(some 35), .call 34 [(.m 29), (.m 34)], none⟩])))
 (.ops [⟨(some 36), .bin .add (.m 26) (.c (.int .i64 1)), none⟩, ⟨(some 26), .mv (.m 36), none⟩]))))
def jbF : IFunc := ⟨171, 27, 18, 6, (.seq (.draw [(0, ⟨(some 6), .mv (.t 0), none⟩), (1, ⟨(some 7), .mv (.t 1), none⟩), (2, ⟨(some 8), .nilCheck (.m 7), none⟩), (3, ⟨(some 9), .fieldAddr 0 (.m 8), none⟩), (4, ⟨(some 10), .mv (.t 1), none⟩), (5, ⟨(some 11), .nilCheck (.m 10), none⟩), (6, ⟨(some 12), .fieldAddr 1 (.m 11), none⟩), (7, ⟨(some 13), .mv (.t 1), none⟩), (8, ⟨(some 14), .nilCheck (.m 13), none⟩), (9, ⟨(some 15), .fieldAddr 2 (.m 14), none⟩), (10, ⟨(some 16), .mv (.t 1), none⟩), (11, ⟨(some 17), .nilCheck (.m 16), none⟩), (12, ⟨(some 18), .fieldAddr 3 (.m 17), none⟩), (13, ⟨(some 19), .buildSl 1 [(.m 9), (.m 12), (.m 15), (.m 18)], none⟩), (14, ⟨(some 20), .call 33 [(.m 6), (.m 19)], none⟩)] [])
 (.seq (.ops [⟨(some 21), .mv (.t 0), none⟩, ⟨(some 22), .mv (.t 1), none⟩, ⟨(some 23), .nilCheck (.m 22), none⟩, ⟨(some 24), .fieldAddr 4 (.m 23), none⟩, ⟨(some 25), .call 34 [(.m 21), (.m 24)], none⟩])
 (.seq (.seq (.ops [⟨(some 26), .mv (.c (.int .i64 0)), none⟩])
 (.block 0 (.loop J7)))
 (.seq (.ops [⟨(some 37), .mv (.t 0), none⟩, ⟨(some 38), .mv (.t 1), none⟩, ⟨(some 39), .nilCheck (.m 38), none⟩, ⟨(some 40), .fieldAddr 13 (.m 39), none⟩, ⟨(some 41), .call 35 [(.m 37), (.m 40), (.c (.int .i64 512)), (.c (.fn (.func 34) [] []))], none⟩])
 (.seq (.ops [⟨(some 42), .mv (.t 0), none⟩, ⟨(some 43), .mv (.t 1), none⟩, ⟨(some 44), .nilCheck (.m 43), none⟩, ⟨(some 45), .fieldAddr 14 (.m 44), none⟩, ⟨(some 46), .call 35 [(.m 42), (.m 45), (.c (.int .i64 8000)), (.c (.fn (.func 34) [] []))], none⟩])
 (.seq (.ops [⟨(some 47), .mv (.t 0), none⟩, ⟨(some 48), .mv (.t 1), none⟩, ⟨(some 49), .nilCheck (.m 48), none⟩, ⟨(some 50), .fieldAddr 15 (.m 49), none⟩, ⟨(some 51), .buildSl 1 [(.m 50)], none⟩, ⟨(some 52), .call 33 [(.m 47), (.m 51)], none⟩])
 (.seq (.ops [⟨(some 53), .mv (.t 0), none⟩, ⟨(some 54), .mv (.t 1), none⟩, ⟨(some 55), .nilCheck (.m 54), none⟩, ⟨(some 56), .fieldAddr 16 (.m 55), none⟩, ⟨(some 57), .call 36 [(.m 53), (.m 56), (.c (.int .i64 8)), (.c (.fn (.func 37) [] []))], none⟩])
 (.seq (.ops [⟨(some 58), .mv (.t 1), none⟩, ⟨(some 59), .nilCheck (.m 58), none⟩, ⟨(some 60), .fieldAddr 17 (.m 59), none⟩, ⟨(some 5), .mv (.m 60), none⟩])
 (.seq (.draw [(0, ⟨(some 61), .mv (.t 0), none⟩), (1, ⟨(some 62), .mv (.t 5), none⟩), (2, ⟨(some 63), .nilCheck (.m 62), none⟩), (3, ⟨(some 64), .fieldAddr 0 (.m 63), none⟩), (4, ⟨(some 65), .fieldAddr 0 (.m 64), none⟩), (5, ⟨(some 66), .mv (.t 5), none⟩), (6, ⟨(some 67), .nilCheck (.m 66), none⟩), (7, ⟨(some 68), .fieldAddr 0 (.m 67), none⟩), (8, ⟨(some 69), .fieldAddr 1 (.m 68), none⟩), (9, ⟨(some 70), .mv (.t 5), none⟩), (10, ⟨(some 71), .nilCheck (.m 70), none⟩), (11, ⟨(some 72), .fieldAddr 0 (.m 71), none⟩), (12, ⟨(some 73), .fieldAddr 2 (.m 72), none⟩), (13, ⟨(some 74), .buildSl 1 [(.m 65), (.m 69), (.m 73)], none⟩), (14, ⟨(some 75), .pur (.mkM "plover/snap.bytes") [(.m 61)], none⟩), (15, ⟨(some 76), .pur (.nilM [69, 78] "plover/snap.bytes") [(.t 75)], none⟩), (16, ⟨(some 77), .mv (.m 61), none⟩), (17, ⟨(some 78), .inv [(69, 73, .same), (78, 83, .same)] (.m 77) [(.m 74)], none⟩)] [])
 (.seq (.ops [⟨(some 79), .mv (.t 0), none⟩, ⟨(some 80), .mv (.t 5), none⟩, ⟨(some 81), .nilCheck (.m 80), none⟩, ⟨(some 82), .fieldAddr 3 (.m 81), none⟩, ⟨(some 83), .fieldAddr 0 (.m 82), none⟩, ⟨(some 84), .call 38 [(.m 79), (.m 83)], none⟩])
 (.seq (.ops [⟨(some 85), .mv (.t 0), none⟩, ⟨(some 86), .mv (.t 5), none⟩, ⟨(some 87), .nilCheck (.m 86), none⟩, ⟨(some 88), .fieldAddr 3 (.m 87), none⟩, ⟨(some 89), .fieldAddr 9 (.m 88), none⟩, ⟨(some 90), .call 38 [(.m 85), (.m 89)], none⟩])
 (.seq (.draw [(0, ⟨(some 91), .mv (.t 0), none⟩), (1, ⟨(some 92), .mv (.t 5), none⟩), (2, ⟨(some 93), .nilCheck (.m 92), none⟩), (3, ⟨(some 94), .fieldAddr 3 (.m 93), none⟩), (4, ⟨(some 95), .fieldAddr 18 (.m 94), none⟩), (5, ⟨(some 96), .pur (.mkM "plover/snap.truth") [(.m 91)], none⟩), (6, ⟨(some 97), .pur (.nilM [69, 78] "plover/snap.truth") [(.t 96)], none⟩), (7, ⟨(some 98), .mv (.m 91), none⟩), (8, ⟨(some 99), .inv [(69, 75, .same), (78, 85, .same)] (.m 98) [(.m 95)], none⟩)] [])
 (.seq (.draw [(0, ⟨(some 100), .mv (.t 0), none⟩), (1, ⟨(some 101), .mv (.t 5), none⟩), (2, ⟨(some 102), .nilCheck (.m 101), none⟩), (3, ⟨(some 103), .fieldAddr 3 (.m 102), none⟩), (4, ⟨(some 104), .fieldAddr 19 (.m 103), none⟩), (5, ⟨(some 105), .mv (.t 5), none⟩), (6, ⟨(some 106), .nilCheck (.m 105), none⟩), (7, ⟨(some 107), .fieldAddr 3 (.m 106), none⟩), (8, ⟨(some 108), .fieldAddr 20 (.m 107), none⟩), (9, ⟨(some 109), .buildSl 1 [(.m 104), (.m 108)], none⟩), (10, ⟨(some 110), .pur (.mkM "plover/snap.bytes") [(.m 100)], none⟩), (11, ⟨(some 111), .pur (.nilM [69, 78] "plover/snap.bytes") [(.t 110)], none⟩), (12, ⟨(some 112), .mv (.m 100), none⟩), (13, ⟨(some 113), .inv [(69, 73, .same), (78, 83, .same)] (.m 112) [(.m 109)], none⟩)] [])
 (.seq (.ops [⟨(some 114), .mv (.t 0), none⟩, ⟨(some 115), .mv (.t 5), none⟩, ⟨(some 116), .nilCheck (.m 115), none⟩, ⟨(some 117), .fieldAddr 24 (.m 116), none⟩, ⟨(some 118), .idxAddrA 2 3 (.t 117) (.c (.int .i64 0)), none⟩, ⟨(some 119), .call 39 [(.m 114), (.m 118)], none⟩])
 (.seq (.ops [⟨(some 120), .mv (.t 0), none⟩, ⟨(some 121), .mv (.t 5), none⟩, ⟨(some 122), .nilCheck (.m 121), none⟩, ⟨(some 123), .fieldAddr 24 (.m 122), none⟩, ⟨(some 124), .idxAddrA 2 3 (.t 123) (.c (.int .i64 1)), none⟩, ⟨(some 125), .call 39 [(.m 120), (.m 124)], none⟩])
 (.seq (.draw [(0, ⟨(some 126), .mv (.t 0), none⟩), (1, ⟨(some 127), .mv (.t 5), none⟩), (2, ⟨(some 128), .nilCheck (.m 127), none⟩), (3, ⟨(some 129), .fieldAddr 30 (.m 128), none⟩), (4, ⟨(some 130), .fieldAddr 0 (.m 129), none⟩), (5, ⟨(some 131), .mv (.t 5), none⟩), (6, ⟨(some 132), .nilCheck (.m 131), none⟩), (7, ⟨(some 133), .fieldAddr 30 (.m 132), none⟩), (8, ⟨(some 134), .fieldAddr 1 (.m 133), none⟩), (9, ⟨(some 135), .mv (.t 1), none⟩), (10, ⟨(some 136), .nilCheck (.m 135), none⟩), (11, ⟨(some 137), .fieldAddr 49 (.m 136), none⟩), (12, ⟨(some 138), .buildSl 1 [(.m 130), (.m 134), (.m 137)], none⟩), (13, ⟨(some 139), .pur (.mkM "plover/snap.bytes") [(.m 126)], none⟩), (14, ⟨(some 140), .pur (.nilM [69, 78] "plover/snap.bytes") [(.t 139)], none⟩), (15, ⟨(some 141), .mv (.m 126), none⟩), (16, ⟨(some 142), .inv [(69, 73, .same), (78, 83, .same)] (.m 141) [(.m 138)], none⟩)] [])
 (.seq (.draw [(0, ⟨(some 143), .mv (.t 0), none⟩), (1, ⟨(some 144), .mv (.t 1), none⟩), (2, ⟨(some 145), .nilCheck (.m 144), none⟩), (3, ⟨(some 146), .fieldAddr 50 (.m 145), none⟩), (4, ⟨(some 147), .pur (.mkM "plover/snap.number") [(.m 143)], none⟩), (5, ⟨(some 148), .pur (.nilM [69, 78] "plover/snap.number") [(.t 147)], none⟩), (6, ⟨(some 149), .mv (.m 143), none⟩), (7, ⟨(some 150), .inv [(69, 74, .same), (78, 84, .same)] (.m 149) [(.m 146), (.c (.int .u64 1152921504606846975))], none⟩)] [])
 (.seq (.draw [(0, ⟨(some 151), .mv (.t 0), none⟩), (1, ⟨(some 152), .mv (.t 1), none⟩), (2, ⟨(some 153), .nilCheck (.m 152), none⟩), (3, ⟨(some 154), .fieldAddr 51 (.m 153), none⟩), (4, ⟨(some 155), .pur (.mkM "plover/snap.number") [(.m 151)], none⟩), (5, ⟨(some 156), .pur (.nilM [69, 78] "plover/snap.number") [(.t 155)], none⟩), (6, ⟨(some 157), .mv (.m 151), none⟩), (7, ⟨(some 158), .inv [(69, 74, .same), (78, 84, .same)] (.m 157) [(.m 154), (.c (.int .u64 1152921504606846975))], none⟩)] [])
 (.draw [(0, ⟨(some 159), .mv (.t 0), none⟩), (1, ⟨(some 160), .mv (.t 1), none⟩), (2, ⟨(some 161), .nilCheck (.m 160), none⟩), (3, ⟨(some 162), .fieldAddr 52 (.m 161), none⟩), (4, ⟨(some 163), .mv (.t 1), none⟩), (5, ⟨(some 164), .nilCheck (.m 163), none⟩), (6, ⟨(some 165), .fieldAddr 53 (.m 164), none⟩), (7, ⟨(some 166), .mv (.t 1), none⟩), (8, ⟨(some 167), .nilCheck (.m 166), none⟩), (9, ⟨(some 168), .fieldAddr 54 (.m 167), none⟩), (10, ⟨(some 169), .buildSl 1 [(.m 162), (.m 165), (.m 168)], none⟩), (11, ⟨(some 170), .call 33 [(.m 159), (.m 169)], none⟩)] []))))))))))))))))))), []⟩
/- plover/wire.New -/
def jdq : IFunc := ⟨6, 3, 3, 3, (.seq (.ops [⟨(some 2), .mv (.c (.prim (.pointer none))), none⟩])
 (.seq (.ops [⟨(some 3), .mv (.m 0), none⟩, ⟨(some 4), .build [(.str []), (.int .i64 0), (.prim .nilIface)] [(0, 1, (.m 3))], none⟩, ⟨(some 5), .box (.m 4), none⟩, ⟨(some 2), .mv (.m 5), none⟩])
 .ret)), [.t 2]⟩
/- (*plover/wire.In).End -/
def jbG : IFunc := ⟨20, 3, 8, 4, (.seq (.ops [⟨(some 2), .mv (.c (.prim .nilIface)), none⟩])
 (.seq (.seq (.ops [⟨(some 3), .mv (.t 0), none⟩, ⟨(some 4), .call 40 [(.m 3)], none⟩, ⟨(some 5), .un .not (.m 4), none⟩, ⟨(some 6), .mv (.m 5), none⟩, ⟨(some 7), .mv (.t 0), some (6, true)⟩, ⟨(some 8), .call 41 [(.t 7)], some (6, true)⟩, ⟨(some 9), .bin .gtr (.t 8) (.c (.int .i64 0)), some (6, true)⟩, ⟨(some 10), .pick (.m 6) (.t 9) (.c (.bool false)), none⟩])
 (.cond (.t 10) (.seq (.ops [⟨(some 11), .mv (.m 0), none⟩, ⟨(some 12), .nilCheck (.m 11), none⟩, ⟨(some 13), .fieldAddr 1 (.m 12), none⟩, ⟨(some 14), .load false none (.m 13), none⟩, ⟨(some 15), .build [(.int .i64 0), (.int .i64 0)] [(0, 1, (.c (.int .i64 4))), (1, 1, (.m 14))], none⟩, ⟨(some 16), .boxv (.m 15), none⟩, ⟨(some 17), .mkIface 89 (.m 16), none⟩, ⟨(some 2), .mv (.m 17), none⟩])
 .ret) .skip))
 (.seq (.ops [⟨(some 18), .mv (.m 0), none⟩, ⟨(some 19), .call 42 [(.m 18)], none⟩, ⟨(some 2), .mv (.m 19), none⟩])
 .ret))), [.t 2]⟩
/- slices.Equal[[]int32,int32] -/
def yJ : ICode := (.seq (.ops [⟨(some 14), .bin .lss (.t 13) (.t 12), none⟩])
 (.seq (.cond (.t 14) .skip (.exit 0))
 (.seq (.block 1 (.seq (.ops [⟨(some 15), .mv (.t 13), none⟩, ⟨(some 5), .mv (.m 15), none⟩])
 (.seq (.draw [(0, ⟨(some 16), .mv (.t 0), none⟩), (1, ⟨(some 17), .mv (.t 5), none⟩), (2, ⟨(some 18), .idxAddr 1 (.t 16) (.m 17), none⟩), (3, ⟨(some 19), .load false none (.m 18), none⟩), (4, ⟨(some 20), .mv (.t 1), none⟩), (5, ⟨(some 21), .mv (.t 5), none⟩), (6, ⟨(some 22), .idxAddr 1 (.t 20) (.m 21), none⟩), (7, ⟨(some 23), .load false none (.m 22), none⟩), (8, ⟨(some 24), .bin .neq (.m 19) (.m 23), none⟩)] [])
 (.cond (.t 24) (.seq (.ops [⟨(some 4), .mv (.c (.bool false)), none⟩])
 .ret) .skip))))
 (.ops [⟨(some 25), .bin .add (.m 13) (.c (.int .i64 1)), none⟩, ⟨(some 13), .mv (.m 25), none⟩]))))
def jfp : IFunc := ⟨26, 14, 9, 5, (.seq (.ops [⟨(some 4), .mv (.c (.bool false)), none⟩])
 (.seq (.seq (.ops [⟨(some 6), .mv (.t 0), none⟩, ⟨(some 7), .lenL (.t 6), none⟩, ⟨(some 8), .mv (.t 1), none⟩, ⟨(some 9), .lenL (.t 8), none⟩, ⟨(some 10), .bin .neq (.m 7) (.m 9), none⟩])
 (.cond (.t 10) (.seq (.ops [⟨(some 4), .mv (.c (.bool false)), none⟩])
 .ret) .skip))
 (.seq (.seq (.ops [⟨(some 11), .mv (.t 0), none⟩, ⟨(some 12), .lenL (.t 11), none⟩, ⟨(some 13), .mv (.c (.int .i64 0)), none⟩])
 (.block 0 (.loop yJ)))
 (.seq (.ops [⟨(some 4), .mv (.c (.bool true)), none⟩])
 .ret)))), [.t 4]⟩
/- slices.Equal[[]plover/api.Ran,plover/api.Ran] -/
def yK : ICode := (.seq (.ops [⟨(some 14), .bin .lss (.t 13) (.t 12), none⟩])
 (.seq (.cond (.t 14) .skip (.exit 0))
 (.seq (.block 1 (.seq (.ops [⟨(some 15), .mv (.t 13), none⟩, ⟨(some 5), .mv (.m 15), none⟩])
 (.seq (.draw [(0, ⟨(some 16), .mv (.t 0), none⟩), (1, ⟨(some 17), .mv (.t 5), none⟩), (2, ⟨(some 18), .idxAddr 3 (.t 16) (.m 17), none⟩), (3, ⟨(some 19), .load false (some 3) (.m 18), none⟩), (4, ⟨(some 20), .mv (.t 1), none⟩), (5, ⟨(some 21), .mv (.t 5), none⟩), (6, ⟨(some 22), .idxAddr 3 (.t 20) (.m 21), none⟩), (7, ⟨(some 23), .load false (some 3) (.m 22), none⟩), (8, ⟨(some 24), .pur (.eqa true [0, 0, 2]) [(.m 19), (.m 23)], none⟩)] [])
 (.cond (.t 24) (.seq (.ops [⟨(some 4), .mv (.c (.bool false)), none⟩])
 .ret) .skip))))
 (.ops [⟨(some 25), .bin .add (.m 13) (.c (.int .i64 1)), none⟩, ⟨(some 13), .mv (.m 25), none⟩]))))
def jfq : IFunc := ⟨26, 14, 9, 5, (.seq (.ops [⟨(some 4), .mv (.c (.bool false)), none⟩])
 (.seq (.seq (.ops [⟨(some 6), .mv (.t 0), none⟩, ⟨(some 7), .lenL (.t 6), none⟩, ⟨(some 8), .mv (.t 1), none⟩, ⟨(some 9), .lenL (.t 8), none⟩, ⟨(some 10), .bin .neq (.m 7) (.m 9), none⟩])
 (.cond (.t 10) (.seq (.ops [⟨(some 4), .mv (.c (.bool false)), none⟩])
 .ret) .skip))
 (.seq (.seq (.ops [⟨(some 11), .mv (.t 0), none⟩, ⟨(some 12), .lenL (.t 11), none⟩, ⟨(some 13), .mv (.c (.int .i64 0)), none⟩])
 (.block 0 (.loop yK)))
 (.seq (.ops [⟨(some 4), .mv (.c (.bool true)), none⟩])
 .ret)))), [.t 4]⟩
/- plover/vm.Same$1 -/
def jfr : IFunc := ⟨20, 3, 17, 5, (.seq (.ops [⟨(some 1), .boxv (.t 0), none⟩, ⟨(some 2), .alloc [(.int .i64 0), (.int .i64 0), (.int .i64 0), (.int .i64 0), (.int .i64 0), (.int .i64 0), (.int .i64 0), (.int .i64 0)], none⟩])
 (.seq (.ops [⟨(some 3), .fieldAddr 0 (.m 1), none⟩, ⟨(some 4), .load false none (.m 3), none⟩, ⟨(some 5), .fieldAddr 1 (.m 1), none⟩, ⟨(some 6), .load false none (.m 5), none⟩, ⟨(some 7), .fieldAddr 2 (.m 1), none⟩, ⟨(some 8), .load false none (.m 7), none⟩, ⟨(some 9), .fieldAddr 3 (.m 1), none⟩, ⟨(some 10), .load false none (.m 9), none⟩, ⟨(some 11), .fieldAddr 15 (.m 1), none⟩, ⟨(some 12), .load false none (.m 11), none⟩, ⟨(some 13), .fieldAddr 52 (.m 1), none⟩, ⟨(some 14), .load false none (.m 13), none⟩, ⟨(some 15), .fieldAddr 53 (.m 1), none⟩, ⟨(some 16), .load false none (.m 15), none⟩, ⟨(some 17), .fieldAddr 54 (.m 1), none⟩, ⟨(some 18), .load false none (.m 17), none⟩, ⟨(some 19), .build [(.int .i64 0), (.int .i64 0), (.int .i64 0), (.int .i64 0), (.int .i64 0), (.int .i64 0), (.int .i64 0), (.int .i64 0)] [(0, 1, (.m 4)), (1, 1, (.m 6)), (2, 1, (.m 8)), (3, 1, (.m 10)), (4, 1, (.m 12)), (5, 1, (.m 14)), (6, 1, (.m 16)), (7, 1, (.m 18))], none⟩, ⟨none, .store 8 (.m 2) (.m 19), none⟩])
 .ret)), [.cell 2 (some 8)]⟩
/- slices.Clone[[]int32,int32] -/
def jap : IFunc := ⟨8, 3, 3, 3, (.seq (.ops [⟨(some 2), .mv (.c (.sl 1 true [])), none⟩])
 (.seq (.seq (.ops [⟨(some 3), .mv (.t 0), none⟩, ⟨(some 4), .pur (.isnilS false) [(.t 3)], none⟩])
 (.cond (.t 4) (.seq (.ops [⟨(some 2), .mv (.c (.sl 1 true [])), none⟩])
 .ret) .skip))
 (.seq (.ops [⟨(some 5), .buildRs 1 [], none⟩, ⟨(some 6), .mv (.m 0), none⟩, ⟨(some 7), .append true false 1 4 (.m 5) (.m 6), none⟩, ⟨(some 2), .mv (.m 7), none⟩])
 .ret))), [.t 2]⟩
/- slices.Clone[[]plover/api.Ran,plover/api.Ran] -/
def jaq : IFunc := ⟨8, 3, 3, 3, (.seq (.ops [⟨(some 2), .mv (.c (.sl 3 true [])), none⟩])
 (.seq (.seq (.ops [⟨(some 3), .mv (.t 0), none⟩, ⟨(some 4), .pur (.isnilS false) [(.t 3)], none⟩])
 (.cond (.t 4) (.seq (.ops [⟨(some 2), .mv (.c (.sl 3 true [])), none⟩])
 .ret) .skip))
 (.seq (.ops [⟨(some 5), .buildRs 3 [], none⟩, ⟨(some 6), .mv (.m 0), none⟩, ⟨(some 7), .append true false 3 24 (.m 5) (.m 6), none⟩, ⟨(some 2), .mv (.m 7), none⟩])
 .ret))), [.t 2]⟩
/- plover/snap.places -/
def J8 : ICode := (.seq (.ops [⟨(some 10), .bin .lss (.t 9) (.t 8), none⟩])
 (.seq (.cond (.t 10) .skip (.exit 0))
 (.seq (.block 1 (.seq (.ops [⟨(some 11), .idxAddr 1 (.t 7) (.t 9), none⟩, ⟨(some 12), .load false none (.m 11), none⟩, ⟨(some 5), .mv (.m 12), none⟩])
 (.seq (.ops [⟨(some 13), .mv (.t 5), none⟩, ⟨(some 14), .nilCheck (.m 13), none⟩, ⟨(some 15), .load false none (.m 14), none⟩, ⟨(some 6), .alloc [(.int .i64 0)], none⟩, ⟨none, .store 1 (.m 6) (.m 15), none⟩])
 (.seq (.ops [⟨(some 16), .mv (.t 0), none⟩, ⟨(some 17), .inv [(69, 76, .same), (78, 86, .same)] (.m 16) [(.t 6), (.c (.int .i64 (-1152921504606846976))), (.c (.int .i64 1152921504606846976))], none⟩])
 (.ops [⟨(some 18), .mv (.t 5), none⟩, ⟨(some 19), .load false none (.t 6), none⟩, ⟨(some 20), .nilCheck (.m 18), none⟩, ⟨none, .store 1 (.m 20) (.m 19), none⟩])))))
 (.ops [⟨(some 21), .bin .add (.m 9) (.c (.int .i64 1)), none⟩, ⟨(some 9), .mv (.m 21), none⟩]))))
def KS : IFunc := ⟨22, 10, 3, 4, (.seq (.ops [⟨(some 7), .mv (.t 1), none⟩, ⟨(some 8), .lenL (.t 7), none⟩, ⟨(some 9), .mv (.c (.int .i64 0)), none⟩])
 (.block 0 (.loop J8))), []⟩
/- plover/snap.word -/
def QB : IFunc := ⟨15, 5, 4, 4, (.seq (.ops [⟨(some 5), .mv (.t 1), none⟩, ⟨(some 6), .nilCheck (.m 5), none⟩, ⟨(some 7), .load false none (.m 6), none⟩, ⟨(some 8), .conv (.int .i64) (.m 7), none⟩, ⟨(some 4), .alloc [(.int .i64 0)], none⟩, ⟨none, .store 1 (.m 4) (.m 8), none⟩])
 (.seq (.ops [⟨(some 9), .mv (.t 0), none⟩, ⟨(some 10), .inv [(69, 76, .same), (78, 86, .same)] (.m 9) [(.t 4), (.c (.int .i64 (-2147483648))), (.c (.int .i64 2147483647))], none⟩])
 (.ops [⟨(some 11), .mv (.t 1), none⟩, ⟨(some 12), .load false none (.t 4), none⟩, ⟨(some 13), .conv (.int .i32) (.m 12), none⟩, ⟨(some 14), .nilCheck (.m 11), none⟩, ⟨none, .store 1 (.m 14) (.m 13), none⟩]))), []⟩
/- plover/snap.list[int32] -/
def vp : ICode := (.seq (.ops [⟨(some 26), .bin .lss (.t 25) (.t 24), none⟩])
 (.seq (.cond (.t 26) .skip (.exit 0))
 (.seq (.block 1 (.seq (.ops [⟨(some 27), .mv (.t 25), none⟩, ⟨(some 9), .mv (.m 27), none⟩])
 (.seq (.seq (.ops [⟨(some 28), .mv (.t 9), none⟩, ⟨(some 29), .mv (.t 1), none⟩, ⟨(some 30), .nilCheck (.m 29), none⟩, ⟨(some 31), .load false none (.m 30), none⟩, ⟨(some 32), .lenL (.t 31), none⟩, ⟨(some 33), .bin .eql (.m 28) (.m 32), none⟩])
 (.cond (.t 33) (.seq (.ops [⟨(some 10), .mv (.c (.int .i32 0)), none⟩])
 (.ops [⟨(some 34), .mv (.t 1), none⟩, ⟨(some 35), .mv (.t 1), none⟩, ⟨(some 36), .nilCheck (.m 35), none⟩, ⟨(some 37), .load false none (.m 36), none⟩, ⟨(some 38), .mv (.t 10), none⟩, ⟨(some 39), .buildSl 1 [(.m 38)], none⟩, ⟨(some 40), .append true false 1 4 (.m 37) (.m 39), none⟩, ⟨(some 41), .nilCheck (.m 34), none⟩, ⟨none, .store 1 (.m 41) (.m 40), none⟩])) .skip))
 (.ops [⟨(some 42), .mv (.t 3), none⟩, ⟨(some 43), .mv (.t 0), none⟩, ⟨(some 44), .mv (.t 1), none⟩, ⟨(some 45), .nilCheck (.m 44), none⟩, ⟨(some 46), .load false none (.m 45), none⟩, ⟨(some 47), .mv (.t 9), none⟩, ⟨(some 48), .idxAddr 1 (.t 46) (.m 47), none⟩, ⟨(some 49), .callv (.m 42) [(.m 43), (.m 48)], none⟩]))))
 (.ops [⟨(some 50), .bin .add (.m 25) (.c (.int .i64 1)), none⟩, ⟨(some 25), .mv (.m 50), none⟩]))))
def Xt : IFunc := ⟨51, 26, 8, 6, (.seq (.ops [⟨(some 11), .mv (.t 1), none⟩, ⟨(some 12), .nilCheck (.m 11), none⟩, ⟨(some 13), .load false none (.m 12), none⟩, ⟨(some 14), .lenL (.t 13), none⟩, ⟨(some 15), .conv (.int .u64) (.m 14), none⟩, ⟨(some 8), .alloc [(.int .u64 0)], none⟩, ⟨none, .store 1 (.m 8) (.m 15), none⟩])
 (.seq (.ops [⟨(some 16), .mv (.t 0), none⟩, ⟨(some 17), .mv (.t 2), none⟩, ⟨(some 18), .conv (.int .u64) (.m 17), none⟩, ⟨(some 19), .inv [(69, 74, .same), (78, 84, .same)] (.m 16) [(.t 8), (.m 18)], none⟩])
 (.seq (.ops [⟨(some 20), .load false none (.t 8), none⟩, ⟨(some 21), .mv (.t 2), none⟩, ⟨(some 22), .conv (.int .u64) (.m 21), none⟩, ⟨(some 23), .minmax false [(.m 20), (.m 22)], none⟩, ⟨(some 24), .conv (.int .i64) (.m 23), none⟩, ⟨(some 25), .mv (.c (.int .i64 0)), none⟩])
 (.block 0 (.loop vp))))), []⟩
/- plover/snap.list[plover/api.Ran] -/
def vq : ICode := (.seq (.ops [⟨(some 26), .bin .lss (.t 25) (.t 24), none⟩])
 (.seq (.cond (.t 26) .skip (.exit 0))
 (.seq (.block 1 (.seq (.ops [⟨(some 27), .mv (.t 25), none⟩, ⟨(some 9), .mv (.m 27), none⟩])
 (.seq (.seq (.ops [⟨(some 28), .mv (.t 9), none⟩, ⟨(some 29), .mv (.t 1), none⟩, ⟨(some 30), .nilCheck (.m 29), none⟩, ⟨(some 31), .load false none (.m 30), none⟩, ⟨(some 32), .lenL (.t 31), none⟩, ⟨(some 33), .bin .eql (.m 28) (.m 32), none⟩])
 (.cond (.t 33) (.seq (.ops [⟨(some 10), .alloc [(.int .i64 0), (.int .i64 0), (.bool false)], none⟩])
 (.draw [(0, ⟨(some 34), .mv (.t 1), none⟩), (1, ⟨(some 35), .mv (.t 1), none⟩), (2, ⟨(some 36), .nilCheck (.m 35), none⟩), (3, ⟨(some 37), .load false none (.m 36), none⟩), (4, ⟨(some 38), .load false (some 3) (.t 10), none⟩), (5, ⟨(some 39), .buildSl 3 [(.m 38)], none⟩), (6, ⟨(some 40), .append true false 3 24 (.m 37) (.m 39), none⟩), (7, ⟨(some 41), .nilCheck (.m 34), none⟩), (8, ⟨none, .store 1 (.m 41) (.m 40), none⟩)] [])) .skip))
 (.ops [⟨(some 42), .mv (.t 3), none⟩, ⟨(some 43), .mv (.t 0), none⟩, ⟨(some 44), .mv (.t 1), none⟩, ⟨(some 45), .nilCheck (.m 44), none⟩, ⟨(some 46), .load false none (.m 45), none⟩, ⟨(some 47), .mv (.t 9), none⟩, ⟨(some 48), .idxAddr 3 (.t 46) (.m 47), none⟩, ⟨(some 49), .callv (.m 42) [(.m 43), (.m 48)], none⟩]))))
 (.ops [⟨(some 50), .bin .add (.m 25) (.c (.int .i64 1)), none⟩, ⟨(some 25), .mv (.m 50), none⟩]))))
def Xu : IFunc := ⟨51, 26, 8, 6, (.seq (.ops [⟨(some 11), .mv (.t 1), none⟩, ⟨(some 12), .nilCheck (.m 11), none⟩, ⟨(some 13), .load false none (.m 12), none⟩, ⟨(some 14), .lenL (.t 13), none⟩, ⟨(some 15), .conv (.int .u64) (.m 14), none⟩, ⟨(some 8), .alloc [(.int .u64 0)], none⟩, ⟨none, .store 1 (.m 8) (.m 15), none⟩])
 (.seq (.ops [⟨(some 16), .mv (.t 0), none⟩, ⟨(some 17), .mv (.t 2), none⟩, ⟨(some 18), .conv (.int .u64) (.m 17), none⟩, ⟨(some 19), .inv [(69, 74, .same), (78, 84, .same)] (.m 16) [(.t 8), (.m 18)], none⟩])
 (.seq (.ops [⟨(some 20), .load false none (.t 8), none⟩, ⟨(some 21), .mv (.t 2), none⟩, ⟨(some 22), .conv (.int .u64) (.m 21), none⟩, ⟨(some 23), .minmax false [(.m 20), (.m 22)], none⟩, ⟨(some 24), .conv (.int .i64) (.m 23), none⟩, ⟨(some 25), .mv (.c (.int .i64 0)), none⟩])
 (.block 0 (.loop vq))))), []⟩
/- plover/snap.ran -/
def Xv : IFunc := ⟨21, 2, 9, 4, (.seq (.draw [(0, ⟨(some 4), .mv (.t 0), none⟩), (1, ⟨(some 5), .mv (.t 1), none⟩), (2, ⟨(some 6), .nilCheck (.m 5), none⟩), (3, ⟨(some 7), .fieldAddr 0 (.m 6), none⟩), (4, ⟨(some 8), .mv (.t 1), none⟩), (5, ⟨(some 9), .nilCheck (.m 8), none⟩), (6, ⟨(some 10), .fieldAddr 1 (.m 9), none⟩), (7, ⟨(some 11), .buildSl 1 [(.m 7), (.m 10)], none⟩), (8, ⟨(some 12), .call 33 [(.m 4), (.m 11)], none⟩)] [])
 (.draw [(0, ⟨(some 13), .mv (.t 0), none⟩), (1, ⟨(some 14), .mv (.t 1), none⟩), (2, ⟨(some 15), .nilCheck (.m 14), none⟩), (3, ⟨(some 16), .fieldAddr 2 (.m 15), none⟩), (4, ⟨(some 17), .pur (.mkM "plover/snap.truth") [(.m 13)], none⟩), (5, ⟨(some 18), .pur (.nilM [69, 78] "plover/snap.truth") [(.t 17)], none⟩), (6, ⟨(some 19), .mv (.m 13), none⟩), (7, ⟨(some 20), .inv [(69, 75, .same), (78, 85, .same)] (.m 19) [(.m 16)], none⟩)] [])), []⟩
/- plover/snap.queue -/
def J9 : ICode := (.seq (.ops [⟨(some 12), .bin .lss (.t 11) (.c (.int .i64 8)), none⟩])
 (.seq (.cond (.t 12) .skip (.exit 0))
 (.seq (.block 1 (.seq (.ops [⟨(some 13), .mv (.t 11), none⟩, ⟨(some 4), .mv (.m 13), none⟩])
 (.draw [(0, ⟨(some 14), .mv (.t 0), none⟩), (1, ⟨(some 15), .mv (.t 1), none⟩), (2, ⟨(some 16), .mv (.t 4), none⟩), (3, ⟨(some 17), .nilCheck (.m 15), none⟩), (4, ⟨(some 18), .fieldAddr 1 (.m 17), none⟩), (5, ⟨(some 19), .idxAddrA 8 1 (.t 18) (.m 16), none⟩), (6, ⟨(some 20), .buildSl 1 [(.m 19)], none⟩), (7, ⟨(some 21), .pur (.mkM "plover/snap.bytes") [(.m 14)], none⟩), (8, ⟨(some 22), .pur (.nilM [69, 78] "plover/snap.bytes") [(.t 21)], none⟩), (9, ⟨(some 23), .mv (.m 14), none⟩), (10, ⟨(some 24), .inv [(69, 73, .same), (78, 83, .same)] (.m 23) [(.m 20)], none⟩)] [])))
 (.ops [⟨(some 25), .bin .add (.m 11) (.c (.int .i64 1)), none⟩, ⟨(some 11), .mv (.m 25), none⟩]))))
def ZG : IFunc := ⟨26, 12, 11, 5, (.seq (.ops [⟨(some 5), .mv (.t 0), none⟩, ⟨(some 6), .mv (.t 1), none⟩, ⟨(some 7), .nilCheck (.m 6), none⟩, ⟨(some 8), .fieldAddr 0 (.m 7), none⟩, ⟨(some 9), .buildSl 1 [(.m 8)], none⟩, ⟨(some 10), .call 33 [(.m 5), (.m 9)], none⟩])
 (.seq (.ops [⟨(some 11), .mv (.c (.int .i64 0)), none⟩])
 (.block 0 (.loop J9)))), []⟩
/- plover/snap.clock -/
def Ka : ICode := (.seq (.ops [⟨(some 19), .bin .lss (.t 18) (.t 17), none⟩])
 (.seq (.cond (.t 19) .skip (.exit 0))
 (.seq (.block 1 (.seq (.ops [⟨(some 20), .idxAddr 1 (.t 16) (.t 18), none⟩, ⟨(some 21), .load false none (.m 20), none⟩, ⟨(some 5), .mv (.m 21), none⟩])
 (.seq (.ops [⟨(some 22), .mv (.t 5), none⟩, ⟨(some 23), .nilCheck (.m 22), none⟩, ⟨(some 24), .load false none (.m 23), none⟩, ⟨(some 25), .conv (.int .u64) (.m 24), none⟩, ⟨(some 6), .alloc [(.int .u64 0)], none⟩, ⟨none, .store 1 (.m 6) (.m 25), none⟩])
 (.seq (.ops [⟨(some 26), .mv (.t 0), none⟩, ⟨(some 27), .inv [(69, 74, .same), (78, 84, .same)] (.m 26) [(.t 6), (.c (.int .u64 65535))], none⟩])
 (.ops [⟨(some 28), .mv (.t 5), none⟩, ⟨(some 29), .load false none (.t 6), none⟩, ⟨(some 30), .conv (.int .u16) (.m 29), none⟩, ⟨(some 31), .nilCheck (.m 28), none⟩, ⟨none, .store 1 (.m 31) (.m 30), none⟩])))))
 (.ops [⟨(some 32), .bin .add (.m 18) (.c (.int .i64 1)), none⟩, ⟨(some 18), .mv (.m 32), none⟩]))))
def ZH : IFunc := ⟨33, 19, 4, 5, (.seq (.draw [(0, ⟨(some 7), .mv (.t 1), none⟩), (1, ⟨(some 8), .nilCheck (.m 7), none⟩), (2, ⟨(some 9), .fieldAddr 0 (.m 8), none⟩), (3, ⟨(some 10), .mv (.t 1), none⟩), (4, ⟨(some 11), .nilCheck (.m 10), none⟩), (5, ⟨(some 12), .fieldAddr 1 (.m 11), none⟩), (6, ⟨(some 13), .mv (.t 1), none⟩), (7, ⟨(some 14), .nilCheck (.m 13), none⟩), (8, ⟨(some 15), .fieldAddr 2 (.m 14), none⟩), (9, ⟨(some 16), .buildSl 1 [(.m 9), (.m 12), (.m 15)], none⟩), (10, ⟨(some 17), .lenL (.t 16), none⟩), (11, ⟨(some 18), .mv (.c (.int .i64 0)), none⟩)] [])
 (.block 0 (.loop Ka))), []⟩
/- (*plover/wire.In).bad -/
def KM : IFunc := ⟨16, 5, 8, 4, (.seq (.ops [⟨(some 2), .mv (.c (.bool false)), none⟩])
 (.seq (.seq (.ops [⟨(some 5), .mv (.t 0), none⟩, ⟨(some 6), .isnil false 0 (.m 5), none⟩])
 (.cond (.t 6) (.seq (.ops [⟨(some 2), .mv (.c (.bool true)), none⟩])
 .ret) .skip))
 (.seq (.ops [⟨(some 8), .mv (.t 0), none⟩, ⟨(some 9), .nilCheck (.m 8), none⟩, ⟨(some 10), .fieldAddr 2 (.m 9), none⟩, ⟨(some 11), .load false none (.m 10), none⟩, ⟨(some 12), .pur (.tyC 89 true (.prim (.pointer none))) [(.m 11)], none⟩, ⟨(some 7), .mv (.m 12), none⟩, ⟨(some 13), .extract (.m 7) 0, none⟩, ⟨(some 14), .extract (.m 7) 1, none⟩, ⟨(some 3), .mv (.m 13), none⟩, ⟨(some 4), .mv (.m 14), none⟩])
 (.seq (.ops [⟨(some 15), .mv (.m 4), none⟩, ⟨(some 2), .mv (.m 15), none⟩])
 .ret)))), [.t 2]⟩
/- (*plover/wire.In).Left -/
def K9 : IFunc := ⟨15, 3, 10, 4, (.seq (.ops [⟨(some 2), .mv (.c (.int .i64 0)), none⟩])
 (.seq (.seq (.ops [⟨(some 3), .mv (.t 0), none⟩, ⟨(some 4), .isnil false 0 (.m 3), none⟩])
 (.cond (.t 4) (.seq (.ops [⟨(some 2), .mv (.c (.int .i64 0)), none⟩])
 .ret) .skip))
 (.seq (.draw [(0, ⟨(some 5), .mv (.t 0), none⟩), (1, ⟨(some 6), .nilCheck (.m 5), none⟩), (2, ⟨(some 7), .fieldAddr 0 (.m 6), none⟩), (3, ⟨(some 8), .load false none (.m 7), none⟩), (4, ⟨(some 9), .lenS (.t 8), none⟩), (5, ⟨(some 10), .mv (.t 0), none⟩), (6, ⟨(some 11), .nilCheck (.m 10), none⟩), (7, ⟨(some 12), .fieldAddr 1 (.m 11), none⟩), (8, ⟨(some 13), .load false none (.m 12), none⟩), (9, ⟨(some 14), .bin .sub (.m 9) (.m 13), none⟩), (10, ⟨(some 2), .mv (.m 14), none⟩)] [])
 .ret))), [.t 2]⟩
/- (*plover/wire.In).Err -/
def Yp : IFunc := ⟨12, 3, 4, 3, (.seq (.ops [⟨(some 2), .mv (.c (.prim .nilIface)), none⟩])
 (.seq (.seq (.ops [⟨(some 3), .mv (.t 0), none⟩, ⟨(some 4), .isnil false 0 (.m 3), none⟩])
 (.cond (.t 4) (.seq (.ops [⟨(some 5), .build [(.int .i64 0), (.int .i64 0)] [(0, 1, (.c (.int .i64 1)))], none⟩, ⟨(some 6), .boxv (.m 5), none⟩, ⟨(some 7), .mkIface 89 (.m 6), none⟩, ⟨(some 2), .mv (.m 7), none⟩])
 .ret) .skip))
 (.seq (.ops [⟨(some 8), .mv (.m 0), none⟩, ⟨(some 9), .nilCheck (.m 8), none⟩, ⟨(some 10), .fieldAddr 2 (.m 9), none⟩, ⟨(some 11), .load false none (.m 10), none⟩, ⟨(some 2), .mv (.m 11), none⟩])
 .ret))), [.t 2]⟩
/- (*plover/snap.lays).bytes -/
def Kb : ICode := (.seq (.ops [⟨(some 9), .bin .lss (.t 8) (.t 7), none⟩])
 (.seq (.cond (.t 9) .skip (.exit 0))
 (.seq (.block 1 (.seq (.ops [⟨(some 10), .idxAddr 1 (.t 6) (.t 8), none⟩, ⟨(some 11), .load false none (.m 10), none⟩, ⟨(some 5), .mv (.m 11), none⟩])
 (.draw [(0, ⟨(some 12), .mv (.t 0), none⟩), (1, ⟨(some 13), .mv (.t 0), none⟩), (2, ⟨(some 14), .nilCheck (.m 13), none⟩), (3, ⟨(some 15), .fieldAddr 0 (.m 14), none⟩), (4, ⟨(some 16), .load true none (.m 15), none⟩), (5, ⟨(some 17), .mv (.t 5), none⟩), (6, ⟨(some 18), .nilCheck (.m 17), none⟩), (7, ⟨(some 19), .load false none (.m 18), none⟩), (8, ⟨(some 20), .buildSl 1 [(.m 19)], none⟩), (9, ⟨(some 21), .append false false 1 1 (.m 16) (.m 20), none⟩), (10, ⟨(some 22), .nilCheck (.m 12), none⟩), (11, ⟨(some 23), .fieldAddr 0 (.m 22), none⟩), (12, ⟨none, .store 1 (.m 23) (.m 21), none⟩)] [(7, 4)])))
 (.ops [⟨(some 24), .bin .add (.m 8) (.c (.int .i64 1)), none⟩, ⟨(some 8), .mv (.m 24), none⟩]))))
def jfs : IFunc := ⟨25, 9, 12, 5, (.seq (.ops [⟨(some 6), .mv (.t 1), none⟩, ⟨(some 7), .lenL (.t 6), none⟩, ⟨(some 8), .mv (.c (.int .i64 0)), none⟩])
 (.block 0 (.loop Kb))), []⟩
/- (*plover/snap.lays).number -/
def jft : IFunc := ⟨31, 3, 14, 5, (.seq (.ops [⟨(some 6), .mv (.t 0), none⟩, ⟨(some 7), .mv (.t 0), none⟩, ⟨(some 8), .nilCheck (.m 7), none⟩, ⟨(some 9), .fieldAddr 1 (.m 8), none⟩, ⟨(some 10), .load true none (.m 9), none⟩, ⟨(some 11), .mv (.m 10), none⟩, ⟨(some 12), .mv (.t 1), some (11, false)⟩, ⟨(some 13), .nilCheck (.t 12), some (11, false)⟩, ⟨(some 14), .load false none (.t 13), some (11, false)⟩, ⟨(some 15), .mv (.t 2), some (11, false)⟩, ⟨(some 16), .bin .gtr (.t 14) (.t 15), some (11, false)⟩, ⟨(some 17), .pick (.m 11) (.c (.bool true)) (.t 16), none⟩, ⟨(some 18), .nilCheck (.m 6), none⟩, ⟨(some 19), .fieldAddr 1 (.m 18), none⟩, ⟨none, .store 1 (.m 19) (.m 17), none⟩])
 (.draw [(0, ⟨(some 20), .mv (.t 0), none⟩), (1, ⟨(some 21), .mv (.t 0), none⟩), (2, ⟨(some 22), .nilCheck (.m 21), none⟩), (3, ⟨(some 23), .fieldAddr 0 (.m 22), none⟩), (4, ⟨(some 24), .load true none (.m 23), none⟩), (5, ⟨(some 25), .mv (.t 1), none⟩), (6, ⟨(some 26), .nilCheck (.m 25), none⟩), (7, ⟨(some 27), .load false none (.m 26), none⟩), (8, ⟨(some 28), .call 77 [(.m 24), (.m 27)], none⟩), (9, ⟨(some 29), .nilCheck (.m 20), none⟩), (10, ⟨(some 30), .fieldAddr 0 (.m 29), none⟩), (11, ⟨none, .store 1 (.m 30) (.m 28), none⟩)] [(7, 4)])), []⟩
/- (*plover/snap.lays).truth -/
def jfu : IFunc := ⟨15, 2, 11, 4, (.draw [(0, ⟨(some 4), .mv (.t 0), none⟩), (1, ⟨(some 5), .mv (.t 0), none⟩), (2, ⟨(some 6), .nilCheck (.m 5), none⟩), (3, ⟨(some 7), .fieldAddr 0 (.m 6), none⟩), (4, ⟨(some 8), .load true none (.m 7), none⟩), (5, ⟨(some 9), .mv (.t 1), none⟩), (6, ⟨(some 10), .nilCheck (.m 9), none⟩), (7, ⟨(some 11), .load false none (.m 10), none⟩), (8, ⟨(some 12), .call 78 [(.m 8), (.m 11)], none⟩), (9, ⟨(some 13), .nilCheck (.m 4), none⟩), (10, ⟨(some 14), .fieldAddr 0 (.m 13), none⟩), (11, ⟨none, .store 1 (.m 14) (.m 12), none⟩)] [(7, 4)]), []⟩
/- (*plover/snap.lays).whole -/
def jfv : IFunc := ⟨40, 4, 21, 5, (.seq (.ops [⟨(some 8), .mv (.t 0), none⟩, ⟨(some 9), .mv (.t 0), none⟩, ⟨(some 10), .nilCheck (.m 9), none⟩, ⟨(some 11), .fieldAddr 1 (.m 10), none⟩, ⟨(some 12), .load true none (.m 11), none⟩, ⟨(some 13), .mv (.m 12), none⟩, ⟨(some 14), .mv (.t 1), some (13, false)⟩, ⟨(some 15), .nilCheck (.t 14), some (13, false)⟩, ⟨(some 16), .load false none (.t 15), some (13, false)⟩, ⟨(some 17), .mv (.t 2), some (13, false)⟩, ⟨(some 18), .bin .lss (.t 16) (.t 17), some (13, false)⟩, ⟨(some 19), .pick (.m 13) (.c (.bool true)) (.t 18), none⟩, ⟨(some 20), .mv (.m 19), none⟩, ⟨(some 21), .mv (.t 1), some (20, false)⟩, ⟨(some 22), .nilCheck (.t 21), some (20, false)⟩, ⟨(some 23), .load false none (.t 22), some (20, false)⟩, ⟨(some 24), .mv (.t 3), some (20, false)⟩, ⟨(some 25), .bin .gtr (.t 23) (.t 24), some (20, false)⟩, ⟨(some 26), .pick (.m 20) (.c (.bool true)) (.t 25), none⟩, ⟨(some 27), .nilCheck (.m 8), none⟩, ⟨(some 28), .fieldAddr 1 (.m 27), none⟩, ⟨none, .store 1 (.m 28) (.m 26), none⟩])
 (.draw [(0, ⟨(some 29), .mv (.t 0), none⟩), (1, ⟨(some 30), .mv (.t 0), none⟩), (2, ⟨(some 31), .nilCheck (.m 30), none⟩), (3, ⟨(some 32), .fieldAddr 0 (.m 31), none⟩), (4, ⟨(some 33), .load true none (.m 32), none⟩), (5, ⟨(some 34), .mv (.t 1), none⟩), (6, ⟨(some 35), .nilCheck (.m 34), none⟩), (7, ⟨(some 36), .load false none (.m 35), none⟩), (8, ⟨(some 37), .call 79 [(.m 33), (.m 36)], none⟩), (9, ⟨(some 38), .nilCheck (.m 29), none⟩), (10, ⟨(some 39), .fieldAddr 0 (.m 38), none⟩), (11, ⟨none, .store 1 (.m 39) (.m 37), none⟩)] [(7, 4)])), []⟩
/- plover/wire.P -/
def Kc : ICode := (.seq (.seq (.ops [⟨(some 29), .mv (.t 6), none⟩, ⟨(some 30), .bin .geq (.m 29) (.c (.int .i64 0)), none⟩])
 (.cond (.t 30) .skip (.exit 0)))
 (.seq (.block 1 (.ops [⟨(some 33), .mv (.m 0), none⟩, ⟨(some 34), .mv (.t 1), none⟩, ⟨(some 35), .mv (.t 6), none⟩, ⟨(some 36), .bin .mul (.c (.int .i64 8)) (.m 35), none⟩, ⟨(some 37), .bin .shr (.m 34) (.m 36), none⟩, ⟨(some 38), .conv (.int .u8) (.m 37), none⟩, ⟨(some 39), .buildSl 1 [(.m 38)], none⟩, ⟨(some 40), .append false false 1 1 (.m 33) (.m 39), none⟩, ⟨(some 0), .mv (.m 40), none⟩]))
 (.ops [⟨(some 31), .mv (.m 6), none⟩, ⟨(some 32), .bin .sub (.m 31) (.c (.int .i64 1)), none⟩, ⟨(some 6), .mv (.m 32), none⟩])))
def jce : IFunc := ⟨42, 7, 9, 5, (.seq (.ops [⟨(some 4), .mv (.c (.sl 1 true [])), none⟩])
 (.seq (.ops [⟨(some 7), .mv (.m 1), none⟩, ⟨(some 8), .bin .and (.m 7) (.c (.int .u64 4611686018427387903)), none⟩, ⟨(some 1), .mv (.m 8), none⟩])
 (.seq (.ops [⟨(some 9), .mv (.t 1), none⟩, ⟨(some 10), .call 80 [(.m 9)], none⟩, ⟨(some 5), .mv (.m 10), none⟩])
 (.seq (.ops [⟨(some 11), .mv (.m 1), none⟩, ⟨(some 12), .mv (.t 5), none⟩, ⟨(some 13), .conv (.int .u64) (.m 12), none⟩, ⟨(some 14), .mv (.t 5), none⟩, ⟨(some 15), .call 81 [(.m 14)], none⟩, ⟨(some 16), .bin .mul (.c (.int .i64 8)) (.m 15), none⟩, ⟨(some 17), .bin .sub (.m 16) (.c (.int .i64 2)), none⟩, ⟨(some 18), .bin .shl (.m 13) (.m 17), none⟩, ⟨(some 19), .bin .or (.m 11) (.m 18), none⟩, ⟨(some 1), .mv (.m 19), none⟩])
 (.seq (.ops [⟨(some 20), .mv (.m 0), none⟩, ⟨(some 21), .mv (.m 0), none⟩, ⟨(some 22), .lenL (.t 21), none⟩, ⟨(some 23), .mv (.m 0), none⟩, ⟨(some 24), .lenL (.t 23), none⟩, ⟨(some 25), .sliceL 1 (.m 20) none (some (.t 22)) (some (.t 24)), none⟩, ⟨(some 0), .mv (.m 25), none⟩])
 (.seq (.seq (.ops [⟨(some 26), .mv (.t 5), none⟩, ⟨(some 27), .call 81 [(.m 26)], none⟩, ⟨(some 28), .bin .sub (.m 27) (.c (.int .i64 1)), none⟩, ⟨(some 6), .mv (.m 28), none⟩])
 (.block 0 (.loop Kc)))
 (.seq (.ops [⟨(some 41), .mv (.m 0), none⟩, ⟨(some 4), .mv (.m 41), none⟩])
 .ret))))))), [.t 4]⟩
/- plover/wire.PT -/
def jen : IFunc := ⟨18, 5, 6, 4, (.seq (.ops [⟨(some 4), .mv (.c (.sl 1 true [])), none⟩])
 (.seq (.ops [⟨(some 5), .mv (.m 0), none⟩, ⟨(some 6), .mv (.m 0), none⟩, ⟨(some 7), .lenL (.t 6), none⟩, ⟨(some 8), .mv (.m 0), none⟩, ⟨(some 9), .lenL (.t 8), none⟩, ⟨(some 10), .sliceL 1 (.m 5) none (some (.t 7)) (some (.t 9)), none⟩, ⟨(some 0), .mv (.m 10), none⟩])
 (.seq (.seq (.ops [⟨(some 11), .mv (.t 1), none⟩])
 (.cond (.t 11) (.seq (.ops [⟨(some 12), .mv (.m 0), none⟩, ⟨(some 13), .buildSl 1 [(.c (.int .u8 1))], none⟩, ⟨(some 14), .append false false 1 1 (.m 12) (.m 13), none⟩, ⟨(some 4), .mv (.m 14), none⟩])
 .ret) .skip))
 (.seq (.ops [⟨(some 15), .mv (.m 0), none⟩, ⟨(some 16), .buildSl 1 [(.c (.int .u8 0))], none⟩, ⟨(some 17), .append false false 1 1 (.m 15) (.m 16), none⟩, ⟨(some 4), .mv (.m 17), none⟩])
 .ret)))), [.t 4]⟩
/- plover/wire.PI -/
def jeo : IFunc := ⟨14, 5, 9, 4, (.seq (.ops [⟨(some 4), .mv (.c (.sl 1 true [])), none⟩])
 (.seq (.ops [⟨(some 5), .mv (.m 0), none⟩, ⟨(some 6), .mv (.m 1), none⟩, ⟨(some 7), .conv (.int .u64) (.m 6), none⟩, ⟨(some 8), .bin .shl (.m 7) (.c (.int .u64 1)), none⟩, ⟨(some 9), .mv (.m 1), none⟩, ⟨(some 10), .bin .shr (.m 9) (.c (.int .u64 63)), none⟩, ⟨(some 11), .conv (.int .u64) (.m 10), none⟩, ⟨(some 12), .bin .xor (.m 8) (.m 11), none⟩, ⟨(some 13), .call 77 [(.m 5), (.m 12)], none⟩, ⟨(some 4), .mv (.m 13), none⟩])
 .ret)), [.t 4]⟩
/- plover/wire.sort -/
def Jq : ICode := (.seq (.seq (.ops [⟨(some 4), .mv (.t 3), none⟩, ⟨(some 5), .bin .lss (.m 4) (.c (.int .i64 3)), none⟩, ⟨(some 6), .mv (.m 5), none⟩, ⟨(some 7), .mv (.t 0), some (6, true)⟩, ⟨(some 8), .mv (.t 3), some (6, true)⟩, ⟨(some 9), .call 81 [(.t 8)], some (6, true)⟩, ⟨(some 10), .bin .mul (.c (.int .i64 8)) (.t 9), some (6, true)⟩, ⟨(some 11), .bin .sub (.t 10) (.c (.int .i64 2)), some (6, true)⟩, ⟨(some 12), .bin .shr (.t 7) (.t 11), some (6, true)⟩, ⟨(some 13), .bin .gtr (.t 12) (.c (.int .u64 0)), some (6, true)⟩, ⟨(some 14), .pick (.m 6) (.t 13) (.c (.bool false)), none⟩])
 (.cond (.t 14) .skip (.exit 0)))
 (.block 1 (.ops [⟨(some 15), .mv (.m 3), none⟩, ⟨(some 16), .bin .add (.m 15) (.c (.int .i64 1)), none⟩, ⟨(some 3), .mv (.m 16), none⟩])))
def Xc : IFunc := ⟨18, 4, 11, 4, (.seq (.ops [⟨(some 2), .mv (.c (.int .i64 0)), none⟩])
 (.seq (.ops [⟨(some 3), .mv (.c (.int .i64 0)), none⟩])
 (.seq (.block 0 (.loop Jq))
 (.seq (.ops [⟨(some 17), .mv (.m 3), none⟩, ⟨(some 2), .mv (.m 17), none⟩])
 .ret)))), [.t 2]⟩
/- plover/wire.bytes -/
def Va : IFunc := ⟨6, 3, 3, 3, (.seq (.ops [⟨(some 2), .mv (.c (.int .i64 0)), none⟩])
 (.seq (.ops [⟨(some 3), .build [(.int .i64 0), (.int .i64 0), (.int .i64 0), (.int .i64 0)] [(0, 1, (.c (.int .i64 1))), (1, 1, (.c (.int .i64 2))), (2, 1, (.c (.int .i64 4))), (3, 1, (.c (.int .i64 8)))], none⟩, ⟨(some 4), .mv (.m 0), none⟩, ⟨(some 5), .idxA 4 1 none (.m 3) (.m 4), none⟩, ⟨(some 2), .mv (.m 5), none⟩])
 .ret)), [.t 2]⟩
/- (*plover/wire.In).B -/
def Zc : IFunc := ⟨31, 3, 9, 4, (.seq (.ops [⟨(some 2), .mv (.c (.int .u8 0)), none⟩])
 (.seq (.seq (.ops [⟨(some 3), .mv (.t 0), none⟩, ⟨(some 4), .call 40 [(.m 3)], none⟩])
 (.cond (.t 4) (.seq (.ops [⟨(some 2), .mv (.c (.int .u8 0)), none⟩])
 .ret) .skip))
 (.seq (.seq (.ops [⟨(some 5), .mv (.t 0), none⟩, ⟨(some 6), .call 41 [(.m 5)], none⟩, ⟨(some 7), .bin .eql (.m 6) (.c (.int .i64 0)), none⟩])
 (.cond (.t 7) (.seq (.ops [⟨(some 8), .mv (.t 0), none⟩, ⟨(some 9), .mv (.t 0), none⟩, ⟨(some 10), .nilCheck (.m 9), none⟩, ⟨(some 11), .fieldAddr 1 (.m 10), none⟩, ⟨(some 12), .load false none (.m 11), none⟩, ⟨(some 13), .call 87 [(.m 8), (.c (.int .i64 3)), (.m 12)], none⟩])
 (.seq (.ops [⟨(some 2), .mv (.c (.int .u8 0)), none⟩])
 .ret)) .skip))
 (.seq (.draw [(0, ⟨(some 14), .mv (.t 0), none⟩), (1, ⟨(some 15), .nilCheck (.m 14), none⟩), (2, ⟨(some 16), .fieldAddr 0 (.m 15), none⟩), (3, ⟨(some 17), .load false none (.m 16), none⟩), (4, ⟨(some 18), .mv (.t 0), none⟩), (5, ⟨(some 19), .nilCheck (.m 18), none⟩), (6, ⟨(some 20), .fieldAddr 1 (.m 19), none⟩), (7, ⟨(some 21), .load false none (.m 20), none⟩), (8, ⟨(some 22), .idxS (.m 17) (.m 21), none⟩), (9, ⟨(some 2), .mv (.m 22), none⟩)] [])
 (.seq (.ops [⟨(some 23), .mv (.t 0), none⟩, ⟨(some 24), .nilCheck (.m 23), none⟩, ⟨(some 25), .fieldAddr 1 (.m 24), none⟩, ⟨(some 26), .load false none (.m 25), none⟩, ⟨(some 27), .bin .add (.m 26) (.c (.int .i64 1)), none⟩, ⟨(some 28), .nilCheck (.m 23), none⟩, ⟨(some 29), .fieldAddr 1 (.m 28), none⟩, ⟨none, .store 1 (.m 29) (.m 27), none⟩])
 (.seq (.ops [⟨(some 30), .mv (.m 2), none⟩, ⟨(some 2), .mv (.m 30), none⟩])
 .ret)))))), [.t 2]⟩
/- (plover/snap.reads).bytes -/
def Kd : ICode := (.seq (.ops [⟨(some 9), .bin .lss (.t 8) (.t 7), none⟩])
 (.seq (.cond (.t 9) .skip (.exit 0))
 (.seq (.block 1 (.seq (.ops [⟨(some 10), .idxAddr 1 (.t 6) (.t 8), none⟩, ⟨(some 11), .load false none (.m 10), none⟩, ⟨(some 5), .mv (.m 11), none⟩])
 (.ops [⟨(some 12), .mv (.t 5), none⟩, ⟨(some 13), .fieldAddr 0 (.t 2), none⟩, ⟨(some 14), .load false none (.m 13), none⟩, ⟨(some 15), .call 82 [(.m 14)], none⟩, ⟨(some 16), .nilCheck (.m 12), none⟩, ⟨none, .store 1 (.m 16) (.m 15), none⟩])))
 (.ops [⟨(some 17), .bin .add (.m 8) (.c (.int .i64 1)), none⟩, ⟨(some 8), .mv (.m 17), none⟩]))))
def jep : IFunc := ⟨18, 9, 5, 4, (.seq (.ops [⟨(some 2), .boxv (.t 0), none⟩])
 (.seq (.ops [⟨(some 6), .mv (.t 1), none⟩, ⟨(some 7), .lenL (.t 6), none⟩, ⟨(some 8), .mv (.c (.int .i64 0)), none⟩])
 (.block 0 (.loop Kd)))), []⟩
/- (plover/snap.reads).number -/
def jdr : IFunc := ⟨23, 8, 6, 4, (.seq (.ops [⟨(some 3), .boxv (.t 0), none⟩])
 (.seq (.ops [⟨(some 8), .fieldAddr 0 (.t 3), none⟩, ⟨(some 9), .load false none (.m 8), none⟩, ⟨(some 10), .call 88 [(.m 9)], none⟩, ⟨(some 6), .mv (.m 10), none⟩])
 (.seq (.ops [⟨(some 11), .fieldAddr 0 (.t 3), none⟩, ⟨(some 12), .load false none (.m 11), none⟩, ⟨(some 13), .call 89 [(.m 12)], none⟩, ⟨(some 7), .mv (.m 13), none⟩])
 (.seq (.ops [⟨(some 14), .load false (some 1) (.t 3), none⟩, ⟨(some 15), .mv (.t 7), none⟩, ⟨(some 16), .mv (.t 2), none⟩, ⟨(some 17), .bin .leq (.m 15) (.m 16), none⟩, ⟨(some 18), .mv (.t 6), none⟩, ⟨(some 19), .call 90 [(.m 14), (.m 17), (.m 18)], none⟩])
 (.cond (.t 19) (.ops [⟨(some 20), .mv (.t 1), none⟩, ⟨(some 21), .mv (.t 7), none⟩, ⟨(some 22), .nilCheck (.m 20), none⟩, ⟨none, .store 1 (.m 22) (.m 21), none⟩]) .skip))))), []⟩
/- (plover/snap.reads).truth -/
def jeq : IFunc := ⟨9, 3, 5, 4, (.seq (.ops [⟨(some 2), .boxv (.t 0), none⟩])
 (.ops [⟨(some 4), .mv (.t 1), none⟩, ⟨(some 5), .fieldAddr 0 (.t 2), none⟩, ⟨(some 6), .load false none (.m 5), none⟩, ⟨(some 7), .call 91 [(.m 6)], none⟩, ⟨(some 8), .nilCheck (.m 4), none⟩, ⟨none, .store 1 (.m 8) (.m 7), none⟩])), []⟩
/- (plover/snap.reads).whole -/
def jer : IFunc := ⟨30, 10, 11, 5, (.seq (.ops [⟨(some 4), .boxv (.t 0), none⟩])
 (.seq (.ops [⟨(some 10), .fieldAddr 0 (.t 4), none⟩, ⟨(some 11), .load false none (.m 10), none⟩, ⟨(some 12), .call 88 [(.m 11)], none⟩, ⟨(some 8), .mv (.m 12), none⟩])
 (.seq (.ops [⟨(some 13), .fieldAddr 0 (.t 4), none⟩, ⟨(some 14), .load false none (.m 13), none⟩, ⟨(some 15), .call 92 [(.m 14)], none⟩, ⟨(some 9), .mv (.m 15), none⟩])
 (.seq (.ops [⟨(some 16), .load false (some 1) (.t 4), none⟩, ⟨(some 17), .mv (.t 9), none⟩, ⟨(some 18), .mv (.t 2), none⟩, ⟨(some 19), .bin .geq (.m 17) (.m 18), none⟩, ⟨(some 20), .mv (.m 19), none⟩, ⟨(some 21), .mv (.t 9), some (20, true)⟩, ⟨(some 22), .mv (.t 3), some (20, true)⟩, ⟨(some 23), .bin .leq (.t 21) (.t 22), some (20, true)⟩, ⟨(some 24), .pick (.m 20) (.t 23) (.c (.bool false)), none⟩, ⟨(some 25), .mv (.t 8), none⟩, ⟨(some 26), .call 90 [(.m 16), (.m 24), (.m 25)], none⟩])
 (.cond (.t 26) (.ops [⟨(some 27), .mv (.t 1), none⟩, ⟨(some 28), .mv (.t 9), none⟩, ⟨(some 29), .nilCheck (.m 27), none⟩, ⟨none, .store 1 (.m 29) (.m 28), none⟩]) .skip))))), []⟩
/- (*plover/wire.In).Fail -/
def QC : IFunc := ⟨21, 3, 8, 4, (.seq (.ops [⟨(some 6), .mv (.t 0), none⟩, ⟨(some 7), .call 40 [(.m 6)], none⟩, ⟨(some 8), .un .not (.m 7), none⟩, ⟨(some 9), .mv (.m 8), none⟩, ⟨(some 10), .mv (.t 1), some (9, true)⟩, ⟨(some 11), .bin .neq (.t 10) (.c (.int .i64 0)), some (9, true)⟩, ⟨(some 12), .pick (.m 9) (.t 11) (.c (.bool false)), none⟩])
 (.cond (.t 12) (.ops [⟨(some 13), .mv (.t 0), none⟩, ⟨(some 14), .mv (.t 1), none⟩, ⟨(some 15), .mv (.t 2), none⟩, ⟨(some 16), .build [(.int .i64 0), (.int .i64 0)] [(0, 1, (.m 14)), (1, 1, (.m 15))], none⟩, ⟨(some 17), .boxv (.m 16), none⟩, ⟨(some 18), .mkIface 89 (.m 17), none⟩, ⟨(some 19), .nilCheck (.m 13), none⟩, ⟨(some 20), .fieldAddr 2 (.m 19), none⟩, ⟨none, .store 1 (.m 20) (.m 18), none⟩]) .skip)), []⟩
/- (*plover/wire.In).Place -/
def jcf : IFunc := ⟨9, 3, 4, 3, (.seq (.ops [⟨(some 2), .mv (.c (.int .i64 0)), none⟩])
 (.seq (.seq (.ops [⟨(some 3), .mv (.t 0), none⟩, ⟨(some 4), .isnil false 0 (.m 3), none⟩])
 (.cond (.t 4) (.seq (.ops [⟨(some 2), .mv (.c (.int .i64 0)), none⟩])
 .ret) .skip))
 (.seq (.ops [⟨(some 5), .mv (.m 0), none⟩, ⟨(some 6), .nilCheck (.m 5), none⟩, ⟨(some 7), .fieldAddr 1 (.m 6), none⟩, ⟨(some 8), .load false none (.m 7), none⟩, ⟨(some 2), .mv (.m 8), none⟩])
 .ret))), [.t 2]⟩
/- (*plover/wire.In).U -/
def jar : IFunc := ⟨30, 6, 8, 4, (.seq (.ops [⟨(some 2), .mv (.c (.int .u64 0)), none⟩])
 (.seq (.seq (.ops [⟨(some 6), .mv (.t 0), none⟩, ⟨(some 7), .call 40 [(.m 6)], none⟩])
 (.cond (.t 7) (.seq (.ops [⟨(some 2), .mv (.c (.int .u64 0)), none⟩])
 .ret) .skip))
 (.seq (.ops [⟨(some 9), .mv (.t 0), none⟩, ⟨(some 10), .call 93 [(.m 9)], none⟩, ⟨(some 8), .mv (.m 10), none⟩, ⟨(some 11), .extract (.m 8) 0, none⟩, ⟨(some 12), .extract (.m 8) 1, none⟩, ⟨(some 13), .extract (.m 8) 2, none⟩, ⟨(some 3), .mv (.m 11), none⟩, ⟨(some 4), .mv (.m 12), none⟩, ⟨(some 5), .mv (.m 13), none⟩])
 (.seq (.ops [⟨(some 14), .mv (.t 0), none⟩, ⟨(some 15), .mv (.t 5), none⟩, ⟨(some 16), .mv (.t 0), none⟩, ⟨(some 17), .nilCheck (.m 16), none⟩, ⟨(some 18), .fieldAddr 1 (.m 17), none⟩, ⟨(some 19), .load false none (.m 18), none⟩, ⟨(some 20), .call 87 [(.m 14), (.m 15), (.m 19)], none⟩])
 (.seq (.ops [⟨(some 21), .mv (.t 0), none⟩, ⟨(some 22), .nilCheck (.m 21), none⟩, ⟨(some 23), .fieldAddr 1 (.m 22), none⟩, ⟨(some 24), .load false none (.m 23), none⟩, ⟨(some 25), .mv (.t 4), none⟩, ⟨(some 26), .bin .add (.m 24) (.m 25), none⟩, ⟨(some 27), .nilCheck (.m 21), none⟩, ⟨(some 28), .fieldAddr 1 (.m 27), none⟩, ⟨none, .store 1 (.m 28) (.m 26), none⟩])
 (.seq (.ops [⟨(some 29), .mv (.m 3), none⟩, ⟨(some 2), .mv (.m 29), none⟩])
 .ret)))))), [.t 2]⟩
/- (plover/snap.reads).within -/
def jas : IFunc := ⟨23, 7, 8, 4, (.seq (.ops [⟨(some 3), .boxv (.t 0), none⟩, ⟨(some 6), .mv (.c (.bool false)), none⟩])
 (.seq (.seq (.ops [⟨(some 7), .fieldAddr 0 (.t 3), none⟩, ⟨(some 8), .load false none (.m 7), none⟩, ⟨(some 9), .call 42 [(.m 8)], none⟩, ⟨(some 10), .isnil false 1 (.m 9), none⟩, ⟨(some 11), .mv (.m 10), none⟩, ⟨(some 12), .mv (.t 1), some (11, true)⟩, ⟨(some 13), .un .not (.t 12), some (11, true)⟩, ⟨(some 14), .pick (.m 11) (.t 13) (.c (.bool false)), none⟩])
 (.cond (.t 14) (.ops [⟨(some 15), .fieldAddr 0 (.t 3), none⟩, ⟨(some 16), .load false none (.m 15), none⟩, ⟨(some 17), .mv (.t 2), none⟩, ⟨(some 18), .call 87 [(.m 16), (.c (.int .i64 4)), (.m 17)], none⟩]) .skip))
 (.seq (.ops [⟨(some 19), .fieldAddr 0 (.m 3), none⟩, ⟨(some 20), .load false none (.m 19), none⟩, ⟨(some 21), .call 42 [(.m 20)], none⟩, ⟨(some 22), .isnil false 1 (.m 21), none⟩, ⟨(some 6), .mv (.m 22), none⟩])
 .ret))), [.t 6]⟩
/- (*plover/wire.In).T -/
def jat : IFunc := ⟨32, 3, 20, 5, (.seq (.ops [⟨(some 2), .mv (.c (.bool false)), none⟩])
 (.seq (.seq (.draw [(0, ⟨(some 3), .mv (.t 0), none⟩), (1, ⟨(some 4), .call 40 [(.m 3)], none⟩), (2, ⟨(some 5), .un .not (.m 4), none⟩), (3, ⟨(some 6), .mv (.m 5), none⟩), (4, ⟨(some 7), .mv (.t 0), some (6, true)⟩), (5, ⟨(some 8), .call 41 [(.t 7)], some (6, true)⟩), (6, ⟨(some 9), .bin .gtr (.t 8) (.c (.int .i64 0)), some (6, true)⟩), (7, ⟨(some 10), .pick (.m 6) (.t 9) (.c (.bool false)), none⟩), (8, ⟨(some 11), .mv (.m 10), none⟩), (9, ⟨(some 12), .mv (.t 0), some (11, true)⟩), (10, ⟨(some 13), .nilCheck (.t 12), some (11, true)⟩), (11, ⟨(some 14), .fieldAddr 0 (.t 13), some (11, true)⟩), (12, ⟨(some 15), .load false none (.t 14), some (11, true)⟩), (13, ⟨(some 16), .mv (.t 0), some (11, true)⟩), (14, ⟨(some 17), .nilCheck (.t 16), some (11, true)⟩), (15, ⟨(some 18), .fieldAddr 1 (.t 17), some (11, true)⟩), (16, ⟨(some 19), .load false none (.t 18), some (11, true)⟩), (17, ⟨(some 20), .idxS (.t 15) (.t 19), some (11, true)⟩), (18, ⟨(some 21), .bin .gtr (.t 20) (.c (.int .u8 1)), some (11, true)⟩), (19, ⟨(some 22), .pick (.m 11) (.t 21) (.c (.bool false)), none⟩)] [])
 (.cond (.t 22) (.ops [⟨(some 23), .mv (.t 0), none⟩, ⟨(some 24), .mv (.t 0), none⟩, ⟨(some 25), .nilCheck (.m 24), none⟩, ⟨(some 26), .fieldAddr 1 (.m 25), none⟩, ⟨(some 27), .load false none (.m 26), none⟩, ⟨(some 28), .call 87 [(.m 23), (.c (.int .i64 5)), (.m 27)], none⟩]) .skip))
 (.seq (.ops [⟨(some 29), .mv (.m 0), none⟩, ⟨(some 30), .call 82 [(.m 29)], none⟩, ⟨(some 31), .bin .eql (.m 30) (.c (.int .u8 1)), none⟩, ⟨(some 2), .mv (.m 31), none⟩])
 .ret))), [.t 2]⟩
/- (*plover/wire.In).I -/
def jds : IFunc := ⟨14, 4, 8, 4, (.seq (.ops [⟨(some 2), .mv (.c (.int .i64 0)), none⟩])
 (.seq (.ops [⟨(some 4), .mv (.t 0), none⟩, ⟨(some 5), .call 89 [(.m 4)], none⟩, ⟨(some 3), .mv (.m 5), none⟩])
 (.seq (.ops [⟨(some 6), .mv (.m 3), none⟩, ⟨(some 7), .bin .shr (.m 6) (.c (.int .u64 1)), none⟩, ⟨(some 8), .conv (.int .i64) (.m 7), none⟩, ⟨(some 9), .mv (.m 3), none⟩, ⟨(some 10), .bin .and (.m 9) (.c (.int .u64 1)), none⟩, ⟨(some 11), .conv (.int .i64) (.m 10), none⟩, ⟨(some 12), .un .neg (.m 11), none⟩, ⟨(some 13), .bin .xor (.m 8) (.m 12), none⟩, ⟨(some 2), .mv (.m 13), none⟩])
 .ret))), [.t 2]⟩
/- (*plover/wire.In).number -/
def Ke : ICode := (.seq (.ops [⟨(some 46), .bin .lss (.t 45) (.t 44), none⟩])
 (.seq (.cond (.t 46) .skip (.exit 0))
 (.seq (.block 1 (.seq (.ops [⟨(some 47), .idxAddr 1 (.t 43) (.t 45), none⟩, ⟨(some 48), .load false none (.m 47), none⟩, ⟨(some 7), .mv (.m 48), none⟩])
 (.ops [⟨(some 49), .mv (.m 2), none⟩, ⟨(some 50), .bin .shl (.m 49) (.c (.int .u64 8)), none⟩, ⟨(some 51), .mv (.t 7), none⟩, ⟨(some 52), .conv (.int .u64) (.m 51), none⟩, ⟨(some 53), .bin .or (.m 50) (.m 52), none⟩, ⟨(some 2), .mv (.m 53), none⟩])))
 (.ops [⟨(some 54), .bin .add (.m 45) (.c (.int .i64 1)), none⟩, ⟨(some 45), .mv (.m 54), none⟩]))))
def Zd : IFunc := ⟨69, 46, 8, 6, (.seq (.ops [⟨(some 2), .mv (.c (.int .u64 0)), none⟩, ⟨(some 3), .mv (.c (.int .i64 0)), none⟩, ⟨(some 4), .mv (.c (.int .i64 0)), none⟩])
 (.seq (.seq (.ops [⟨(some 8), .mv (.t 0), none⟩, ⟨(some 9), .call 41 [(.m 8)], none⟩, ⟨(some 10), .bin .eql (.m 9) (.c (.int .i64 0)), none⟩])
 (.cond (.t 10) (.seq (.ops [⟨(some 2), .mv (.c (.int .u64 0)), none⟩, ⟨(some 3), .mv (.c (.int .i64 0)), none⟩, ⟨(some 4), .mv (.c (.int .i64 3)), none⟩])
 .ret) .skip))
 (.seq (.draw [(0, ⟨(some 11), .mv (.t 0), none⟩), (1, ⟨(some 12), .nilCheck (.m 11), none⟩), (2, ⟨(some 13), .fieldAddr 0 (.m 12), none⟩), (3, ⟨(some 14), .load false none (.m 13), none⟩), (4, ⟨(some 15), .mv (.t 0), none⟩), (5, ⟨(some 16), .nilCheck (.m 15), none⟩), (6, ⟨(some 17), .fieldAddr 1 (.m 16), none⟩), (7, ⟨(some 18), .load false none (.m 17), none⟩), (8, ⟨(some 19), .idxS (.m 14) (.m 18), none⟩), (9, ⟨(some 20), .bin .shr (.m 19) (.c (.int .u64 6)), none⟩), (10, ⟨(some 21), .conv (.int .i64) (.m 20), none⟩), (11, ⟨(some 5), .mv (.m 21), none⟩)] [])
 (.seq (.seq (.ops [⟨(some 22), .mv (.t 5), none⟩, ⟨(some 23), .call 81 [(.m 22)], none⟩, ⟨(some 3), .mv (.m 23), none⟩])
 (.seq (.ops [⟨(some 24), .mv (.t 0), none⟩, ⟨(some 25), .call 41 [(.m 24)], none⟩, ⟨(some 26), .mv (.t 3), none⟩, ⟨(some 27), .bin .lss (.m 25) (.m 26), none⟩])
 (.cond (.t 27) (.seq (.ops [⟨(some 2), .mv (.c (.int .u64 0)), none⟩, ⟨(some 3), .mv (.c (.int .i64 0)), none⟩, ⟨(some 4), .mv (.c (.int .i64 3)), none⟩])
 .ret) .skip)))
 (.seq (.seq (.draw [(0, ⟨(some 28), .mv (.t 0), none⟩), (1, ⟨(some 29), .nilCheck (.m 28), none⟩), (2, ⟨(some 30), .fieldAddr 0 (.m 29), none⟩), (3, ⟨(some 31), .load false none (.m 30), none⟩), (4, ⟨(some 32), .mv (.t 0), none⟩), (5, ⟨(some 33), .nilCheck (.m 32), none⟩), (6, ⟨(some 34), .fieldAddr 1 (.m 33), none⟩), (7, ⟨(some 35), .load false none (.m 34), none⟩), (8, ⟨(some 36), .mv (.t 0), none⟩), (9, ⟨(some 37), .nilCheck (.m 36), none⟩), (10, ⟨(some 38), .fieldAddr 1 (.m 37), none⟩), (11, ⟨(some 39), .load false none (.m 38), none⟩), (12, ⟨(some 40), .mv (.t 3), none⟩), (13, ⟨(some 41), .bin .add (.m 39) (.m 40), none⟩), (14, ⟨(some 42), .sliceS (.m 31) (some (.t 35)) (some (.t 41)), none⟩), (15, ⟨(some 43), .conv .bytes (.m 42), none⟩), (16, ⟨(some 44), .lenL (.t 43), none⟩), (17, ⟨(some 45), .mv (.c (.int .i64 0)), none⟩)] [])
 (.block 0 (.loop Ke)))
 (.seq (.seq (.ops [⟨(some 55), .mv (.m 2), none⟩, ⟨(some 56), .mv (.t 5), none⟩, ⟨(some 57), .conv (.int .u64) (.m 56), none⟩, ⟨(some 58), .mv (.t 3), none⟩, ⟨(some 59), .bin .mul (.c (.int .i64 8)) (.m 58), none⟩, ⟨(some 60), .bin .sub (.m 59) (.c (.int .i64 2)), none⟩, ⟨(some 61), .bin .shl (.m 57) (.m 60), none⟩, ⟨(some 62), .bin .andNot (.m 55) (.m 61), none⟩, ⟨(some 2), .mv (.m 62), none⟩])
 (.seq (.ops [⟨(some 63), .mv (.t 2), none⟩, ⟨(some 64), .call 80 [(.m 63)], none⟩, ⟨(some 65), .mv (.t 5), none⟩, ⟨(some 66), .bin .neq (.m 64) (.m 65), none⟩])
 (.cond (.t 66) (.seq (.ops [⟨(some 2), .mv (.c (.int .u64 0)), none⟩, ⟨(some 3), .mv (.c (.int .i64 0)), none⟩, ⟨(some 4), .mv (.c (.int .i64 5)), none⟩])
 .ret) .skip)))
 (.seq (.ops [⟨(some 67), .mv (.m 2), none⟩, ⟨(some 68), .mv (.m 3), none⟩, ⟨(some 2), .mv (.m 67), none⟩, ⟨(some 3), .mv (.m 68), none⟩, ⟨(some 4), .mv (.c (.int .i64 0)), none⟩])
 .ret))))))), [.t 2, .t 3, .t 4]⟩
end Go.Idl.Sb
namespace Go.Idl.Sb
open Go Go.Idl Go.Idl.En
variable {F : jJ}
abbrev I (n : Int) : IVal := .int .i64 n
abbrev J (n : Int) : IVal := .int .i32 n
abbrev Q (n : Int) : IVal := .int .u64 n
abbrev B (n : Nat) : IVal := .int .u8 n
/-! ### the store -/
theorem get_app {σ l : List IObj} (k : Nat) : (σ ++ l)[σ.length + k]? = l[k]? := by rw [List.getElem?_append_right (by omega)]; congr 1; omega
theorem get_app0 {σ l : List IObj} : (σ ++ l)[σ.length]? = l[0]? := get_app 0
theorem set_app {σ l : List IObj} (k : Nat) (x : IObj) : (σ ++ l).set (σ.length + k) x = σ ++ l.set k x := by rw [List.set_append_right _ _ (by omega)]; congr 2; omega
theorem set_app0 {σ l : List IObj} (x : IObj) : (σ ++ l).set σ.length x = σ ++ l.set 0 x := set_app 0 x
theorem jd {σ : List IObj} {id : Nat} {o : IObj} (h : σ[id]? = some o) : id < σ.length := by
 rcases Nat.lt_or_ge id σ.length with h2 | h2
 . exact h2
 . rw [List.getElem?_eq_none h2] at h; cases h
theorem jL {σ : List IObj} {id : Nat} {o : IObj} (h : σ[id]? = some o) (l : List IObj) : (σ ++ l)[id]? = some o := by rw [List.getElem?_append_left (jd h), h]
theorem take_app {σ l : List IObj} : (σ ++ l).take σ.length = σ := by simp
theorem kC {σ l : List IObj} {id : Nat} {o : IObj} (h : id < σ.length) : (σ ++ l).set id o = σ.set id o ++ l := List.set_append_left _ _ h
theorem get_set {σ : List IObj} {i j : Nat} {o x : IObj} (h : σ[i]? = some o) (hne : j ≠ i) : (σ.set j x)[i]? = some o := by rw [List.getElem?_set_ne hne, h]
theorem ko {σ : List IObj} {i : Nat} {o : IObj} (h : σ[i]? = some o) : σ.set i o = σ := by
 have h2 := jd h
 rw [List.getElem?_eq_getElem h2] at h; cases h
 exact List.set_getElem_self h2
theorem dlt (n k : Nat) (h : 0 < k) : decide (n < n + k) = true := decide_eq_true (by omega)
theorem dge (n k : Nat) (h : 0 < k) : decide (n + k < n) = false := decide_eq_false (by omega)
theorem dle (n k : Nat) : decide (n <= n + k) = true := decide_eq_true (by omega)
theorem isNil_p (a b : Nat) : isNil 0 (.ptr a b) = some false := rfl
theorem isNil_n : isNil 0 (.prim (.pointer none)) = some true := rfl
theorem isNil_i : isNil 1 (.prim .nilIface) = some true := rfl
theorem isNil_f (t : TypeId) (v : IVal) : isNil 1 (.iface t v) = some false := rfl
theorem bff : (false != false) = false := rfl
theorem btt : (true != true) = false := rfl
theorem btf2 : (false != true) = true := rfl
theorem qW {n : Int} (h : -9223372036854775808 <= n) (h2 : n < 9223372036854775808) : IntKind.wrap .i64 n = n := by
 simp only [IntKind.wrap, IntKind.bits, IntKind.signed]; simp; omega
theorem kN {n : Int} (h : 0 <= n) (h2 : n < 18446744073709551616) : IntKind.u64.wrap n = n := by
 simp only [IntKind.wrap, IntKind.bits, IntKind.signed]; simp; omega
theorem Q8 (n : Int) : IntKind.u64.wrap n = n % 18446744073709551616 := by
 simp only [IntKind.wrap, IntKind.bits, IntKind.signed]; simp
theorem jfi (n : Int) : IntKind.u8.wrap n = n % 256 := by
 simp only [IntKind.wrap, IntKind.bits, IntKind.signed]; simp
theorem yz {n : Nat} (h : n < 1000000) : IntKind.i64.wrap ((n : Int) + 1) = ((n + 1 : Nat) : Int) := by rw [qW (by omega) (by omega)]; omega
theorem nilOwn_nil (e o : Nat) : nilOwn e (.sl o true []) = .sl e true [] := rfl
theorem nilOwn_rs (e a b c d : Nat) : nilOwn e (.rs a b c d) = .rs a b c d := rfl
theorem ext_nil : ext [] = false := rfl
theorem cells_agg (xs : List IVal) : IVal.cells (.agg xs) = xs := rfl
theorem un2_agg (xs : List IVal) : un2 (.agg xs) = .agg (xs.map un1) := rfl
theorem nr2_agg (xs : List IVal) : nr2 (.agg xs) = xs.all nr1 := rfl
theorem tk2_0 (a b : IVal) : jG none [a, b] 0 = some a := rfl
theorem tk2_1 (a b : IVal) : jG none [a, b] 1 = some b := rfl
theorem tk3_0 (a b c : IVal) : jG none [a, b, c] 0 = some a := rfl
theorem tk3_1 (a b c : IVal) : jG none [a, b, c] 1 = some b := rfl
theorem tk3_2 (a b c : IVal) : jG none [a, b, c] 2 = some c := rfl
theorem st2_0 (a b x : IVal) : [a, b].set 0 x = [x, b] := rfl
theorem st2_1 (a b x : IVal) : [a, b].set 1 x = [a, x] := rfl
theorem st3_0 (a b c x : IVal) : [a, b, c].set 0 x = [x, b, c] := rfl
theorem st3_1 (a b c x : IVal) : [a, b, c].set 1 x = [a, x, c] := rfl
theorem st3_2 (a b c x : IVal) : [a, b, c].set 2 x = [a, b, x] := rfl
/-! ### values that are moved -/
theorem nt_fn (g : Fn) (xs ys : List IVal) : nt (.fn g xs ys) = true := rfl
theorem nt_pv (r : Bool) (cs : List IVal) (o : Nat) : nt (.pv r cs o) = true := rfl
theorem un2_fn (g : Fn) (xs ys : List IVal) : un2 (.fn g xs ys) = .fn g xs ys := rfl
theorem un1_fn (g : Fn) (xs ys : List IVal) : un1 (.fn g xs ys) = .fn g xs ys := rfl
theorem un2_pv (r : Bool) (cs : List IVal) (o : Nat) : un2 (.pv r cs o) = .pv r cs o := rfl
theorem un1_pv (r : Bool) (cs : List IVal) (o : Nat) : un1 (.pv r cs o) = .pv r cs o := rfl
theorem cells_fn (g : Fn) (xs ys : List IVal) : (IVal.fn g xs ys).cells = [.fn g xs ys] := rfl
theorem cells_pv (r : Bool) (cs : List IVal) (o : Nat) : (IVal.pv r cs o).cells = [.pv r cs o] := rfl
theorem isCell_fn (g : Fn) (xs ys : List IVal) : (IVal.fn g xs ys).isCell = true := rfl
theorem isCell_pv (r : Bool) (cs : List IVal) (o : Nat) : (IVal.pv r cs o).isCell = true := rfl
theorem nr3_fn (g : Fn) (y : IVal) (xs ys : List IVal) : nr3 (.fn g xs (y :: ys)) = false := by cases xs <;> rfl
theorem nr2_fn (g : Fn) (y : IVal) (xs ys : List IVal) : nr2 (.fn g xs (y :: ys)) = false := by cases xs <;> rfl
theorem nr1_fn (g : Fn) (y : IVal) (xs ys : List IVal) : nr1 (.fn g xs (y :: ys)) = false := by cases xs <;> rfl
theorem nt_if (t : TypeId) (v : IVal) : nt (.iface t v) = true := rfl
theorem un3_if (t : TypeId) (v : IVal) : un3 (.iface t v) = .iface t v := rfl
theorem un2_if (t : TypeId) (v : IVal) : un2 (.iface t v) = .iface t v := rfl
theorem un1_if (t : TypeId) (v : IVal) : un1 (.iface t v) = .iface t v := rfl
theorem cells_if (t : TypeId) (v : IVal) : (IVal.iface t v).cells = [.iface t v] := rfl
theorem isCell_if (t : TypeId) (v : IVal) : (IVal.iface t v).isCell = true := rfl
theorem nr1_if (t : TypeId) (r : Bool) (cs : List IVal) (o : Nat) : nr1 (.iface t (.pv r cs o)) = !r := rfl
theorem nr2_if (t : TypeId) (r : Bool) (cs : List IVal) (o : Nat) : nr2 (.iface t (.pv r cs o)) = !r := rfl
theorem nr3_if (t : TypeId) (r : Bool) (cs : List IVal) (o : Nat) : nr3 (.iface t (.pv r cs o)) = !r := rfl
theorem nt_prim (v : Value) : nt (.prim v) = true := rfl
theorem cells_prim (v : Value) : (IVal.prim v).cells = [.prim v] := rfl
theorem isCell_prim (v : Value) : (IVal.prim v).isCell = true := rfl
theorem nr1_prim (v : Value) : nr1 (.prim v) = true := rfl
theorem nr2_prim (v : Value) : nr2 (.prim v) = true := rfl
theorem nr3_prim (v : Value) : nr3 (.prim v) = true := rfl
theorem un1_prim (v : Value) : un1 (.prim v) = .prim v := rfl
theorem un2_prim (v : Value) : un2 (.prim v) = .prim v := rfl
/-! ### numbers' bytes -/
/-- A number's sort: 0 one byte, 1 two, 2 four, 3 eight. -/
def srt (n : Nat) : Nat := if n < 64 then 0 else if n < 16384 then 1 else if n < 1073741824 then 2 else 3
theorem V1 (n : Nat) : srt n < 4 := by unfold srt; split; omega; split; omega; split <;> omega
/-- So many bytes, the greatest ahead. -/
def be (m : Nat) : Nat -> List Nat
 | 0 => []
 | k + 1 => m / 256 ^ k % 256 :: be m k
/-- What is laid. -/
def lay (n : Nat) : Nat := n + srt n * 2 ^ (8 * 2 ^ srt n - 2)
def nb (n : Nat) : List Nat := be (lay n) (2 ^ srt n)
theorem ZV (m : Nat) : ∀ k, (be m k).length = k
 | 0 => rfl
 | k + 1 => by rw [be, List.length_cons, ZV m k]
theorem VD (n : Nat) : (nb n).length = 2 ^ srt n := ZV _ _
/-! ### rules, together -/
theorem zS : type_of% (And.intro (And.intro (And.intro (And.intro (And.intro (And.intro (And.intro (@nilOwn_self) (@nilOwn_nil)) (And.intro (@nilOwn_rs) (And.intro (@List.isEmpty_cons.{0}) (@ext_nil)))) (And.intro (And.intro (@get_app) (And.intro (@get_app0) (@set_app))) (And.intro (@set_app0) (And.intro (@cells_agg) (@un2_agg))))) (And.intro (And.intro (And.intro (@nr2_agg) (And.intro (@List.append_assoc.{0}) (@List.drop_zero.{0}))) (And.intro (@List.isEmpty_nil.{0}) (And.intro (@List.getElem?_cons_zero.{0}) (@List.getElem?_cons_succ.{0})))) (And.intro (And.intro (@List.set_cons_succ.{0}) (And.intro (@List.flatMap_nil.{0,0}) (@List.take_zero.{0}))) (And.intro (@Nat.zero_le) (And.intro (@Nat.le_refl) (@Nat.lt_irrefl)))))) (And.intro (And.intro (And.intro (And.intro (@List.nil_append.{0}) (@List.length_append.{0})) (And.intro (@dlt) (And.intro (@dge) (@dle)))) (And.intro (And.intro (@take_app) (And.intro (@isNil_p) (@isNil_n))) (And.intro (@bff) (And.intro (@btt) (@btf2))))) (And.intro (And.intro (And.intro (@tk2_0) (And.intro (@tk2_1) (@tk3_0))) (And.intro (@tk3_1) (And.intro (@tk3_2) (@st2_0)))) (And.intro (And.intro (@st2_1) (And.intro (@st3_0) (@st3_1))) (And.intro (@st3_2) (And.intro (@isNil_i) (@isNil_f))))))) (And.intro (And.intro (And.intro (And.intro (And.intro (@List.take_length.{0}) (@evw_draw)) (And.intro (@Bool.true_or) (And.intro (@Bool.or_true) (@Bool.false_or)))) (And.intro (And.intro (@Bool.or_false) (And.intro (@bne_self_eq_false.{0}) (@Nat.lt_add_one))) (And.intro (@Nat.lt_succ_self) (And.intro (@entry_E) (@E_ds))))) (And.intro (And.intro (And.intro (@List.map_nil.{0,0}) (And.intro (@List.map_cons.{0,0}) (@List.all_nil.{0}))) (And.intro (@List.all_cons.{0}) (And.intro (@nt_int) (@nt_bool)))) (And.intro (And.intro (@nt_str) (And.intro (@nt_rs) (@nt_ptr))) (And.intro (@nt_sl) (And.intro (@nt_agg) (@nr3_int)))))) (And.intro (And.intro (And.intro (And.intro (@nr3_bool) (@nr3_str)) (And.intro (@nr3_sl) (And.intro (@nr3_rs) (@nr3_ptr)))) (And.intro (And.intro (@nr3_tup) (And.intro (@nr3_agg) (@nr2_int))) (And.intro (@nr2_bool) (And.intro (@nr2_str) (@nr2_sl))))) (And.intro (And.intro (And.intro (@nr2_rs) (And.intro (@nr2_ptr) (@Bool.and_true))) (And.intro (@Bool.true_and) (And.intro (@Bool.false_and) (@Bool.and_false)))) (And.intro (And.intro (@Bool.not_false) (And.intro (@Bool.not_true) (@List.filter_nil.{0}))) (And.intro (@List.filter_cons.{0}) (And.intro (@Bool.false_eq_true) (@evw_cond)))))))) (And.intro (And.intro (And.intro (And.intro (And.intro (And.intro (@evw_seq) (@evw_ops)) (And.intro (@evw_ret) (And.intro (@evw_skip) (@evw_exit)))) (And.intro (And.intro (@evw_block) (And.intro (@evw_scope) (@evw_label))) (And.intro (@E_get?) (And.intro (@E_set) (@upd_get))))) (And.intro (And.intro (And.intro (@base_get) (And.intro (@ins_base) (@ins_eq))) (And.intro (@ins_lt) (And.intro (@ins_gt) (@cells_int)))) (And.intro (And.intro (@cells_bool) (And.intro (@cells_str) (@cells_rs))) (And.intro (@cells_ptr) (And.intro (@cells_sl) (@List.length_range)))))) (And.intro (And.intro (And.intro (And.intro (@isCell_int) (@isCell_bool)) (And.intro (@isCell_str) (And.intro (@isCell_rs) (@isCell_ptr)))) (And.intro (And.intro (@isCell_sl) (And.intro (@nr1_int) (@nr1_bool))) (And.intro (@nr1_str) (And.intro (@nr1_rs) (@nr1_ptr))))) (And.intro (And.intro (And.intro (@nr1_sl) (And.intro (@List.set_cons_zero.{0}) (@un3_int))) (And.intro (@un3_bool) (And.intro (@un3_str) (@un3_rs)))) (And.intro (And.intro (@un3_ptr) (And.intro (@un3_map) (@un3_iface))) (And.intro (@un3_prim) (And.intro (@un3_fn) (@un3_yl))))))) (And.intro (And.intro (And.intro (And.intro (And.intro (@un3_sl) (@un3_agg)) (And.intro (@un3_tup) (And.intro (@un3_pv) (@un2_int)))) (And.intro (And.intro (@un2_bool) (And.intro (@un2_str) (@un2_rs))) (And.intro (@un2_ptr) (And.intro (@un2_sl) (@un1_int))))) (And.intro (And.intro (And.intro (@un1_bool) (And.intro (@un1_str) (@un1_rs))) (And.intro (@un1_ptr) (And.intro (@un1_sl) (@Int.cast_ofNat_Int)))) (And.intro (And.intro (@Nat.zero_add) (And.intro (@Nat.add_zero) (@Nat.mul_one))) (And.intro (@bft) (And.intro (@btf) (@beq_self_eq_true.{0})))))) (And.intro (And.intro (And.intro (And.intro (@true_and) (And.intro (@and_true) (@and_self))) (And.intro (@if_true.{0}) (And.intro (@if_false.{0}) (@ite_true.{0})))) (And.intro (And.intro (@ite_false.{0}) (And.intro (@c0) (@c1))) (And.intro (@not_true_eq_false) (And.intro (@not_false_eq_true) (@Bool.true_eq_false))))) (And.intro (And.intro (And.intro (@Option.some.injEq.{0}) (And.intro (@Prod.mk.injEq.{0,0}) (@exists_eq_left.{0}))) (And.intro (@List.length_map.{0,0}) (And.intro (@List.getElem?_map.{0,0}) (@Option.map_some.{0,0})))) (And.intro (And.intro (@List.cons_append.{0}) (And.intro (@List.length_cons.{0}) (@List.length_nil.{0}))) (And.intro (@List.append_nil.{0}) (And.intro (@decide_true) (@decide_false))))))))) := ⟨⟨⟨⟨⟨⟨⟨@nilOwn_self, @nilOwn_nil⟩, ⟨@nilOwn_rs, ⟨@List.isEmpty_cons.{0}, @ext_nil⟩⟩⟩, ⟨⟨@get_app, ⟨@get_app0, @set_app⟩⟩, ⟨@set_app0, ⟨@cells_agg, @un2_agg⟩⟩⟩⟩, ⟨⟨⟨@nr2_agg, ⟨@List.append_assoc.{0}, @List.drop_zero.{0}⟩⟩, ⟨@List.isEmpty_nil.{0}, ⟨@List.getElem?_cons_zero.{0}, @List.getElem?_cons_succ.{0}⟩⟩⟩, ⟨⟨@List.set_cons_succ.{0}, ⟨@List.flatMap_nil.{0,0}, @List.take_zero.{0}⟩⟩, ⟨@Nat.zero_le, ⟨@Nat.le_refl, @Nat.lt_irrefl⟩⟩⟩⟩⟩, ⟨⟨⟨⟨@List.nil_append.{0}, @List.length_append.{0}⟩, ⟨@dlt, ⟨@dge, @dle⟩⟩⟩, ⟨⟨@take_app, ⟨@isNil_p, @isNil_n⟩⟩, ⟨@bff, ⟨@btt, @btf2⟩⟩⟩⟩, ⟨⟨⟨@tk2_0, ⟨@tk2_1, @tk3_0⟩⟩, ⟨@tk3_1, ⟨@tk3_2, @st2_0⟩⟩⟩, ⟨⟨@st2_1, ⟨@st3_0, @st3_1⟩⟩, ⟨@st3_2, ⟨@isNil_i, @isNil_f⟩⟩⟩⟩⟩⟩, ⟨⟨⟨⟨⟨@List.take_length.{0}, @evw_draw⟩, ⟨@Bool.true_or, ⟨@Bool.or_true, @Bool.false_or⟩⟩⟩, ⟨⟨@Bool.or_false, ⟨@bne_self_eq_false.{0}, @Nat.lt_add_one⟩⟩, ⟨@Nat.lt_succ_self, ⟨@entry_E, @E_ds⟩⟩⟩⟩, ⟨⟨⟨@List.map_nil.{0,0}, ⟨@List.map_cons.{0,0}, @List.all_nil.{0}⟩⟩, ⟨@List.all_cons.{0}, ⟨@nt_int, @nt_bool⟩⟩⟩, ⟨⟨@nt_str, ⟨@nt_rs, @nt_ptr⟩⟩, ⟨@nt_sl, ⟨@nt_agg, @nr3_int⟩⟩⟩⟩⟩, ⟨⟨⟨⟨@nr3_bool, @nr3_str⟩, ⟨@nr3_sl, ⟨@nr3_rs, @nr3_ptr⟩⟩⟩, ⟨⟨@nr3_tup, ⟨@nr3_agg, @nr2_int⟩⟩, ⟨@nr2_bool, ⟨@nr2_str, @nr2_sl⟩⟩⟩⟩, ⟨⟨⟨@nr2_rs, ⟨@nr2_ptr, @Bool.and_true⟩⟩, ⟨@Bool.true_and, ⟨@Bool.false_and, @Bool.and_false⟩⟩⟩, ⟨⟨@Bool.not_false, ⟨@Bool.not_true, @List.filter_nil.{0}⟩⟩, ⟨@List.filter_cons.{0}, ⟨@Bool.false_eq_true, @evw_cond⟩⟩⟩⟩⟩⟩⟩, ⟨⟨⟨⟨⟨⟨@evw_seq, @evw_ops⟩, ⟨@evw_ret, ⟨@evw_skip, @evw_exit⟩⟩⟩, ⟨⟨@evw_block, ⟨@evw_scope, @evw_label⟩⟩, ⟨@E_get?, ⟨@E_set, @upd_get⟩⟩⟩⟩, ⟨⟨⟨@base_get, ⟨@ins_base, @ins_eq⟩⟩, ⟨@ins_lt, ⟨@ins_gt, @cells_int⟩⟩⟩, ⟨⟨@cells_bool, ⟨@cells_str, @cells_rs⟩⟩, ⟨@cells_ptr, ⟨@cells_sl, @List.length_range⟩⟩⟩⟩⟩, ⟨⟨⟨⟨@isCell_int, @isCell_bool⟩, ⟨@isCell_str, ⟨@isCell_rs, @isCell_ptr⟩⟩⟩, ⟨⟨@isCell_sl, ⟨@nr1_int, @nr1_bool⟩⟩, ⟨@nr1_str, ⟨@nr1_rs, @nr1_ptr⟩⟩⟩⟩, ⟨⟨⟨@nr1_sl, ⟨@List.set_cons_zero.{0}, @un3_int⟩⟩, ⟨@un3_bool, ⟨@un3_str, @un3_rs⟩⟩⟩, ⟨⟨@un3_ptr, ⟨@un3_map, @un3_iface⟩⟩, ⟨@un3_prim, ⟨@un3_fn, @un3_yl⟩⟩⟩⟩⟩⟩, ⟨⟨⟨⟨⟨@un3_sl, @un3_agg⟩, ⟨@un3_tup, ⟨@un3_pv, @un2_int⟩⟩⟩, ⟨⟨@un2_bool, ⟨@un2_str, @un2_rs⟩⟩, ⟨@un2_ptr, ⟨@un2_sl, @un1_int⟩⟩⟩⟩, ⟨⟨⟨@un1_bool, ⟨@un1_str, @un1_rs⟩⟩, ⟨@un1_ptr, ⟨@un1_sl, @Int.cast_ofNat_Int⟩⟩⟩, ⟨⟨@Nat.zero_add, ⟨@Nat.add_zero, @Nat.mul_one⟩⟩, ⟨@bft, ⟨@btf, @beq_self_eq_true.{0}⟩⟩⟩⟩⟩, ⟨⟨⟨⟨@true_and, ⟨@and_true, @and_self⟩⟩, ⟨@if_true.{0}, ⟨@if_false.{0}, @ite_true.{0}⟩⟩⟩, ⟨⟨@ite_false.{0}, ⟨@c0, @c1⟩⟩, ⟨@not_true_eq_false, ⟨@not_false_eq_true, @Bool.true_eq_false⟩⟩⟩⟩, ⟨⟨⟨@Option.some.injEq.{0}, ⟨@Prod.mk.injEq.{0,0}, @exists_eq_left.{0}⟩⟩, ⟨@List.length_map.{0,0}, ⟨@List.getElem?_map.{0,0}, @Option.map_some.{0,0}⟩⟩⟩, ⟨⟨@List.cons_append.{0}, ⟨@List.length_cons.{0}, @List.length_nil.{0}⟩⟩, ⟨@List.append_nil.{0}, ⟨@decide_true, @decide_false⟩⟩⟩⟩⟩⟩⟩⟩
theorem zV : type_of% (And.intro (And.intro (And.intro (And.intro (@nt_fn) (And.intro (@nt_pv) (@un2_fn))) (And.intro (And.intro (@un1_fn) (@un2_pv)) (And.intro (@un1_pv) (@cells_fn)))) (And.intro (And.intro (And.intro (@cells_pv) (@isCell_fn)) (And.intro (@isCell_pv) (@nr3_fn))) (And.intro (And.intro (@nr2_fn) (@nr1_fn)) (And.intro (@nt_if) (@un2_if))))) (And.intro (And.intro (And.intro (@un1_if) (And.intro (@un3_if) (@cells_if))) (And.intro (And.intro (@isCell_if) (@nr1_if)) (And.intro (@nr2_if) (@nr3_if)))) (And.intro (And.intro (And.intro (@nt_prim) (@cells_prim)) (And.intro (@isCell_prim) (@nr1_prim))) (And.intro (And.intro (@nr2_prim) (@nr3_prim)) (And.intro (@un1_prim) (@un2_prim)))))) := ⟨⟨⟨⟨@nt_fn, ⟨@nt_pv, @un2_fn⟩⟩, ⟨⟨@un1_fn, @un2_pv⟩, ⟨@un1_pv, @cells_fn⟩⟩⟩, ⟨⟨⟨@cells_pv, @isCell_fn⟩, ⟨@isCell_pv, @nr3_fn⟩⟩, ⟨⟨@nr2_fn, @nr1_fn⟩, ⟨@nt_if, @un2_if⟩⟩⟩⟩, ⟨⟨⟨@un1_if, ⟨@un3_if, @cells_if⟩⟩, ⟨⟨@isCell_if, @nr1_if⟩, ⟨@nr2_if, @nr3_if⟩⟩⟩, ⟨⟨⟨@nt_prim, @cells_prim⟩, ⟨@isCell_prim, @nr1_prim⟩⟩, ⟨⟨@nr2_prim, @nr3_prim⟩, ⟨@un1_prim, @un2_prim⟩⟩⟩⟩⟩
theorem Qt (h : F 81 = some Va) {s : Nat} (hs : s < 4) (σ : List IObj) : cfw F (.f 81) [I s] σ = some ⟨false, I ((2 ^ s : Nat) : Int), σ, []⟩ := by
 rw [jQ Va h, jq]
 have f4 : yF [.int .i64 0, .int .i64 0, .int .i64 0, .int .i64 0] [(0, 1, I 1), (1, 1, I 2), (2, 1, I 4), (3, 1, I 8)] = some [I 1, I 2, I 4, I 8] := rfl
 have d1 : (0 : Int) <= (s : Int) := by omega
 have d2 : (s : Int) < ((4 : Nat) : Int) := by omega
 have d2' : (s : Int) < 4 := by omega
 have t1 : jG none [I 1, I 2, I 4, I 8] (s * 1) = some (I ((2 ^ s : Nat) : Int)) := by
   match s, hs with
   | 0, _ => rfl
   | 1, _ => rfl
   | 2, _ => rfl
   | 3, _ => rfl
 have t2 : jG none [I 1, I 2, I 4, I 8] s = some (I ((2 ^ s : Nat) : Int)) := by rw [<- t1, Nat.mul_one]
 simp only [Va, f4, d1, d2, d2', t1, t2, Int.toNat_natCast, List.zip_cons_cons, List.zip_nil_right, zV, zS, jy, jM, jc, jk, jR, jg, jl, je, jr, jO, jf, jj, jp, jK, ju, jq, Ts.fill, jS, jP, jh, jT, jo, jm, ji, ja, getAll, stepCall, jn, unI, Opd.get, jx, tag, jv, jb, jI, rv, bin, jW, Nat.reduceAdd, Nat.reduceSub, Nat.reduceMul, Nat.reduceDiv, Nat.reduceMod, Nat.reducePow, Nat.reduceLT, Nat.reduceLeDiff, Nat.reduceEqDiff, Nat.reduceBEq, Nat.reduceBNe, reduceIte, Int.reduceEq, Int.reduceLT, Int.reduceLE, Int.reduceNeg, Int.reduceToNat, Int.reduceMul, Int.reduceAdd, Int.reduceSub, reduceCtorEq]
end Go.Idl.Sb
namespace Go.Idl.Sb
open Go Go.Idl Go.Idl.En
variable {F : jJ}
theorem pw (k : Nat) : ((2 : Int) ^ k) = ((2 ^ k : Nat) : Int) := by simp
theorem fd (n k : Nat) : (n : Int).fdiv ((2 : Int) ^ k) = ((n / 2 ^ k : Nat) : Int) := by
 rw [pw, Int.fdiv_eq_ediv_of_nonneg _ (Int.natCast_nonneg _)]; rfl
theorem gt0 (n : Nat) : decide ((n : Int) > 0) = decide (0 < n) := by simp
theorem jgP {n s : Nat} (hs : s < 3) : decide (0 < n / 2 ^ (8 * 2 ^ s - 2)) = decide (s < srt n) := by
 rw [decide_eq_decide]
 match s, hs with
 | 0, _ => simp only [srt]; split; omega; split; omega; split <;> omega
 | 1, _ => simp only [srt]; split; omega; split; omega; split <;> omega
 | 2, _ => simp only [srt]; split; omega; split; omega; split <;> omega
theorem shw {s : Nat} (hs : s < 4) : IntKind.i64.wrap (8 * ((2 ^ s : Nat) : Int)) = ((8 * 2 ^ s : Nat) : Int) /\ IntKind.i64.wrap (((8 * 2 ^ s : Nat) : Int) - 2) = ((8 * 2 ^ s - 2 : Nat) : Int) /\ min ((((8 * 2 ^ s - 2 : Nat) : Int)).toNat) IntKind.u64.bits = 8 * 2 ^ s - 2 := by
 match s, hs with
 | 0, _ => exact ⟨rfl, rfl, rfl⟩
 | 1, _ => exact ⟨rfl, rfl, rfl⟩
 | 2, _ => exact ⟨rfl, rfl, rfl⟩
 | 3, _ => exact ⟨rfl, rfl, rfl⟩
theorem yk (n : Nat) : ((n : Int) < 0) = False := by simp
theorem jgn (h81 : F 81 = some Va) {n : Nat} {σ : List IObj} : ∀ (d s : Nat) (f0 : Nat -> Option (Nat × IVal)) (R : Option (IExit × St)), evw F (.loop Jq) ⟨E 4 11 4 [] (base f0), σ, []⟩ = R -> s + d = srt n -> f0 0 = some (0, Q n) -> f0 3 = some (3, I s) ->
   ∃ f1, R = some (.exit 0, ⟨E 4 11 4 [] (base f1), σ, []⟩) /\ f1 3 = some (3, I (srt n)) := by
 intro d
 induction d with
 | zero =>
   intro s f0 R hE hs e0 e3
   have hs4 := V1 n
   rw [Nat.add_zero] at hs
   rw [jH] at hE
   subst hE
   by_cases h3 : s < 3
   . have b0 := fun σ => Qt h81 (s := s) (by omega) σ
     obtain ⟨v1, v2, v3⟩ := shw (s := s) (by omega)
     have l0 : decide ((s : Int) < 3) = true := decide_eq_true (by omega)
     have st := jgP (n := n) h3
     have s0 : decide (s < srt n) = false := decide_eq_false (by omega)
     simp only [Jq, e0, e3, b0, l0, v1, v2, v3, st, s0, fd, gt0, vy, yk, zV, zS, jy, jM, jc, jk, jR, jg, jl, je, jr, jO, jf, jj, jp, jK, ju, jq, Ts.fill, jS, jP, jh, jT, jo, jm, ji, ja, getAll, stepCall, jn, unI, Opd.get, jx, tag, jv, jb, jI, rv, bin, jW, Nat.reduceAdd, Nat.reduceSub, Nat.reduceMul, Nat.reduceDiv, Nat.reduceMod, Nat.reducePow, Nat.reduceLT, Nat.reduceLeDiff, Nat.reduceEqDiff, Nat.reduceBEq, Nat.reduceBNe, reduceIte, Int.reduceEq, Int.reduceLT, Int.reduceLE, Int.reduceNeg, Int.reduceToNat, Int.reduceMul, Int.reduceAdd, Int.reduceSub, reduceCtorEq]
     exact ⟨_, rfl, by rw [<- hs]; exact (by (try simp only [upd_get, base_get, Nat.reduceAdd, Nat.reduceSub, Nat.reduceMul, Nat.reduceDiv, Nat.reduceMod, Nat.reducePow, Nat.reduceLT, Nat.reduceLeDiff, Nat.reduceEqDiff, Nat.reduceBEq, Nat.reduceBNe, reduceIte, Int.reduceEq, Int.reduceLT, Int.reduceLE, Int.reduceNeg, Int.reduceToNat, Int.reduceMul, Int.reduceAdd, Int.reduceSub, Int.cast_ofNat_Int, reduceCtorEq, Nat.zero_add, Nat.add_zero, Nat.mul_one]) <;> first | exact e3 | rfl)⟩
   . have l0 : decide ((s : Int) < 3) = false := decide_eq_false (by omega)
     simp only [Jq, e0, e3, l0, zV, zS, jy, jM, jc, jk, jR, jg, jl, je, jr, jO, jf, jj, jp, jK, ju, jq, Ts.fill, jS, jP, jh, jT, jo, jm, ji, ja, getAll, stepCall, jn, unI, Opd.get, jx, tag, jv, jb, jI, rv, bin, jW, Nat.reduceAdd, Nat.reduceSub, Nat.reduceMul, Nat.reduceDiv, Nat.reduceMod, Nat.reducePow, Nat.reduceLT, Nat.reduceLeDiff, Nat.reduceEqDiff, Nat.reduceBEq, Nat.reduceBNe, reduceIte, Int.reduceEq, Int.reduceLT, Int.reduceLE, Int.reduceNeg, Int.reduceToNat, Int.reduceMul, Int.reduceAdd, Int.reduceSub, reduceCtorEq]
     exact ⟨_, rfl, by rw [<- hs]; exact (by (try simp only [upd_get, base_get, Nat.reduceAdd, Nat.reduceSub, Nat.reduceMul, Nat.reduceDiv, Nat.reduceMod, Nat.reducePow, Nat.reduceLT, Nat.reduceLeDiff, Nat.reduceEqDiff, Nat.reduceBEq, Nat.reduceBNe, reduceIte, Int.reduceEq, Int.reduceLT, Int.reduceLE, Int.reduceNeg, Int.reduceToNat, Int.reduceMul, Int.reduceAdd, Int.reduceSub, Int.cast_ofNat_Int, reduceCtorEq, Nat.zero_add, Nat.add_zero, Nat.mul_one]) <;> first | exact e3 | rfl)⟩
 | succ d ih =>
   intro s f0 R hE hs e0 e3
   have hs4 := V1 n
   have h3 : s < 3 := by omega
   have b0 := fun σ => Qt h81 (s := s) (by omega) σ
   obtain ⟨v1, v2, v3⟩ := shw (s := s) (by omega)
   have l0 : decide ((s : Int) < 3) = true := decide_eq_true (by omega)
   have st := jgP (n := n) h3
   have s0 : decide (s < srt n) = true := decide_eq_true (by omega)
   have w1 := yz (n := s) (by omega)
   rw [jH] at hE
   simp only [Jq, e0, e3, b0, l0, v1, v2, v3, st, s0, w1, fd, gt0, vy, yk, zV, zS, jy, jM, jc, jk, jR, jg, jl, je, jr, jO, jf, jj, jp, jK, ju, jq, Ts.fill, jS, jP, jh, jT, jo, jm, ji, ja, getAll, stepCall, jn, unI, Opd.get, jx, tag, jv, jb, jI, rv, bin, jW, Nat.reduceAdd, Nat.reduceSub, Nat.reduceMul, Nat.reduceDiv, Nat.reduceMod, Nat.reducePow, Nat.reduceLT, Nat.reduceLeDiff, Nat.reduceEqDiff, Nat.reduceBEq, Nat.reduceBNe, reduceIte, Int.reduceEq, Int.reduceLT, Int.reduceLE, Int.reduceNeg, Int.reduceToNat, Int.reduceMul, Int.reduceAdd, Int.reduceSub, reduceCtorEq] at hE
   exact ih (s + 1) _ R hE (by omega) (by (try simp only [upd_get, base_get, Nat.reduceAdd, Nat.reduceSub, Nat.reduceMul, Nat.reduceDiv, Nat.reduceMod, Nat.reducePow, Nat.reduceLT, Nat.reduceLeDiff, Nat.reduceEqDiff, Nat.reduceBEq, Nat.reduceBNe, reduceIte, Int.reduceEq, Int.reduceLT, Int.reduceLE, Int.reduceNeg, Int.reduceToNat, Int.reduceMul, Int.reduceAdd, Int.reduceSub, Int.cast_ofNat_Int, reduceCtorEq, Nat.zero_add, Nat.add_zero, Nat.mul_one]) <;> first | exact e0 | rfl) (by (try simp only [upd_get, base_get, Nat.reduceAdd, Nat.reduceSub, Nat.reduceMul, Nat.reduceDiv, Nat.reduceMod, Nat.reducePow, Nat.reduceLT, Nat.reduceLeDiff, Nat.reduceEqDiff, Nat.reduceBEq, Nat.reduceBNe, reduceIte, Int.reduceEq, Int.reduceLT, Int.reduceLE, Int.reduceNeg, Int.reduceToNat, Int.reduceMul, Int.reduceAdd, Int.reduceSub, Int.cast_ofNat_Int, reduceCtorEq, Nat.zero_add, Nat.add_zero, Nat.mul_one]) <;> rfl)
theorem jdG (h : F 80 = some Xc) (h81 : F 81 = some Va) (n : Nat) (σ : List IObj) : cfw F (.f 80) [Q n] σ = some ⟨false, I (srt n), σ, []⟩ := by
 rw [jQ Xc h, jq]
 simp only [Xc, zV, zS, jy, jM, jc, jk, jR, jg, jl, je, jr, jO, jf, jj, jp, jK, ju, jq, Ts.fill, jS, jP, jh, jT, jo, jm, ji, ja, getAll, stepCall, jn, unI, Opd.get, jx, tag, jv, jb, jI, rv, bin, jW, Nat.reduceAdd, Nat.reduceSub, Nat.reduceMul, Nat.reduceDiv, Nat.reduceMod, Nat.reducePow, Nat.reduceLT, Nat.reduceLeDiff, Nat.reduceEqDiff, Nat.reduceBEq, Nat.reduceBNe, reduceIte, Int.reduceEq, Int.reduceLT, Int.reduceLE, Int.reduceNeg, Int.reduceToNat, Int.reduceMul, Int.reduceAdd, Int.reduceSub, reduceCtorEq]
 generalize hE : evw F (ICode.loop Jq) _ = R
 obtain ⟨f1, rfl, a3⟩ := jgn h81 (n := n) (srt n) 0 _ R hE (by omega) (by (try simp only [upd_get, base_get, Nat.reduceAdd, Nat.reduceSub, Nat.reduceMul, Nat.reduceDiv, Nat.reduceMod, Nat.reducePow, Nat.reduceLT, Nat.reduceLeDiff, Nat.reduceEqDiff, Nat.reduceBEq, Nat.reduceBNe, reduceIte, Int.reduceEq, Int.reduceLT, Int.reduceLE, Int.reduceNeg, Int.reduceToNat, Int.reduceMul, Int.reduceAdd, Int.reduceSub, Int.cast_ofNat_Int, reduceCtorEq, Nat.zero_add, Nat.add_zero, Nat.mul_one]) <;> rfl) (by (try simp only [upd_get, base_get, Nat.reduceAdd, Nat.reduceSub, Nat.reduceMul, Nat.reduceDiv, Nat.reduceMod, Nat.reducePow, Nat.reduceLT, Nat.reduceLeDiff, Nat.reduceEqDiff, Nat.reduceBEq, Nat.reduceBNe, reduceIte, Int.reduceEq, Int.reduceLT, Int.reduceLE, Int.reduceNeg, Int.reduceToNat, Int.reduceMul, Int.reduceAdd, Int.reduceSub, Int.cast_ofNat_Int, reduceCtorEq, Nat.zero_add, Nat.add_zero, Nat.mul_one]) <;> rfl)
 simp only [a3, zV, zS, jy, jM, jc, jk, jR, jg, jl, je, jr, jO, jf, jj, jp, jK, ju, jq, Ts.fill, jS, jP, jh, jT, jo, jm, ji, ja, getAll, stepCall, jn, unI, Opd.get, jx, tag, jv, jb, jI, rv, bin, jW, Nat.reduceAdd, Nat.reduceSub, Nat.reduceMul, Nat.reduceDiv, Nat.reduceMod, Nat.reducePow, Nat.reduceLT, Nat.reduceLeDiff, Nat.reduceEqDiff, Nat.reduceBEq, Nat.reduceBNe, reduceIte, Int.reduceEq, Int.reduceLT, Int.reduceLE, Int.reduceNeg, Int.reduceToNat, Int.reduceMul, Int.reduceAdd, Int.reduceSub, reduceCtorEq]
/-! ### P -/
theorem jdS (n : Nat) : IntKind.u64.wrap (((BitVec.ofInt IntKind.u64.bits (n : Int) &&& BitVec.ofInt IntKind.u64.bits 4611686018427387903).toNat : Nat) : Int) = ((n % 4611686018427387904 : Nat) : Int) := by
 have e1 : (BitVec.ofInt IntKind.u64.bits (n : Int) &&& BitVec.ofInt IntKind.u64.bits 4611686018427387903).toNat = n % 4611686018427387904 := by
   rw [BitVec.toNat_and]
   have a1 : (BitVec.ofInt IntKind.u64.bits (n : Int)).toNat = n % 2 ^ 64 := by
     show (BitVec.ofInt 64 (n : Int)).toNat = _
     rw [BitVec.toNat_ofInt]; omega
   have a2 : (BitVec.ofInt IntKind.u64.bits 4611686018427387903).toNat = 2 ^ 62 - 1 := rfl
   rw [a1, a2, Nat.and_two_pow_sub_one_eq_mod]
   omega
 rw [e1, kN (by omega) (by omega)]
theorem jgC {n s : Nat} (hs : s < 4) (hn : n < 2 ^ (8 * 2 ^ s - 2)) : IntKind.u64.wrap (((BitVec.ofInt IntKind.u64.bits (n : Int) ||| BitVec.ofInt IntKind.u64.bits (IntKind.u64.wrap (((s : Nat) : Int) * (2 : Int) ^ (8 * 2 ^ s - 2)))).toNat : Nat) : Int) = ((n + s * 2 ^ (8 * 2 ^ s - 2) : Nat) : Int) := by
 have hb : s * 2 ^ (8 * 2 ^ s - 2) + n < 2 ^ 64 := by
   match s, hs, hn with
   | 0, _, hn => simp at hn ⊢; omega
   | 1, _, hn => simp at hn ⊢; omega
   | 2, _, hn => simp at hn ⊢; omega
   | 3, _, hn => simp at hn ⊢; omega
 rw [pw]
 have e1 : IntKind.u64.wrap (((s : Nat) : Int) * ((2 ^ (8 * 2 ^ s - 2) : Nat) : Int)) = ((s * 2 ^ (8 * 2 ^ s - 2) : Nat) : Int) := by
   rw [<- Int.natCast_mul, kN (by omega) (by omega)]
 rw [e1]
 have e2 : (BitVec.ofInt IntKind.u64.bits (n : Int) ||| BitVec.ofInt IntKind.u64.bits ((s * 2 ^ (8 * 2 ^ s - 2) : Nat) : Int)).toNat = n + s * 2 ^ (8 * 2 ^ s - 2) := by
   rw [BitVec.toNat_or]
   have a1 : (BitVec.ofInt IntKind.u64.bits (n : Int)).toNat = n := by
     show (BitVec.ofInt 64 (n : Int)).toNat = _
     rw [BitVec.toNat_ofInt]; omega
   have a2 : (BitVec.ofInt IntKind.u64.bits ((s * 2 ^ (8 * 2 ^ s - 2) : Nat) : Int)).toNat = s * 2 ^ (8 * 2 ^ s - 2) := by
     show (BitVec.ofInt 64 _).toNat = _
     rw [BitVec.toNat_ofInt]; omega
   rw [a1, a2, Nat.or_comm, <- Nat.shiftLeft_eq, <- Nat.shiftLeft_add_eq_or_of_lt hn, Nat.add_comm]
 rw [e2, kN (by omega) (by omega)]
theorem V0 {n : Nat} (h : n < 4611686018427387904) : n < 2 ^ (8 * 2 ^ srt n - 2) := by
 unfold srt
 split
 . simpa using by omega
 split
 . simpa using by omega
 split
 . simpa using by omega
 . simpa using by omega
theorem KB (n : Nat) : srt n = 0 \/ srt n = 1 \/ srt n = 2 \/ srt n = 3 := by have := V1 n; omega
theorem jgm {m : Nat} {σ : List IObj} : ∀ (k : Nat) (f0 : Nat -> Option (Nat × IVal)) (R : Option (IExit × St)) (r : Bool) (bs : List Nat), evw F (.loop Kc) ⟨E 7 9 5 [] (base f0), σ, []⟩ = R -> k <= 8 -> bs.length < 1000000 - k -> (!bs.isEmpty && r) = false -> f0 0 = some (0, .sl 1 r (bs.map B)) -> f0 1 = some (1, Q m) -> f0 6 = some (6, I ((k : Int) - 1)) ->
   ∃ f1 r', R = some (.exit 0, ⟨E 7 9 5 [] (base f1), σ, []⟩) /\ f1 0 = some (0, .sl 1 r' ((bs ++ be m k).map B)) /\ (r = false \/ 0 < k -> r' = false) := by
 intro k
 induction k with
 | zero =>
   intro f0 R r bs hE _ _ hr e0 e1 e6
   have e6 : f0 6 = some (6, I (-1)) := e6
   have d1 : decide ((-1 : Int) ≥ 0) = false := rfl
   rw [jH] at hE
   subst hE
   simp only [Kc, e0, e1, e6, d1, be, List.append_nil, zV, zS, jy, jM, jc, jk, jR, jg, jl, je, jr, jO, jf, jj, jp, jK, ju, jq, Ts.fill, jS, jP, jh, jT, jo, jm, ji, ja, getAll, stepCall, jn, unI, Opd.get, jx, tag, jv, jb, jI, rv, bin, jW, Nat.reduceAdd, Nat.reduceSub, Nat.reduceMul, Nat.reduceDiv, Nat.reduceMod, Nat.reducePow, Nat.reduceLT, Nat.reduceLeDiff, Nat.reduceEqDiff, Nat.reduceBEq, Nat.reduceBNe, reduceIte, Int.reduceEq, Int.reduceLT, Int.reduceLE, Int.reduceNeg, Int.reduceToNat, Int.reduceMul, Int.reduceAdd, Int.reduceSub, reduceCtorEq]
   exact ⟨_, r, rfl, (by (try simp only [upd_get, base_get, Nat.reduceAdd, Nat.reduceSub, Nat.reduceMul, Nat.reduceDiv, Nat.reduceMod, Nat.reducePow, Nat.reduceLT, Nat.reduceLeDiff, Nat.reduceEqDiff, Nat.reduceBEq, Nat.reduceBNe, reduceIte, Int.reduceEq, Int.reduceLT, Int.reduceLE, Int.reduceNeg, Int.reduceToNat, Int.reduceMul, Int.reduceAdd, Int.reduceSub, Int.cast_ofNat_Int, reduceCtorEq, Nat.zero_add, Nat.add_zero, Nat.mul_one]) <;> first | exact e0 | rfl), fun h => h.elim id (fun h => by cases h)⟩
 | succ k ih =>
   intro f0 R r bs hE hk hb hr e0 e1 e6
   have w0 : ((k + 1 : Nat) : Int) - 1 = (k : Int) := by omega
   rw [w0] at e6
   have d0 : decide ((k : Int) ≥ 0) = true := decide_eq_true (by omega)
   have v1 : IntKind.i64.wrap (8 * (k : Int)) = ((8 * k : Nat) : Int) := by rw [qW (by omega) (by omega)]; omega
   have v2 : min ((((8 * k : Nat) : Int)).toNat) IntKind.u64.bits = 8 * k := by
     show min ((((8 * k : Nat) : Int)).toNat) 64 = 8 * k
     omega
   have v3 : IntKind.u8.wrap (((m / 2 ^ (8 * k) : Nat) : Int)) = ((m / 256 ^ k % 256 : Nat) : Int) := by
     have e : 2 ^ (8 * k) = 256 ^ k := by rw [Nat.pow_mul]
     rw [jfi, e]; omega
   have v4 : IntKind.i64.wrap ((k : Int) - 1) = (k : Int) - 1 := qW (by omega) (by omega)
   have q1 : bs.length <= 1099511627775 := by omega
   have q3 : (bs.map B).isEmpty = bs.isEmpty := by cases bs <;> rfl
   rw [jH] at hE
   simp only [Kc, e0, e1, e6, d0, v1, v2, v3, v4, q1, q3, hr, fd, vy, yk, zV, zS, jy, jM, jc, jk, jR, jg, jl, je, jr, jO, jf, jj, jp, jK, ju, jq, Ts.fill, jS, jP, jh, jT, jo, jm, ji, ja, getAll, stepCall, jn, unI, Opd.get, jx, tag, jv, jb, jI, rv, bin, jW, Nat.reduceAdd, Nat.reduceSub, Nat.reduceMul, Nat.reduceDiv, Nat.reduceMod, Nat.reducePow, Nat.reduceLT, Nat.reduceLeDiff, Nat.reduceEqDiff, Nat.reduceBEq, Nat.reduceBNe, reduceIte, Int.reduceEq, Int.reduceLT, Int.reduceLE, Int.reduceNeg, Int.reduceToNat, Int.reduceMul, Int.reduceAdd, Int.reduceSub, reduceCtorEq] at hE
   obtain ⟨f1, r', h1, h2, h3⟩ := ih _ R false (bs ++ [m / 256 ^ k % 256]) hE (by omega) (by simp; omega) (by simp) (by rw [List.map_append]; exact (by (try simp only [upd_get, base_get, Nat.reduceAdd, Nat.reduceSub, Nat.reduceMul, Nat.reduceDiv, Nat.reduceMod, Nat.reducePow, Nat.reduceLT, Nat.reduceLeDiff, Nat.reduceEqDiff, Nat.reduceBEq, Nat.reduceBNe, reduceIte, Int.reduceEq, Int.reduceLT, Int.reduceLE, Int.reduceNeg, Int.reduceToNat, Int.reduceMul, Int.reduceAdd, Int.reduceSub, Int.cast_ofNat_Int, reduceCtorEq, Nat.zero_add, Nat.add_zero, Nat.mul_one]) <;> rfl)) (by (try simp only [upd_get, base_get, Nat.reduceAdd, Nat.reduceSub, Nat.reduceMul, Nat.reduceDiv, Nat.reduceMod, Nat.reducePow, Nat.reduceLT, Nat.reduceLeDiff, Nat.reduceEqDiff, Nat.reduceBEq, Nat.reduceBNe, reduceIte, Int.reduceEq, Int.reduceLT, Int.reduceLE, Int.reduceNeg, Int.reduceToNat, Int.reduceMul, Int.reduceAdd, Int.reduceSub, Int.cast_ofNat_Int, reduceCtorEq, Nat.zero_add, Nat.add_zero, Nat.mul_one]) <;> first | exact e1 | rfl) (by (try simp only [upd_get, base_get, Nat.reduceAdd, Nat.reduceSub, Nat.reduceMul, Nat.reduceDiv, Nat.reduceMod, Nat.reducePow, Nat.reduceLT, Nat.reduceLeDiff, Nat.reduceEqDiff, Nat.reduceBEq, Nat.reduceBNe, reduceIte, Int.reduceEq, Int.reduceLT, Int.reduceLE, Int.reduceNeg, Int.reduceToNat, Int.reduceMul, Int.reduceAdd, Int.reduceSub, Int.cast_ofNat_Int, reduceCtorEq, Nat.zero_add, Nat.add_zero, Nat.mul_one]) <;> rfl)
   refine ⟨f1, r', h1, ?_, fun _ => ?_⟩
   . rw [h2, be, List.append_assoc, List.singleton_append]
   . exact h3 (.inl rfl)
/-- The list of bytes that were laid. -/
abbrev BS (r : Bool) (bs : List Nat) : IVal := .sl 1 r (bs.map B)
theorem P77 (h : F 77 = some jce) (h80 : F 80 = some Xc) (h81 : F 81 = some Va) {n : Nat} {r : Bool} {bs : List Nat} {σ : List IObj} (hb : bs.length < 900000) (hr : (!bs.isEmpty && r) = false) :
   cfw F (.f 77) [BS r bs, Q n] σ = some ⟨false, BS false (bs ++ nb (n % 4611686018427387904)), σ, []⟩ := by
 rw [jQ jce h, jq]
 generalize hm : n % 4611686018427387904 = m
 have hm2 : m < 4611686018427387904 := by omega
 have hs := V1 m
 have b0 := fun σ => Qt h81 hs σ
 have s0 := fun σ => jdG h80 h81 m σ
 have a1 := jdS n
 rw [hm] at a1
 obtain ⟨v1, v2, v3⟩ := shw hs
 have o1 := jgC hs (V0 hm2)
 have q1 : bs.length <= 1099511627776 := by omega
 have q3 : J5 1 (bs.map B) = true := by cases bs <;> rfl
 have w1 : IntKind.u64.wrap ((srt m : Nat) : Int) = ((srt m : Nat) : Int) := kN (by omega) (by omega)
 have w2 : IntKind.i64.wrap (((2 ^ srt m : Nat) : Int) - 1) = ((2 ^ srt m : Nat) : Int) - 1 := by
   rcases KB m with e | e | e | e <;> rw [e] <;> rfl
 have q4 : (0 : Int) <= (bs.length : Int) := by omega
 have q5 : (bs.map B).take bs.length = bs.map B := by rw [List.take_of_length_le]; simp
 rw [Int.toNat_natCast] at v3
 simp only [jce, b0, s0, a1, v1, v2, v3, o1, q1, q3, q4, q5, w1, w2, vy, yk, qA, nat, Int.toNat_natCast, zV, zS, jy, jM, jc, jk, jR, jg, jl, je, jr, jO, jf, jj, jp, jK, ju, jq, Ts.fill, jS, jP, jh, jT, jo, jm, ji, ja, getAll, stepCall, jn, unI, Opd.get, jx, tag, jv, jb, jI, rv, bin, jW, Nat.reduceAdd, Nat.reduceSub, Nat.reduceMul, Nat.reduceDiv, Nat.reduceMod, Nat.reducePow, Nat.reduceLT, Nat.reduceLeDiff, Nat.reduceEqDiff, Nat.reduceBEq, Nat.reduceBNe, reduceIte, Int.reduceEq, Int.reduceLT, Int.reduceLE, Int.reduceNeg, Int.reduceToNat, Int.reduceMul, Int.reduceAdd, Int.reduceSub, reduceCtorEq]
 generalize hE : evw F (ICode.loop Kc) _ = R
 have r0 : (!bs.isEmpty && V4 r 0 bs.length bs.length) = false := by
   cases bs with
   | nil => rfl
   | cons b bs =>
     have hr : r = false := by simpa using hr
     subst hr; rfl
 have k8 : 2 ^ srt m <= 8 := by rcases KB m with e | e | e | e <;> rw [e] <;> decide
 have k0 : 0 < 2 ^ srt m := Nat.pow_pos (by decide)
 obtain ⟨f1, r', rfl, a0, rf⟩ := jgm (2 ^ srt m) _ R _ bs hE k8 (by omega) r0 (by (try simp only [upd_get, base_get, Nat.reduceAdd, Nat.reduceSub, Nat.reduceMul, Nat.reduceDiv, Nat.reduceMod, Nat.reducePow, Nat.reduceLT, Nat.reduceLeDiff, Nat.reduceEqDiff, Nat.reduceBEq, Nat.reduceBNe, reduceIte, Int.reduceEq, Int.reduceLT, Int.reduceLE, Int.reduceNeg, Int.reduceToNat, Int.reduceMul, Int.reduceAdd, Int.reduceSub, Int.cast_ofNat_Int, reduceCtorEq, Nat.zero_add, Nat.add_zero, Nat.mul_one]) <;> rfl) (by (try simp only [upd_get, base_get, Nat.reduceAdd, Nat.reduceSub, Nat.reduceMul, Nat.reduceDiv, Nat.reduceMod, Nat.reducePow, Nat.reduceLT, Nat.reduceLeDiff, Nat.reduceEqDiff, Nat.reduceBEq, Nat.reduceBNe, reduceIte, Int.reduceEq, Int.reduceLT, Int.reduceLE, Int.reduceNeg, Int.reduceToNat, Int.reduceMul, Int.reduceAdd, Int.reduceSub, Int.cast_ofNat_Int, reduceCtorEq, Nat.zero_add, Nat.add_zero, Nat.mul_one]) <;> rfl) (by (try simp only [upd_get, base_get, Nat.reduceAdd, Nat.reduceSub, Nat.reduceMul, Nat.reduceDiv, Nat.reduceMod, Nat.reducePow, Nat.reduceLT, Nat.reduceLeDiff, Nat.reduceEqDiff, Nat.reduceBEq, Nat.reduceBNe, reduceIte, Int.reduceEq, Int.reduceLT, Int.reduceLE, Int.reduceNeg, Int.reduceToNat, Int.reduceMul, Int.reduceAdd, Int.reduceSub, Int.cast_ofNat_Int, reduceCtorEq, Nat.zero_add, Nat.add_zero, Nat.mul_one]) <;> rfl)
 rw [rf (.inr k0)] at a0
 simp only [a0, zV, zS, jy, jM, jc, jk, jR, jg, jl, je, jr, jO, jf, jj, jp, jK, ju, jq, Ts.fill, jS, jP, jh, jT, jo, jm, ji, ja, getAll, stepCall, jn, unI, Opd.get, jx, tag, jv, jb, jI, rv, bin, jW, Nat.reduceAdd, Nat.reduceSub, Nat.reduceMul, Nat.reduceDiv, Nat.reduceMod, Nat.reducePow, Nat.reduceLT, Nat.reduceLeDiff, Nat.reduceEqDiff, Nat.reduceBEq, Nat.reduceBNe, reduceIte, Int.reduceEq, Int.reduceLT, Int.reduceLE, Int.reduceNeg, Int.reduceToNat, Int.reduceMul, Int.reduceAdd, Int.reduceSub, reduceCtorEq]
 rfl
end Go.Idl.Sb
namespace Go.Idl.Sb
open Go Go.Idl Go.Idl.En
variable {F : jJ}
/-- A whole number as a number. -/
def zz (n : Int) : Nat := if 0 <= n then (2 * n).toNat else (-2 * n - 1).toNat
def i64 (n : Int) : Prop := -9223372036854775808 <= n /\ n < 9223372036854775808
theorem jfj {n : Int} (h : i64 n) : IntKind.u64.wrap (((BitVec.ofInt IntKind.u64.bits (IntKind.u64.wrap (IntKind.u64.wrap n * 2 ^ 1)) ^^^ BitVec.ofInt IntKind.u64.bits (IntKind.u64.wrap (n.fdiv (2 ^ 63)))).toNat : Nat) : Int) = ((zz n : Nat) : Int) := by
 obtain ⟨h1, h2⟩ := h
 have e0 : (2 : Int) ^ 63 = 9223372036854775808 := by decide
 rw [Q8 n, Q8 (n % 18446744073709551616 * 2 ^ 1), Q8 (n.fdiv (2 ^ 63)), e0, Int.fdiv_eq_ediv_of_nonneg _ (by decide)]
 unfold zz
 split
 . rename_i h0
   have e1 : n / 9223372036854775808 % 18446744073709551616 = 0 := by omega
   have e2 : n % 18446744073709551616 * 2 ^ 1 % 18446744073709551616 = 2 * n := by omega
   rw [e1, e2]
   have e3 : (BitVec.ofInt IntKind.u64.bits (2 * n) ^^^ BitVec.ofInt IntKind.u64.bits 0).toNat = (2 * n).toNat := by
     show (BitVec.ofInt 64 (2 * n) ^^^ 0#64).toNat = _
     rw [BitVec.xor_zero, BitVec.toNat_ofInt]; omega
   rw [e3, kN (by omega) (by omega)]
 . rename_i h0
   have e1 : n / 9223372036854775808 % 18446744073709551616 = 18446744073709551615 := by omega
   have e2 : n % 18446744073709551616 * 2 ^ 1 % 18446744073709551616 = 18446744073709551616 + 2 * n := by omega
   rw [e1, e2]
   have e3 : (BitVec.ofInt IntKind.u64.bits (18446744073709551616 + 2 * n) ^^^ BitVec.ofInt IntKind.u64.bits 18446744073709551615).toNat = (-2 * n - 1).toNat := by
     show (BitVec.ofInt 64 (18446744073709551616 + 2 * n) ^^^ BitVec.ofInt 64 18446744073709551615).toNat = _
     have e4 : BitVec.ofInt 64 18446744073709551615 = BitVec.allOnes 64 := by decide
     rw [e4, BitVec.xor_allOnes, BitVec.toNat_not, BitVec.toNat_ofInt]; omega
   rw [e3, kN (by omega) (by omega)]
theorem jh4 (h : F 79 = some jeo) (h77 : F 77 = some jce) (h80 : F 80 = some Xc) (h81 : F 81 = some Va) {n : Int} (hn : i64 n) {r : Bool} {bs : List Nat} {σ : List IObj} (hb : bs.length < 900000) (hr : (!bs.isEmpty && r) = false) :
   cfw F (.f 79) [BS r bs, I n] σ = some ⟨false, BS false (bs ++ nb (zz n % 4611686018427387904)), σ, []⟩ := by
 rw [jQ jeo h, jq]
 have p1 := fun σ => P77 h77 h80 h81 (n := zz n) (σ := σ) hb hr
 have z1 := jfj hn
 have m1 : min 1 IntKind.u64.bits = 1 := rfl
 have m63 : min 63 IntKind.i64.bits = 63 := rfl
 simp only [jeo, p1, z1, m1, m63, vy, Int.reduceToNat, zV, zS, jy, jM, jc, jk, jR, jg, jl, je, jr, jO, jf, jj, jp, jK, ju, jq, Ts.fill, jS, jP, jh, jT, jo, jm, ji, ja, getAll, stepCall, jn, unI, Opd.get, jx, tag, jv, jb, jI, rv, bin, jW, Nat.reduceAdd, Nat.reduceSub, Nat.reduceMul, Nat.reduceDiv, Nat.reduceMod, Nat.reducePow, Nat.reduceLT, Nat.reduceLeDiff, Nat.reduceEqDiff, Nat.reduceBEq, Nat.reduceBNe, reduceIte, Int.reduceEq, Int.reduceLT, Int.reduceLE, Int.reduceNeg, Int.reduceMul, Int.reduceAdd, Int.reduceSub, reduceCtorEq]
theorem jh5 (h : F 78 = some jen) {b : Bool} {r : Bool} {bs : List Nat} {σ : List IObj} (hb : bs.length < 900000) (hr : (!bs.isEmpty && r) = false) :
   cfw F (.f 78) [BS r bs, .bool b] σ = some ⟨false, BS false (bs ++ [if b then 1 else 0]), σ, []⟩ := by
 rw [jQ jen h, jq]
 have q1 : bs.length <= 1099511627775 := by omega
 have q3 : J5 1 (bs.map B) = true := by cases bs <;> rfl
 have q4 : (0 : Int) <= (bs.length : Int) := by omega
 have q5 : (bs.map B).take bs.length = bs.map B := by rw [List.take_of_length_le]; simp
 have q6 : (bs.map B).isEmpty = bs.isEmpty := by cases bs <;> rfl
 have r0 : (!bs.isEmpty && V4 r 0 bs.length bs.length) = false := by
   cases bs with
   | nil => rfl
   | cons b bs =>
     have hr : r = false := by simpa using hr
     subst hr; rfl
 have a1 (c : Nat) : BS false (bs ++ [c]) = .sl 1 false (bs.map B ++ [.int .u8 c]) := by simp [BS]
 cases b <;> simp only [a1, jen, q1, q3, q4, q5, q6, r0, qA, nat, Int.toNat_natCast, zV, zS, jy, jM, jc, jk, jR, jg, jl, je, jr, jO, jf, jj, jp, jK, ju, jq, Ts.fill, jS, jP, jh, jT, jo, jm, ji, ja, getAll, stepCall, jn, unI, Opd.get, jx, tag, jv, jb, jI, rv, bin, jW, Nat.reduceAdd, Nat.reduceSub, Nat.reduceMul, Nat.reduceDiv, Nat.reduceMod, Nat.reducePow, Nat.reduceLT, Nat.reduceLeDiff, Nat.reduceEqDiff, Nat.reduceBEq, Nat.reduceBNe, reduceIte, Int.reduceEq, Int.reduceLT, Int.reduceLE, Int.reduceNeg, Int.reduceToNat, Int.reduceMul, Int.reduceAdd, Int.reduceSub, reduceCtorEq] <;> rfl
/-! ### what lays -/
/-- Bytes that were laid, and whether something may not be told. -/
structure La where
 bs : List Nat
 far : Bool
def La.ob (w : La) : IObj := .cells [BS w.bs.isEmpty w.bs, .bool w.far]
def La.whole (w : La) (n lo hi : Int) : La := ⟨w.bs ++ nb (zz n % 4611686018427387904), w.far || (decide (n < lo) || decide (n > hi))⟩
def La.number (w : La) (n most : Nat) : La := ⟨w.bs ++ nb (n % 4611686018427387904), w.far || decide ((n : Int) > most)⟩
def La.truth (w : La) (b : Bool) : La := ⟨w.bs ++ [if b then 1 else 0], w.far⟩
def La.byte (w : La) (c : Nat) : La := ⟨w.bs ++ [c], w.far⟩
theorem vd {σ : List IObj} {x : Nat} {o : IObj} (h : x < σ.length) : (σ.set x o)[x]? = some o := by rw [List.getElem?_set_self h]
theorem Yi (bs : List Nat) : (!bs.isEmpty && bs.isEmpty) = false := by cases bs <;> rfl
theorem jeH (bs : List Nat) (n : Nat) : (bs ++ nb n).isEmpty = false := by
 have : 0 < (nb n).length := by rw [VD]; exact Nat.pow_pos (by decide)
 cases h : nb n with
 | nil => rw [h] at this; cases this
 | cons a l => cases bs <;> rfl
theorem take_set {σ : List IObj} {x : Nat} {o : IObj} : (σ.set x o).take σ.length = σ.set x o := by rw [List.take_of_length_le]; simp
/-- No reference was written. -/
theorem jay (h76 : F 76 = some jfv) (h79 : F 79 = some jeo) (h77 : F 77 = some jce) (h80 : F 80 = some Xc) (h81 : F 81 = some Va) {x p o : Nat} {w : La} {cs : List IVal} {σ : List IObj} {n lo hi : Int}
   (hx : σ[x]? = some w.ob) (hp : σ[p]? = some (.cells cs)) (ho : cs[o]? = some (I n)) (hn : i64 n) (hb : w.bs.length < 900000) (hne : p ≠ x) :
   ∃ wr, cfw F (.f 76) [.ptr x 0, .ptr p o, I lo, I hi] σ = some ⟨false, .tup [], σ.set x (w.whole n lo hi).ob, wr⟩ /\ wr.all (fun q => !q.2 && q.1 == x) = true := by
 rw [jQ jfv h76, jq]
 have p1 := fun σ => jh4 h79 h77 h80 h81 hn (r := w.bs.isEmpty) (σ := σ) hb (Yi _)
 have l0 := jd hx
 have l1 := fun o => vd (σ := σ) (o := o) l0
 have l2 := fun o => get_set (j := x) (x := o) hp (Ne.symm hne)
 have l3 := decide_eq_true (jd hp)
 have l4 := decide_eq_true l0
 have l5 : (x != p) = true := by simpa using hne.symm
 obtain ⟨bs, far⟩ := w
 rw [La.ob] at hx
 rw [La.ob, La.whole]
 cases far <;> cases hlo : decide (n < lo) <;> cases hhi : decide (n > hi) <;> simp only [jfv, jG, hx, hp, ho, p1, l0, l1, l2, l3, l4, l5, hlo, hhi, List.set_set, List.length_set, take_set, jeH, zV, zS, jy, jM, jc, jk, jR, jg, jl, je, jr, jO, jf, jj, jp, jK, ju, jq, Ts.fill, jS, jP, jh, jT, jo, jm, ji, ja, getAll, stepCall, jn, unI, Opd.get, jx, tag, jv, jb, jI, rv, bin, jW, Nat.reduceAdd, Nat.reduceSub, Nat.reduceMul, Nat.reduceDiv, Nat.reduceMod, Nat.reducePow, Nat.reduceLT, Nat.reduceLeDiff, Nat.reduceEqDiff, Nat.reduceBEq, Nat.reduceBNe, reduceIte, Int.reduceEq, Int.reduceLT, Int.reduceLE, Int.reduceNeg, Int.reduceToNat, Int.reduceMul, Int.reduceAdd, Int.reduceSub, reduceCtorEq]
 all_goals exact ⟨_, rfl, by simp⟩
end Go.Idl.Sb
namespace Go.Idl.Sb
open Go Go.Idl Go.Idl.En
variable {F : jJ}
theorem Zh (h74 : F 74 = some jft) (h77 : F 77 = some jce) (h80 : F 80 = some Xc) (h81 : F 81 = some Va) {x p o : Nat} {w : La} {cs : List IVal} {σ : List IObj} {n most : Nat}
   (hx : σ[x]? = some w.ob) (hp : σ[p]? = some (.cells cs)) (ho : cs[o]? = some (Q n)) (hb : w.bs.length < 900000) (hne : p ≠ x) :
   ∃ wr, cfw F (.f 74) [.ptr x 0, .ptr p o, Q most] σ = some ⟨false, .tup [], σ.set x (w.number n most).ob, wr⟩ /\ wr.all (fun q => !q.2 && q.1 == x) = true := by
 rw [jQ jft h74, jq]
 have p1 := fun σ => P77 h77 h80 h81 (n := n) (r := w.bs.isEmpty) (σ := σ) hb (Yi _)
 have l0 := jd hx
 have l1 := fun o => vd (σ := σ) (o := o) l0
 have l2 := fun o => get_set (j := x) (x := o) hp (Ne.symm hne)
 have l3 := decide_eq_true (jd hp)
 have l4 := decide_eq_true l0
 have l5 : (x != p) = true := by simpa using hne.symm
 obtain ⟨bs, far⟩ := w
 rw [La.ob] at hx
 rw [La.ob, La.number]
 cases far <;> cases hhi : decide ((n : Int) > most) <;> simp only [jft, jG, hx, hp, ho, p1, l0, l1, l2, l3, l4, l5, hhi, List.set_set, List.length_set, take_set, jeH, zV, zS, jy, jM, jc, jk, jR, jg, jl, je, jr, jO, jf, jj, jp, jK, ju, jq, Ts.fill, jS, jP, jh, jT, jo, jm, ji, ja, getAll, stepCall, jn, unI, Opd.get, jx, tag, jv, jb, jI, rv, bin, jW, Nat.reduceAdd, Nat.reduceSub, Nat.reduceMul, Nat.reduceDiv, Nat.reduceMod, Nat.reducePow, Nat.reduceLT, Nat.reduceLeDiff, Nat.reduceEqDiff, Nat.reduceBEq, Nat.reduceBNe, reduceIte, Int.reduceEq, Int.reduceLT, Int.reduceLE, Int.reduceNeg, Int.reduceToNat, Int.reduceMul, Int.reduceAdd, Int.reduceSub, reduceCtorEq]
 all_goals exact ⟨_, rfl, by simp⟩
theorem jax (h75 : F 75 = some jfu) (h78 : F 78 = some jen) {x p o : Nat} {w : La} {cs : List IVal} {σ : List IObj} {b : Bool}
   (hx : σ[x]? = some w.ob) (hp : σ[p]? = some (.cells cs)) (ho : cs[o]? = some (.bool b)) (hb : w.bs.length < 900000) (hne : p ≠ x) :
   ∃ wr, cfw F (.f 75) [.ptr x 0, .ptr p o] σ = some ⟨false, .tup [], σ.set x (w.truth b).ob, wr⟩ /\ wr.all (fun q => !q.2 && q.1 == x) = true := by
 rw [jQ jfu h75, jq]
 have p1 := fun σ => jh5 h78 (b := b) (r := w.bs.isEmpty) (σ := σ) hb (Yi _)
 have l0 := jd hx
 have l1 := fun o => vd (σ := σ) (o := o) l0
 have l2 := fun o => get_set (j := x) (x := o) hp (Ne.symm hne)
 have l3 := decide_eq_true (jd hp)
 have l4 := decide_eq_true l0
 have l5 : (x != p) = true := by simpa using hne.symm
 obtain ⟨bs, far⟩ := w
 rw [La.ob] at hx
 rw [La.ob, La.truth]
 have ne : ∀ c : Nat, (bs ++ [c]).isEmpty = false := fun c => by cases bs <;> rfl
 simp only [jfu, jG, hx, hp, ho, p1, l0, l1, l2, l3, l4, l5, ne, List.set_set, List.length_set, take_set, jeH, zV, zS, jy, jM, jc, jk, jR, jg, jl, je, jr, jO, jf, jj, jp, jK, ju, jq, Ts.fill, jS, jP, jh, jT, jo, jm, ji, ja, getAll, stepCall, jn, unI, Opd.get, jx, tag, jv, jb, jI, rv, bin, jW, Nat.reduceAdd, Nat.reduceSub, Nat.reduceMul, Nat.reduceDiv, Nat.reduceMod, Nat.reducePow, Nat.reduceLT, Nat.reduceLeDiff, Nat.reduceEqDiff, Nat.reduceBEq, Nat.reduceBNe, reduceIte, Int.reduceEq, Int.reduceLT, Int.reduceLE, Int.reduceNeg, Int.reduceToNat, Int.reduceMul, Int.reduceAdd, Int.reduceSub, reduceCtorEq]
 exact ⟨_, rfl, by simp⟩
/-- Pointers to cells of one object. -/
abbrev Ps (p : Nat) (os : List Nat) : List IVal := os.map fun o => .ptr p o
/-- Bytes that are laid one behind the other. -/
def La.bytes (w : La) (cs : List IVal) : List Nat -> La
 | [] => w
 | o :: os => (w.byte (match cs[o]? with | some (.int _ n) => n.toNat | _ => 0)).bytes cs os
def isB (v : IVal) : Prop := ∃ n : Nat, v = B n /\ n < 256
theorem jgl {x p : Nat} {cs : List IVal} {σ : List IObj} (hp : σ[p]? = some (.cells cs)) (hne : p ≠ x) {e : Nat} {os : List Nat} (hos : ∀ o ∈ os, ∃ v, cs[o]? = some v /\ isB v) (hlen : os.length < 1000) : ∀ (d i : Nat) (f0 : Nat -> Option (Nat × IVal)) (w : La) (wr : List (Nat × Bool)) (R : Option (IExit × St)),
   evw F (.loop Kb) ⟨E 9 12 5 [] (base f0), σ.set x w.ob, wr⟩ = R -> i + d = os.length -> x < σ.length -> w.bs.length + d < 900000 -> wr.all (fun q => !q.2 && q.1 == x) = true ->
   f0 0 = some (0, .ptr x 0) -> f0 6 = some (6, .sl e true (Ps p os)) -> f0 7 = some (7, I os.length) -> f0 8 = some (8, I i) ->
   ∃ f1 wr', R = some (.exit 0, ⟨E 9 12 5 [] (base f1), σ.set x (w.bytes cs (os.drop i)).ob, wr'⟩) /\ wr'.all (fun q => !q.2 && q.1 == x) = true := by
 intro d
 induction d with
 | zero =>
   intro i f0 w wr R hE hi hx hb hw e0 e6 e7 e8
   have l0 : decide ((i : Int) < (os.length : Int)) = false := decide_eq_false (by omega)
   rw [jH] at hE
   subst hE
   simp only [Kb, e0, e6, e7, e8, l0, zV, zS, jy, jM, jc, jk, jR, jg, jl, je, jr, jO, jf, jj, jp, jK, ju, jq, Ts.fill, jS, jP, jh, jT, jo, jm, ji, ja, getAll, stepCall, jn, unI, Opd.get, jx, tag, jv, jb, jI, rv, bin, jW, Nat.reduceAdd, Nat.reduceSub, Nat.reduceMul, Nat.reduceDiv, Nat.reduceMod, Nat.reducePow, Nat.reduceLT, Nat.reduceLeDiff, Nat.reduceEqDiff, Nat.reduceBEq, Nat.reduceBNe, reduceIte, Int.reduceEq, Int.reduceLT, Int.reduceLE, Int.reduceNeg, Int.reduceToNat, Int.reduceMul, Int.reduceAdd, Int.reduceSub, reduceCtorEq]
   rw [List.drop_of_length_le (by omega)]
   exact ⟨_, _, rfl, hw⟩
 | succ d ih =>
   intro i f0 w wr R hE hi hx hb hw e0 e6 e7 e8
   have l0 : decide ((i : Int) < (os.length : Int)) = true := decide_eq_true (by omega)
   have hi2 : i < os.length := by omega
   obtain ⟨v, hv, n, rfl, hn⟩ := hos _ (List.getElem_mem hi2)
   have g1 : os[i]? = some os[i] := List.getElem?_eq_getElem hi2
   have d1 : (0 : Int) <= (i : Int) := by omega
   have w1 := yz (n := i) (by omega)
   have l1 := fun o => vd (σ := σ) (o := o) hx
   have l2 := fun o => get_set (j := x) (x := o) hp (Ne.symm hne)
   have l3 := decide_eq_true (jd hp)
   have l5 : (x != p) = true := by simpa using hne.symm
   have q1 : w.bs.length <= 1099511627775 := by omega
   have q2 : (w.bs.map B).isEmpty = w.bs.isEmpty := by cases w.bs <;> rfl
   rw [List.drop_eq_getElem_cons hi2, La.bytes, hv]
   rw [jH] at hE
   obtain ⟨bs, far⟩ := w
   simp only [La.ob, Kb, jG, e0, e6, e7, e8, l0, l1, l2, l3, l5, g1, d1, w1, hv, q1, q2, Yi, Int.toNat_natCast, List.set_set, List.length_set, zV, zS, jy, jM, jc, jk, jR, jg, jl, je, jr, jO, jf, jj, jp, jK, ju, jq, Ts.fill, jS, jP, jh, jT, jo, jm, ji, ja, getAll, stepCall, jn, unI, Opd.get, jx, tag, jv, jb, jI, rv, bin, jW, Nat.reduceAdd, Nat.reduceSub, Nat.reduceMul, Nat.reduceDiv, Nat.reduceMod, Nat.reducePow, Nat.reduceLT, Nat.reduceLeDiff, Nat.reduceEqDiff, Nat.reduceBEq, Nat.reduceBNe, reduceIte, Int.reduceEq, Int.reduceLT, Int.reduceLE, Int.reduceNeg, Int.reduceToNat, Int.reduceMul, Int.reduceAdd, Int.reduceSub, reduceCtorEq] at hE
   have o2 : (La.byte ⟨bs, far⟩ n).ob = .cells [.sl 1 false (bs.map B ++ [.int .u8 n]), .bool far] := by
     have : (bs ++ [n]).isEmpty = false := by cases bs <;> rfl
     simp [La.ob, La.byte, BS, this]
   rw [<- o2] at hE
   have n2 : ((n : Int)).toNat = n := rfl
   simp only [n2]
   exact ih (i + 1) _ _ _ R hE (by omega) hx (by simp [La.byte]; simp only [] at hb; omega) (by simp [hw]) (by (try simp only [upd_get, base_get, Nat.reduceAdd, Nat.reduceSub, Nat.reduceMul, Nat.reduceDiv, Nat.reduceMod, Nat.reducePow, Nat.reduceLT, Nat.reduceLeDiff, Nat.reduceEqDiff, Nat.reduceBEq, Nat.reduceBNe, reduceIte, Int.reduceEq, Int.reduceLT, Int.reduceLE, Int.reduceNeg, Int.reduceToNat, Int.reduceMul, Int.reduceAdd, Int.reduceSub, Int.cast_ofNat_Int, reduceCtorEq, Nat.zero_add, Nat.add_zero, Nat.mul_one]) <;> first | exact e0 | rfl) (by (try simp only [upd_get, base_get, Nat.reduceAdd, Nat.reduceSub, Nat.reduceMul, Nat.reduceDiv, Nat.reduceMod, Nat.reducePow, Nat.reduceLT, Nat.reduceLeDiff, Nat.reduceEqDiff, Nat.reduceBEq, Nat.reduceBNe, reduceIte, Int.reduceEq, Int.reduceLT, Int.reduceLE, Int.reduceNeg, Int.reduceToNat, Int.reduceMul, Int.reduceAdd, Int.reduceSub, Int.cast_ofNat_Int, reduceCtorEq, Nat.zero_add, Nat.add_zero, Nat.mul_one]) <;> first | exact e6 | rfl) (by (try simp only [upd_get, base_get, Nat.reduceAdd, Nat.reduceSub, Nat.reduceMul, Nat.reduceDiv, Nat.reduceMod, Nat.reducePow, Nat.reduceLT, Nat.reduceLeDiff, Nat.reduceEqDiff, Nat.reduceBEq, Nat.reduceBNe, reduceIte, Int.reduceEq, Int.reduceLT, Int.reduceLE, Int.reduceNeg, Int.reduceToNat, Int.reduceMul, Int.reduceAdd, Int.reduceSub, Int.cast_ofNat_Int, reduceCtorEq, Nat.zero_add, Nat.add_zero, Nat.mul_one]) <;> first | exact e7 | rfl) (by (try simp only [upd_get, base_get, Nat.reduceAdd, Nat.reduceSub, Nat.reduceMul, Nat.reduceDiv, Nat.reduceMod, Nat.reducePow, Nat.reduceLT, Nat.reduceLeDiff, Nat.reduceEqDiff, Nat.reduceBEq, Nat.reduceBNe, reduceIte, Int.reduceEq, Int.reduceLT, Int.reduceLE, Int.reduceNeg, Int.reduceToNat, Int.reduceMul, Int.reduceAdd, Int.reduceSub, Int.cast_ofNat_Int, reduceCtorEq, Nat.zero_add, Nat.add_zero, Nat.mul_one]) <;> rfl)
theorem jaw (h73 : F 73 = some jfs) {x p e : Nat} {w : La} {cs : List IVal} {σ : List IObj} {os : List Nat} (hp : σ[p]? = some (.cells cs)) (hx : σ[x]? = some w.ob) (hne : p ≠ x) (hos : ∀ o ∈ os, ∃ v, cs[o]? = some v /\ isB v) (hlen : os.length < 1000) (hb : w.bs.length < 890000) :
   ∃ wr, cfw F (.f 73) [.ptr x 0, .sl e true (Ps p os)] σ = some ⟨false, .tup [], σ.set x (w.bytes cs os).ob, wr⟩ /\ wr.all (fun q => !q.2 && q.1 == x) = true := by
 rw [jQ jfs h73, jq]
 simp only [jfs, zV, zS, jy, jM, jc, jk, jR, jg, jl, je, jr, jO, jf, jj, jp, jK, ju, jq, Ts.fill, jS, jP, jh, jT, jo, jm, ji, ja, getAll, stepCall, jn, unI, Opd.get, jx, tag, jv, jb, jI, rv, bin, jW, Nat.reduceAdd, Nat.reduceSub, Nat.reduceMul, Nat.reduceDiv, Nat.reduceMod, Nat.reducePow, Nat.reduceLT, Nat.reduceLeDiff, Nat.reduceEqDiff, Nat.reduceBEq, Nat.reduceBNe, reduceIte, Int.reduceEq, Int.reduceLT, Int.reduceLE, Int.reduceNeg, Int.reduceToNat, Int.reduceMul, Int.reduceAdd, Int.reduceSub, reduceCtorEq]
 generalize hE : evw F (ICode.loop Kb) _ = R
 have l0 := jd hx
 have s0 := ko hx
 rw [<- s0] at hE
 obtain ⟨f1, wr', rfl, hw⟩ := jgl hp hne hos hlen os.length 0 _ w _ R hE (by omega) l0 (by omega) (by rfl) (by (try simp only [upd_get, base_get, Nat.reduceAdd, Nat.reduceSub, Nat.reduceMul, Nat.reduceDiv, Nat.reduceMod, Nat.reducePow, Nat.reduceLT, Nat.reduceLeDiff, Nat.reduceEqDiff, Nat.reduceBEq, Nat.reduceBNe, reduceIte, Int.reduceEq, Int.reduceLT, Int.reduceLE, Int.reduceNeg, Int.reduceToNat, Int.reduceMul, Int.reduceAdd, Int.reduceSub, Int.cast_ofNat_Int, reduceCtorEq, Nat.zero_add, Nat.add_zero, Nat.mul_one]) <;> rfl) (by (try simp only [upd_get, base_get, Nat.reduceAdd, Nat.reduceSub, Nat.reduceMul, Nat.reduceDiv, Nat.reduceMod, Nat.reducePow, Nat.reduceLT, Nat.reduceLeDiff, Nat.reduceEqDiff, Nat.reduceBEq, Nat.reduceBNe, reduceIte, Int.reduceEq, Int.reduceLT, Int.reduceLE, Int.reduceNeg, Int.reduceToNat, Int.reduceMul, Int.reduceAdd, Int.reduceSub, Int.cast_ofNat_Int, reduceCtorEq, Nat.zero_add, Nat.add_zero, Nat.mul_one]) <;> rfl) (by (try simp only [upd_get, base_get, Nat.reduceAdd, Nat.reduceSub, Nat.reduceMul, Nat.reduceDiv, Nat.reduceMod, Nat.reducePow, Nat.reduceLT, Nat.reduceLeDiff, Nat.reduceEqDiff, Nat.reduceBEq, Nat.reduceBNe, reduceIte, Int.reduceEq, Int.reduceLT, Int.reduceLE, Int.reduceNeg, Int.reduceToNat, Int.reduceMul, Int.reduceAdd, Int.reduceSub, Int.cast_ofNat_Int, reduceCtorEq, Nat.zero_add, Nat.add_zero, Nat.mul_one]) <;> rfl) (by (try simp only [upd_get, base_get, Nat.reduceAdd, Nat.reduceSub, Nat.reduceMul, Nat.reduceDiv, Nat.reduceMod, Nat.reducePow, Nat.reduceLT, Nat.reduceLeDiff, Nat.reduceEqDiff, Nat.reduceBEq, Nat.reduceBNe, reduceIte, Int.reduceEq, Int.reduceLT, Int.reduceLE, Int.reduceNeg, Int.reduceToNat, Int.reduceMul, Int.reduceAdd, Int.reduceSub, Int.cast_ofNat_Int, reduceCtorEq, Nat.zero_add, Nat.add_zero, Nat.mul_one]) <;> rfl)
 simp only [List.length_set, take_set, zV, zS, jy, jM, jc, jk, jR, jg, jl, je, jr, jO, jf, jj, jp, jK, ju, jq, Ts.fill, jS, jP, jh, jT, jo, jm, ji, ja, getAll, stepCall, jn, unI, Opd.get, jx, tag, jv, jb, jI, rv, bin, jW, Nat.reduceAdd, Nat.reduceSub, Nat.reduceMul, Nat.reduceDiv, Nat.reduceMod, Nat.reducePow, Nat.reduceLT, Nat.reduceLeDiff, Nat.reduceEqDiff, Nat.reduceBEq, Nat.reduceBNe, reduceIte, Int.reduceEq, Int.reduceLT, Int.reduceLE, Int.reduceNeg, Int.reduceToNat, Int.reduceMul, Int.reduceAdd, Int.reduceSub, reduceCtorEq]
 have w2 : (wr'.all fun q => !q.2 || decide (σ.length <= q.1)) = true := by
   rw [List.all_eq_true] at hw ⊢
   intro q hq; have := hw q hq; simp at this; simp [this]
 rw [if_pos w2]
 refine ⟨_, rfl, ?_⟩
 rw [List.all_eq_true] at hw ⊢
 intro q hq; exact hw q (List.mem_filter.mp hq).1
end Go.Idl.Sb
namespace Go.Idl.Sb
open Go Go.Idl Go.Idl.En
variable {F : jJ}
/-- Where it reads, and what is wrong. -/
structure Re where
 pos : Nat
 er : Option (Nat × Nat)
def erI : Option (Nat × Nat) -> IVal
 | none => .prim .nilIface
 | some (c, a) => .iface 89 (.pv false [I c, I a] 0)
def Re.ob (s : List UInt8) (w : Re) : IObj := .cells [.str s, I w.pos, erI w.er]
theorem ZU (h : F 40 = some KM) {s : List UInt8} {x : Nat} {w : Re} {σ : List IObj} (hx : σ[x]? = some (w.ob s)) :
   cfw F (.f 40) [.ptr x 0] σ = some ⟨false, .bool w.er.isSome, σ, []⟩ := by
 rw [jQ KM h, jq]
 obtain ⟨pos, er⟩ := w
 cases er with
 | none => simp only [KM, jG, hx, Re.ob, erI, KJ, Option.isSome, zV, zS, jy, jM, jc, jk, jR, jg, jl, je, jr, jO, jf, jj, jp, jK, ju, jq, Ts.fill, jS, jP, jh, jT, jo, jm, ji, ja, getAll, stepCall, jn, unI, Opd.get, jx, tag, jv, jb, jI, rv, bin, jW, Nat.reduceAdd, Nat.reduceSub, Nat.reduceMul, Nat.reduceDiv, Nat.reduceMod, Nat.reducePow, Nat.reduceLT, Nat.reduceLeDiff, Nat.reduceEqDiff, Nat.reduceBEq, Nat.reduceBNe, reduceIte, Int.reduceEq, Int.reduceLT, Int.reduceLE, Int.reduceNeg, Int.reduceToNat, Int.reduceMul, Int.reduceAdd, Int.reduceSub, reduceCtorEq]
 | some p => obtain ⟨c, a⟩ := p; simp only [KM, jG, hx, Re.ob, erI, KJ, Option.isSome, zV, zS, jy, jM, jc, jk, jR, jg, jl, je, jr, jO, jf, jj, jp, jK, ju, jq, Ts.fill, jS, jP, jh, jT, jo, jm, ji, ja, getAll, stepCall, jn, unI, Opd.get, jx, tag, jv, jb, jI, rv, bin, jW, Nat.reduceAdd, Nat.reduceSub, Nat.reduceMul, Nat.reduceDiv, Nat.reduceMod, Nat.reducePow, Nat.reduceLT, Nat.reduceLeDiff, Nat.reduceEqDiff, Nat.reduceBEq, Nat.reduceBNe, reduceIte, Int.reduceEq, Int.reduceLT, Int.reduceLE, Int.reduceNeg, Int.reduceToNat, Int.reduceMul, Int.reduceAdd, Int.reduceSub, reduceCtorEq]
theorem Ys (h : F 41 = some K9) {s : List UInt8} {x : Nat} {w : Re} {σ : List IObj} (hx : σ[x]? = some (w.ob s)) (hs : s.length < 1000000) (hp : w.pos <= s.length) :
   cfw F (.f 41) [.ptr x 0] σ = some ⟨false, I ((s.length - w.pos : Nat) : Int), σ, []⟩ := by
 rw [jQ K9 h, jq]
 have w1 : IntKind.i64.wrap ((s.length : Int) - (w.pos : Int)) = ((s.length - w.pos : Nat) : Int) := by rw [qW (by omega) (by omega)]; omega
 obtain ⟨pos, er⟩ := w
 simp only [K9, jG, hx, Re.ob, w1, zV, zS, jy, jM, jc, jk, jR, jg, jl, je, jr, jO, jf, jj, jp, jK, ju, jq, Ts.fill, jS, jP, jh, jT, jo, jm, ji, ja, getAll, stepCall, jn, unI, Opd.get, jx, tag, jv, jb, jI, rv, bin, jW, Nat.reduceAdd, Nat.reduceSub, Nat.reduceMul, Nat.reduceDiv, Nat.reduceMod, Nat.reducePow, Nat.reduceLT, Nat.reduceLeDiff, Nat.reduceEqDiff, Nat.reduceBEq, Nat.reduceBNe, reduceIte, Int.reduceEq, Int.reduceLT, Int.reduceLE, Int.reduceNeg, Int.reduceToNat, Int.reduceMul, Int.reduceAdd, Int.reduceSub, reduceCtorEq]
theorem jd7 (h : F 42 = some Yp) {s : List UInt8} {x : Nat} {w : Re} {σ : List IObj} (hx : σ[x]? = some (w.ob s)) :
   cfw F (.f 42) [.ptr x 0] σ = some ⟨false, erI w.er, σ, []⟩ := by
 rw [jQ Yp h, jq]
 obtain ⟨pos, er⟩ := w
 cases er with
 | none => simp only [Yp, jG, hx, Re.ob, erI, zV, zS, jy, jM, jc, jk, jR, jg, jl, je, jr, jO, jf, jj, jp, jK, ju, jq, Ts.fill, jS, jP, jh, jT, jo, jm, ji, ja, getAll, stepCall, jn, unI, Opd.get, jx, tag, jv, jb, jI, rv, bin, jW, Nat.reduceAdd, Nat.reduceSub, Nat.reduceMul, Nat.reduceDiv, Nat.reduceMod, Nat.reducePow, Nat.reduceLT, Nat.reduceLeDiff, Nat.reduceEqDiff, Nat.reduceBEq, Nat.reduceBNe, reduceIte, Int.reduceEq, Int.reduceLT, Int.reduceLE, Int.reduceNeg, Int.reduceToNat, Int.reduceMul, Int.reduceAdd, Int.reduceSub, reduceCtorEq]
 | some p => obtain ⟨c, a⟩ := p; simp only [Yp, jG, hx, Re.ob, erI, zV, zS, jy, jM, jc, jk, jR, jg, jl, je, jr, jO, jf, jj, jp, jK, ju, jq, Ts.fill, jS, jP, jh, jT, jo, jm, ji, ja, getAll, stepCall, jn, unI, Opd.get, jx, tag, jv, jb, jI, rv, bin, jW, Nat.reduceAdd, Nat.reduceSub, Nat.reduceMul, Nat.reduceDiv, Nat.reduceMod, Nat.reducePow, Nat.reduceLT, Nat.reduceLeDiff, Nat.reduceEqDiff, Nat.reduceBEq, Nat.reduceBNe, reduceIte, Int.reduceEq, Int.reduceLT, Int.reduceLE, Int.reduceNeg, Int.reduceToNat, Int.reduceMul, Int.reduceAdd, Int.reduceSub, reduceCtorEq]
theorem ja5 (h : F 88 = some jcf) {s : List UInt8} {x : Nat} {w : Re} {σ : List IObj} (hx : σ[x]? = some (w.ob s)) :
   cfw F (.f 88) [.ptr x 0] σ = some ⟨false, I w.pos, σ, []⟩ := by
 rw [jQ jcf h, jq]
 obtain ⟨pos, er⟩ := w
 simp only [jcf, jG, hx, Re.ob, zV, zS, jy, jM, jc, jk, jR, jg, jl, je, jr, jO, jf, jj, jp, jK, ju, jq, Ts.fill, jS, jP, jh, jT, jo, jm, ji, ja, getAll, stepCall, jn, unI, Opd.get, jx, tag, jv, jb, jI, rv, bin, jW, Nat.reduceAdd, Nat.reduceSub, Nat.reduceMul, Nat.reduceDiv, Nat.reduceMod, Nat.reducePow, Nat.reduceLT, Nat.reduceLeDiff, Nat.reduceEqDiff, Nat.reduceBEq, Nat.reduceBNe, reduceIte, Int.reduceEq, Int.reduceLT, Int.reduceLE, Int.reduceNeg, Int.reduceToNat, Int.reduceMul, Int.reduceAdd, Int.reduceSub, reduceCtorEq]
/-- A fault, unless there is one. -/
def Re.fail (w : Re) (c a : Nat) : Re := if w.er.isSome || decide (c = 0) then w else ⟨w.pos, some (c, a)⟩
theorem Yl (h : F 87 = some QC) (h40 : F 40 = some KM) {s : List UInt8} {x c a : Nat} {w : Re} {σ : List IObj} (hx : σ[x]? = some (w.ob s)) :
   ∃ wr, cfw F (.f 87) [.ptr x 0, I c, I a] σ = some ⟨false, .tup [], σ.set x ((w.fail c a).ob s), wr⟩ /\ wr.all (fun q => !q.2 && q.1 == x) = true := by
 rw [jQ QC h, jq]
 have b0 := ZU h40 hx
 have l0 := jd hx
 have l4 := decide_eq_true l0
 obtain ⟨pos, er⟩ := w
 cases er with
 | none =>
   by_cases hc : c = 0
   . subst hc
     simp only [Int.natCast_zero, QC, jG, hx, b0, Option.isSome, zV, zS, jy, jM, jc, jk, jR, jg, jl, je, jr, jO, jf, jj, jp, jK, ju, jq, Ts.fill, jS, jP, jh, jT, jo, jm, ji, ja, getAll, stepCall, jn, unI, Opd.get, jx, tag, jv, jb, jI, rv, bin, jW, Nat.reduceAdd, Nat.reduceSub, Nat.reduceMul, Nat.reduceDiv, Nat.reduceMod, Nat.reducePow, Nat.reduceLT, Nat.reduceLeDiff, Nat.reduceEqDiff, Nat.reduceBEq, Nat.reduceBNe, reduceIte, Int.reduceEq, Int.reduceLT, Int.reduceLE, Int.reduceNeg, Int.reduceToNat, Int.reduceMul, Int.reduceAdd, Int.reduceSub, reduceCtorEq]
     exact ⟨[], by rw [Re.fail]; simp [ko hx], rfl⟩
   . have c1 : ((c : Int) != 0) = true := by simpa using (show (c : Int) ≠ 0 by omega)
     have c2 : (none : Option (Nat × Nat)).isSome = false := rfl
     have x2 : ext [I c, I a] = false := rfl
     have f2 : yF [.int .i64 0, .int .i64 0] [(0, 1, I c), (1, 1, I a)] = some [I c, I a] := rfl
     simp only [Re.fail, c2, hc, x2, Bool.false_or, QC, jG, hx, b0, c1, f2, l0, l4, Re.ob, erI, Option.isSome, List.zip_cons_cons, List.zip_nil_right, List.length_set, take_set, zV, zS, jy, jM, jc, jk, jR, jg, jl, je, jr, jO, jf, jj, jp, jK, ju, jq, Ts.fill, jS, jP, jh, jT, jo, jm, ji, ja, getAll, stepCall, jn, unI, Opd.get, jx, tag, jv, jb, jI, rv, bin, jW, Nat.reduceAdd, Nat.reduceSub, Nat.reduceMul, Nat.reduceDiv, Nat.reduceMod, Nat.reducePow, Nat.reduceLT, Nat.reduceLeDiff, Nat.reduceEqDiff, Nat.reduceBEq, Nat.reduceBNe, reduceIte, Int.reduceEq, Int.reduceLT, Int.reduceLE, Int.reduceNeg, Int.reduceToNat, Int.reduceMul, Int.reduceAdd, Int.reduceSub, reduceCtorEq]
     exact ⟨_, rfl, by simp⟩
 | some p =>
   obtain ⟨c', a'⟩ := p
   simp only [QC, jG, hx, b0, Option.isSome, zV, zS, jy, jM, jc, jk, jR, jg, jl, je, jr, jO, jf, jj, jp, jK, ju, jq, Ts.fill, jS, jP, jh, jT, jo, jm, ji, ja, getAll, stepCall, jn, unI, Opd.get, jx, tag, jv, jb, jI, rv, bin, jW, Nat.reduceAdd, Nat.reduceSub, Nat.reduceMul, Nat.reduceDiv, Nat.reduceMod, Nat.reducePow, Nat.reduceLT, Nat.reduceLeDiff, Nat.reduceEqDiff, Nat.reduceBEq, Nat.reduceBNe, reduceIte, Int.reduceEq, Int.reduceLT, Int.reduceLE, Int.reduceNeg, Int.reduceToNat, Int.reduceMul, Int.reduceAdd, Int.reduceSub, reduceCtorEq]
   exact ⟨[], by rw [Re.fail]; simp [ko hx], rfl⟩
end Go.Idl.Sb
namespace Go.Idl.Sb
open Go Go.Idl Go.Idl.En
variable {F : jJ}
/-- The number that bytes are, the greatest ahead. -/
def val : List UInt8 -> Nat -> Nat
 | [], a => a
 | x :: xs, a => val xs (a * 256 + x.toNat)
theorem Xa : ∀ (xs : List UInt8) (a : Nat), val xs a = a * 256 ^ xs.length + val xs 0
 | [], a => by simp [val]
 | x :: xs, a => by
   rw [val, val, Xa xs, Xa xs (0 * 256 + x.toNat), List.length_cons, Nat.pow_succ', Nat.zero_mul, Nat.zero_add]
   rw [Nat.add_mul, Nat.mul_assoc, Nat.add_assoc]
theorem jbz : ∀ (xs : List UInt8), val xs 0 < 256 ^ xs.length
 | [] => by simp [val]
 | x :: xs => by
   rw [val, Xa, List.length_cons, Nat.pow_succ']
   have h1 := jbz xs
   have h2 := x.toNat_lt
   have h3 : (x.toNat + 1) * 256 ^ xs.length <= 256 * 256 ^ xs.length := Nat.mul_le_mul_right _ (by omega)
   rw [Nat.add_mul] at h3
   rw [Nat.zero_mul, Nat.zero_add]
   omega
theorem jeN {a c : Nat} (ha : a < 2 ^ 56) (hc : c < 256) : IntKind.u64.wrap (((BitVec.ofInt IntKind.u64.bits (IntKind.u64.wrap ((a : Int) * 2 ^ 8)) ||| BitVec.ofInt IntKind.u64.bits (IntKind.u64.wrap (c : Int))).toNat : Nat) : Int) = ((a * 256 + c : Nat) : Int) := by
 have e0 : (2 : Int) ^ 8 = 256 := by decide
 have w1 : IntKind.u64.wrap ((a : Int) * 256) = (a : Int) * 256 := kN (by omega) (by omega)
 have w2 : IntKind.u64.wrap (c : Int) = (c : Int) := kN (by omega) (by omega)
 rw [e0, w1, w2]
 have e2 : (BitVec.ofInt IntKind.u64.bits ((a : Int) * 256) ||| BitVec.ofInt IntKind.u64.bits (c : Int)).toNat = a * 256 + c := by
   rw [BitVec.toNat_or]
   have a1 : (BitVec.ofInt IntKind.u64.bits ((a : Int) * 256)).toNat = a * 256 := by
     show (BitVec.ofInt 64 _).toNat = _
     rw [BitVec.toNat_ofInt]; omega
   have a2 : (BitVec.ofInt IntKind.u64.bits (c : Int)).toNat = c := by
     show (BitVec.ofInt 64 _).toNat = _
     rw [BitVec.toNat_ofInt]; omega
   have e : a * 256 = a <<< 8 := by rw [Nat.shiftLeft_eq]
   rw [a1, a2, e, <- Nat.shiftLeft_add_eq_or_of_lt (by simpa using hc)]
 rw [e2, kN (by omega) (by omega)]
theorem jgp {xs : List UInt8} {σ : List IObj} (hl : xs.length <= 8) {e : Nat} : ∀ (d i a : Nat) (f0 : Nat -> Option (Nat × IVal)) (R : Option (IExit × St)),
   evw F (.loop Ke) ⟨E 46 8 6 [] (base f0), σ, []⟩ = R -> i + d = xs.length -> a < 256 ^ i ->
   f0 2 = some (2, Q a) -> f0 43 = some (43, .sl e false (xs.map fun c => .int .u8 c.toNat)) -> f0 44 = some (44, I xs.length) -> f0 45 = some (45, I i) ->
   ∃ f1, R = some (.exit 0, ⟨E 46 8 6 [] (base f1), σ, []⟩) /\ f1 2 = some (2, Q (val (xs.drop i) a)) /\ (∀ j, (j = 0 \/ j = 3 \/ j = 5) -> f1 j = f0 j) := by
 intro d
 induction d with
 | zero =>
   intro i a f0 R hE hi ha e2 e3 e4 e5
   have l0 : decide ((i : Int) < (xs.length : Int)) = false := decide_eq_false (by omega)
   rw [jH] at hE
   subst hE
   simp only [Ke, e2, e3, e4, e5, l0, zV, zS, jy, jM, jc, jk, jR, jg, jl, je, jr, jO, jf, jj, jp, jK, ju, jq, Ts.fill, jS, jP, jh, jT, jo, jm, ji, ja, getAll, stepCall, jn, unI, Opd.get, jx, tag, jv, jb, jI, rv, bin, jW, Nat.reduceAdd, Nat.reduceSub, Nat.reduceMul, Nat.reduceDiv, Nat.reduceMod, Nat.reducePow, Nat.reduceLT, Nat.reduceLeDiff, Nat.reduceEqDiff, Nat.reduceBEq, Nat.reduceBNe, reduceIte, Int.reduceEq, Int.reduceLT, Int.reduceLE, Int.reduceNeg, Int.reduceToNat, Int.reduceMul, Int.reduceAdd, Int.reduceSub, reduceCtorEq]
   rw [List.drop_of_length_le (by omega)]
   refine ⟨_, rfl, (by (try simp only [upd_get, base_get, Nat.reduceAdd, Nat.reduceSub, Nat.reduceMul, Nat.reduceDiv, Nat.reduceMod, Nat.reducePow, Nat.reduceLT, Nat.reduceLeDiff, Nat.reduceEqDiff, Nat.reduceBEq, Nat.reduceBNe, reduceIte, Int.reduceEq, Int.reduceLT, Int.reduceLE, Int.reduceNeg, Int.reduceToNat, Int.reduceMul, Int.reduceAdd, Int.reduceSub, Int.cast_ofNat_Int, reduceCtorEq, Nat.zero_add, Nat.add_zero, Nat.mul_one]) <;> first | exact e2 | rfl), ?_⟩
   rintro j (rfl | rfl | rfl) <;> rfl
 | succ d ih =>
   intro i a f0 R hE hi ha e2 e3 e4 e5
   have l0 : decide ((i : Int) < (xs.length : Int)) = true := decide_eq_true (by omega)
   have hi2 : i < xs.length := by omega
   have g1 : xs[i]? = some xs[i] := List.getElem?_eq_getElem hi2
   have d1 : (0 : Int) <= (i : Int) := by omega
   have w1 := yz (n := i) (by omega)
   have ha2 : a < 2 ^ 56 := by
     have : 256 ^ i <= 256 ^ 7 := Nat.pow_le_pow_right (by decide) (by omega)
     simp at this ⊢; omega
   have c2 := xs[i].toNat_lt
   have o1 := jeN ha2 (c := xs[i].toNat) (by omega)
   have m8 : min 8 IntKind.u64.bits = 8 := rfl
   rw [List.drop_eq_getElem_cons hi2, val]
   rw [jH] at hE
   simp only [Ke, jG, e2, e3, e4, e5, l0, g1, d1, w1, o1, m8, vy, yk, Int.toNat_natCast, zV, zS, jy, jM, jc, jk, jR, jg, jl, je, jr, jO, jf, jj, jp, jK, ju, jq, Ts.fill, jS, jP, jh, jT, jo, jm, ji, ja, getAll, stepCall, jn, unI, Opd.get, jx, tag, jv, jb, jI, rv, bin, jW, Nat.reduceAdd, Nat.reduceSub, Nat.reduceMul, Nat.reduceDiv, Nat.reduceMod, Nat.reducePow, Nat.reduceLT, Nat.reduceLeDiff, Nat.reduceEqDiff, Nat.reduceBEq, Nat.reduceBNe, reduceIte, Int.reduceEq, Int.reduceLT, Int.reduceLE, Int.reduceNeg, Int.reduceToNat, Int.reduceMul, Int.reduceAdd, Int.reduceSub, reduceCtorEq] at hE
   obtain ⟨f1, h1, h2, h3⟩ := ih (i + 1) (a * 256 + xs[i].toNat) _ R hE (by omega) (by rw [Nat.pow_succ]; omega) (by (try simp only [upd_get, base_get, Nat.reduceAdd, Nat.reduceSub, Nat.reduceMul, Nat.reduceDiv, Nat.reduceMod, Nat.reducePow, Nat.reduceLT, Nat.reduceLeDiff, Nat.reduceEqDiff, Nat.reduceBEq, Nat.reduceBNe, reduceIte, Int.reduceEq, Int.reduceLT, Int.reduceLE, Int.reduceNeg, Int.reduceToNat, Int.reduceMul, Int.reduceAdd, Int.reduceSub, Int.cast_ofNat_Int, reduceCtorEq, Nat.zero_add, Nat.add_zero, Nat.mul_one]) <;> rfl) (by (try simp only [upd_get, base_get, Nat.reduceAdd, Nat.reduceSub, Nat.reduceMul, Nat.reduceDiv, Nat.reduceMod, Nat.reducePow, Nat.reduceLT, Nat.reduceLeDiff, Nat.reduceEqDiff, Nat.reduceBEq, Nat.reduceBNe, reduceIte, Int.reduceEq, Int.reduceLT, Int.reduceLE, Int.reduceNeg, Int.reduceToNat, Int.reduceMul, Int.reduceAdd, Int.reduceSub, Int.cast_ofNat_Int, reduceCtorEq, Nat.zero_add, Nat.add_zero, Nat.mul_one]) <;> first | exact e3 | rfl) (by (try simp only [upd_get, base_get, Nat.reduceAdd, Nat.reduceSub, Nat.reduceMul, Nat.reduceDiv, Nat.reduceMod, Nat.reducePow, Nat.reduceLT, Nat.reduceLeDiff, Nat.reduceEqDiff, Nat.reduceBEq, Nat.reduceBNe, reduceIte, Int.reduceEq, Int.reduceLT, Int.reduceLE, Int.reduceNeg, Int.reduceToNat, Int.reduceMul, Int.reduceAdd, Int.reduceSub, Int.cast_ofNat_Int, reduceCtorEq, Nat.zero_add, Nat.add_zero, Nat.mul_one]) <;> first | exact e4 | rfl) (by (try simp only [upd_get, base_get, Nat.reduceAdd, Nat.reduceSub, Nat.reduceMul, Nat.reduceDiv, Nat.reduceMod, Nat.reducePow, Nat.reduceLT, Nat.reduceLeDiff, Nat.reduceEqDiff, Nat.reduceBEq, Nat.reduceBNe, reduceIte, Int.reduceEq, Int.reduceLT, Int.reduceLE, Int.reduceNeg, Int.reduceToNat, Int.reduceMul, Int.reduceAdd, Int.reduceSub, Int.cast_ofNat_Int, reduceCtorEq, Nat.zero_add, Nat.add_zero, Nat.mul_one]) <;> rfl)
   refine ⟨f1, h1, h2, ?_⟩
   intro j hj
   rw [h3 j hj]
   rcases hj with rfl | rfl | rfl <;> rfl
theorem ZT {k t r : Nat} (hr : r < 2 ^ k) (hb : 2 ^ k * t + r < 2 ^ 64) : (BitVec.ofNat 64 (2 ^ k * t + r) &&& ~~~ BitVec.ofNat 64 (2 ^ k * t)).toNat = r := by
 have hr64 : r < 2 ^ 64 := by omega
 have e : BitVec.ofNat 64 (2 ^ k * t + r) &&& ~~~ BitVec.ofNat 64 (2 ^ k * t) = BitVec.ofNat 64 r := by
   apply BitVec.eq_of_getLsbD_eq
   intro i hi
   rw [BitVec.getLsbD_and, BitVec.getLsbD_not, BitVec.getLsbD_ofNat, BitVec.getLsbD_ofNat, BitVec.getLsbD_ofNat, Nat.testBit_two_pow_mul_add _ hr, Nat.testBit_two_pow_mul]
   simp only [hi, decide_true, Bool.true_and]
   by_cases h : i < k
   . have : decide (i ≥ k) = false := decide_eq_false (by omega)
     simp only [h, if_true, this, Bool.false_and, Bool.not_false, Bool.and_true]
   . have h2 : decide (i ≥ k) = true := decide_eq_true (by omega)
     have h3 : r.testBit i = false := Nat.testBit_lt_two_pow (Nat.lt_of_lt_of_le hr (Nat.pow_le_pow_right (by decide) (by omega)))
     simp only [h, if_false, h2, Bool.true_and, Bool.and_not_self, h3]
 rw [e, BitVec.toNat_ofNat, Nat.mod_eq_of_lt hr64]
theorem jh7 {m t k : Nat} (hk : 2 ^ k * t + m % 2 ^ k = m) (hm : m < 2 ^ 64) : IntKind.u64.wrap (((BitVec.ofInt IntKind.u64.bits (m : Int) &&& ~~~ BitVec.ofInt IntKind.u64.bits (IntKind.u64.wrap ((t : Int) * 2 ^ k))).toNat : Nat) : Int) = ((m % 2 ^ k : Nat) : Int) := by
 have hr : m % 2 ^ k < 2 ^ k := Nat.mod_lt _ (Nat.pow_pos (by decide))
 have e1 : IntKind.u64.wrap ((t : Int) * 2 ^ k) = ((2 ^ k * t : Nat) : Int) := by
   rw [pw, <- Int.natCast_mul, kN (by omega) (by rw [Nat.mul_comm]; omega), Nat.mul_comm]
 have e2 : BitVec.ofInt IntKind.u64.bits (m : Int) = BitVec.ofNat 64 (2 ^ k * t + m % 2 ^ k) := by
   rw [hk]; exact BitVec.ofInt_natCast 64 m
 have e3 : BitVec.ofInt IntKind.u64.bits ((2 ^ k * t : Nat) : Int) = BitVec.ofNat 64 (2 ^ k * t) := BitVec.ofInt_natCast 64 _
 rw [e1, e2, e3]
 have e4 := ZT hr (by omega : 2 ^ k * t + m % 2 ^ k < 2 ^ 64)
 have e5 : ((BitVec.ofNat 64 (2 ^ k * t + m % 2 ^ k) &&& ~~~ BitVec.ofNat 64 (2 ^ k * t) : BitVec 64).toNat : Int) = ((m % 2 ^ k : Nat) : Int) := by rw [e4]
 refine Eq.trans (congrArg _ e5) ?_
 rw [kN (by omega) (by omega)]
/-- What there is at the place: the number, how many bytes, and what is wrong. -/
def JM : List UInt8 -> Nat × Nat × Nat
 | [] => (0, 0, 3)
 | x :: xs =>
   let t := x.toNat / 64
   if xs.length + 1 < 2 ^ t then (0, 0, 3) else
   let n := val ((x :: xs).take (2 ^ t)) 0 % 2 ^ (8 * 2 ^ t - 2)
   if srt n = t then (n, 2 ^ t, 0) else (0, 0, 5)
theorem KA {x : UInt8} {xs : List UInt8} {t : Nat} (ht : x.toNat / 64 = t) (hl : ¬ xs.length + 1 < 2 ^ t) : 2 ^ (8 * 2 ^ t - 2) * t + val ((x :: xs).take (2 ^ t)) 0 % 2 ^ (8 * 2 ^ t - 2) = val ((x :: xs).take (2 ^ t)) 0 /\ val ((x :: xs).take (2 ^ t)) 0 < 2 ^ 64 := by
 have ht4 : t < 4 := by have := x.toNat_lt; omega
 have hp : 0 < 2 ^ t := Nat.pow_pos (by decide)
 obtain ⟨L, hL⟩ : ∃ L, 2 ^ t = L + 1 := ⟨2 ^ t - 1, by omega⟩
 have h8 : L + 1 <= 8 := by
   rw [<- hL]
   have : 2 ^ t <= 2 ^ 3 := Nat.pow_le_pow_right (by decide) (by omega)
   omega
 rw [hL, List.take_succ_cons, val, Xa]
 have l1 : (xs.take L).length = L := by rw [List.length_take]; omega
 have v1 := jbz (xs.take L)
 rw [l1] at v1 ⊢
 have k1 : 8 * (L + 1) - 2 = 6 + 8 * L := by omega
 have k2 : 2 ^ (6 + 8 * L) = 64 * 256 ^ L := by rw [Nat.pow_add, Nat.pow_mul]
 have x1 : x.toNat = 64 * t + x.toNat % 64 := by omega
 have x2 : x.toNat % 64 < 64 := Nat.mod_lt _ (by decide)
 have b1 : x.toNat * 256 ^ L + val (xs.take L) 0 < 256 ^ (L + 1) := by
   have h3 : (x.toNat + 1) * 256 ^ L <= 256 * 256 ^ L := Nat.mul_le_mul_right _ (by have := x.toNat_lt; omega)
   rw [Nat.add_mul] at h3
   rw [Nat.pow_succ']; omega
 have b2 : 256 ^ (L + 1) <= 256 ^ 8 := Nat.pow_le_pow_right (by decide) h8
 rw [Nat.zero_mul, Nat.zero_add, k1, k2]
 refine ⟨?_, by simp at b2 ⊢; omega⟩
 have e : x.toNat * 256 ^ L + val (xs.take L) 0 = 64 * 256 ^ L * t + (x.toNat % 64 * 256 ^ L + val (xs.take L) 0) := by
   conv => lhs; rw [x1]
   rw [Nat.add_mul, Nat.add_assoc, Nat.mul_right_comm]
 have r1 : x.toNat % 64 * 256 ^ L + val (xs.take L) 0 < 64 * 256 ^ L := by
   have h3 : (x.toNat % 64 + 1) * 256 ^ L <= 64 * 256 ^ L := Nat.mul_le_mul_right _ (by omega)
   rw [Nat.add_mul] at h3; omega
 rw [e, Nat.mul_add_mod, Nat.mod_eq_of_lt r1]
end Go.Idl.Sb
namespace Go.Idl.Sb
open Go Go.Idl Go.Idl.En
variable {F : jJ}
theorem jcs (h : F 93 = some Zd) (h41 : F 41 = some K9) (h80 : F 80 = some Xc) (h81 : F 81 = some Va) {s : List UInt8} {x : Nat} {w : Re} {σ : List IObj} (hx : σ[x]? = some (w.ob s)) (hs : s.length < 1000000) (hp : w.pos <= s.length) :
   cfw F (.f 93) [.ptr x 0] σ = some ⟨false, .tup [Q (JM (s.drop w.pos)).1, I (JM (s.drop w.pos)).2.1, I (JM (s.drop w.pos)).2.2], σ, []⟩ := by
 rw [jQ Zd h, jq]
 have lf := fun σ' (h' : σ'[x]? = some (w.ob s)) => Ys h41 h' hs hp
 have lf0 := lf σ hx
 have so := fun n σ => jdG h80 h81 n σ
 obtain ⟨pos, er⟩ := w
 simp only [] at hp lf0 ⊢
 by_cases h0 : pos = s.length
 . have d0 : s.drop pos = [] := by rw [List.drop_of_length_le (by omega)]
   have l0 : s.length - pos = 0 := by omega
   have z0 : (((0 : Nat) : Int) == 0) = true := rfl
   simp only [d0, JM, l0, lf0, z0, Zd, zV, zS, jy, jM, jc, jk, jR, jg, jl, je, jr, jO, jf, jj, jp, jK, ju, jq, Ts.fill, jS, jP, jh, jT, jo, jm, ji, ja, getAll, stepCall, jn, unI, Opd.get, jx, tag, jv, jb, jI, rv, bin, jW, Nat.reduceAdd, Nat.reduceSub, Nat.reduceMul, Nat.reduceDiv, Nat.reduceMod, Nat.reducePow, Nat.reduceLT, Nat.reduceLeDiff, Nat.reduceEqDiff, Nat.reduceBEq, Nat.reduceBNe, reduceIte, Int.reduceEq, Int.reduceLT, Int.reduceLE, Int.reduceNeg, Int.reduceToNat, Int.reduceMul, Int.reduceAdd, Int.reduceSub, reduceCtorEq]
   try rfl
 . have hlt : pos < s.length := by omega
   have g1 : s[pos]? = some s[pos] := List.getElem?_eq_getElem hlt
   rw [List.drop_eq_getElem_cons hlt]
   generalize hc : s[pos] = c at *
   generalize ht : c.toNat / 64 = t
   have c2 := c.toNat_lt
   have ht4 : t < 4 := by omega
   have by81 := fun σ => Qt h81 ht4 σ
   have z0 : (((s.length - pos : Nat) : Int) == 0) = false := by simp; omega
   have k6 : min 6 IntKind.u8.bits = 6 := rfl
   have w1 : IntKind.i64.wrap ((t : Nat) : Int) = (t : Int) := qW (by omega) (by omega)
   have d1 : (0 : Int) <= (pos : Int) := by omega
   have f6 : (c.toNat : Int).fdiv (2 ^ 6) = ((t : Nat) : Int) := by rw [fd]; rw [<- ht]
   rw [JM]
   simp only [ht]
   by_cases hl : (s.drop (pos + 1)).length + 1 < 2 ^ t
   . have l1 : decide (((s.length - pos : Nat) : Int) < ((2 ^ t : Nat) : Int)) = true := by
       rw [List.length_drop] at hl
       exact decide_eq_true (by omega)
     rw [if_pos hl]
     simp only [Zd, jG, hx, Re.ob, lf0, z0, g1, k6, w1, d1, f6, by81, l1, vy, yk, Int.toNat_natCast, zV, zS, jy, jM, jc, jk, jR, jg, jl, je, jr, jO, jf, jj, jp, jK, ju, jq, Ts.fill, jS, jP, jh, jT, jo, jm, ji, ja, getAll, stepCall, jn, unI, Opd.get, jx, tag, jv, jb, jI, rv, bin, jW, Nat.reduceAdd, Nat.reduceSub, Nat.reduceMul, Nat.reduceDiv, Nat.reduceMod, Nat.reducePow, Nat.reduceLT, Nat.reduceLeDiff, Nat.reduceEqDiff, Nat.reduceBEq, Nat.reduceBNe, reduceIte, Int.reduceEq, Int.reduceLT, Int.reduceLE, Int.reduceNeg, Int.reduceToNat, Int.reduceMul, Int.reduceAdd, Int.reduceSub, reduceCtorEq]
     try rfl
   . rw [if_neg hl]
     have hlen := hl
     rw [List.length_drop] at hlen
     have k8 : 2 ^ t <= 8 := by
       have : 2 ^ t <= 2 ^ 3 := Nat.pow_le_pow_right (by decide) (by omega)
       omega
     have ⟨l1, w2, d2, q1, q2⟩ : decide (((s.length - pos : Nat) : Int) < ((2 ^ t : Nat) : Int)) = false /\ IntKind.i64.wrap ((pos : Int) + ((2 ^ t : Nat) : Int)) = ((pos + 2 ^ t : Nat) : Int) /\ (0 : Int) <= ((pos + 2 ^ t : Nat) : Int) /\ pos <= pos + 2 ^ t /\ pos + 2 ^ t <= s.length := by
       clear by81 hl
       generalize 2 ^ t = M at *
       refine ⟨decide_eq_false (by omega), by rw [qW (by omega) (by omega)]; omega, by omega, by omega, by omega⟩
     have sl : (s.take (pos + 2 ^ t)).drop pos = (c :: s.drop (pos + 1)).take (2 ^ t) := by
       rw [<- hc, <- List.drop_eq_getElem_cons hlt, List.drop_take]; congr 1; omega
     obtain ⟨v1, v2⟩ := KA ht hl
     have sll : ((c :: s.drop (pos + 1)).take (2 ^ t)).length = 2 ^ t := by rw [List.length_take, List.length_cons, List.length_drop]; omega
     simp only [Zd, jG, hx, Re.ob, lf0, z0, g1, k6, w1, w2, d1, d2, q1, q2, f6, by81, l1, sl, Option.toList_some, Option.toList_none, qA, nat, vy, yk, Int.toNat_natCast, zV, zS, jy, jM, jc, jk, jR, jg, jl, je, jr, jO, jf, jj, jp, jK, ju, jq, Ts.fill, jS, jP, jh, jT, jo, jm, ji, ja, getAll, stepCall, jn, unI, Opd.get, jx, tag, jv, jb, jI, rv, bin, jW, Nat.reduceAdd, Nat.reduceSub, Nat.reduceMul, Nat.reduceDiv, Nat.reduceMod, Nat.reducePow, Nat.reduceLT, Nat.reduceLeDiff, Nat.reduceEqDiff, Nat.reduceBEq, Nat.reduceBNe, reduceIte, Int.reduceEq, Int.reduceLT, Int.reduceLE, Int.reduceNeg, Int.reduceToNat, Int.reduceMul, Int.reduceAdd, Int.reduceSub, reduceCtorEq]
     generalize hxs : (c :: s.drop (pos + 1)).take (2 ^ t) = xs at *
     generalize hE : evw F (ICode.loop Ke) _ = R
     obtain ⟨f1, rfl, a2, ar⟩ := jgp (xs := xs) (by omega) xs.length 0 0 _ R hE (by omega) (by decide) (by (try simp only [upd_get, base_get, Nat.reduceAdd, Nat.reduceSub, Nat.reduceMul, Nat.reduceDiv, Nat.reduceMod, Nat.reducePow, Nat.reduceLT, Nat.reduceLeDiff, Nat.reduceEqDiff, Nat.reduceBEq, Nat.reduceBNe, reduceIte, Int.reduceEq, Int.reduceLT, Int.reduceLE, Int.reduceNeg, Int.reduceToNat, Int.reduceMul, Int.reduceAdd, Int.reduceSub, Int.cast_ofNat_Int, reduceCtorEq, Nat.zero_add, Nat.add_zero, Nat.mul_one]) <;> rfl) (by (try simp only [upd_get, base_get, Nat.reduceAdd, Nat.reduceSub, Nat.reduceMul, Nat.reduceDiv, Nat.reduceMod, Nat.reducePow, Nat.reduceLT, Nat.reduceLeDiff, Nat.reduceEqDiff, Nat.reduceBEq, Nat.reduceBNe, reduceIte, Int.reduceEq, Int.reduceLT, Int.reduceLE, Int.reduceNeg, Int.reduceToNat, Int.reduceMul, Int.reduceAdd, Int.reduceSub, Int.cast_ofNat_Int, reduceCtorEq, Nat.zero_add, Nat.add_zero, Nat.mul_one]) <;> rfl) (by (try simp only [upd_get, base_get, Nat.reduceAdd, Nat.reduceSub, Nat.reduceMul, Nat.reduceDiv, Nat.reduceMod, Nat.reducePow, Nat.reduceLT, Nat.reduceLeDiff, Nat.reduceEqDiff, Nat.reduceBEq, Nat.reduceBNe, reduceIte, Int.reduceEq, Int.reduceLT, Int.reduceLE, Int.reduceNeg, Int.reduceToNat, Int.reduceMul, Int.reduceAdd, Int.reduceSub, Int.cast_ofNat_Int, reduceCtorEq, Nat.zero_add, Nat.add_zero, Nat.mul_one]) <;> rfl) (by (try simp only [upd_get, base_get, Nat.reduceAdd, Nat.reduceSub, Nat.reduceMul, Nat.reduceDiv, Nat.reduceMod, Nat.reducePow, Nat.reduceLT, Nat.reduceLeDiff, Nat.reduceEqDiff, Nat.reduceBEq, Nat.reduceBNe, reduceIte, Int.reduceEq, Int.reduceLT, Int.reduceLE, Int.reduceNeg, Int.reduceToNat, Int.reduceMul, Int.reduceAdd, Int.reduceSub, Int.cast_ofNat_Int, reduceCtorEq, Nat.zero_add, Nat.add_zero, Nat.mul_one]) <;> rfl)
     have a3 : f1 3 = some (3, I ((2 ^ t : Nat) : Int)) := by rw [ar 3 (by simp)]; exact (by (try simp only [upd_get, base_get, Nat.reduceAdd, Nat.reduceSub, Nat.reduceMul, Nat.reduceDiv, Nat.reduceMod, Nat.reducePow, Nat.reduceLT, Nat.reduceLeDiff, Nat.reduceEqDiff, Nat.reduceBEq, Nat.reduceBNe, reduceIte, Int.reduceEq, Int.reduceLT, Int.reduceLE, Int.reduceNeg, Int.reduceToNat, Int.reduceMul, Int.reduceAdd, Int.reduceSub, Int.cast_ofNat_Int, reduceCtorEq, Nat.zero_add, Nat.add_zero, Nat.mul_one]) <;> rfl)
     have a5 : f1 5 = some (5, I (t : Int)) := by rw [ar 5 (by simp)]; exact (by (try simp only [upd_get, base_get, Nat.reduceAdd, Nat.reduceSub, Nat.reduceMul, Nat.reduceDiv, Nat.reduceMod, Nat.reducePow, Nat.reduceLT, Nat.reduceLeDiff, Nat.reduceEqDiff, Nat.reduceBEq, Nat.reduceBNe, reduceIte, Int.reduceEq, Int.reduceLT, Int.reduceLE, Int.reduceNeg, Int.reduceToNat, Int.reduceMul, Int.reduceAdd, Int.reduceSub, Int.cast_ofNat_Int, reduceCtorEq, Nat.zero_add, Nat.add_zero, Nat.mul_one]) <;> rfl)
     have u1 : IntKind.u64.wrap ((t : Nat) : Int) = ((t : Nat) : Int) := kN (by omega) (by omega)
     obtain ⟨y1, y2, y3⟩ := shw ht4
     rw [Int.toNat_natCast] at y3
     have an := jh7 v1 v2
     rw [List.drop_zero] at a2
     generalize hn : val xs 0 % 2 ^ (8 * 2 ^ t - 2) = n at *
     have so2 := fun σ => so n σ
     by_cases hs2 : srt n = t
     . have z1 : (((srt n : Nat) : Int) != (t : Int)) = false := by simp [hs2]
       rw [if_pos hs2]
       simp only [a2, a3, a5, u1, y1, y2, y3, an, so2, z1, vy, yk, Int.toNat_natCast, zV, zS, jy, jM, jc, jk, jR, jg, jl, je, jr, jO, jf, jj, jp, jK, ju, jq, Ts.fill, jS, jP, jh, jT, jo, jm, ji, ja, getAll, stepCall, jn, unI, Opd.get, jx, tag, jv, jb, jI, rv, bin, jW, Nat.reduceAdd, Nat.reduceSub, Nat.reduceMul, Nat.reduceDiv, Nat.reduceMod, Nat.reducePow, Nat.reduceLT, Nat.reduceLeDiff, Nat.reduceEqDiff, Nat.reduceBEq, Nat.reduceBNe, reduceIte, Int.reduceEq, Int.reduceLT, Int.reduceLE, Int.reduceNeg, Int.reduceToNat, Int.reduceMul, Int.reduceAdd, Int.reduceSub, reduceCtorEq]
       try rfl
     . have z1 : (((srt n : Nat) : Int) != (t : Int)) = true := by simp; omega
       rw [if_neg hs2]
       simp only [a2, a3, a5, u1, y1, y2, y3, an, so2, z1, vy, yk, Int.toNat_natCast, zV, zS, jy, jM, jc, jk, jR, jg, jl, je, jr, jO, jf, jj, jp, jK, ju, jq, Ts.fill, jS, jP, jh, jT, jo, jm, ji, ja, getAll, stepCall, jn, unI, Opd.get, jx, tag, jv, jb, jI, rv, bin, jW, Nat.reduceAdd, Nat.reduceSub, Nat.reduceMul, Nat.reduceDiv, Nat.reduceMod, Nat.reducePow, Nat.reduceLT, Nat.reduceLeDiff, Nat.reduceEqDiff, Nat.reduceBEq, Nat.reduceBNe, reduceIte, Int.reduceEq, Int.reduceLT, Int.reduceLE, Int.reduceNeg, Int.reduceToNat, Int.reduceMul, Int.reduceAdd, Int.reduceSub, reduceCtorEq]
       try rfl
end Go.Idl.Sb
namespace Go.Idl.Sb
open Go Go.Idl Go.Idl.En
variable {F : jJ}
theorem jaR : ∀ (xs : List UInt8), (JM xs).2.1 <= xs.length
 | [] => Nat.le_refl _
 | x :: xs => by
   rw [JM]
   generalize x.toNat / 64 = t
   simp only []
   split
   . exact Nat.zero_le _
   . split
     . rename_i h _; rw [List.length_cons]; simp only []; omega
     . exact Nat.zero_le _
theorem jaS : ∀ (xs : List UInt8), (JM xs).1 < 4611686018427387904
 | [] => by decide
 | x :: xs => by
   rw [JM]
   have ht : x.toNat / 64 < 4 := by have := x.toNat_lt; omega
   generalize x.toNat / 64 = t at *
   simp only []
   split
   . decide
   . split
     . simp only []
       refine Nat.lt_of_lt_of_le (Nat.mod_lt _ (Nat.pow_pos (by decide))) ?_
       match t, ht with
       | 0, _ => decide
       | 1, _ => decide
       | 2, _ => decide
       | 3, _ => decide
     . decide
theorem jaQ (xs : List UInt8) : (JM xs).2.2 = 0 \/ (JM xs).2.2 = 3 \/ (JM xs).2.2 = 5 := by
 cases xs with
 | nil => exact .inr (.inl rfl)
 | cons x xs =>
   rw [JM]
   simp only []
   split
   . exact .inr (.inl rfl)
   . split
     . exact .inl rfl
     . exact .inr (.inr rfl)
theorem jb8 (w : Re) (c a : Nat) : (w.fail c a).pos = w.pos := by rw [Re.fail]; split <;> rfl
theorem jea (w : Re) (c a : Nat) (s : List UInt8) : (w.fail c a).ob s = .cells [.str s, I w.pos, erI (w.fail c a).er] := by rw [Re.ob, jb8]
theorem qp {x n : Nat} {wr : List (Nat × Bool)} (h : wr.all (fun q => !q.2 && q.1 == x) = true) (hx : x < n) : wr.all (fun p => !p.2 || decide (n <= p.1)) = true /\ wr.filter (fun p => decide (p.1 < n)) = wr := by
 rw [List.all_eq_true] at h ⊢
 refine ⟨fun q hq => ?_, List.filter_eq_self.mpr fun q hq => ?_⟩
 . have := h q hq; simp at this; simp [this]
 . have := h q hq; simp at this; simp [this, hx]
/-- A number is read. -/
def Re.u (s : List UInt8) (w : Re) : Re × Nat := if w.er.isSome then (w, 0) else (⟨w.pos + (JM (s.drop w.pos)).2.1, (w.fail (JM (s.drop w.pos)).2.2 w.pos).er⟩, (JM (s.drop w.pos)).1)
theorem u89 (h : F 89 = some jar) (h87 : F 87 = some QC) (h40 : F 40 = some KM) (h93 : F 93 = some Zd) (h41 : F 41 = some K9) (h80 : F 80 = some Xc) (h81 : F 81 = some Va) {s : List UInt8} {x : Nat} {w : Re} {σ : List IObj} (hx : σ[x]? = some (w.ob s)) (hs : s.length < 1000000) (hp : w.pos <= s.length) :
   ∃ wr, cfw F (.f 89) [.ptr x 0] σ = some ⟨false, Q (w.u s).2, σ.set x ((w.u s).1.ob s), wr⟩ /\ wr.all (fun q => !q.2 && q.1 == x) = true := by
 rw [jQ jar h, jq]
 have b0 := ZU h40 hx
 have n0 := jcs h93 h41 h80 h81 hx hs hp
 have l0 := jd hx
 have l4 := decide_eq_true l0
 cases he : w.er with
 | some e =>
   rw [Re.u, he]
   rw [he] at b0
   simp only [jar, b0, Option.isSome, zV, zS, jy, jM, jc, jk, jR, jg, jl, je, jr, jO, jf, jj, jp, jK, ju, jq, Ts.fill, jS, jP, jh, jT, jo, jm, ji, ja, getAll, stepCall, jn, unI, Opd.get, jx, tag, jv, jb, jI, rv, bin, jW, Nat.reduceAdd, Nat.reduceSub, Nat.reduceMul, Nat.reduceDiv, Nat.reduceMod, Nat.reducePow, Nat.reduceLT, Nat.reduceLeDiff, Nat.reduceEqDiff, Nat.reduceBEq, Nat.reduceBNe, reduceIte, Int.reduceEq, Int.reduceLT, Int.reduceLE, Int.reduceNeg, Int.reduceToNat, Int.reduceMul, Int.reduceAdd, Int.reduceSub, reduceCtorEq]
   exact ⟨[], by simp [ko hx], rfl⟩
 | none =>
   rw [he] at b0
   obtain ⟨wr, f0, hw⟩ := Yl h87 h40 (c := (JM (s.drop w.pos)).2.2) (a := w.pos) hx
   obtain ⟨wp1, wp2⟩ := qp hw l0
   rw [jea] at f0
   have l1 := fun o => vd (σ := σ) (o := o) l0
   have w1 : IntKind.i64.wrap ((w.pos : Int) + ((JM (s.drop w.pos)).2.1 : Int)) = ((w.pos + (JM (s.drop w.pos)).2.1 : Nat) : Int) := by
     have := jaR (s.drop w.pos)
     rw [List.length_drop] at this
     rw [qW (by omega) (by omega)]; omega
   rw [Re.u, he]
   have e2 : (none : Option (Nat × Nat)).isSome = false := rfl
   simp only [e2, if_neg, Bool.false_eq_true, Re.ob]
   rw [Re.ob] at hx
   simp only [jar, jG, hx, b0, n0, f0, l0, l1, l4, w1, wp1, wp2, List.set_set, List.length_set, take_set, List.all_append, List.filter_append, Option.isSome, zV, zS, jy, jM, jc, jk, jR, jg, jl, je, jr, jO, jf, jj, jp, jK, ju, jq, Ts.fill, jS, jP, jh, jT, jo, jm, ji, ja, getAll, stepCall, jn, unI, Opd.get, jx, tag, jv, jb, jI, rv, bin, jW, Nat.reduceAdd, Nat.reduceSub, Nat.reduceMul, Nat.reduceDiv, Nat.reduceMod, Nat.reducePow, Nat.reduceLT, Nat.reduceLeDiff, Nat.reduceEqDiff, Nat.reduceBEq, Nat.reduceBNe, reduceIte, Int.reduceEq, Int.reduceLT, Int.reduceLE, Int.reduceNeg, Int.reduceToNat, Int.reduceMul, Int.reduceAdd, Int.reduceSub, reduceCtorEq]
   exact ⟨_, rfl, by simp [hw]⟩
end Go.Idl.Sb
namespace Go.Idl.Sb
open Go Go.Idl Go.Idl.En
variable {F : jJ}
def KY (n : Nat) : Int := if n % 2 = 0 then ((n / 2 : Nat) : Int) else -((n / 2 : Nat) : Int) - 1
theorem jh6 (n : Nat) : IntKind.u64.wrap (((BitVec.ofInt IntKind.u64.bits (n : Int) &&& BitVec.ofInt IntKind.u64.bits 1).toNat : Nat) : Int) = ((n % 2 : Nat) : Int) := by
 have e1 : (BitVec.ofInt IntKind.u64.bits (n : Int) &&& BitVec.ofInt IntKind.u64.bits 1).toNat = n % 2 := by
   rw [BitVec.toNat_and]
   have a1 : (BitVec.ofInt IntKind.u64.bits (n : Int)).toNat = n % 2 ^ 64 := by
     show (BitVec.ofInt 64 (n : Int)).toNat = _
     rw [BitVec.toNat_ofInt]; omega
   have a2 : (BitVec.ofInt IntKind.u64.bits 1).toNat = 2 ^ 1 - 1 := rfl
   rw [a1, a2, Nat.and_two_pow_sub_one_eq_mod]
   omega
 rw [e1, kN (by omega) (by omega)]
theorem jbx {n : Nat} (h : n < 4611686018427387904) : IntKind.i64.wrap (((BitVec.ofInt IntKind.i64.bits (IntKind.i64.wrap ((n / 2 ^ 1 : Nat) : Int)) ^^^ BitVec.ofInt IntKind.i64.bits (IntKind.i64.wrap (0 - IntKind.i64.wrap ((n % 2 : Nat) : Int)))).toNat : Nat) : Int) = KY n := by
 have w1 : IntKind.i64.wrap ((n / 2 ^ 1 : Nat) : Int) = ((n / 2 : Nat) : Int) := qW (by omega) (by omega)
 have w2 : IntKind.i64.wrap ((n % 2 : Nat) : Int) = ((n % 2 : Nat) : Int) := qW (by omega) (by omega)
 have w3 : IntKind.i64.wrap (0 - ((n % 2 : Nat) : Int)) = -((n % 2 : Nat) : Int) := by rw [qW (by omega) (by omega)]; omega
 rw [w1, w2, w3]
 unfold KY
 split
 . rename_i h0
   rw [h0]
   have e3 : (BitVec.ofInt IntKind.i64.bits ((n / 2 : Nat) : Int) ^^^ BitVec.ofInt IntKind.i64.bits (-((0 : Nat) : Int))).toNat = n / 2 := by
     show (BitVec.ofInt 64 ((n / 2 : Nat) : Int) ^^^ 0#64).toNat = _
     rw [BitVec.xor_zero, BitVec.toNat_ofInt]; omega
   rw [e3, qW (by omega) (by omega)]
 . rename_i h0
   have h1 : n % 2 = 1 := by omega
   rw [h1]
   have e3 : (BitVec.ofInt IntKind.i64.bits ((n / 2 : Nat) : Int) ^^^ BitVec.ofInt IntKind.i64.bits (-((1 : Nat) : Int))).toNat = 18446744073709551615 - n / 2 := by
     show (BitVec.ofInt 64 ((n / 2 : Nat) : Int) ^^^ BitVec.ofInt 64 (-1)).toNat = _
     have e4 : BitVec.ofInt 64 (-1) = BitVec.allOnes 64 := by decide
     rw [e4, BitVec.xor_allOnes, BitVec.toNat_not, BitVec.toNat_ofInt]; omega
   rw [e3]
   have : IntKind.i64.wrap ((18446744073709551615 - n / 2 : Nat) : Int) = -((n / 2 : Nat) : Int) - 1 := by
     simp only [IntKind.wrap, IntKind.bits, IntKind.signed]; simp; omega
   exact this
theorem jgU (s : List UInt8) (w : Re) : (w.u s).2 < 4611686018427387904 := by
 rw [Re.u]; split
 . show 0 < 4611686018427387904
   decide
 . exact jaS _
theorem i92 (h : F 92 = some jds) (h89 : F 89 = some jar) (h87 : F 87 = some QC) (h40 : F 40 = some KM) (h93 : F 93 = some Zd) (h41 : F 41 = some K9) (h80 : F 80 = some Xc) (h81 : F 81 = some Va) {s : List UInt8} {x : Nat} {w : Re} {σ : List IObj} (hx : σ[x]? = some (w.ob s)) (hs : s.length < 1000000) (hp : w.pos <= s.length) :
   ∃ wr, cfw F (.f 92) [.ptr x 0] σ = some ⟨false, I (KY (w.u s).2), σ.set x ((w.u s).1.ob s), wr⟩ /\ wr.all (fun q => !q.2 && q.1 == x) = true := by
 rw [jQ jds h, jq]
 obtain ⟨wr, u0, hw⟩ := u89 h89 h87 h40 h93 h41 h80 h81 hx hs hp
 have l0 := jd hx
 obtain ⟨wp1, wp2⟩ := qp hw l0
 have z1 := jbx (jgU s w)
 have a1 := jh6 (w.u s).2
 have m1 : min 1 IntKind.u64.bits = 1 := rfl
 simp only [jds, u0, z1, a1, m1, fd, wp1, wp2, vy, Int.reduceToNat, List.length_set, take_set, zV, zS, jy, jM, jc, jk, jR, jg, jl, je, jr, jO, jf, jj, jp, jK, ju, jq, Ts.fill, jS, jP, jh, jT, jo, jm, ji, ja, getAll, stepCall, jn, unI, Opd.get, jx, tag, jv, jb, jI, rv, bin, jW, Nat.reduceAdd, Nat.reduceSub, Nat.reduceMul, Nat.reduceDiv, Nat.reduceMod, Nat.reducePow, Nat.reduceLT, Nat.reduceLeDiff, Nat.reduceEqDiff, Nat.reduceBEq, Nat.reduceBNe, reduceIte, Int.reduceEq, Int.reduceLT, Int.reduceLE, Int.reduceNeg, Int.reduceMul, Int.reduceAdd, Int.reduceSub, reduceCtorEq]
 exact ⟨_, rfl, hw⟩
/-- A byte is read. -/
def Re.b (s : List UInt8) (w : Re) : Re × Nat := if w.er.isSome then (w, 0) else match s[w.pos]? with
 | none => (⟨w.pos, some (3, w.pos)⟩, 0)
 | some c => (⟨w.pos + 1, none⟩, c.toNat)
theorem b82 (h : F 82 = some Zc) (h87 : F 87 = some QC) (h40 : F 40 = some KM) (h41 : F 41 = some K9) {s : List UInt8} {x : Nat} {w : Re} {σ : List IObj} (hx : σ[x]? = some (w.ob s)) (hs : s.length < 1000000) (hp : w.pos <= s.length) :
   ∃ wr, cfw F (.f 82) [.ptr x 0] σ = some ⟨false, B (w.b s).2, σ.set x ((w.b s).1.ob s), wr⟩ /\ wr.all (fun q => !q.2 && q.1 == x) = true := by
 rw [jQ Zc h, jq]
 have b0 := ZU h40 hx
 have n0 := Ys h41 hx hs hp
 have l0 := jd hx
 have l4 := decide_eq_true l0
 obtain ⟨pos, er⟩ := w
 cases er with
 | some e =>
   simp only [Zc, b0, Option.isSome, zV, zS, jy, jM, jc, jk, jR, jg, jl, je, jr, jO, jf, jj, jp, jK, ju, jq, Ts.fill, jS, jP, jh, jT, jo, jm, ji, ja, getAll, stepCall, jn, unI, Opd.get, jx, tag, jv, jb, jI, rv, bin, jW, Nat.reduceAdd, Nat.reduceSub, Nat.reduceMul, Nat.reduceDiv, Nat.reduceMod, Nat.reducePow, Nat.reduceLT, Nat.reduceLeDiff, Nat.reduceEqDiff, Nat.reduceBEq, Nat.reduceBNe, reduceIte, Int.reduceEq, Int.reduceLT, Int.reduceLE, Int.reduceNeg, Int.reduceToNat, Int.reduceMul, Int.reduceAdd, Int.reduceSub, reduceCtorEq]
   exact ⟨[], by simp [Re.b, ko hx], rfl⟩
 | none =>
   obtain ⟨wr, f0, hw⟩ := Yl h87 h40 (c := 3) (a := pos) hx
   have f0 : cfw F (.f 87) [.ptr x 0, I 3, I pos] σ = some ⟨false, .tup [], σ.set x (Re.ob s ⟨pos, some (3, pos)⟩), wr⟩ := f0
   obtain ⟨wp1, wp2⟩ := qp hw l0
   have l1 := fun o => vd (σ := σ) (o := o) l0
   have hx2 := hx
   rw [Re.ob] at hx
   simp only [] at hp hx n0
   by_cases h0 : pos = s.length
   . have g0 : s[pos]? = none := List.getElem?_eq_none (by omega)
     have z0 : (((s.length - pos : Nat) : Int) == 0) = true := by simp; omega
     simp only [Zc, jG, b0, n0, hx, z0, f0, wp1, wp2, List.set_set, List.length_set, take_set, Option.isSome, zV, zS, jy, jM, jc, jk, jR, jg, jl, je, jr, jO, jf, jj, jp, jK, ju, jq, Ts.fill, jS, jP, jh, jT, jo, jm, ji, ja, getAll, stepCall, jn, unI, Opd.get, jx, tag, jv, jb, jI, rv, bin, jW, Nat.reduceAdd, Nat.reduceSub, Nat.reduceMul, Nat.reduceDiv, Nat.reduceMod, Nat.reducePow, Nat.reduceLT, Nat.reduceLeDiff, Nat.reduceEqDiff, Nat.reduceBEq, Nat.reduceBNe, reduceIte, Int.reduceEq, Int.reduceLT, Int.reduceLE, Int.reduceNeg, Int.reduceToNat, Int.reduceMul, Int.reduceAdd, Int.reduceSub, reduceCtorEq]
     exact ⟨wr, by simp [Re.b, g0], hw⟩
   . have hlt : pos < s.length := by omega
     have g1 : s[pos]? = some s[pos] := List.getElem?_eq_getElem hlt
     have z0 : (((s.length - pos : Nat) : Int) == 0) = false := by simp; omega
     have w1 := yz (n := pos) (by omega)
     have d1 : (0 : Int) <= (pos : Int) := by omega
     simp only [Zc, jG, b0, n0, hx, z0, g1, d1, w1, l0, l1, l4, List.set_set, List.length_set, take_set, Int.toNat_natCast, Option.isSome, zV, zS, jy, jM, jc, jk, jR, jg, jl, je, jr, jO, jf, jj, jp, jK, ju, jq, Ts.fill, jS, jP, jh, jT, jo, jm, ji, ja, getAll, stepCall, jn, unI, Opd.get, jx, tag, jv, jb, jI, rv, bin, jW, Nat.reduceAdd, Nat.reduceSub, Nat.reduceMul, Nat.reduceDiv, Nat.reduceMod, Nat.reducePow, Nat.reduceLT, Nat.reduceLeDiff, Nat.reduceEqDiff, Nat.reduceBEq, Nat.reduceBNe, reduceIte, Int.reduceEq, Int.reduceLT, Int.reduceLE, Int.reduceNeg, Int.reduceToNat, Int.reduceMul, Int.reduceAdd, Int.reduceSub, reduceCtorEq]
     exact ⟨_, by simp [Re.b, Re.ob, g1, erI]; rfl, by simp⟩
/-- A truth is read. -/
def Re.t (s : List UInt8) (w : Re) : Re × Bool := if w.er.isSome then (w, false) else match s[w.pos]? with
 | none => (⟨w.pos, some (3, w.pos)⟩, false)
 | some c => if c.toNat > 1 then (⟨w.pos, some (5, w.pos)⟩, false) else (⟨w.pos + 1, none⟩, c.toNat == 1)
theorem t91 (h : F 91 = some jat) (h82 : F 82 = some Zc) (h87 : F 87 = some QC) (h40 : F 40 = some KM) (h41 : F 41 = some K9) {s : List UInt8} {x : Nat} {w : Re} {σ : List IObj} (hx : σ[x]? = some (w.ob s)) (hs : s.length < 1000000) (hp : w.pos <= s.length) :
   ∃ wr, cfw F (.f 91) [.ptr x 0] σ = some ⟨false, .bool (w.t s).2, σ.set x ((w.t s).1.ob s), wr⟩ /\ wr.all (fun q => !q.2 && q.1 == x) = true := by
 rw [jQ jat h, jq]
 have b0 := ZU h40 hx
 have n0 := Ys h41 hx hs hp
 have l0 := jd hx
 have l4 := decide_eq_true l0
 obtain ⟨wr2, bb, hw2⟩ := b82 h82 h87 h40 h41 hx hs hp
 obtain ⟨wp3, wp4⟩ := qp hw2 l0
 obtain ⟨pos, er⟩ := w
 cases er with
 | some e =>
   have e1 : Re.b s ⟨pos, some e⟩ = (⟨pos, some e⟩, 0) := rfl
   rw [e1] at bb
   have z1 : (((0 : Nat) : Int) == 1) = false := rfl
   simp only [jat, b0, bb, z1, wp3, wp4, jl, List.length_set, take_set, Option.isSome, zV, zS, jy, jM, jc, jk, jR, jg, je, jr, jO, jf, jj, jp, jK, ju, jq, Ts.fill, jS, jP, jh, jT, jo, jm, ji, ja, getAll, stepCall, jn, unI, Opd.get, jx, tag, jv, jb, jI, rv, bin, jW, Nat.reduceAdd, Nat.reduceSub, Nat.reduceMul, Nat.reduceDiv, Nat.reduceMod, Nat.reducePow, Nat.reduceLT, Nat.reduceLeDiff, Nat.reduceEqDiff, Nat.reduceBEq, Nat.reduceBNe, reduceIte, Int.reduceEq, Int.reduceLT, Int.reduceLE, Int.reduceNeg, Int.reduceToNat, Int.reduceMul, Int.reduceAdd, Int.reduceSub, reduceCtorEq]
   exact ⟨_, by simp [Re.t], hw2⟩
 | none =>
   obtain ⟨wr, f0, hw⟩ := Yl h87 h40 (c := 5) (a := pos) hx
   have f0 : cfw F (.f 87) [.ptr x 0, I 5, I pos] σ = some ⟨false, .tup [], σ.set x (Re.ob s ⟨pos, some (5, pos)⟩), wr⟩ := f0
   obtain ⟨wp1, wp2⟩ := qp hw l0
   have l1 := fun o => vd (σ := σ) (o := o) l0
   have hx2 := hx
   rw [Re.ob] at hx
   simp only [] at hp hx n0
   by_cases h0 : pos = s.length
   . have g0 : s[pos]? = none := List.getElem?_eq_none (by omega)
     have z0 : decide (((s.length - pos : Nat) : Int) > 0) = false := decide_eq_false (by omega)
     have e1 : Re.b s ⟨pos, none⟩ = (⟨pos, some (3, pos)⟩, 0) := by simp [Re.b, g0]
     have e2 : Re.t s ⟨pos, none⟩ = (⟨pos, some (3, pos)⟩, false) := by simp [Re.t, g0]
     rw [e1] at bb
     have z1 : (((0 : Nat) : Int) == 1) = false := rfl
     rw [e2]
     simp only [jat, jG, b0, n0, hx, z0, bb, z1, wp3, wp4, jl, List.set_set, List.length_set, take_set, Option.isSome, zV, zS, jy, jM, jc, jk, jR, jg, je, jr, jO, jf, jj, jp, jK, ju, jq, Ts.fill, jS, jP, jh, jT, jo, jm, ji, ja, getAll, stepCall, jn, unI, Opd.get, jx, tag, jv, jb, jI, rv, bin, jW, Nat.reduceAdd, Nat.reduceSub, Nat.reduceMul, Nat.reduceDiv, Nat.reduceMod, Nat.reducePow, Nat.reduceLT, Nat.reduceLeDiff, Nat.reduceEqDiff, Nat.reduceBEq, Nat.reduceBNe, reduceIte, Int.reduceEq, Int.reduceLT, Int.reduceLE, Int.reduceNeg, Int.reduceToNat, Int.reduceMul, Int.reduceAdd, Int.reduceSub, reduceCtorEq]
     exact ⟨_, rfl, hw2⟩
   . have hlt : pos < s.length := by omega
     have g1 : s[pos]? = some s[pos] := List.getElem?_eq_getElem hlt
     have z0 : decide (((s.length - pos : Nat) : Int) > 0) = true := decide_eq_true (by omega)
     have d1 : (0 : Int) <= (pos : Int) := by omega
     generalize hc : s[pos] = c at *
     by_cases h1 : c.toNat > 1
     . have c1 : decide ((c.toNat : Int) > 1) = true := decide_eq_true (by omega)
       obtain ⟨wr3, b3, hw3⟩ := b82 (σ := σ.set x (Re.ob s ⟨pos, some (5, pos)⟩)) (w := ⟨pos, some (5, pos)⟩) h82 h87 h40 h41 (l1 _) hs hp
       have e1 : Re.b s ⟨pos, some (5, pos)⟩ = (⟨pos, some (5, pos)⟩, 0) := rfl
       rw [e1, List.set_set] at b3
       have e2 : Re.t s ⟨pos, none⟩ = (⟨pos, some (5, pos)⟩, false) := by simp [Re.t, g1, h1]
       have z1 : (((0 : Nat) : Int) == 1) = false := rfl
       obtain ⟨wp5, wp6⟩ := qp hw3 l0
       rw [e2]
       simp only [jat, jG, b0, n0, hx, z0, g1, d1, c1, f0, b3, z1, wp1, wp2, wp5, wp6, List.all_append, List.filter_append, Int.toNat_natCast, List.set_set, List.length_set, take_set, Option.isSome, zV, zS, jy, jM, jc, jk, jR, jg, jl, je, jr, jO, jf, jj, jp, jK, ju, jq, Ts.fill, jS, jP, jh, jT, jo, jm, ji, ja, getAll, stepCall, jn, unI, Opd.get, jx, tag, jv, jb, jI, rv, bin, jW, Nat.reduceAdd, Nat.reduceSub, Nat.reduceMul, Nat.reduceDiv, Nat.reduceMod, Nat.reducePow, Nat.reduceLT, Nat.reduceLeDiff, Nat.reduceEqDiff, Nat.reduceBEq, Nat.reduceBNe, reduceIte, Int.reduceEq, Int.reduceLT, Int.reduceLE, Int.reduceNeg, Int.reduceToNat, Int.reduceMul, Int.reduceAdd, Int.reduceSub, reduceCtorEq]
       exact ⟨_, rfl, by simp [hw, hw3]⟩
     . have c1 : decide ((c.toNat : Int) > 1) = false := decide_eq_false (by omega)
       have e1 : Re.b s ⟨pos, none⟩ = (⟨pos + 1, none⟩, c.toNat) := by simp [Re.b, g1]
       have e2 : Re.t s ⟨pos, none⟩ = (⟨pos + 1, none⟩, c.toNat == 1) := by simp [Re.t, g1, h1]
       rw [e1] at bb
       have z1 : ((c.toNat : Int) == 1) = (c.toNat == 1) := by
         rw [Bool.eq_iff_iff]; simp; omega
       rw [e2]
       simp only [jat, jG, b0, n0, hx, z0, g1, d1, c1, bb, z1, wp3, wp4, jl, Int.toNat_natCast, List.set_set, List.length_set, take_set, Option.isSome, zV, zS, jy, jM, jc, jk, jR, jg, je, jr, jO, jf, jj, jp, jK, ju, jq, Ts.fill, jS, jP, jh, jT, jo, jm, ji, ja, getAll, stepCall, jn, unI, Opd.get, jx, tag, jv, jb, jI, rv, bin, jW, Nat.reduceAdd, Nat.reduceSub, Nat.reduceMul, Nat.reduceDiv, Nat.reduceMod, Nat.reducePow, Nat.reduceLT, Nat.reduceLeDiff, Nat.reduceEqDiff, Nat.reduceBEq, Nat.reduceBNe, reduceIte, Int.reduceEq, Int.reduceLT, Int.reduceLE, Int.reduceNeg, Int.reduceToNat, Int.reduceMul, Int.reduceAdd, Int.reduceSub, reduceCtorEq]
       exact ⟨_, rfl, hw2⟩
end Go.Idl.Sb
namespace Go.Idl.Sb
open Go Go.Idl Go.Idl.En
variable {F : jJ}
theorem tne : (true != false) = true := rfl
/-- It fails, unless that is so. -/
def Re.within (w : Re) (is : Bool) (a : Nat) : Re := if w.er.isSome || is then w else ⟨w.pos, some (4, a)⟩
theorem YQ (h : F 90 = some jas) (h42 : F 42 = some Yp) (h87 : F 87 = some QC) (h40 : F 40 = some KM) {s : List UInt8} {x a : Nat} {is : Bool} {w : Re} {σ : List IObj} (hx : σ[x]? = some (w.ob s)) :
   ∃ wr, cfw F (.f 90) [.agg [.ptr x 0], .bool is, I a] σ = some ⟨false, .bool !(w.within is a).er.isSome, σ.set x ((w.within is a).ob s), wr⟩ /\ wr.all (fun q => !q.2 && q.1 == x) = true := by
 rw [jQ jas h, jq]
 have e0 := jd7 h42 hx
 have l0 := jd hx
 have x1 : ext [.ptr x 0] = true := rfl
 obtain ⟨pos, er⟩ := w
 have i1 : isNil 1 (.prim .nilIface) = some true := rfl
 cases er with
 | some e =>
   obtain ⟨c, a'⟩ := e
   have i2 : isNil 1 (erI (some (c, a'))) = some false := rfl
   simp only [] at e0
   simp only [jas, jG, e0, i2, x1, tne, zV, zS, jy, jM, jc, jk, jR, jg, jl, je, jr, jO, jf, jj, jp, jK, ju, jq, Ts.fill, jS, jP, jh, jT, jo, jm, ji, ja, getAll, stepCall, jn, unI, Opd.get, jx, tag, jv, jb, jI, rv, bin, jW, Nat.reduceAdd, Nat.reduceSub, Nat.reduceMul, Nat.reduceDiv, Nat.reduceMod, Nat.reducePow, Nat.reduceLT, Nat.reduceLeDiff, Nat.reduceEqDiff, Nat.reduceBEq, Nat.reduceBNe, reduceIte, Int.reduceEq, Int.reduceLT, Int.reduceLE, Int.reduceNeg, Int.reduceToNat, Int.reduceMul, Int.reduceAdd, Int.reduceSub, reduceCtorEq]
   exact ⟨[], by simp [Re.within, ko hx], rfl⟩
 | none =>
   have i2 : isNil 1 (erI none) = some true := rfl
   simp only [] at e0
   cases is with
   | true =>
     have u3 : un3 (erI none) = erI none := rfl
     simp only [jas, jG, e0, i2, u3, x1, tne, zV, zS, jy, jM, jc, jk, jR, jg, jl, je, jr, jO, jf, jj, jp, jK, ju, jq, Ts.fill, jS, jP, jh, jT, jo, jm, ji, ja, getAll, stepCall, jn, unI, Opd.get, jx, tag, jv, jb, jI, rv, bin, jW, Nat.reduceAdd, Nat.reduceSub, Nat.reduceMul, Nat.reduceDiv, Nat.reduceMod, Nat.reducePow, Nat.reduceLT, Nat.reduceLeDiff, Nat.reduceEqDiff, Nat.reduceBEq, Nat.reduceBNe, reduceIte, Int.reduceEq, Int.reduceLT, Int.reduceLE, Int.reduceNeg, Int.reduceToNat, Int.reduceMul, Int.reduceAdd, Int.reduceSub, reduceCtorEq]
     exact ⟨[], by simp [Re.within, ko hx], rfl⟩
   | false =>
     obtain ⟨wr, f0, hw⟩ := Yl h87 h40 (c := 4) (a := a) hx
     have f0 : cfw F (.f 87) [.ptr x 0, I 4, I a] σ = some ⟨false, .tup [], σ.set x (Re.ob s ⟨pos, some (4, a)⟩), wr⟩ := f0
     obtain ⟨wp1, wp2⟩ := qp hw l0
     have e3 := jd7 h42 (vd (σ := σ) (o := Re.ob s ⟨pos, some (4, a)⟩) l0)
     have i3 : isNil 1 (erI (some (4, a))) = some false := rfl
     simp only [] at e3
     have u3 : un3 (erI none) = erI none := rfl
     have u4 : un3 (erI (some (4, a))) = erI (some (4, a)) := rfl
     simp only [jas, jG, e0, e3, i2, i3, f0, x1, u3, u4, tne, wp1, wp2, List.length_set, take_set, zV, zS, jy, jM, jc, jk, jR, jg, jl, je, jr, jO, jf, jj, jp, jK, ju, jq, Ts.fill, jS, jP, jh, jT, jo, jm, ji, ja, getAll, stepCall, jn, unI, Opd.get, jx, tag, jv, jb, jI, rv, bin, jW, Nat.reduceAdd, Nat.reduceSub, Nat.reduceMul, Nat.reduceDiv, Nat.reduceMod, Nat.reducePow, Nat.reduceLT, Nat.reduceLeDiff, Nat.reduceEqDiff, Nat.reduceBEq, Nat.reduceBNe, reduceIte, Int.reduceEq, Int.reduceLT, Int.reduceLE, Int.reduceNeg, Int.reduceToNat, Int.reduceMul, Int.reduceAdd, Int.reduceSub, reduceCtorEq]
     exact ⟨wr, by simp [Re.within], hw⟩
/-! ### the methods -/
theorem jgV {s : List UInt8} {w : Re} (hp : w.pos <= s.length) : (w.u s).1.pos <= s.length := by
 rw [Re.u]
 split
 . exact hp
 . have := jaR (s.drop w.pos)
   rw [List.length_drop] at this
   simp only []; omega
theorem Qo (w : Re) (is : Bool) (a : Nat) : (w.within is a).pos = w.pos := by rw [Re.within]; split <;> rfl
def Re.number (s : List UInt8) (w : Re) (n most : Nat) : Re × Nat :=
 let r := (w.u s).1.within (decide (((w.u s).2 : Int) <= most)) w.pos
 (r, if r.er.isSome then n else (w.u s).2)
def Re.whole (s : List UInt8) (w : Re) (n lo hi : Int) : Re × Int :=
 let v := KY (w.u s).2
 let r := (w.u s).1.within (decide (v ≥ lo) && decide (v <= hi)) w.pos
 (r, if r.er.isSome then n else v)
theorem zQ {x : Nat} {wr : List (Nat × Bool)} (h : wr.all (fun q => !q.2 && q.1 == x) = true) : wr.all (fun q => !q.2) = true := by
 rw [List.all_eq_true] at h ⊢
 intro q hq; have := h q hq; simp at this; simp [this]
theorem vl {σ : List IObj} {p : Nat} {cs : List IVal} {o : Nat} {v : IVal} (hp : σ[p]? = some (.cells cs)) (ho : cs[o]? = some v) : σ.set p (.cells (cs.set o v)) = σ := by
 have : cs.set o v = cs := by
   have h2 : o < cs.length := by
     rcases Nat.lt_or_ge o cs.length with h | h
     . exact h
     . rw [List.getElem?_eq_none h] at ho; cases ho
   rw [List.getElem?_eq_getElem h2] at ho; cases ho
   exact List.set_getElem_self h2
 rw [this, ko hp]
theorem kU {cs : List IVal} {o : Nat} {v : IVal} (ho : cs[o]? = some v) : o + 1 <= cs.length := by
 rcases Nat.lt_or_ge o cs.length with h | h
 . exact h
 . rw [List.getElem?_eq_none h] at ho; cases ho
theorem v9 {σ : List IObj} {x p : Nat} {o o' : IObj} : ((σ.set x o).set p o').take σ.length = (σ.set x o).set p o' := by rw [List.take_of_length_le]; simp
theorem XM (h84 : F 84 = some jdr) (h88 : F 88 = some jcf) (h90 : F 90 = some jas) (h42 : F 42 = some Yp) (h89 : F 89 = some jar) (h87 : F 87 = some QC) (h40 : F 40 = some KM) (h93 : F 93 = some Zd) (h41 : F 41 = some K9) (h80 : F 80 = some Xc) (h81 : F 81 = some Va)
   {s : List UInt8} {x p o : Nat} {w : Re} {cs : List IVal} {σ : List IObj} {n most : Nat} (hx : σ[x]? = some (w.ob s)) (hp : σ[p]? = some (.cells cs)) (ho : cs[o]? = some (Q n)) (hs : s.length < 1000000) (hpos : w.pos <= s.length) (hne : p ≠ x) :
   ∃ wr, cfw F (.f 84) [.agg [.ptr x 0], .ptr p o, Q most] σ = some ⟨false, .tup [], (σ.set x ((w.number s n most).1.ob s)).set p (.cells (cs.set o (Q (w.number s n most).2))), wr⟩ /\ wr.all (fun q => !q.2) = true := by
 rw [jQ jdr h84, jq]
 have x1 : ext [.ptr x 0] = true := rfl
 have t1 : [IVal.ptr x 0].take 1 = [.ptr x 0] := rfl
 have p0 := ja5 h88 hx
 have l0 := jd hx
 have lp := jd hp
 obtain ⟨wr1, u0, hw1⟩ := u89 h89 h87 h40 h93 h41 h80 h81 hx hs hpos
 obtain ⟨wr2, v0, hw2⟩ := YQ (is := decide (((w.u s).2 : Int) <= most)) (a := w.pos) h90 h42 h87 h40 (vd (σ := σ) (o := (w.u s).1.ob s) l0)
 rw [List.set_set] at v0
 obtain ⟨wp1, wp2⟩ := qp hw1 l0
 obtain ⟨wp3, wp4⟩ := qp hw2 l0
 have l2 := fun o => get_set (j := x) (x := o) hp (Ne.symm hne)
 have l3 := decide_eq_true lp
 have o1 := kU ho
 have f2 := List.all_append (xs := wr2) (ys := wr1) (f := fun q => !q.2)
 rw [Re.number]
 simp only []
 cases hr : ((w.u s).1.within (decide (((w.u s).2 : Int) <= most)) w.pos).er.isSome
 . rw [hr] at v0
   simp only [jdr, jG, p0, u0, v0, l2, lp, l3, o1, hp, x1, t1, wp1, wp2, wp3, wp4, List.all_append, List.filter_append, List.length_set, take_set, zV, zS, jy, jM, jc, jk, jR, jg, jl, je, jr, jO, jf, jj, jp, jK, ju, jq, Ts.fill, jS, jP, jh, jT, jo, jm, ji, ja, getAll, stepCall, jn, unI, Opd.get, jx, tag, jv, jb, jI, rv, bin, jW, Nat.reduceAdd, Nat.reduceSub, Nat.reduceMul, Nat.reduceDiv, Nat.reduceMod, Nat.reducePow, Nat.reduceLT, Nat.reduceLeDiff, Nat.reduceEqDiff, Nat.reduceBEq, Nat.reduceBNe, reduceIte, Int.reduceEq, Int.reduceLT, Int.reduceLE, Int.reduceNeg, Int.reduceToNat, Int.reduceMul, Int.reduceAdd, Int.reduceSub, reduceCtorEq]
   exact ⟨(p, false) :: (wr2 ++ wr1), by rw [v9], by rw [List.all_cons, List.all_append, zQ hw1, zQ hw2]; rfl⟩
 . rw [hr] at v0
   simp only [jdr, jG, p0, u0, v0, l2, lp, l3, o1, hp, x1, t1, wp1, wp2, wp3, wp4, List.all_append, List.filter_append, List.length_set, take_set, zV, zS, jy, jM, jc, jk, jR, jg, jl, je, jr, jO, jf, jj, jp, jK, ju, jq, Ts.fill, jS, jP, jh, jT, jo, jm, ji, ja, getAll, stepCall, jn, unI, Opd.get, jx, tag, jv, jb, jI, rv, bin, jW, Nat.reduceAdd, Nat.reduceSub, Nat.reduceMul, Nat.reduceDiv, Nat.reduceMod, Nat.reducePow, Nat.reduceLT, Nat.reduceLeDiff, Nat.reduceEqDiff, Nat.reduceBEq, Nat.reduceBNe, reduceIte, Int.reduceEq, Int.reduceLT, Int.reduceLE, Int.reduceNeg, Int.reduceToNat, Int.reduceMul, Int.reduceAdd, Int.reduceSub, reduceCtorEq]
   exact ⟨wr2 ++ wr1, by rw [vl (l2 _) ho], by rw [List.all_append, zQ hw1, zQ hw2]; rfl⟩
theorem Zq (h86 : F 86 = some jer) (h92 : F 92 = some jds) (h88 : F 88 = some jcf) (h90 : F 90 = some jas) (h42 : F 42 = some Yp) (h89 : F 89 = some jar) (h87 : F 87 = some QC) (h40 : F 40 = some KM) (h93 : F 93 = some Zd) (h41 : F 41 = some K9) (h80 : F 80 = some Xc) (h81 : F 81 = some Va)
   {s : List UInt8} {x p o : Nat} {w : Re} {cs : List IVal} {σ : List IObj} {n lo hi : Int} (hx : σ[x]? = some (w.ob s)) (hp : σ[p]? = some (.cells cs)) (ho : cs[o]? = some (I n)) (hs : s.length < 1000000) (hpos : w.pos <= s.length) (hne : p ≠ x) :
   ∃ wr, cfw F (.f 86) [.agg [.ptr x 0], .ptr p o, I lo, I hi] σ = some ⟨false, .tup [], (σ.set x ((w.whole s n lo hi).1.ob s)).set p (.cells (cs.set o (I (w.whole s n lo hi).2))), wr⟩ /\ wr.all (fun q => !q.2) = true := by
 rw [jQ jer h86, jq]
 have x1 : ext [.ptr x 0] = true := rfl
 have t1 : [IVal.ptr x 0].take 1 = [.ptr x 0] := rfl
 have p0 := ja5 h88 hx
 have l0 := jd hx
 have lp := jd hp
 obtain ⟨wr1, u0, hw1⟩ := i92 h92 h89 h87 h40 h93 h41 h80 h81 hx hs hpos
 obtain ⟨wr2, v0, hw2⟩ := YQ (is := decide (KY (w.u s).2 ≥ lo) && decide (KY (w.u s).2 <= hi)) (a := w.pos) h90 h42 h87 h40 (vd (σ := σ) (o := (w.u s).1.ob s) l0)
 rw [List.set_set] at v0
 obtain ⟨wp1, wp2⟩ := qp hw1 l0
 obtain ⟨wp3, wp4⟩ := qp hw2 l0
 have l2 := fun o => get_set (j := x) (x := o) hp (Ne.symm hne)
 have l3 := decide_eq_true lp
 have o1 := kU ho
 rw [Re.whole]
 simp only []
 cases ha : decide (KY (w.u s).2 ≥ lo) <;> cases hb : decide (KY (w.u s).2 <= hi) <;> rw [ha, hb] at v0 <;> simp only [Bool.and_false, Bool.false_and, Bool.and_true] at v0 ⊢
 all_goals
   first
   | (cases hr : ((w.u s).1.within false w.pos).er.isSome <;> rw [hr] at v0)
   | (cases hr : ((w.u s).1.within true w.pos).er.isSome <;> rw [hr] at v0)
 all_goals simp only [jer, jG, p0, u0, v0, l2, lp, l3, o1, hp, x1, t1, ha, hb, tne, wp1, wp2, wp3, wp4, List.all_append, List.filter_append, List.length_set, take_set, zV, zS, jy, jM, jc, jk, jR, jg, jl, je, jr, jO, jf, jj, jp, jK, ju, jq, Ts.fill, jS, jP, jh, jT, jo, jm, ji, ja, getAll, stepCall, jn, unI, Opd.get, jx, tag, jv, jb, jI, rv, bin, jW, Nat.reduceAdd, Nat.reduceSub, Nat.reduceMul, Nat.reduceDiv, Nat.reduceMod, Nat.reducePow, Nat.reduceLT, Nat.reduceLeDiff, Nat.reduceEqDiff, Nat.reduceBEq, Nat.reduceBNe, reduceIte, Int.reduceEq, Int.reduceLT, Int.reduceLE, Int.reduceNeg, Int.reduceToNat, Int.reduceMul, Int.reduceAdd, Int.reduceSub, reduceCtorEq]
 all_goals
   first
   | exact ⟨(p, false) :: (wr2 ++ wr1), by rw [v9], by rw [List.all_cons, List.all_append, zQ hw1, zQ hw2]; rfl⟩
   | exact ⟨wr2 ++ wr1, by rw [vl (l2 _) ho], by rw [List.all_append, zQ hw1, zQ hw2]; rfl⟩
theorem Zp (h85 : F 85 = some jeq) (h91 : F 91 = some jat) (h82 : F 82 = some Zc) (h87 : F 87 = some QC) (h40 : F 40 = some KM) (h41 : F 41 = some K9)
   {s : List UInt8} {x p o : Nat} {w : Re} {cs : List IVal} {σ : List IObj} {v : IVal} (hx : σ[x]? = some (w.ob s)) (hp : σ[p]? = some (.cells cs)) (ho : cs[o]? = some v) (hs : s.length < 1000000) (hpos : w.pos <= s.length) (hne : p ≠ x) :
   ∃ wr, cfw F (.f 85) [.agg [.ptr x 0], .ptr p o] σ = some ⟨false, .tup [], (σ.set x ((w.t s).1.ob s)).set p (.cells (cs.set o (.bool (w.t s).2))), wr⟩ /\ wr.all (fun q => !q.2) = true := by
 rw [jQ jeq h85, jq]
 have x1 : ext [.ptr x 0] = true := rfl
 have l0 := jd hx
 have lp := jd hp
 obtain ⟨wr1, u0, hw1⟩ := t91 h91 h82 h87 h40 h41 hx hs hpos
 obtain ⟨wp1, wp2⟩ := qp hw1 l0
 have l2 := fun o => get_set (j := x) (x := o) hp (Ne.symm hne)
 have l3 := decide_eq_true lp
 have o1 := kU ho
 simp only [jeq, jG, u0, l2, lp, l3, o1, hp, x1, wp1, wp2, List.length_set, zV, zS, jy, jM, jc, jk, jR, jg, jl, je, jr, jO, jf, jj, jp, jK, ju, jq, Ts.fill, jS, jP, jh, jT, jo, jm, ji, ja, getAll, stepCall, jn, unI, Opd.get, jx, tag, jv, jb, jI, rv, bin, jW, Nat.reduceAdd, Nat.reduceSub, Nat.reduceMul, Nat.reduceDiv, Nat.reduceMod, Nat.reducePow, Nat.reduceLT, Nat.reduceLeDiff, Nat.reduceEqDiff, Nat.reduceBEq, Nat.reduceBNe, reduceIte, Int.reduceEq, Int.reduceLT, Int.reduceLE, Int.reduceNeg, Int.reduceToNat, Int.reduceMul, Int.reduceAdd, Int.reduceSub, reduceCtorEq]
 exact ⟨(p, false) :: wr1, by rw [v9], by rw [List.all_cons, zQ hw1]; rfl⟩
/-! ### bytes -/
theorem jfJ {s : List UInt8} {w : Re} (hp : w.pos <= s.length) : (w.b s).1.pos <= s.length := by
 rw [Re.b]
 split
 . exact hp
 . split
   . exact hp
   . rename_i c hc
     have : w.pos < s.length := by
       rcases Nat.lt_or_ge w.pos s.length with h | h
       . exact h
       . rw [List.getElem?_eq_none h] at hc; cases hc
     exact this
/-- Bytes are read, one behind the other. -/
def Re.bytes (s : List UInt8) (w : Re) (cs : List IVal) : List Nat -> Re × List IVal
 | [] => (w, cs)
 | o :: os => ((w.b s).1).bytes s (cs.set o (B (w.b s).2)) os
theorem Xr {σ : List IObj} {x p : Nat} {a b : IObj} (hx : x < σ.length) (hp : p < σ.length) (hne : p ≠ x) : ((σ.set x a).set p b)[x]? = some a /\ ((σ.set x a).set p b)[p]? = some b := by
 refine ⟨?_, ?_⟩
 . rw [List.getElem?_set_ne hne, List.getElem?_set_self hx]
 . rw [List.getElem?_set_self (by simpa using hp)]
theorem jdD {σ : List IObj} {x p : Nat} {a b c d : IObj} (hne : p ≠ x) : (((σ.set x a).set p b).set x c).set p d = (σ.set x c).set p d := by
 rw [List.set_comm _ _ hne, List.set_set, List.set_set]
theorem jgo (h82 : F 82 = some Zc) (h87 : F 87 = some QC) (h40 : F 40 = some KM) (h41 : F 41 = some K9) {s : List UInt8} {x p : Nat} {σ : List IObj} (hne : p ≠ x) (hs : s.length < 1000000) (hx : x < σ.length) (hp : p < σ.length) {e : Nat} {os : List Nat} (hlen : os.length < 1000) : ∀ (d i : Nat) (f0 : Nat -> Option (Nat × IVal)) (w : Re) (cs : List IVal) (wr : List (Nat × Bool)) (R : Option (IExit × St)),
   evw F (.loop Kd) ⟨E 9 5 4 [] (base f0), (σ.set x (w.ob s)).set p (.cells cs), wr⟩ = R -> i + d = os.length -> w.pos <= s.length -> (∀ o ∈ os, o < cs.length) -> wr.all (fun q => !q.2) = true ->
   f0 2 = some (2, .pv true [.ptr x 0] 0) -> f0 6 = some (6, .sl e true (Ps p os)) -> f0 7 = some (7, I os.length) -> f0 8 = some (8, I i) ->
   ∃ f1 wr', R = some (.exit 0, ⟨E 9 5 4 [] (base f1), (σ.set x ((w.bytes s cs (os.drop i)).1.ob s)).set p (.cells (w.bytes s cs (os.drop i)).2), wr'⟩) /\ wr'.all (fun q => !q.2) = true := by
 intro d
 induction d with
 | zero =>
   intro i f0 w cs wr R hE hi hpos hcs hw e2 e6 e7 e8
   have l0 : decide ((i : Int) < (os.length : Int)) = false := decide_eq_false (by omega)
   rw [jH] at hE
   subst hE
   simp only [Kd, e2, e6, e7, e8, l0, zV, zS, jy, jM, jc, jk, jR, jg, jl, je, jr, jO, jf, jj, jp, jK, ju, jq, Ts.fill, jS, jP, jh, jT, jo, jm, ji, ja, getAll, stepCall, jn, unI, Opd.get, jx, tag, jv, jb, jI, rv, bin, jW, Nat.reduceAdd, Nat.reduceSub, Nat.reduceMul, Nat.reduceDiv, Nat.reduceMod, Nat.reducePow, Nat.reduceLT, Nat.reduceLeDiff, Nat.reduceEqDiff, Nat.reduceBEq, Nat.reduceBNe, reduceIte, Int.reduceEq, Int.reduceLT, Int.reduceLE, Int.reduceNeg, Int.reduceToNat, Int.reduceMul, Int.reduceAdd, Int.reduceSub, reduceCtorEq]
   rw [List.drop_of_length_le (by omega)]
   exact ⟨_, _, rfl, hw⟩
 | succ d ih =>
   intro i f0 w cs wr R hE hi hpos hcs hw e2 e6 e7 e8
   have l0 : decide ((i : Int) < (os.length : Int)) = true := decide_eq_true (by omega)
   have hi2 : i < os.length := by omega
   have hoc := hcs _ (List.getElem_mem hi2)
   have g1 : os[i]? = some os[i] := List.getElem?_eq_getElem hi2
   have d1 : (0 : Int) <= (i : Int) := by omega
   have w1 := yz (n := i) (by omega)
   obtain ⟨y1, y2⟩ := Xr (a := w.ob s) (b := .cells cs) hx hp hne
   obtain ⟨wr1, u0, hw1⟩ := b82 h82 h87 h40 h41 y1 hs hpos
   have y3 := get_set (j := x) (x := (w.b s).1.ob s) y2 (Ne.symm hne)
   have o1 : os[i] + 1 <= cs.length := hoc
   rw [List.drop_eq_getElem_cons hi2, Re.bytes]
   rw [jH] at hE
   simp only [Kd, jG, e2, e6, e7, e8, l0, g1, d1, w1, u0, y3, o1, Int.toNat_natCast, zV, zS, jy, jM, jc, jk, jR, jg, jl, je, jr, jO, jf, jj, jp, jK, ju, jq, Ts.fill, jS, jP, jh, jT, jo, jm, ji, ja, getAll, stepCall, jn, unI, Opd.get, jx, tag, jv, jb, jI, rv, bin, jW, Nat.reduceAdd, Nat.reduceSub, Nat.reduceMul, Nat.reduceDiv, Nat.reduceMod, Nat.reducePow, Nat.reduceLT, Nat.reduceLeDiff, Nat.reduceEqDiff, Nat.reduceBEq, Nat.reduceBNe, reduceIte, Int.reduceEq, Int.reduceLT, Int.reduceLE, Int.reduceNeg, Int.reduceToNat, Int.reduceMul, Int.reduceAdd, Int.reduceSub, reduceCtorEq] at hE
   rw [jdD hne] at hE
   exact ih (i + 1) _ _ _ _ R hE (by omega) (jfJ hpos) (fun o ho => by rw [List.length_set]; exact hcs o ho) (by rw [List.all_cons, List.all_append, zQ hw1, hw]; rfl) (by (try simp only [upd_get, base_get, Nat.reduceAdd, Nat.reduceSub, Nat.reduceMul, Nat.reduceDiv, Nat.reduceMod, Nat.reducePow, Nat.reduceLT, Nat.reduceLeDiff, Nat.reduceEqDiff, Nat.reduceBEq, Nat.reduceBNe, reduceIte, Int.reduceEq, Int.reduceLT, Int.reduceLE, Int.reduceNeg, Int.reduceToNat, Int.reduceMul, Int.reduceAdd, Int.reduceSub, Int.cast_ofNat_Int, reduceCtorEq, Nat.zero_add, Nat.add_zero, Nat.mul_one]) <;> first | exact e2 | rfl) (by (try simp only [upd_get, base_get, Nat.reduceAdd, Nat.reduceSub, Nat.reduceMul, Nat.reduceDiv, Nat.reduceMod, Nat.reducePow, Nat.reduceLT, Nat.reduceLeDiff, Nat.reduceEqDiff, Nat.reduceBEq, Nat.reduceBNe, reduceIte, Int.reduceEq, Int.reduceLT, Int.reduceLE, Int.reduceNeg, Int.reduceToNat, Int.reduceMul, Int.reduceAdd, Int.reduceSub, Int.cast_ofNat_Int, reduceCtorEq, Nat.zero_add, Nat.add_zero, Nat.mul_one]) <;> first | exact e6 | rfl) (by (try simp only [upd_get, base_get, Nat.reduceAdd, Nat.reduceSub, Nat.reduceMul, Nat.reduceDiv, Nat.reduceMod, Nat.reducePow, Nat.reduceLT, Nat.reduceLeDiff, Nat.reduceEqDiff, Nat.reduceBEq, Nat.reduceBNe, reduceIte, Int.reduceEq, Int.reduceLT, Int.reduceLE, Int.reduceNeg, Int.reduceToNat, Int.reduceMul, Int.reduceAdd, Int.reduceSub, Int.cast_ofNat_Int, reduceCtorEq, Nat.zero_add, Nat.add_zero, Nat.mul_one]) <;> first | exact e7 | rfl) (by (try simp only [upd_get, base_get, Nat.reduceAdd, Nat.reduceSub, Nat.reduceMul, Nat.reduceDiv, Nat.reduceMod, Nat.reducePow, Nat.reduceLT, Nat.reduceLeDiff, Nat.reduceEqDiff, Nat.reduceBEq, Nat.reduceBNe, reduceIte, Int.reduceEq, Int.reduceLT, Int.reduceLE, Int.reduceNeg, Int.reduceToNat, Int.reduceMul, Int.reduceAdd, Int.reduceSub, Int.cast_ofNat_Int, reduceCtorEq, Nat.zero_add, Nat.add_zero, Nat.mul_one]) <;> rfl)
theorem Zo (h83 : F 83 = some jep) (h82 : F 82 = some Zc) (h87 : F 87 = some QC) (h40 : F 40 = some KM) (h41 : F 41 = some K9) {s : List UInt8} {x p e : Nat} {w : Re} {cs : List IVal} {σ : List IObj} {os : List Nat} (hx : σ[x]? = some (w.ob s)) (hp : σ[p]? = some (.cells cs)) (hs : s.length < 1000000) (hpos : w.pos <= s.length) (hne : p ≠ x) (hos : ∀ o ∈ os, o < cs.length) (hlen : os.length < 1000) :
   ∃ wr, cfw F (.f 83) [.agg [.ptr x 0], .sl e true (Ps p os)] σ = some ⟨false, .tup [], (σ.set x ((w.bytes s cs os).1.ob s)).set p (.cells (w.bytes s cs os).2), wr⟩ /\ wr.all (fun q => !q.2) = true := by
 rw [jQ jep h83, jq]
 have x1 : ext [.ptr x 0] = true := rfl
 simp only [jep, x1, zV, zS, jy, jM, jc, jk, jR, jg, jl, je, jr, jO, jf, jj, jp, jK, ju, jq, Ts.fill, jS, jP, jh, jT, jo, jm, ji, ja, getAll, stepCall, jn, unI, Opd.get, jx, tag, jv, jb, jI, rv, bin, jW, Nat.reduceAdd, Nat.reduceSub, Nat.reduceMul, Nat.reduceDiv, Nat.reduceMod, Nat.reducePow, Nat.reduceLT, Nat.reduceLeDiff, Nat.reduceEqDiff, Nat.reduceBEq, Nat.reduceBNe, reduceIte, Int.reduceEq, Int.reduceLT, Int.reduceLE, Int.reduceNeg, Int.reduceToNat, Int.reduceMul, Int.reduceAdd, Int.reduceSub, reduceCtorEq]
 generalize hE : evw F (ICode.loop Kd) _ = R
 have l0 := jd hx
 have lp := jd hp
 have s0 : (σ.set x (w.ob s)).set p (.cells cs) = σ := by rw [ko hx, ko hp]
 rw [<- s0] at hE
 obtain ⟨f1, wr', rfl, hw⟩ := jgo h82 h87 h40 h41 hne hs l0 lp hlen os.length 0 _ w cs _ R hE (by omega) hpos hos (by rfl) (by (try simp only [upd_get, base_get, Nat.reduceAdd, Nat.reduceSub, Nat.reduceMul, Nat.reduceDiv, Nat.reduceMod, Nat.reducePow, Nat.reduceLT, Nat.reduceLeDiff, Nat.reduceEqDiff, Nat.reduceBEq, Nat.reduceBNe, reduceIte, Int.reduceEq, Int.reduceLT, Int.reduceLE, Int.reduceNeg, Int.reduceToNat, Int.reduceMul, Int.reduceAdd, Int.reduceSub, Int.cast_ofNat_Int, reduceCtorEq, Nat.zero_add, Nat.add_zero, Nat.mul_one]) <;> rfl) (by (try simp only [upd_get, base_get, Nat.reduceAdd, Nat.reduceSub, Nat.reduceMul, Nat.reduceDiv, Nat.reduceMod, Nat.reducePow, Nat.reduceLT, Nat.reduceLeDiff, Nat.reduceEqDiff, Nat.reduceBEq, Nat.reduceBNe, reduceIte, Int.reduceEq, Int.reduceLT, Int.reduceLE, Int.reduceNeg, Int.reduceToNat, Int.reduceMul, Int.reduceAdd, Int.reduceSub, Int.cast_ofNat_Int, reduceCtorEq, Nat.zero_add, Nat.add_zero, Nat.mul_one]) <;> rfl) (by (try simp only [upd_get, base_get, Nat.reduceAdd, Nat.reduceSub, Nat.reduceMul, Nat.reduceDiv, Nat.reduceMod, Nat.reducePow, Nat.reduceLT, Nat.reduceLeDiff, Nat.reduceEqDiff, Nat.reduceBEq, Nat.reduceBNe, reduceIte, Int.reduceEq, Int.reduceLT, Int.reduceLE, Int.reduceNeg, Int.reduceToNat, Int.reduceMul, Int.reduceAdd, Int.reduceSub, Int.cast_ofNat_Int, reduceCtorEq, Nat.zero_add, Nat.add_zero, Nat.mul_one]) <;> rfl) (by (try simp only [upd_get, base_get, Nat.reduceAdd, Nat.reduceSub, Nat.reduceMul, Nat.reduceDiv, Nat.reduceMod, Nat.reducePow, Nat.reduceLT, Nat.reduceLeDiff, Nat.reduceEqDiff, Nat.reduceBEq, Nat.reduceBNe, reduceIte, Int.reduceEq, Int.reduceLT, Int.reduceLE, Int.reduceNeg, Int.reduceToNat, Int.reduceMul, Int.reduceAdd, Int.reduceSub, Int.cast_ofNat_Int, reduceCtorEq, Nat.zero_add, Nat.add_zero, Nat.mul_one]) <;> rfl)
 have w2 : (wr'.all fun q => !q.2 || decide (σ.length <= q.1)) = true := by
   rw [List.all_eq_true] at hw ⊢
   intro q hq; have := hw q hq; simp at this; simp [this]
 simp only [w2, zV, zS, jy, jM, jc, jk, jR, jg, jl, je, jr, jO, jf, jj, jp, jK, ju, jq, Ts.fill, jS, jP, jh, jT, jo, jm, ji, ja, getAll, stepCall, jn, unI, Opd.get, jx, tag, jv, jb, jI, rv, bin, jW, Nat.reduceAdd, Nat.reduceSub, Nat.reduceMul, Nat.reduceDiv, Nat.reduceMod, Nat.reducePow, Nat.reduceLT, Nat.reduceLeDiff, Nat.reduceEqDiff, Nat.reduceBEq, Nat.reduceBNe, reduceIte, Int.reduceEq, Int.reduceLT, Int.reduceLE, Int.reduceNeg, Int.reduceToNat, Int.reduceMul, Int.reduceAdd, Int.reduceSub, reduceCtorEq]
 refine ⟨wr'.filter fun p => decide (p.1 < σ.length), by rw [v9], ?_⟩
 rw [List.all_eq_true] at hw ⊢
 intro q hq; exact hw q (List.mem_filter.mp hq).1
end Go.Idl.Sb
