/- SnapTells: what the ideal machine makes of its functions, part W; no conditions. -/
import Derived.Test.YtgkedaeojkbaiaaGreatDoorSbA
set_option linter.unusedSectionVars false
set_option linter.unusedVariables false
set_option linter.unusedSimpArgs false
namespace Go.Idl.Sb
open Go Go.Idl
/- plover/ploverlaw28.works -/
def jf4 : ICode := (.seq (.seq (.ops [oD 16 2, uH 17 16 10])
 (.cond (.t 17) .skip (.exit 0)))
 (.seq (.block 1 (.seq (.ops [oD 20 1, oD 21 2, oD 22 2, uX 23 22 3, oX 24 23, ⟨(some 25), .build Z55 [(52, 1, (.m 21)), (50, 1, (.m 24))], none⟩, oV 26 24 20 25, oD 27 2, uz 28 27 4, oz 29 28, ⟨(some 30), .eqb true (.m 26) (.m 29), none⟩])
 (.cond (.t 30) (.seq (.ops [oS 0])
 .ret) .skip)))
 (.ops [oE 18 2, oP 19 18, oE 2 19])))
def jj7 : IFunc := ⟨93, 13, 36, 6, (.seq (.ops [oS 0])
 (.seq (.ops [⟨(some 13), .call 23 [(.c (.int .i64 4))], none⟩, oE 1 13])
 (.seq (.seq (.ops [oD 14 1, od 15 0 14])
 (.cond (.t 15) (.seq (.ops [oS 0])
 .ret) .skip))
 (.seq (.seq (.ops [oO 2 0])
 (.block 0 (.loop jf4)))
 (.seq (.ops [oD 32 1, oc 33 25 32 7, oE 31 33, oT 34 31 0, oT 35 31 1, oq 3, oJ 55 3 34, oE 4 35])
 (.seq (.ops [oD 37 1, oc 38 25 37 8, oE 36 38, oT 39 36 0, oT 40 36 1, oq 5, oJ 55 5 39, oE 6 40])
 (.seq (.ops [oD 42 1, ⟨(some 43), .call 25 [(.m 42), (.c (.int .i64 (-1)))], none⟩, oE 41 43, oT 44 41 0, oT 45 41 1, oq 7, oJ 55 7 44, oE 8 45])
 (.seq (.ops [oD 47 1, uL 48 26 47 13, oE 46 48, oT 49 46 0, oT 50 46 1, oq 9, oJ 55 9 49, oE 10 50])
 (.seq (.ops [oD 51 1, oc 52 27 51 5])
 (.seq (.ops [⟨(some 54), .call 19 [(.c (.str []))], none⟩, oE 53 54, oT 55 53 0, oT 56 53 1, oq 11, oJ 55 11 55, oE 12 56])
 (.seq (.ops [oE 57 4, oE 58 57, oN 59 52 3 58, oM 60 59 58, uM 61 60 58 4, oL 62 58 61, oE 63 62, oQ 64 6 63, oL 65 63 64, oE 66 65, oN 67 52 5 66, oM 68 67 66, uM 69 68 66 8, oL 70 66 69, oE 71 70, oQ 72 8 71, xD 73 72 71, oL 74 71 73, oE 75 74, oQ 76 10 75, oL 77 75 76, oE 78 77, oN 79 52 9 78, oM 80 79 78, uM 81 80 78 4, oL 82 78 81, oE 83 82, oQ 84 1 83, ov 85 28 84 83, uM 86 85 83 2, oL 87 83 86, oE 88 87, oQ 89 12 88, ⟨(some 90), .build [(.int .i64 0), (.int .i64 0)] [(0, 1, (.c (.int .i64 3)))], some (88, true)⟩, uU 91 21 89 90 88, oL 92 88 91, oE 0 92])
 .ret))))))))))), [.t 0]⟩
/- plover/snap.New -/
def jj8 : IFunc := ⟨8, 3, 3, 3, (.seq (.ops [wu])
 (.seq (.seq (.ops [oD 3 0, uH 4 3 1])
 (.cond (.t 4) (.seq (.ops [wu])
 .ret) .skip))
 (.seq (.ops [oE 5 0, ⟨(some 6), .build [(.int .i64 0), (.sl 55 true [])] [(0, 1, (.m 5))], none⟩, wx 7 6, oE 2 7])
 .ret))), [.t 2]⟩
/- (*plover/snap.Snaps).Add -/
def jj9 : IFunc := ⟨51, 7, 15, 5, (.seq (.ops [oe 3 1, oS 4])
 (.seq (.seq (.ops [oD 7 0, od 8 0 7])
 (.cond (.t 8) (.seq (.ops [oS 4])
 .ret) .skip))
 (.seq (.seq (.ops [oD 9 0, oH 10 9, oF 11 1 10, oG 12 11, oU 13 12, oE 5 13])
 (.seq (.ops [oD 14 5, ⟨(some 15), .bin .gtr (.m 14) (.c (.int .i64 0)), none⟩])
 (.cond (.t 15) (.seq (.ops [oD 16 0, oH 17 16, oF 18 1 17, oG 19 18, oD 20 5, oy 21 20 1, oW 22 55 19 21, oF 23 52 22, oG 24 23, oE 6 24])
 (.seq (.draw [(0, oI 25 52 3), (1, oG 26 25), (2, oD 27 6), (3, oa 28 26 27), (4, oE 29 28), (5, xm 30 52 3), (6, uo 31 30 29), (7, ol 32 6 29), (8, ⟨(some 33), .bin .sub (.t 31) (.t 32), some (29, false)⟩), (9, ol 34 0 29), (10, wU 35 34 29), (11, xm 36 0 35), (12, uo 37 36 29), (13, ⟨(some 38), .bin .lss (.t 33) (.t 37), some (29, false)⟩), (14, uG 39 29 38)] [])
 (.cond (.t 39) (.seq (.ops [oS 4])
 .ret) .skip))) .skip)))
 (.seq (.draw [(0, oD 40 0), (1, oD 41 0), (2, oH 42 41), (3, oF 43 1 42), (4, oG 44 43), (5, oh 45 55 3), (6, oK 46 11 45), (7, ox 47 55 46), (8, ui 48 55 264 44 47), (9, oH 49 40), (10, oF 50 1 49), (11, oJ 1 50 48)] [(4, 6)])
 (.seq (.ops [uN 4])
 .ret))))), [.t 4]⟩
/- (*plover/snap.Snaps).Before -/
def jka : IFunc := ⟨11, 6, 5, 4, (.seq (.ops [oe 3 1, oq 4, oS 5])
 (.seq (.ops [oE 6 0, xF 7 57 3, oV 8 56 6 7, oT 9 8 0, oT 10 8 1, oJ 55 4 9, oE 5 10])
 .ret)), [.cell 4 (some 55), .t 5]⟩
/- (*plover/snap.Snaps).Retired -/
def jkb : IFunc := ⟨11, 6, 5, 4, (.seq (.ops [oe 3 1, oq 4, oS 5])
 (.seq (.ops [oE 6 0, xF 7 58 3, oV 8 56 6 7, oT 9 8 0, oT 10 8 1, oJ 55 4 9, oE 5 10])
 .ret)), [.cell 4 (some 55), .t 5]⟩
/- (*plover/snap.Snaps).Cut -/
def jkc : IFunc := ⟨15, 4, 9, 4, (.seq (.ops [oe 3 1])
 (.seq (.ops [oD 4 0, ⟨(some 5), .isnil true 0 (.m 4), none⟩])
 (.cond (.t 5) (.ops [oD 6 0, oD 7 0, oH 8 7, oF 9 1 8, oi 10 9, ⟨(some 11), .mkFn (.func 60) [] [(.t 3)], none⟩, oV 12 59 10 11, oH 13 6, oF 14 1 13, oJ 1 14 12]) .skip))), []⟩
/- (*plover/snap.Snaps).Len -/
def jkd : IFunc := ⟨10, 3, 5, 4, (.seq (.ops [oO 2 0])
 (.seq (.seq (.ops [oD 3 0, od 4 0 3])
 (.cond (.t 4) (.seq (.ops [oO 2 0])
 .ret) .skip))
 (.seq (.ops [oE 5 0, oH 6 5, oF 7 1 6, oG 8 7, oU 9 8, oE 2 9])
 .ret))), [.t 2]⟩
/- (*plover/snap.Snaps).last -/
def jke : IFunc := ⟨24, 18, 3, 5, (.seq (.ops [oe 3 1, oq 4, ⟨(some 5), .alloc [(.bool false)], none⟩])
 (.seq (.seq (.ops [oD 8 0, od 9 0 8])
 (.cond (.t 9) (.seq (.ops [xN 10, oJ 55 4 10, xn])
 .ret) .skip))
 (.seq (.seq (.ops [oD 11 0, oH 12 11, oF 13 1 12, oG 14 13, oK 15 74 14])
 (.block 0 (.rangeF (.t 15) [16, 17] (.ops [oq 7, ⟨none, .store 55 (.m 7) (.t 17), none⟩]) (.block 1 (.seq (.ops [uV 18 3, oh 19 55 7, xQ 20 18 19])
 (.cond (.t 20) (.seq (.ops [ow 21 55 7, oK 22 11 21, oJ 55 4 22, ⟨none, .store 1 (.m 5) (.c (.bool true)), none⟩])
 .ret) .skip))))))
 (.seq (.ops [xN 23, oJ 55 4 23, xn])
 .ret)))), [.cell 4 (some 55), .cell 5 none]⟩
/- (*plover/snap.Snaps).Before$1 -/
def jkf : IFunc := ⟨8, 4, 4, 4, (.seq (.ops [oe 2 0, oS 3])
 (.seq (.ops [oF 4 52 2, oG 5 4, oG 6 1, xW 7 5 6, oE 3 7])
 .ret)), [.t 3]⟩
/- (*plover/snap.Snaps).Retired$1 -/
def jkg : IFunc := ⟨8, 4, 4, 4, (.seq (.ops [oe 2 0, oS 3])
 (.seq (.ops [oF 4 50 2, oG 5 4, oG 6 1, xW 7 5 6, oE 3 7])
 .ret)), [.t 3]⟩
/- slices.DeleteFunc[[]plover/vm.State,plover/vm.State] -/
def jgb : ICode := (.seq (.seq (.ops [oD 16 6, oD 17 0, oU 18 17, oa 19 16 18])
 (.cond (.t 19) .skip (.exit 0)))
 (.seq (.block 1 (.seq (.ops [oD 22 0, oD 23 6, oW 24 55 22 23, ow 25 55 24, oq 7, oJ 55 7 25])
 (.seq (.ops [oD 26 1, oh 27 55 7, xQ 28 26 27, wR 29 28])
 (.cond (.t 29) (.seq (.ops [oD 30 0, oD 31 5, xH 32 7, oW 33 55 30 31, oJ 55 33 32])
 (.ops [oE 34 5, oP 35 34, oE 5 35])) .skip))))
 (.ops [oE 20 6, oP 21 20, oE 6 21])))
def jkh : IFunc := ⟨42, 8, 4, 4, (.seq (.ops [uJ 4 55])
 (.seq (.ops [oD 8 0, oD 9 1, oV 10 75 8 9, oE 5 10])
 (.seq (.seq (.ops [oD 11 5, ⟨(some 12), .bin .eql (.m 11) (.c (.int .i64 (-1))), none⟩])
 (.cond (.t 12) (.seq (.ops [oE 13 0, oE 4 13])
 .ret) .skip))
 (.seq (.seq (.ops [oD 14 5, oP 15 14, oE 6 15])
 (.block 0 (.loop jgb)))
 (.seq (.ops [oD 36 0, oD 37 5, ⟨(some 38), .sliceL 55 (.m 36) (some (.t 37)) none none, none⟩, ⟨none, .clear Z55 (.t 38), none⟩])
 (.seq (.ops [oE 39 0, oE 40 5, ud 41 55 39 40, oE 4 41])
 .ret)))))), [.t 4]⟩
/- (*plover/snap.Snaps).Cut$1 -/
def jki : IFunc := ⟨8, 4, 4, 4, (.seq (.ops [oe 2 0, oS 3])
 (.seq (.ops [oF 4 52 2, oG 5 4, oG 6 1, ⟨(some 7), .bin .gtr (.m 5) (.m 6), none⟩, oE 3 7])
 .ret)), [.t 3]⟩
/- slices.Backward[[]plover/vm.State,plover/vm.State] -/
def jkj : IFunc := ⟨4, 3, 1, 3, (.seq (.ops [oe 1 0, ⟨(some 2), .mv (.c (.prim .nilFunc)), none⟩])
 (.seq (.ops [xF 3 79 1, oE 2 3])
 .ret)), [.t 2]⟩
/- slices.IndexFunc[[]plover/vm.State,plover/vm.State] -/
def jge : ICode := (.seq (.ops [o7 9 8 7])
 (.seq (.cond (.t 9) .skip (.exit 0))
 (.seq (.block 1 (.seq (.ops [oD 10 8, oE 5 10])
 (.seq (.ops [oD 11 1, oD 12 0, oD 13 5, oW 14 55 12 13, oZ 15 55 14, xQ 16 11 15])
 (.cond (.t 16) (.seq (.ops [oE 17 5, oE 4 17])
 .ret) .skip))))
 (.ops [oP 18 8, oE 8 18]))))
def jkk : IFunc := ⟨19, 9, 6, 4, (.seq (.ops [oO 4 0])
 (.seq (.seq (.ops [oD 6 0, oU 7 6, oO 8 0])
 (.block 0 (.loop jge)))
 (.seq (.ops [⟨(some 4), .mv (.c (.int .i64 (-1))), none⟩])
 .ret))), [.t 4]⟩
/- slices.Backward[[]plover/vm.State,plover/vm.State]$1 -/
def jgf : ICode := (.seq (.seq (.ops [oD 7 3, wm 8 7])
 (.cond (.t 8) .skip (.exit 0)))
 (.seq (.block 1 (.seq (.ops [oD 11 0, oD 12 3, uV 13 1, oD 14 3, oW 15 55 13 14, oZ 16 55 15, wq 17 11 12 16, wR 18 17])
 (.cond (.t 18) .ret .skip)))
 (.ops [oE 9 3, oy 10 9 1, oE 3 10])))
def jkl : IFunc := ⟨19, 4, 8, 4, (.seq (.ops [uV 4 1, oU 5 4, oy 6 5 1, oE 3 6])
 (.block 0 (.loop jgf))), []⟩
end Go.Idl.Sb
