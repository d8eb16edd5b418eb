import Derived.Test.YtgkpojcckgbcjaaVmLib
import Derived.Test.YtgkpojcckgbcjaaProg
import Derived.KernelRfl
namespace Go.Vm.Code
open Go Go.Vm Go.Proofs
/- 7: cloakroom/cloakroomlaw03.CheckOrder -/
def k7_0 : VC := .reg [⟨(some 4), .mv (.const (.bool false)), none⟩]
def k7_1 : VC := .reg [⟨(some 10), .mv (.tmp 0), none⟩,
    ⟨(some 11), .lenS (.tmp 10), none⟩,
    ⟨(some 12), .bin .gtr (.tmp 11) (.const (.int .i64 100)), none⟩,
    ⟨(some 13), .mv (.tmp 12), none⟩,
    ⟨(some 14), .mv (.tmp 1), (some (13, false))⟩,
    ⟨(some 15), .lenS (.tmp 14), (some (13, false))⟩,
    ⟨(some 16), .bin .gtr (.tmp 15) (.const (.int .i64 100)), (some (13, false))⟩,
    ⟨(some 17), .pick (.tmp 13) (.const (.bool true)) (.tmp 16), none⟩,
    ⟨(some 18), .mv (.tmp 17), none⟩,
    ⟨(some 19), .mv (.tmp 0), (some (18, false))⟩,
    ⟨(some 20), .lenS (.tmp 19), (some (18, false))⟩,
    ⟨(some 21), .bin .rem (.tmp 20) (.const (.int .i64 2)), (some (18, false))⟩,
    ⟨(some 22), .bin .eql (.tmp 21) (.const (.int .i64 1)), (some (18, false))⟩,
    ⟨(some 23), .pick (.tmp 18) (.const (.bool true)) (.tmp 22), none⟩,
    ⟨(some 24), .mv (.tmp 23), none⟩,
    ⟨(some 25), .mv (.tmp 1), (some (24, false))⟩,
    ⟨(some 26), .lenS (.tmp 25), (some (24, false))⟩,
    ⟨(some 27), .bin .rem (.tmp 26) (.const (.int .i64 2)), (some (24, false))⟩,
    ⟨(some 28), .bin .eql (.tmp 27) (.const (.int .i64 1)), (some (24, false))⟩,
    ⟨(some 29), .pick (.tmp 24) (.const (.bool true)) (.tmp 28), none⟩]
def k7_2 : VC := .reg [⟨(some 30), .callF 28 [], none⟩,
    ⟨(some 4), .mv (.tmp 30), none⟩]
def k7_3 : VC := .seq k7_2 .ret
def k7_4 : VC := .cond (.tmp 29) k7_3 .skip
def k7_5 : VC := .seq k7_1 k7_4
def k7_6 : VC := .reg [⟨(some 5), .mv (.const (.bool true)), none⟩]
def k7_7 : VC := .reg [⟨(some 6), .mv (.const (.string ⟨⟨[]⟩⟩)), none⟩]
def k7_8 : VC := .reg [⟨(some 31), .mv (.tmp 0), none⟩,
    ⟨(some 32), .mv (.tmp 1), none⟩,
    ⟨(some 33), .bin .add (.tmp 31) (.tmp 32), none⟩,
    ⟨(some 7), .mv (.tmp 33), none⟩]
def k7_9 : VC := .reg [⟨(some 8), .mv (.const (.int .i64 0)), none⟩]
def k7_10 : VC := .reg [⟨(some 34), .mv (.tmp 8), none⟩,
    ⟨(some 35), .mv (.tmp 7), none⟩,
    ⟨(some 36), .lenS (.tmp 35), none⟩,
    ⟨(some 37), .bin .lss (.tmp 34) (.tmp 36), none⟩]
def k7_11 : VC := .cond (.tmp 37) .skip (.exit 0)
def k7_12 : VC := .seq k7_10 k7_11
def k7_13 : VC := .reg [⟨(some 40), .mv (.tmp 5), none⟩,
    ⟨(some 41), .mv (.tmp 40), none⟩,
    ⟨(some 42), .mv (.tmp 7), (some (41, true))⟩,
    ⟨(some 43), .mv (.tmp 8), (some (41, true))⟩,
    ⟨(some 44), .idxS (.tmp 42) (.tmp 43), (some (41, true))⟩,
    ⟨(some 45), .bin .eql (.tmp 44) (.const (.int .u8 0)), (some (41, true))⟩,
    ⟨(some 46), .pick (.tmp 41) (.tmp 45) (.const (.bool false)), none⟩,
    ⟨(some 47), .mv (.tmp 46), none⟩,
    ⟨(some 48), .mv (.tmp 7), (some (47, true))⟩,
    ⟨(some 49), .mv (.tmp 8), (some (47, true))⟩,
    ⟨(some 50), .bin .add (.tmp 49) (.const (.int .i64 1)), (some (47, true))⟩,
    ⟨(some 51), .idxS (.tmp 48) (.tmp 50), (some (47, true))⟩,
    ⟨(some 52), .bin .eql (.tmp 51) (.const (.int .u8 0)), (some (47, true))⟩,
    ⟨(some 53), .pick (.tmp 47) (.tmp 52) (.const (.bool false)), none⟩,
    ⟨(some 5), .mv (.tmp 53), none⟩]
def k7_14 : VC := .regD [⟨(some 54), .mv (.tmp 6), none⟩,
    ⟨(some 55), .mv (.tmp 7), none⟩,
    ⟨(some 56), .mv (.tmp 8), none⟩,
    ⟨(some 57), .bin .add (.tmp 56) (.const (.int .i64 1)), none⟩,
    ⟨(some 58), .mv (.tmp 8), none⟩,
    ⟨(some 59), .bin .add (.tmp 58) (.const (.int .i64 2)), none⟩,
    ⟨(some 60), .sliceS (.tmp 55) (some (.tmp 57)) (some (.tmp 59)), none⟩,
    ⟨(some 61), .bin .add (.tmp 54) (.tmp 60), none⟩,
    ⟨(some 62), .mv (.tmp 7), none⟩,
    ⟨(some 63), .mv (.tmp 8), none⟩,
    ⟨(some 64), .mv (.tmp 8), none⟩,
    ⟨(some 65), .bin .add (.tmp 64) (.const (.int .i64 1)), none⟩,
    ⟨(some 66), .sliceS (.tmp 62) (some (.tmp 63)) (some (.tmp 65)), none⟩,
    ⟨(some 67), .bin .add (.tmp 61) (.tmp 66), none⟩,
    ⟨(some 6), .mv (.tmp 67), none⟩] []
def k7_15 : VC := .seq k7_13 k7_14
def k7_16 : VC := .block 1 k7_15
def k7_17 : VC := .reg [⟨(some 38), .mv (.tmp 8), none⟩,
    ⟨(some 39), .bin .add (.tmp 38) (.const (.int .i64 2)), none⟩,
    ⟨(some 8), .mv (.tmp 39), none⟩]
def k7_18 : VC := .seq k7_16 k7_17
def k7_19 : VC := .seq k7_12 k7_18
def k7_20 : VC := .loop k7_19
def k7_21 : VC := .block 0 k7_20
def k7_22 : VC := .seq k7_9 k7_21
def k7_23 : VC := .reg [⟨(some 68), .mv (.tmp 7), none⟩,
    ⟨(some 69), .callF 29 [(.tmp 68)], none⟩,
    ⟨(some 9), .mv (.tmp 69), none⟩]
def k7_24 : VC := .reg [⟨(some 70), .mv (.tmp 9), none⟩,
    ⟨(some 71), .mv (.tmp 1), none⟩,
    ⟨(some 72), .mv (.tmp 0), none⟩,
    ⟨(some 73), .bin .add (.tmp 71) (.tmp 72), none⟩,
    ⟨(some 74), .callF 29 [(.tmp 73)], none⟩,
    ⟨(some 75), .bin .eql (.tmp 70) (.tmp 74), none⟩,
    ⟨(some 76), .mv (.tmp 75), none⟩,
    ⟨(some 77), .mv (.tmp 9), (some (76, true))⟩,
    ⟨(some 78), .bin .eql (.tmp 77) (.const (.int .i64 0)), (some (76, true))⟩,
    ⟨(some 79), .mv (.tmp 5), (some (76, true))⟩,
    ⟨(some 80), .eqB false (.tmp 78) (.tmp 79), (some (76, true))⟩,
    ⟨(some 81), .pick (.tmp 76) (.tmp 80) (.const (.bool false)), none⟩,
    ⟨(some 82), .mv (.tmp 81), none⟩,
    ⟨(some 83), .mv (.tmp 9), (some (82, true))⟩,
    ⟨(some 84), .bin .geq (.tmp 83) (.const (.int .i64 0)), (some (82, true))⟩,
    ⟨(some 85), .pick (.tmp 82) (.tmp 84) (.const (.bool false)), none⟩,
    ⟨(some 86), .mv (.tmp 85), none⟩,
    ⟨(some 87), .mv (.tmp 9), (some (86, true))⟩,
    ⟨(some 88), .bin .leq (.tmp 87) (.const (.int .i64 65535)), (some (86, true))⟩,
    ⟨(some 89), .pick (.tmp 86) (.tmp 88) (.const (.bool false)), none⟩,
    ⟨(some 90), .mv (.tmp 89), none⟩,
    ⟨(some 91), .mv (.tmp 6), (some (90, true))⟩,
    ⟨(some 92), .callF 29 [(.tmp 91)], (some (90, true))⟩,
    ⟨(some 93), .mv (.tmp 9), (some (90, true))⟩,
    ⟨(some 94), .bin .quo (.tmp 93) (.const (.int .i64 256)), (some (90, true))⟩,
    ⟨(some 95), .mv (.tmp 9), (some (90, true))⟩,
    ⟨(some 96), .bin .rem (.tmp 95) (.const (.int .i64 256)), (some (90, true))⟩,
    ⟨(some 97), .bin .mul (.tmp 96) (.const (.int .i64 256)), (some (90, true))⟩,
    ⟨(some 98), .bin .add (.tmp 94) (.tmp 97), (some (90, true))⟩,
    ⟨(some 99), .bin .eql (.tmp 92) (.tmp 98), (some (90, true))⟩,
    ⟨(some 100), .pick (.tmp 90) (.tmp 99) (.const (.bool false)), none⟩,
    ⟨(some 101), .mv (.tmp 100), none⟩,
    ⟨(some 102), .callF 28 [], (some (101, true))⟩,
    ⟨(some 103), .pick (.tmp 101) (.tmp 102) (.const (.bool false)), none⟩,
    ⟨(some 4), .mv (.tmp 103), none⟩]
def k7_25 : VC := .seq k7_24 .ret
def k7_26 : VC := .seq k7_23 k7_25
def k7_27 : VC := .seq k7_22 k7_26
def k7_28 : VC := .seq k7_8 k7_27
def k7_29 : VC := .seq k7_7 k7_28
def k7_30 : VC := .seq k7_6 k7_29
def k7_31 : VC := .seq k7_5 k7_30
def k7_32 : VC := .seq k7_0 k7_31
def fn7 : VFn := ⟨104, k7_32, [.tmp 4]⟩
/- 28: cloakroom/cloakroomlaw03.awake -/
def k28_0 : VC := .reg [⟨(some 0), .mv (.const (.bool false)), none⟩]
def k28_1 : VC := .reg [⟨(some 1), .callF 29 [(.const (.string ⟨⟨[0, 1, 242, 3]⟩⟩))], none⟩,
    ⟨(some 2), .bin .eql (.tmp 1) (.const (.int .i64 61956)), none⟩,
    ⟨(some 3), .mv (.tmp 2), none⟩,
    ⟨(some 4), .callF 42 [(.const (.string ⟨⟨[255, 255]⟩⟩))], (some (3, true))⟩,
    ⟨(some 5), .pick (.tmp 3) (.tmp 4) (.const (.bool false)), none⟩,
    ⟨(some 6), .mv (.tmp 5), none⟩,
    ⟨(some 7), .callF 42 [(.const (.string ⟨⟨[0, 0]⟩⟩))], (some (6, true))⟩,
    ⟨(some 8), .not (.tmp 7), (some (6, true))⟩,
    ⟨(some 9), .pick (.tmp 6) (.tmp 8) (.const (.bool false)), none⟩,
    ⟨(some 10), .mv (.tmp 9), none⟩,
    ⟨(some 11), .callF 47 [(.const (.string ⟨⟨[97, 98, 99]⟩⟩)), (.const (.int .i64 1)), (.const (.int .i64 1)), (.const (.int .u64 65))], (some (10, true))⟩,
    ⟨(some 12), .bin .eql (.tmp 11) (.const (.string ⟨⟨[97, 65, 99]⟩⟩)), (some (10, true))⟩,
    ⟨(some 13), .pick (.tmp 10) (.tmp 12) (.const (.bool false)), none⟩,
    ⟨(some 0), .mv (.tmp 13), none⟩]
def k28_2 : VC := .seq k28_1 .ret
def k28_3 : VC := .seq k28_0 k28_2
def fn28 : VFn := ⟨14, k28_3, [.tmp 0]⟩
/- 29: cloakroom/check.Sum -/
def k29_0 : VC := .reg [⟨(some 2), .mv (.const (.int .i64 0)), none⟩]
def k29_1 : VC := .reg [⟨(some 3), .alloc [(.int .i64 0)], none⟩,
    ⟨none, .store 1 (.tmp 3) (.const (.int .i64 0)), none⟩]
def k29_2 : VC := .reg [⟨(some 5), .mv (.tmp 0), none⟩,
    ⟨(some 6), .callF 62 [(.tmp 5)], none⟩]
def k29_3 : VC := .reg [⟨(some 4), .mv (.tmp 7), none⟩]
def k29_4 : VC := .reg [⟨(some 8), .load1 (.int .i64) (.tmp 3), none⟩,
    ⟨(some 9), .mv (.tmp 4), none⟩,
    ⟨(some 10), .bin .add (.tmp 8) (.tmp 9), none⟩,
    ⟨(some 11), .callF 63 [(.tmp 10)], none⟩,
    ⟨none, .store 1 (.tmp 3) (.tmp 11), none⟩]
def k29_5 : VC := .block 1 k29_4
def k29_6 : VC := .rangeF (.tmp 6) [7] k29_3 k29_5
def k29_7 : VC := .block 0 k29_6
def k29_8 : VC := .seq k29_2 k29_7
def k29_9 : VC := .reg [⟨(some 12), .load1 (.int .i64) (.tmp 3), none⟩,
    ⟨(some 2), .mv (.tmp 12), none⟩]
def k29_10 : VC := .seq k29_9 .ret
def k29_11 : VC := .seq k29_8 k29_10
def k29_12 : VC := .seq k29_1 k29_11
def k29_13 : VC := .seq k29_0 k29_12
def fn29 : VFn := ⟨13, k29_13, [.tmp 2]⟩
/- 62: cloakroom/check.words -/
def k62_0 : VC := .reg [⟨(some 1), .box (.tmp 0), none⟩,
    ⟨(some 2), .mv (.const .nilFunc), none⟩]
def k62_1 : VC := .reg [⟨(some 3), .mkFunc 92 [] [(.tmp 1)], none⟩,
    ⟨(some 2), .mv (.tmp 3), none⟩]
def k62_2 : VC := .seq k62_1 .ret
def k62_3 : VC := .seq k62_0 k62_2
def fn62 : VFn := ⟨4, k62_3, [.tmp 2]⟩
/- 92: cloakroom/check.words$1 -/
def k92_0 : VC := .reg [⟨(some 3), .mv (.const (.int .i64 0)), none⟩]
def k92_1 : VC := .reg [⟨(some 5), .mv (.tmp 3), none⟩,
    ⟨(some 6), .load1 .str (.tmp 1), none⟩,
    ⟨(some 7), .lenS (.tmp 6), none⟩,
    ⟨(some 8), .bin .lss (.tmp 5) (.tmp 7), none⟩]
def k92_2 : VC := .cond (.tmp 8) .skip (.exit 0)
def k92_3 : VC := .seq k92_1 k92_2
def k92_4 : VC := .reg [⟨(some 11), .load1 .str (.tmp 1), none⟩,
    ⟨(some 12), .mv (.tmp 3), none⟩,
    ⟨(some 13), .idxS (.tmp 11) (.tmp 12), none⟩,
    ⟨(some 14), .conv .i64 (.tmp 13), none⟩,
    ⟨(some 15), .bin .shl (.tmp 14) (.const (.int .u64 8)), none⟩,
    ⟨(some 4), .mv (.tmp 15), none⟩]
def k92_5 : VC := .reg [⟨(some 16), .mv (.tmp 3), none⟩,
    ⟨(some 17), .bin .add (.tmp 16) (.const (.int .i64 1)), none⟩,
    ⟨(some 18), .load1 .str (.tmp 1), none⟩,
    ⟨(some 19), .lenS (.tmp 18), none⟩,
    ⟨(some 20), .bin .lss (.tmp 17) (.tmp 19), none⟩]
def k92_6 : VC := .reg [⟨(some 21), .mv (.tmp 4), none⟩,
    ⟨(some 22), .load1 .str (.tmp 1), none⟩,
    ⟨(some 23), .mv (.tmp 3), none⟩,
    ⟨(some 24), .bin .add (.tmp 23) (.const (.int .i64 1)), none⟩,
    ⟨(some 25), .idxS (.tmp 22) (.tmp 24), none⟩,
    ⟨(some 26), .conv .i64 (.tmp 25), none⟩,
    ⟨(some 27), .bin .or (.tmp 21) (.tmp 26), none⟩,
    ⟨(some 4), .mv (.tmp 27), none⟩]
def k92_7 : VC := .cond (.tmp 20) k92_6 .skip
def k92_8 : VC := .seq k92_5 k92_7
def k92_9 : VC := .reg [⟨(some 28), .mv (.tmp 0), none⟩,
    ⟨(some 29), .mv (.tmp 4), none⟩,
    ⟨(some 30), .callV (.tmp 28) [(.tmp 29)], none⟩,
    ⟨(some 31), .not (.tmp 30), none⟩]
def k92_10 : VC := .cond (.tmp 31) .ret .skip
def k92_11 : VC := .seq k92_9 k92_10
def k92_12 : VC := .seq k92_8 k92_11
def k92_13 : VC := .seq k92_4 k92_12
def k92_14 : VC := .block 1 k92_13
def k92_15 : VC := .reg [⟨(some 9), .mv (.tmp 3), none⟩,
    ⟨(some 10), .bin .add (.tmp 9) (.const (.int .i64 2)), none⟩,
    ⟨(some 3), .mv (.tmp 10), none⟩]
def k92_16 : VC := .seq k92_14 k92_15
def k92_17 : VC := .seq k92_3 k92_16
def k92_18 : VC := .loop k92_17
def k92_19 : VC := .block 0 k92_18
def k92_20 : VC := .seq k92_0 k92_19
def fn92 : VFn := ⟨32, k92_20, []⟩
/- 63: cloakroom/check.fold -/
def k63_0 : VC := .reg [⟨(some 2), .mv (.const (.int .i64 0)), none⟩]
def k63_1 : VC := .reg [⟨(some 3), .mv (.tmp 0), none⟩,
    ⟨(some 4), .bin .gtr (.tmp 3) (.const (.int .i64 65535)), none⟩]
def k63_2 : VC := .cond (.tmp 4) .skip (.exit 0)
def k63_3 : VC := .seq k63_1 k63_2
def k63_4 : VC := .reg [⟨(some 5), .mv (.tmp 0), none⟩,
    ⟨(some 6), .bin .and (.tmp 5) (.const (.int .i64 65535)), none⟩,
    ⟨(some 7), .mv (.tmp 0), none⟩,
    ⟨(some 8), .bin .shr (.tmp 7) (.const (.int .u64 16)), none⟩,
    ⟨(some 9), .bin .add (.tmp 6) (.tmp 8), none⟩,
    ⟨(some 0), .mv (.tmp 9), none⟩]
def k63_5 : VC := .block 1 k63_4
def k63_6 : VC := .seq k63_3 k63_5
def k63_7 : VC := .loop k63_6
def k63_8 : VC := .block 0 k63_7
def k63_9 : VC := .reg [⟨(some 10), .mv (.tmp 0), none⟩,
    ⟨(some 2), .mv (.tmp 10), none⟩]
def k63_10 : VC := .seq k63_9 .ret
def k63_11 : VC := .seq k63_8 k63_10
def k63_12 : VC := .seq k63_0 k63_11
def fn63 : VFn := ⟨11, k63_12, [.tmp 2]⟩
/- 42: cloakroom/check.Right -/
def k42_0 : VC := .reg [⟨(some 2), .mv (.const (.bool false)), none⟩]
def k42_1 : VC := .reg [⟨(some 3), .mv (.tmp 0), none⟩,
    ⟨(some 4), .callF 29 [(.tmp 3)], none⟩,
    ⟨(some 5), .bin .eql (.tmp 4) (.const (.int .i64 65535)), none⟩,
    ⟨(some 2), .mv (.tmp 5), none⟩]
def k42_2 : VC := .seq k42_1 .ret
def k42_3 : VC := .seq k42_0 k42_2
def fn42 : VFn := ⟨6, k42_3, [.tmp 2]⟩
/- 47: cloakroom/check.Set -/
def k47_0 : VC := .reg [⟨(some 8), .mv (.const (.string ⟨⟨[]⟩⟩)), none⟩]
def k47_1 : VC := .reg [⟨(some 10), .mv (.tmp 3), none⟩,
    ⟨(some 11), .mv (.tmp 2), none⟩,
    ⟨(some 12), .callF 74 [(.tmp 10), (.tmp 11)], none⟩,
    ⟨(some 9), .mv (.tmp 12), none⟩]
def k47_2 : VC := .reg [⟨(some 13), .mv (.tmp 9), none⟩,
    ⟨(some 14), .bin .eql (.tmp 13) (.const (.string ⟨⟨[]⟩⟩)), none⟩,
    ⟨(some 15), .mv (.tmp 14), none⟩,
    ⟨(some 16), .mv (.tmp 1), (some (15, false))⟩,
    ⟨(some 17), .bin .lss (.tmp 16) (.const (.int .i64 0)), (some (15, false))⟩,
    ⟨(some 18), .pick (.tmp 15) (.const (.bool true)) (.tmp 17), none⟩,
    ⟨(some 19), .mv (.tmp 18), none⟩,
    ⟨(some 20), .mv (.tmp 0), (some (19, false))⟩,
    ⟨(some 21), .lenS (.tmp 20), (some (19, false))⟩,
    ⟨(some 22), .mv (.tmp 2), (some (19, false))⟩,
    ⟨(some 23), .bin .sub (.tmp 21) (.tmp 22), (some (19, false))⟩,
    ⟨(some 24), .mv (.tmp 1), (some (19, false))⟩,
    ⟨(some 25), .bin .lss (.tmp 23) (.tmp 24), (some (19, false))⟩,
    ⟨(some 26), .pick (.tmp 19) (.const (.bool true)) (.tmp 25), none⟩]
def k47_3 : VC := .reg [⟨(some 27), .mv (.tmp 0), none⟩,
    ⟨(some 8), .mv (.tmp 27), none⟩]
def k47_4 : VC := .seq k47_3 .ret
def k47_5 : VC := .cond (.tmp 26) k47_4 .skip
def k47_6 : VC := .seq k47_2 k47_5
def k47_7 : VC := .regD [⟨(some 28), .mv (.tmp 0), none⟩,
    ⟨(some 29), .mv (.tmp 1), none⟩,
    ⟨(some 30), .sliceS (.tmp 28) none (some (.tmp 29)), none⟩,
    ⟨(some 31), .mv (.tmp 9), none⟩,
    ⟨(some 32), .bin .add (.tmp 30) (.tmp 31), none⟩,
    ⟨(some 33), .mv (.tmp 0), none⟩,
    ⟨(some 34), .mv (.tmp 1), none⟩,
    ⟨(some 35), .mv (.tmp 2), none⟩,
    ⟨(some 36), .bin .add (.tmp 34) (.tmp 35), none⟩,
    ⟨(some 37), .sliceS (.tmp 33) (some (.tmp 36)) none, none⟩,
    ⟨(some 38), .bin .add (.tmp 32) (.tmp 37), none⟩,
    ⟨(some 8), .mv (.tmp 38), none⟩] []
def k47_8 : VC := .seq k47_7 .ret
def k47_9 : VC := .seq k47_6 k47_8
def k47_10 : VC := .seq k47_1 k47_9
def k47_11 : VC := .seq k47_0 k47_10
def fn47 : VFn := ⟨39, k47_11, [.tmp 8]⟩
/- 74: cloakroom/octet.Put -/
def k74_0 : VC := .reg [⟨(some 4), .mv (.const (.string ⟨⟨[]⟩⟩)), none⟩]
def k74_1 : VC := .reg [⟨(some 7), .mv (.tmp 1), none⟩,
    ⟨(some 8), .bin .lss (.tmp 7) (.const (.int .i64 1)), none⟩,
    ⟨(some 9), .mv (.tmp 8), none⟩,
    ⟨(some 10), .mv (.tmp 1), (some (9, false))⟩,
    ⟨(some 11), .bin .gtr (.tmp 10) (.const (.int .i64 8)), (some (9, false))⟩,
    ⟨(some 12), .pick (.tmp 9) (.const (.bool true)) (.tmp 11), none⟩]
def k74_2 : VC := .reg [⟨(some 4), .mv (.const (.string ⟨⟨[]⟩⟩)), none⟩]
def k74_3 : VC := .seq k74_2 .ret
def k74_4 : VC := .cond (.tmp 12) k74_3 .skip
def k74_5 : VC := .seq k74_1 k74_4
def k74_6 : VC := .reg [⟨(some 13), .mv (.tmp 1), none⟩,
    ⟨(some 14), .mkSl 1 1 [(.int .u8 0)] (.tmp 13) (.tmp 13), none⟩,
    ⟨(some 5), .mv (.tmp 14), none⟩]
def k74_7 : VC := .reg [⟨(some 15), .mv (.tmp 5), none⟩,
    ⟨(some 16), .lenL (.tmp 15), none⟩,
    ⟨(some 17), .mv (.const (.int .i64 0)), none⟩]
def k74_8 : VC := .reg [⟨(some 18), .bin .lss (.tmp 17) (.tmp 16), none⟩]
def k74_9 : VC := .cond (.tmp 18) .skip (.exit 0)
def k74_10 : VC := .reg [⟨(some 19), .mv (.tmp 17), none⟩,
    ⟨(some 6), .mv (.tmp 19), none⟩]
def k74_11 : VC := .reg [⟨(some 20), .mv (.tmp 5), none⟩,
    ⟨(some 21), .mv (.tmp 6), none⟩,
    ⟨(some 22), .mv (.tmp 0), none⟩,
    ⟨(some 23), .mv (.tmp 1), none⟩,
    ⟨(some 24), .bin .sub (.tmp 23) (.const (.int .i64 1)), none⟩,
    ⟨(some 25), .mv (.tmp 6), none⟩,
    ⟨(some 26), .bin .sub (.tmp 24) (.tmp 25), none⟩,
    ⟨(some 27), .bin .mul (.const (.int .i64 8)) (.tmp 26), none⟩,
    ⟨(some 28), .bin .shr (.tmp 22) (.tmp 27), none⟩,
    ⟨(some 29), .conv .u8 (.tmp 28), none⟩,
    ⟨(some 30), .idxAL 1 (.tmp 20) (.tmp 21), none⟩,
    ⟨none, .store 1 (.tmp 30) (.tmp 29), none⟩]
def k74_12 : VC := .seq k74_10 k74_11
def k74_13 : VC := .block 1 k74_12
def k74_14 : VC := .reg [⟨(some 31), .bin .add (.tmp 17) (.const (.int .i64 1)), none⟩,
    ⟨(some 17), .mv (.tmp 31), none⟩]
def k74_15 : VC := .seq k74_13 k74_14
def k74_16 : VC := .seq k74_9 k74_15
def k74_17 : VC := .seq k74_8 k74_16
def k74_18 : VC := .loop k74_17
def k74_19 : VC := .block 0 k74_18
def k74_20 : VC := .seq k74_7 k74_19
def k74_21 : VC := .reg [⟨(some 32), .mv (.tmp 5), none⟩,
    ⟨(some 33), .b2s (.tmp 32), none⟩,
    ⟨(some 4), .mv (.tmp 33), none⟩]
def k74_22 : VC := .seq k74_21 .ret
def k74_23 : VC := .seq k74_20 k74_22
def k74_24 : VC := .seq k74_6 k74_23
def k74_25 : VC := .seq k74_5 k74_24
def k74_26 : VC := .seq k74_0 k74_25
def fn74 : VFn := ⟨34, k74_26, [.tmp 4]⟩
/- 11: cloakroom/cloakroomlaw03.CheckTells -/
def k11_0 : VC := .reg [⟨(some 14), .mv (.const (.bool false)), none⟩]
def k11_1 : VC := .reg [⟨(some 15), .mv (.tmp 0), none⟩,
    ⟨(some 16), .lenS (.tmp 15), none⟩,
    ⟨(some 17), .bin .gtr (.tmp 16) (.const (.int .i64 200)), none⟩,
    ⟨(some 18), .mv (.tmp 17), none⟩,
    ⟨(some 19), .mv (.tmp 4), (some (18, false))⟩,
    ⟨(some 20), .lenS (.tmp 19), (some (18, false))⟩,
    ⟨(some 21), .bin .gtr (.tmp 20) (.const (.int .i64 60)), (some (18, false))⟩,
    ⟨(some 22), .pick (.tmp 18) (.const (.bool true)) (.tmp 21), none⟩,
    ⟨(some 23), .mv (.tmp 22), none⟩,
    ⟨(some 24), .mv (.tmp 5), (some (23, false))⟩,
    ⟨(some 25), .lenS (.tmp 24), (some (23, false))⟩,
    ⟨(some 26), .bin .gtr (.tmp 25) (.const (.int .i64 60)), (some (23, false))⟩,
    ⟨(some 27), .pick (.tmp 23) (.const (.bool true)) (.tmp 26), none⟩]
def k11_2 : VC := .reg [⟨(some 28), .callF 28 [], none⟩,
    ⟨(some 14), .mv (.tmp 28), none⟩]
def k11_3 : VC := .seq k11_2 .ret
def k11_4 : VC := .cond (.tmp 27) k11_3 .skip
def k11_5 : VC := .seq k11_1 k11_4
def k11_6 : VC := .reg [⟨(some 29), .mv (.tmp 0), none⟩,
    ⟨(some 30), .callF 29 [(.tmp 29)], none⟩,
    ⟨(some 31), .mv (.tmp 0), none⟩,
    ⟨(some 32), .callF 39 [(.tmp 31)], none⟩,
    ⟨(some 33), .bin .eql (.tmp 30) (.tmp 32), none⟩,
    ⟨(some 34), .mv (.tmp 33), none⟩,
    ⟨(some 35), .mv (.tmp 0), (some (34, true))⟩,
    ⟨(some 36), .callF 40 [(.tmp 35)], (some (34, true))⟩,
    ⟨(some 37), .mv (.tmp 0), (some (34, true))⟩,
    ⟨(some 38), .callF 41 [(.tmp 37)], (some (34, true))⟩,
    ⟨(some 39), .bin .eql (.tmp 36) (.tmp 38), (some (34, true))⟩,
    ⟨(some 40), .pick (.tmp 34) (.tmp 39) (.const (.bool false)), none⟩,
    ⟨(some 41), .mv (.tmp 40), none⟩,
    ⟨(some 42), .mv (.tmp 0), (some (41, true))⟩,
    ⟨(some 43), .callF 42 [(.tmp 42)], (some (41, true))⟩,
    ⟨(some 44), .mv (.tmp 0), (some (41, true))⟩,
    ⟨(some 45), .callF 39 [(.tmp 44)], (some (41, true))⟩,
    ⟨(some 46), .bin .eql (.tmp 45) (.const (.int .i64 65535)), (some (41, true))⟩,
    ⟨(some 47), .eqB false (.tmp 43) (.tmp 46), (some (41, true))⟩,
    ⟨(some 48), .pick (.tmp 41) (.tmp 47) (.const (.bool false)), none⟩,
    ⟨(some 49), .mv (.tmp 48), none⟩,
    ⟨(some 50), .mv (.tmp 1), (some (49, true))⟩,
    ⟨(some 51), .mv (.tmp 2), (some (49, true))⟩,
    ⟨(some 52), .mv (.tmp 3), (some (49, true))⟩,
    ⟨(some 53), .callF 43 [(.tmp 50), (.tmp 51), (.tmp 52)], (some (49, true))⟩,
    ⟨(some 54), .mv (.tmp 1), (some (49, true))⟩,
    ⟨(some 55), .mv (.tmp 2), (some (49, true))⟩,
    ⟨(some 56), .mv (.tmp 3), (some (49, true))⟩,
    ⟨(some 57), .callF 44 [(.tmp 54), (.tmp 55), (.tmp 56)], (some (49, true))⟩,
    ⟨(some 58), .bin .eql (.tmp 53) (.tmp 57), (some (49, true))⟩,
    ⟨(some 59), .pick (.tmp 49) (.tmp 58) (.const (.bool false)), none⟩,
    ⟨(some 60), .mv (.tmp 59), none⟩,
    ⟨(some 61), .mv (.tmp 1), (some (60, true))⟩,
    ⟨(some 62), .mv (.tmp 4), (some (60, true))⟩,
    ⟨(some 63), .mv (.tmp 5), (some (60, true))⟩,
    ⟨(some 64), .callF 45 [(.tmp 61), (.tmp 62), (.tmp 63)], (some (60, true))⟩,
    ⟨(some 65), .mv (.tmp 1), (some (60, true))⟩,
    ⟨(some 66), .mv (.tmp 4), (some (60, true))⟩,
    ⟨(some 67), .mv (.tmp 5), (some (60, true))⟩,
    ⟨(some 68), .callF 46 [(.tmp 65), (.tmp 66), (.tmp 67)], (some (60, true))⟩,
    ⟨(some 69), .bin .eql (.tmp 64) (.tmp 68), (some (60, true))⟩,
    ⟨(some 70), .pick (.tmp 60) (.tmp 69) (.const (.bool false)), none⟩,
    ⟨(some 71), .mv (.tmp 70), none⟩,
    ⟨(some 72), .mv (.tmp 0), (some (71, true))⟩,
    ⟨(some 73), .mv (.tmp 2), (some (71, true))⟩,
    ⟨(some 74), .mv (.tmp 3), (some (71, true))⟩,
    ⟨(some 75), .mv (.tmp 6), (some (71, true))⟩,
    ⟨(some 76), .callF 47 [(.tmp 72), (.tmp 73), (.tmp 74), (.tmp 75)], (some (71, true))⟩,
    ⟨(some 77), .mv (.tmp 0), (some (71, true))⟩,
    ⟨(some 78), .mv (.tmp 2), (some (71, true))⟩,
    ⟨(some 79), .mv (.tmp 3), (some (71, true))⟩,
    ⟨(some 80), .mv (.tmp 6), (some (71, true))⟩,
    ⟨(some 81), .callF 48 [(.tmp 77), (.tmp 78), (.tmp 79), (.tmp 80)], (some (71, true))⟩,
    ⟨(some 82), .bin .eql (.tmp 76) (.tmp 81), (some (71, true))⟩,
    ⟨(some 83), .pick (.tmp 71) (.tmp 82) (.const (.bool false)), none⟩,
    ⟨(some 84), .mv (.tmp 83), none⟩,
    ⟨(some 85), .callF 28 [], (some (84, true))⟩,
    ⟨(some 86), .pick (.tmp 84) (.tmp 85) (.const (.bool false)), none⟩,
    ⟨(some 14), .mv (.tmp 86), none⟩]
def k11_7 : VC := .seq k11_6 .ret
def k11_8 : VC := .seq k11_5 k11_7
def k11_9 : VC := .seq k11_0 k11_8
def fn11 : VFn := ⟨87, k11_9, [.tmp 14]⟩
/- 39: cloakroom/cloakroomref03.Sum -/
def k39_0 : VC := .reg [⟨(some 2), .mv (.const (.int .i64 0)), none⟩]
def k39_1 : VC := .reg [⟨(some 3), .mv (.tmp 0), none⟩,
    ⟨(some 4), .callF 70 [(.tmp 3)], none⟩,
    ⟨(some 5), .callF 69 [(.tmp 4)], none⟩,
    ⟨(some 2), .mv (.tmp 5), none⟩]
def k39_2 : VC := .seq k39_1 .ret
def k39_3 : VC := .seq k39_0 k39_2
def fn39 : VFn := ⟨6, k39_3, [.tmp 2]⟩
/- 70: cloakroom/cloakroomref03.Words -/
def k70_0 : VC := .reg [⟨(some 2), .mv (.const (.slice none 0 0)), none⟩]
def k70_1 : VC := .reg [⟨(some 5), .mv (.tmp 0), none⟩,
    ⟨(some 6), .lenS (.tmp 5), none⟩,
    ⟨(some 7), .bin .rem (.tmp 6) (.const (.int .i64 2)), none⟩,
    ⟨(some 8), .bin .eql (.tmp 7) (.const (.int .i64 1)), none⟩]
def k70_2 : VC := .reg [⟨(some 9), .mv (.tmp 0), none⟩,
    ⟨(some 10), .bin .add (.tmp 9) (.const (.string ⟨⟨[0]⟩⟩)), none⟩,
    ⟨(some 0), .mv (.tmp 10), none⟩]
def k70_3 : VC := .cond (.tmp 8) k70_2 .skip
def k70_4 : VC := .seq k70_1 k70_3
def k70_5 : VC := .reg [⟨(some 3), .mv (.const (.slice none 0 0)), none⟩]
def k70_6 : VC := .reg [⟨(some 4), .mv (.const (.int .i64 0)), none⟩]
def k70_7 : VC := .reg [⟨(some 11), .mv (.tmp 4), none⟩,
    ⟨(some 12), .mv (.tmp 0), none⟩,
    ⟨(some 13), .lenS (.tmp 12), none⟩,
    ⟨(some 14), .bin .lss (.tmp 11) (.tmp 13), none⟩]
def k70_8 : VC := .cond (.tmp 14) .skip (.exit 0)
def k70_9 : VC := .seq k70_7 k70_8
def k70_10 : VC := .reg [⟨(some 17), .mv (.tmp 3), none⟩,
    ⟨(some 18), .mv (.tmp 0), none⟩,
    ⟨(some 19), .mv (.tmp 4), none⟩,
    ⟨(some 20), .callF 87 [(.tmp 18), (.tmp 19), (.const (.int .i64 2))], none⟩,
    ⟨(some 21), .buildSl 1 1 [(.int .i64 0)] [(0, 1, (.tmp 20))], none⟩,
    ⟨(some 22), .app 1 8 (.tmp 17) (.tmp 21), none⟩,
    ⟨(some 3), .mv (.tmp 22), none⟩]
def k70_11 : VC := .block 1 k70_10
def k70_12 : VC := .reg [⟨(some 15), .mv (.tmp 4), none⟩,
    ⟨(some 16), .bin .add (.tmp 15) (.const (.int .i64 2)), none⟩,
    ⟨(some 4), .mv (.tmp 16), none⟩]
def k70_13 : VC := .seq k70_11 k70_12
def k70_14 : VC := .seq k70_9 k70_13
def k70_15 : VC := .loop k70_14
def k70_16 : VC := .block 0 k70_15
def k70_17 : VC := .seq k70_6 k70_16
def k70_18 : VC := .reg [⟨(some 23), .mv (.tmp 3), none⟩,
    ⟨(some 2), .mv (.tmp 23), none⟩]
def k70_19 : VC := .seq k70_18 .ret
def k70_20 : VC := .seq k70_17 k70_19
def k70_21 : VC := .seq k70_5 k70_20
def k70_22 : VC := .seq k70_4 k70_21
def k70_23 : VC := .seq k70_0 k70_22
def fn70 : VFn := ⟨24, k70_23, [.tmp 2]⟩
/- 87: cloakroom/cloakroomref02.Must -/
def k87_0 : VC := .reg [⟨(some 6), .mv (.const (.int .i64 0)), none⟩]
def k87_1 : VC := .reg [⟨(some 10), .mv (.tmp 0), none⟩,
    ⟨(some 11), .mv (.tmp 1), none⟩,
    ⟨(some 12), .mv (.tmp 2), none⟩,
    ⟨(some 13), .callF 75 [(.tmp 10), (.tmp 11), (.tmp 12)], none⟩,
    ⟨(some 9), .mv (.tmp 13), none⟩,
    ⟨(some 14), .extract 0 (.tmp 9), none⟩,
    ⟨(some 15), .extract 1 (.tmp 9), none⟩,
    ⟨(some 7), .mv (.tmp 14), none⟩,
    ⟨(some 8), .mv (.tmp 15), none⟩]
def k87_2 : VC := .reg [⟨(some 16), .mv (.tmp 7), none⟩,
    ⟨(some 17), .conv .i64 (.tmp 16), none⟩,
    ⟨(some 6), .mv (.tmp 17), none⟩]
def k87_3 : VC := .seq k87_2 .ret
def k87_4 : VC := .seq k87_1 k87_3
def k87_5 : VC := .seq k87_0 k87_4
def fn87 : VFn := ⟨18, k87_5, [.tmp 6]⟩
/- 75: cloakroom/cloakroomref02.Get -/
def k75_0 : VC := .reg [⟨(some 6), .mv (.const (.int .u64 0)), none⟩,
    ⟨(some 7), .mv (.const (.bool false)), none⟩]
def k75_1 : VC := .reg [⟨(some 10), .mv (.tmp 2), none⟩,
    ⟨(some 11), .bin .lss (.tmp 10) (.const (.int .i64 1)), none⟩,
    ⟨(some 12), .mv (.tmp 11), none⟩,
    ⟨(some 13), .mv (.tmp 2), (some (12, false))⟩,
    ⟨(some 14), .bin .gtr (.tmp 13) (.const (.int .i64 8)), (some (12, false))⟩,
    ⟨(some 15), .pick (.tmp 12) (.const (.bool true)) (.tmp 14), none⟩,
    ⟨(some 16), .mv (.tmp 15), none⟩,
    ⟨(some 17), .mv (.tmp 1), (some (16, false))⟩,
    ⟨(some 18), .bin .lss (.tmp 17) (.const (.int .i64 0)), (some (16, false))⟩,
    ⟨(some 19), .pick (.tmp 16) (.const (.bool true)) (.tmp 18), none⟩,
    ⟨(some 20), .mv (.tmp 19), none⟩,
    ⟨(some 21), .mv (.tmp 1), (some (20, false))⟩,
    ⟨(some 22), .mv (.tmp 0), (some (20, false))⟩,
    ⟨(some 23), .lenS (.tmp 22), (some (20, false))⟩,
    ⟨(some 24), .bin .gtr (.tmp 21) (.tmp 23), (some (20, false))⟩,
    ⟨(some 25), .pick (.tmp 20) (.const (.bool true)) (.tmp 24), none⟩,
    ⟨(some 26), .mv (.tmp 25), none⟩,
    ⟨(some 27), .mv (.tmp 2), (some (26, false))⟩,
    ⟨(some 28), .mv (.tmp 0), (some (26, false))⟩,
    ⟨(some 29), .lenS (.tmp 28), (some (26, false))⟩,
    ⟨(some 30), .mv (.tmp 1), (some (26, false))⟩,
    ⟨(some 31), .bin .sub (.tmp 29) (.tmp 30), (some (26, false))⟩,
    ⟨(some 32), .bin .gtr (.tmp 27) (.tmp 31), (some (26, false))⟩,
    ⟨(some 33), .pick (.tmp 26) (.const (.bool true)) (.tmp 32), none⟩]
def k75_2 : VC := .reg [⟨(some 6), .mv (.const (.int .u64 0)), none⟩,
    ⟨(some 7), .mv (.const (.bool false)), none⟩]
def k75_3 : VC := .seq k75_2 .ret
def k75_4 : VC := .cond (.tmp 33) k75_3 .skip
def k75_5 : VC := .seq k75_1 k75_4
def k75_6 : VC := .reg [⟨(some 8), .mv (.const (.int .u64 0)), none⟩]
def k75_7 : VC := .reg [⟨(some 9), .mv (.const (.int .i64 0)), none⟩]
def k75_8 : VC := .reg [⟨(some 34), .mv (.tmp 9), none⟩,
    ⟨(some 35), .mv (.tmp 2), none⟩,
    ⟨(some 36), .bin .lss (.tmp 34) (.tmp 35), none⟩]
def k75_9 : VC := .cond (.tmp 36) .skip (.exit 0)
def k75_10 : VC := .seq k75_8 k75_9
def k75_11 : VC := .reg [⟨(some 39), .mv (.tmp 8), none⟩,
    ⟨(some 40), .bin .mul (.tmp 39) (.const (.int .u64 256)), none⟩,
    ⟨(some 41), .mv (.tmp 0), none⟩,
    ⟨(some 42), .mv (.tmp 1), none⟩,
    ⟨(some 43), .mv (.tmp 9), none⟩,
    ⟨(some 44), .bin .add (.tmp 42) (.tmp 43), none⟩,
    ⟨(some 45), .idxS (.tmp 41) (.tmp 44), none⟩,
    ⟨(some 46), .conv .u64 (.tmp 45), none⟩,
    ⟨(some 47), .bin .add (.tmp 40) (.tmp 46), none⟩,
    ⟨(some 8), .mv (.tmp 47), none⟩]
def k75_12 : VC := .block 1 k75_11
def k75_13 : VC := .reg [⟨(some 37), .mv (.tmp 9), none⟩,
    ⟨(some 38), .bin .add (.tmp 37) (.const (.int .i64 1)), none⟩,
    ⟨(some 9), .mv (.tmp 38), none⟩]
def k75_14 : VC := .seq k75_12 k75_13
def k75_15 : VC := .seq k75_10 k75_14
def k75_16 : VC := .loop k75_15
def k75_17 : VC := .block 0 k75_16
def k75_18 : VC := .seq k75_7 k75_17
def k75_19 : VC := .reg [⟨(some 48), .mv (.tmp 8), none⟩,
    ⟨(some 6), .mv (.tmp 48), none⟩,
    ⟨(some 7), .mv (.const (.bool true)), none⟩]
def k75_20 : VC := .seq k75_19 .ret
def k75_21 : VC := .seq k75_18 k75_20
def k75_22 : VC := .seq k75_6 k75_21
def k75_23 : VC := .seq k75_5 k75_22
def k75_24 : VC := .seq k75_0 k75_23
def fn75 : VFn := ⟨49, k75_24, [.tmp 6, .tmp 7]⟩
/- 69: cloakroom/cloakroomref03.Add -/
def k69_0 : VC := .reg [⟨(some 2), .mv (.const (.int .i64 0)), none⟩]
def k69_1 : VC := .reg [⟨(some 3), .mv (.const (.int .i64 0)), none⟩]
def k69_2 : VC := .reg [⟨(some 4), .mv (.const (.int .i64 0)), none⟩]
def k69_3 : VC := .reg [⟨(some 5), .mv (.tmp 4), none⟩,
    ⟨(some 6), .mv (.tmp 0), none⟩,
    ⟨(some 7), .lenL (.tmp 6), none⟩,
    ⟨(some 8), .bin .lss (.tmp 5) (.tmp 7), none⟩]
def k69_4 : VC := .cond (.tmp 8) .skip (.exit 0)
def k69_5 : VC := .seq k69_3 k69_4
def k69_6 : VC := .reg [⟨(some 11), .mv (.tmp 3), none⟩,
    ⟨(some 12), .mv (.tmp 0), none⟩,
    ⟨(some 13), .mv (.tmp 4), none⟩,
    ⟨(some 14), .idxAL 1 (.tmp 12) (.tmp 13), none⟩,
    ⟨(some 15), .load1 (.int .i64) (.tmp 14), none⟩,
    ⟨(some 16), .bin .add (.tmp 11) (.tmp 15), none⟩,
    ⟨(some 3), .mv (.tmp 16), none⟩]
def k69_7 : VC := .block 1 k69_6
def k69_8 : VC := .reg [⟨(some 9), .mv (.tmp 4), none⟩,
    ⟨(some 10), .bin .add (.tmp 9) (.const (.int .i64 1)), none⟩,
    ⟨(some 4), .mv (.tmp 10), none⟩]
def k69_9 : VC := .seq k69_7 k69_8
def k69_10 : VC := .seq k69_5 k69_9
def k69_11 : VC := .loop k69_10
def k69_12 : VC := .block 0 k69_11
def k69_13 : VC := .seq k69_2 k69_12
def k69_14 : VC := .reg [⟨(some 17), .mv (.tmp 3), none⟩,
    ⟨(some 18), .bin .gtr (.tmp 17) (.const (.int .i64 65535)), none⟩]
def k69_15 : VC := .cond (.tmp 18) .skip (.exit 2)
def k69_16 : VC := .seq k69_14 k69_15
def k69_17 : VC := .reg [⟨(some 19), .mv (.tmp 3), none⟩,
    ⟨(some 20), .bin .rem (.tmp 19) (.const (.int .i64 65536)), none⟩,
    ⟨(some 21), .mv (.tmp 3), none⟩,
    ⟨(some 22), .bin .quo (.tmp 21) (.const (.int .i64 65536)), none⟩,
    ⟨(some 23), .bin .add (.tmp 20) (.tmp 22), none⟩,
    ⟨(some 3), .mv (.tmp 23), none⟩]
def k69_18 : VC := .block 3 k69_17
def k69_19 : VC := .seq k69_16 k69_18
def k69_20 : VC := .loop k69_19
def k69_21 : VC := .block 2 k69_20
def k69_22 : VC := .reg [⟨(some 24), .mv (.tmp 3), none⟩,
    ⟨(some 2), .mv (.tmp 24), none⟩]
def k69_23 : VC := .seq k69_22 .ret
def k69_24 : VC := .seq k69_21 k69_23
def k69_25 : VC := .seq k69_13 k69_24
def k69_26 : VC := .seq k69_1 k69_25
def k69_27 : VC := .seq k69_0 k69_26
def fn69 : VFn := ⟨25, k69_27, [.tmp 2]⟩
/- 40: cloakroom/check.Of -/
def k40_0 : VC := .reg [⟨(some 2), .mv (.const (.int .i64 0)), none⟩]
def k40_1 : VC := .reg [⟨(some 3), .mv (.tmp 0), none⟩,
    ⟨(some 4), .callF 29 [(.tmp 3)], none⟩,
    ⟨(some 5), .bin .sub (.const (.int .i64 65535)) (.tmp 4), none⟩,
    ⟨(some 2), .mv (.tmp 5), none⟩]
def k40_2 : VC := .seq k40_1 .ret
def k40_3 : VC := .seq k40_0 k40_2
def fn40 : VFn := ⟨6, k40_3, [.tmp 2]⟩
/- 41: cloakroom/cloakroomref03.Of -/
def k41_0 : VC := .reg [⟨(some 2), .mv (.const (.int .i64 0)), none⟩]
def k41_1 : VC := .reg [⟨(some 3), .mv (.tmp 0), none⟩,
    ⟨(some 4), .callF 39 [(.tmp 3)], none⟩,
    ⟨(some 5), .bin .sub (.const (.int .i64 65535)) (.tmp 4), none⟩,
    ⟨(some 2), .mv (.tmp 5), none⟩]
def k41_2 : VC := .seq k41_1 .ret
def k41_3 : VC := .seq k41_0 k41_2
def fn41 : VFn := ⟨6, k41_3, [.tmp 2]⟩
/- 43: cloakroom/check.Turn -/
def k43_0 : VC := .reg [⟨(some 6), .mv (.const (.int .i64 0)), none⟩]
def k43_1 : VC := .reg [⟨(some 7), .mv (.tmp 0), none⟩,
    ⟨(some 8), .mv (.tmp 1), none⟩,
    ⟨(some 9), .mv (.tmp 2), none⟩,
    ⟨(some 10), .buildSl 3 1 [(.int .i64 0), (.int .i64 0), (.int .i64 0)] [(0, 1, (.tmp 7)), (1, 1, (.tmp 8)), (2, 1, (.tmp 9))], none⟩,
    ⟨(some 11), .callF 71 [(.tmp 10)], none⟩,
    ⟨(some 12), .not (.tmp 11), none⟩]
def k43_2 : VC := .reg [⟨(some 6), .mv (.const (.int .i64 0)), none⟩]
def k43_3 : VC := .seq k43_2 .ret
def k43_4 : VC := .cond (.tmp 12) k43_3 .skip
def k43_5 : VC := .seq k43_1 k43_4
def k43_6 : VC := .reg [⟨(some 13), .mv (.tmp 0), none⟩,
    ⟨(some 14), .bin .sub (.const (.int .i64 65535)) (.tmp 13), none⟩,
    ⟨(some 15), .bin .add (.tmp 14) (.const (.int .i64 65535)), none⟩,
    ⟨(some 16), .mv (.tmp 1), none⟩,
    ⟨(some 17), .bin .sub (.tmp 15) (.tmp 16), none⟩,
    ⟨(some 18), .mv (.tmp 2), none⟩,
    ⟨(some 19), .bin .add (.tmp 17) (.tmp 18), none⟩,
    ⟨(some 20), .callF 63 [(.tmp 19)], none⟩,
    ⟨(some 21), .bin .sub (.const (.int .i64 65535)) (.tmp 20), none⟩,
    ⟨(some 6), .mv (.tmp 21), none⟩]
def k43_7 : VC := .seq k43_6 .ret
def k43_8 : VC := .seq k43_5 k43_7
def k43_9 : VC := .seq k43_0 k43_8
def fn43 : VFn := ⟨22, k43_9, [.tmp 6]⟩
/- 71: cloakroom/check.may -/
def k71_0 : VC := .reg [⟨(some 2), .mv (.const (.bool false)), none⟩]
def k71_1 : VC := .reg [⟨(some 5), .mv (.tmp 0), none⟩,
    ⟨(some 6), .lenL (.tmp 5), none⟩,
    ⟨(some 7), .mv (.const (.int .i64 0)), none⟩]
def k71_2 : VC := .reg [⟨(some 8), .bin .lss (.tmp 7) (.tmp 6), none⟩]
def k71_3 : VC := .cond (.tmp 8) .skip (.exit 0)
def k71_4 : VC := .reg [⟨(some 9), .idxAL 1 (.tmp 5) (.tmp 7), none⟩,
    ⟨(some 10), .load1 (.int .i64) (.tmp 9), none⟩,
    ⟨(some 4), .mv (.tmp 10), none⟩]
def k71_5 : VC := .reg [⟨(some 11), .mv (.tmp 4), none⟩,
    ⟨(some 12), .bin .lss (.tmp 11) (.const (.int .i64 0)), none⟩,
    ⟨(some 13), .mv (.tmp 12), none⟩,
    ⟨(some 14), .mv (.tmp 4), (some (13, false))⟩,
    ⟨(some 15), .bin .gtr (.tmp 14) (.const (.int .i64 65535)), (some (13, false))⟩,
    ⟨(some 16), .pick (.tmp 13) (.const (.bool true)) (.tmp 15), none⟩]
def k71_6 : VC := .reg [⟨(some 2), .mv (.const (.bool false)), none⟩]
def k71_7 : VC := .seq k71_6 .ret
def k71_8 : VC := .cond (.tmp 16) k71_7 .skip
def k71_9 : VC := .seq k71_5 k71_8
def k71_10 : VC := .seq k71_4 k71_9
def k71_11 : VC := .block 1 k71_10
def k71_12 : VC := .reg [⟨(some 17), .bin .add (.tmp 7) (.const (.int .i64 1)), none⟩,
    ⟨(some 7), .mv (.tmp 17), none⟩]
def k71_13 : VC := .seq k71_11 k71_12
def k71_14 : VC := .seq k71_3 k71_13
def k71_15 : VC := .seq k71_2 k71_14
def k71_16 : VC := .loop k71_15
def k71_17 : VC := .block 0 k71_16
def k71_18 : VC := .seq k71_1 k71_17
def k71_19 : VC := .reg [⟨(some 2), .mv (.const (.bool true)), none⟩]
def k71_20 : VC := .seq k71_19 .ret
def k71_21 : VC := .seq k71_18 k71_20
def k71_22 : VC := .seq k71_0 k71_21
def fn71 : VFn := ⟨18, k71_22, [.tmp 2]⟩
/- 44: cloakroom/cloakroomref03.Turn -/
def k44_0 : VC := .reg [⟨(some 6), .mv (.const (.int .i64 0)), none⟩]
def k44_1 : VC := .reg [⟨(some 7), .mv (.tmp 0), none⟩,
    ⟨(some 8), .callF 72 [(.tmp 7)], none⟩,
    ⟨(some 9), .not (.tmp 8), none⟩,
    ⟨(some 10), .mv (.tmp 9), none⟩,
    ⟨(some 11), .mv (.tmp 1), (some (10, false))⟩,
    ⟨(some 12), .callF 72 [(.tmp 11)], (some (10, false))⟩,
    ⟨(some 13), .not (.tmp 12), (some (10, false))⟩,
    ⟨(some 14), .pick (.tmp 10) (.const (.bool true)) (.tmp 13), none⟩,
    ⟨(some 15), .mv (.tmp 14), none⟩,
    ⟨(some 16), .mv (.tmp 2), (some (15, false))⟩,
    ⟨(some 17), .callF 72 [(.tmp 16)], (some (15, false))⟩,
    ⟨(some 18), .not (.tmp 17), (some (15, false))⟩,
    ⟨(some 19), .pick (.tmp 15) (.const (.bool true)) (.tmp 18), none⟩]
def k44_2 : VC := .reg [⟨(some 6), .mv (.const (.int .i64 0)), none⟩]
def k44_3 : VC := .seq k44_2 .ret
def k44_4 : VC := .cond (.tmp 19) k44_3 .skip
def k44_5 : VC := .seq k44_1 k44_4
def k44_6 : VC := .reg [⟨(some 20), .mv (.tmp 0), none⟩,
    ⟨(some 21), .bin .sub (.const (.int .i64 65535)) (.tmp 20), none⟩,
    ⟨(some 22), .mv (.tmp 1), none⟩,
    ⟨(some 23), .bin .sub (.const (.int .i64 65535)) (.tmp 22), none⟩,
    ⟨(some 24), .mv (.tmp 2), none⟩,
    ⟨(some 25), .buildSl 3 1 [(.int .i64 0), (.int .i64 0), (.int .i64 0)] [(0, 1, (.tmp 21)), (1, 1, (.tmp 23)), (2, 1, (.tmp 24))], none⟩,
    ⟨(some 26), .callF 69 [(.tmp 25)], none⟩,
    ⟨(some 27), .bin .sub (.const (.int .i64 65535)) (.tmp 26), none⟩,
    ⟨(some 6), .mv (.tmp 27), none⟩]
def k44_7 : VC := .seq k44_6 .ret
def k44_8 : VC := .seq k44_5 k44_7
def k44_9 : VC := .seq k44_0 k44_8
def fn44 : VFn := ⟨28, k44_9, [.tmp 6]⟩
/- 72: cloakroom/cloakroomref03.word -/
def k72_0 : VC := .reg [⟨(some 2), .mv (.const (.bool false)), none⟩]
def k72_1 : VC := .reg [⟨(some 3), .mv (.tmp 0), none⟩,
    ⟨(some 4), .bin .geq (.tmp 3) (.const (.int .i64 0)), none⟩,
    ⟨(some 5), .mv (.tmp 4), none⟩,
    ⟨(some 6), .mv (.tmp 0), (some (5, true))⟩,
    ⟨(some 7), .bin .leq (.tmp 6) (.const (.int .i64 65535)), (some (5, true))⟩,
    ⟨(some 8), .pick (.tmp 5) (.tmp 7) (.const (.bool false)), none⟩,
    ⟨(some 2), .mv (.tmp 8), none⟩]
def k72_2 : VC := .seq k72_1 .ret
def k72_3 : VC := .seq k72_0 k72_2
def fn72 : VFn := ⟨9, k72_3, [.tmp 2]⟩
/- 45: cloakroom/check.Turned -/
def k45_0 : VC := .reg [⟨(some 3), .box (.tmp 0), none⟩,
    ⟨(some 5), .box (.tmp 2), none⟩,
    ⟨(some 6), .mv (.const (.int .i64 0)), none⟩]
def k45_1 : VC := .reg [⟨(some 11), .mv (.tmp 1), none⟩,
    ⟨(some 12), .lenS (.tmp 11), none⟩,
    ⟨(some 13), .load1 .str (.tmp 5), none⟩,
    ⟨(some 14), .lenS (.tmp 13), none⟩,
    ⟨(some 15), .bin .neq (.tmp 12) (.tmp 14), none⟩,
    ⟨(some 16), .mv (.tmp 15), none⟩,
    ⟨(some 17), .mv (.tmp 1), (some (16, false))⟩,
    ⟨(some 18), .lenS (.tmp 17), (some (16, false))⟩,
    ⟨(some 19), .bin .rem (.tmp 18) (.const (.int .i64 2)), (some (16, false))⟩,
    ⟨(some 20), .bin .gtr (.tmp 19) (.const (.int .i64 0)), (some (16, false))⟩,
    ⟨(some 21), .pick (.tmp 16) (.const (.bool true)) (.tmp 20), none⟩]
def k45_2 : VC := .reg [⟨(some 22), .load1 (.int .i64) (.tmp 3), none⟩,
    ⟨(some 6), .mv (.tmp 22), none⟩]
def k45_3 : VC := .seq k45_2 .ret
def k45_4 : VC := .cond (.tmp 21) k45_3 .skip
def k45_5 : VC := .seq k45_1 k45_4
def k45_6 : VC := .reg [⟨(some 7), .alloc [(.int .i64 0)], none⟩,
    ⟨none, .store 1 (.tmp 7) (.const (.int .i64 0)), none⟩]
def k45_7 : VC := .reg [⟨(some 23), .mv (.tmp 1), none⟩,
    ⟨(some 24), .callF 62 [(.tmp 23)], none⟩]
def k45_8 : VC := .reg [⟨(some 8), .mv (.tmp 25), none⟩]
def k45_9 : VC := .reg [⟨(some 27), .load1 .str (.tmp 5), none⟩,
    ⟨(some 28), .load1 (.int .i64) (.tmp 7), none⟩,
    ⟨(some 29), .callF 73 [(.tmp 27), (.tmp 28), (.const (.int .i64 2))], none⟩,
    ⟨(some 26), .mv (.tmp 29), none⟩,
    ⟨(some 30), .extract 0 (.tmp 26), none⟩,
    ⟨(some 31), .extract 1 (.tmp 26), none⟩,
    ⟨(some 9), .mv (.tmp 30), none⟩,
    ⟨(some 10), .mv (.tmp 31), none⟩]
def k45_10 : VC := .reg [⟨(some 32), .load1 (.int .i64) (.tmp 3), none⟩,
    ⟨(some 33), .mv (.tmp 8), none⟩,
    ⟨(some 34), .mv (.tmp 9), none⟩,
    ⟨(some 35), .conv .i64 (.tmp 34), none⟩,
    ⟨(some 36), .callF 43 [(.tmp 32), (.tmp 33), (.tmp 35)], none⟩,
    ⟨none, .store 1 (.tmp 3) (.tmp 36), none⟩]
def k45_11 : VC := .reg [⟨(some 37), .load1 (.int .i64) (.tmp 7), none⟩,
    ⟨(some 38), .bin .add (.tmp 37) (.const (.int .i64 2)), none⟩,
    ⟨none, .store 1 (.tmp 7) (.tmp 38), none⟩]
def k45_12 : VC := .seq k45_10 k45_11
def k45_13 : VC := .seq k45_9 k45_12
def k45_14 : VC := .block 1 k45_13
def k45_15 : VC := .rangeF (.tmp 24) [25] k45_8 k45_14
def k45_16 : VC := .block 0 k45_15
def k45_17 : VC := .seq k45_7 k45_16
def k45_18 : VC := .reg [⟨(some 39), .load1 (.int .i64) (.tmp 3), none⟩,
    ⟨(some 6), .mv (.tmp 39), none⟩]
def k45_19 : VC := .seq k45_18 .ret
def k45_20 : VC := .seq k45_17 k45_19
def k45_21 : VC := .seq k45_6 k45_20
def k45_22 : VC := .seq k45_5 k45_21
def k45_23 : VC := .seq k45_0 k45_22
def fn45 : VFn := ⟨40, k45_23, [.tmp 6]⟩
/- 73: cloakroom/octet.Get -/
def k73_0 : VC := .reg [⟨(some 6), .mv (.const (.int .u64 0)), none⟩,
    ⟨(some 7), .mv (.const (.bool false)), none⟩]
def k73_1 : VC := .reg [⟨(some 11), .mv (.tmp 2), none⟩,
    ⟨(some 12), .bin .lss (.tmp 11) (.const (.int .i64 1)), none⟩,
    ⟨(some 13), .mv (.tmp 12), none⟩,
    ⟨(some 14), .mv (.tmp 2), (some (13, false))⟩,
    ⟨(some 15), .bin .gtr (.tmp 14) (.const (.int .i64 8)), (some (13, false))⟩,
    ⟨(some 16), .pick (.tmp 13) (.const (.bool true)) (.tmp 15), none⟩,
    ⟨(some 17), .mv (.tmp 16), none⟩,
    ⟨(some 18), .mv (.tmp 1), (some (17, false))⟩,
    ⟨(some 19), .bin .lss (.tmp 18) (.const (.int .i64 0)), (some (17, false))⟩,
    ⟨(some 20), .pick (.tmp 17) (.const (.bool true)) (.tmp 19), none⟩,
    ⟨(some 21), .mv (.tmp 20), none⟩,
    ⟨(some 22), .mv (.tmp 0), (some (21, false))⟩,
    ⟨(some 23), .lenS (.tmp 22), (some (21, false))⟩,
    ⟨(some 24), .mv (.tmp 2), (some (21, false))⟩,
    ⟨(some 25), .bin .sub (.tmp 23) (.tmp 24), (some (21, false))⟩,
    ⟨(some 26), .mv (.tmp 1), (some (21, false))⟩,
    ⟨(some 27), .bin .lss (.tmp 25) (.tmp 26), (some (21, false))⟩,
    ⟨(some 28), .pick (.tmp 21) (.const (.bool true)) (.tmp 27), none⟩]
def k73_2 : VC := .reg [⟨(some 6), .mv (.const (.int .u64 0)), none⟩,
    ⟨(some 7), .mv (.const (.bool false)), none⟩]
def k73_3 : VC := .seq k73_2 .ret
def k73_4 : VC := .cond (.tmp 28) k73_3 .skip
def k73_5 : VC := .seq k73_1 k73_4
def k73_6 : VC := .reg [⟨(some 8), .mv (.const (.int .u64 0)), none⟩]
def k73_7 : VC := .reg [⟨(some 29), .mv (.tmp 0), none⟩,
    ⟨(some 30), .mv (.tmp 1), none⟩,
    ⟨(some 31), .mv (.tmp 1), none⟩,
    ⟨(some 32), .mv (.tmp 2), none⟩,
    ⟨(some 33), .bin .add (.tmp 31) (.tmp 32), none⟩,
    ⟨(some 34), .sliceS (.tmp 29) (some (.tmp 30)) (some (.tmp 33)), none⟩,
    ⟨(some 35), .s2b (.tmp 34), none⟩,
    ⟨(some 36), .lenL (.tmp 35), none⟩,
    ⟨(some 37), .mv (.const (.int .i64 0)), none⟩]
def k73_8 : VC := .reg [⟨(some 38), .bin .lss (.tmp 37) (.tmp 36), none⟩]
def k73_9 : VC := .cond (.tmp 38) .skip (.exit 0)
def k73_10 : VC := .reg [⟨(some 39), .idxAL 1 (.tmp 35) (.tmp 37), none⟩,
    ⟨(some 40), .load1 (.int .u8) (.tmp 39), none⟩,
    ⟨(some 10), .mv (.tmp 40), none⟩]
def k73_11 : VC := .reg [⟨(some 41), .mv (.tmp 8), none⟩,
    ⟨(some 42), .bin .shl (.tmp 41) (.const (.int .u64 8)), none⟩,
    ⟨(some 43), .mv (.tmp 10), none⟩,
    ⟨(some 44), .conv .u64 (.tmp 43), none⟩,
    ⟨(some 45), .bin .or (.tmp 42) (.tmp 44), none⟩,
    ⟨(some 8), .mv (.tmp 45), none⟩]
def k73_12 : VC := .seq k73_10 k73_11
def k73_13 : VC := .block 1 k73_12
def k73_14 : VC := .reg [⟨(some 46), .bin .add (.tmp 37) (.const (.int .i64 1)), none⟩,
    ⟨(some 37), .mv (.tmp 46), none⟩]
def k73_15 : VC := .seq k73_13 k73_14
def k73_16 : VC := .seq k73_9 k73_15
def k73_17 : VC := .seq k73_8 k73_16
def k73_18 : VC := .loop k73_17
def k73_19 : VC := .block 0 k73_18
def k73_20 : VC := .seq k73_7 k73_19
def k73_21 : VC := .reg [⟨(some 47), .mv (.tmp 8), none⟩,
    ⟨(some 6), .mv (.tmp 47), none⟩,
    ⟨(some 7), .mv (.const (.bool true)), none⟩]
def k73_22 : VC := .seq k73_21 .ret
def k73_23 : VC := .seq k73_20 k73_22
def k73_24 : VC := .seq k73_6 k73_23
def k73_25 : VC := .seq k73_5 k73_24
def k73_26 : VC := .seq k73_0 k73_25
def fn73 : VFn := ⟨48, k73_26, [.tmp 6, .tmp 7]⟩
/- 46: cloakroom/cloakroomref03.Turned -/
def k46_0 : VC := .reg [⟨(some 6), .mv (.const (.int .i64 0)), none⟩]
def k46_1 : VC := .reg [⟨(some 10), .mv (.tmp 1), none⟩,
    ⟨(some 11), .lenS (.tmp 10), none⟩,
    ⟨(some 12), .mv (.tmp 2), none⟩,
    ⟨(some 13), .lenS (.tmp 12), none⟩,
    ⟨(some 14), .bin .neq (.tmp 11) (.tmp 13), none⟩,
    ⟨(some 15), .mv (.tmp 14), none⟩,
    ⟨(some 16), .mv (.tmp 1), (some (15, false))⟩,
    ⟨(some 17), .lenS (.tmp 16), (some (15, false))⟩,
    ⟨(some 18), .bin .rem (.tmp 17) (.const (.int .i64 2)), (some (15, false))⟩,
    ⟨(some 19), .bin .eql (.tmp 18) (.const (.int .i64 1)), (some (15, false))⟩,
    ⟨(some 20), .pick (.tmp 15) (.const (.bool true)) (.tmp 19), none⟩]
def k46_2 : VC := .reg [⟨(some 21), .mv (.tmp 0), none⟩,
    ⟨(some 6), .mv (.tmp 21), none⟩]
def k46_3 : VC := .seq k46_2 .ret
def k46_4 : VC := .cond (.tmp 20) k46_3 .skip
def k46_5 : VC := .seq k46_1 k46_4
def k46_6 : VC := .reg [⟨(some 22), .mv (.tmp 1), none⟩,
    ⟨(some 23), .callF 70 [(.tmp 22)], none⟩,
    ⟨(some 24), .mv (.tmp 2), none⟩,
    ⟨(some 25), .callF 70 [(.tmp 24)], none⟩,
    ⟨(some 7), .mv (.tmp 23), none⟩,
    ⟨(some 8), .mv (.tmp 25), none⟩]
def k46_7 : VC := .reg [⟨(some 9), .mv (.const (.int .i64 0)), none⟩]
def k46_8 : VC := .reg [⟨(some 26), .mv (.tmp 9), none⟩,
    ⟨(some 27), .mv (.tmp 7), none⟩,
    ⟨(some 28), .lenL (.tmp 27), none⟩,
    ⟨(some 29), .bin .lss (.tmp 26) (.tmp 28), none⟩]
def k46_9 : VC := .cond (.tmp 29) .skip (.exit 0)
def k46_10 : VC := .seq k46_8 k46_9
def k46_11 : VC := .regD [⟨(some 32), .mv (.tmp 0), none⟩,
    ⟨(some 33), .mv (.tmp 7), none⟩,
    ⟨(some 34), .mv (.tmp 9), none⟩,
    ⟨(some 35), .idxAL 1 (.tmp 33) (.tmp 34), none⟩,
    ⟨(some 36), .load1 (.int .i64) (.tmp 35), none⟩,
    ⟨(some 37), .mv (.tmp 8), none⟩,
    ⟨(some 38), .mv (.tmp 9), none⟩,
    ⟨(some 39), .idxAL 1 (.tmp 37) (.tmp 38), none⟩,
    ⟨(some 40), .load1 (.int .i64) (.tmp 39), none⟩,
    ⟨(some 41), .callF 44 [(.tmp 32), (.tmp 36), (.tmp 40)], none⟩,
    ⟨(some 0), .mv (.tmp 41), none⟩] []
def k46_12 : VC := .block 1 k46_11
def k46_13 : VC := .reg [⟨(some 30), .mv (.tmp 9), none⟩,
    ⟨(some 31), .bin .add (.tmp 30) (.const (.int .i64 1)), none⟩,
    ⟨(some 9), .mv (.tmp 31), none⟩]
def k46_14 : VC := .seq k46_12 k46_13
def k46_15 : VC := .seq k46_10 k46_14
def k46_16 : VC := .loop k46_15
def k46_17 : VC := .block 0 k46_16
def k46_18 : VC := .seq k46_7 k46_17
def k46_19 : VC := .reg [⟨(some 42), .mv (.tmp 0), none⟩,
    ⟨(some 6), .mv (.tmp 42), none⟩]
def k46_20 : VC := .seq k46_19 .ret
def k46_21 : VC := .seq k46_18 k46_20
def k46_22 : VC := .seq k46_6 k46_21
def k46_23 : VC := .seq k46_5 k46_22
def k46_24 : VC := .seq k46_0 k46_23
def fn46 : VFn := ⟨43, k46_24, [.tmp 6]⟩
/- 48: cloakroom/cloakroomref03.Set -/
def k48_0 : VC := .reg [⟨(some 8), .mv (.const (.string ⟨⟨[]⟩⟩)), none⟩]
def k48_1 : VC := .reg [⟨(some 12), .mv (.tmp 0), none⟩,
    ⟨(some 13), .mv (.tmp 1), none⟩,
    ⟨(some 14), .mv (.tmp 2), none⟩,
    ⟨(some 15), .callF 75 [(.tmp 12), (.tmp 13), (.tmp 14)], none⟩,
    ⟨(some 11), .mv (.tmp 15), none⟩,
    ⟨(some 16), .extract 0 (.tmp 11), none⟩,
    ⟨(some 17), .extract 1 (.tmp 11), none⟩,
    ⟨(some 9), .mv (.tmp 16), none⟩,
    ⟨(some 10), .mv (.tmp 17), none⟩]
def k48_2 : VC := .reg [⟨(some 18), .mv (.tmp 10), none⟩,
    ⟨(some 19), .not (.tmp 18), none⟩]
def k48_3 : VC := .reg [⟨(some 20), .mv (.tmp 0), none⟩,
    ⟨(some 8), .mv (.tmp 20), none⟩]
def k48_4 : VC := .seq k48_3 .ret
def k48_5 : VC := .cond (.tmp 19) k48_4 .skip
def k48_6 : VC := .seq k48_2 k48_5
def k48_7 : VC := .regD [⟨(some 21), .mv (.tmp 0), none⟩,
    ⟨(some 22), .mv (.tmp 1), none⟩,
    ⟨(some 23), .sliceS (.tmp 21) none (some (.tmp 22)), none⟩,
    ⟨(some 24), .mv (.tmp 3), none⟩,
    ⟨(some 25), .mv (.tmp 2), none⟩,
    ⟨(some 26), .callF 76 [(.tmp 24), (.tmp 25)], none⟩,
    ⟨(some 27), .bin .add (.tmp 23) (.tmp 26), none⟩,
    ⟨(some 28), .mv (.tmp 0), none⟩,
    ⟨(some 29), .mv (.tmp 1), none⟩,
    ⟨(some 30), .mv (.tmp 2), none⟩,
    ⟨(some 31), .bin .add (.tmp 29) (.tmp 30), none⟩,
    ⟨(some 32), .sliceS (.tmp 28) (some (.tmp 31)) none, none⟩,
    ⟨(some 33), .bin .add (.tmp 27) (.tmp 32), none⟩,
    ⟨(some 8), .mv (.tmp 33), none⟩] []
def k48_8 : VC := .seq k48_7 .ret
def k48_9 : VC := .seq k48_6 k48_8
def k48_10 : VC := .seq k48_1 k48_9
def k48_11 : VC := .seq k48_0 k48_10
def fn48 : VFn := ⟨34, k48_11, [.tmp 8]⟩
/- 76: cloakroom/cloakroomref02.Put -/
def k76_0 : VC := .reg [⟨(some 4), .mv (.const (.string ⟨⟨[]⟩⟩)), none⟩]
def k76_1 : VC := .reg [⟨(some 5), .mv (.const (.string ⟨⟨[]⟩⟩)), none⟩]
def k76_2 : VC := .reg [⟨(some 6), .mv (.const (.int .i64 0)), none⟩]
def k76_3 : VC := .reg [⟨(some 7), .mv (.tmp 6), none⟩,
    ⟨(some 8), .mv (.tmp 1), none⟩,
    ⟨(some 9), .bin .lss (.tmp 7) (.tmp 8), none⟩,
    ⟨(some 10), .mv (.tmp 9), none⟩,
    ⟨(some 11), .mv (.tmp 1), (some (10, true))⟩,
    ⟨(some 12), .bin .leq (.tmp 11) (.const (.int .i64 8)), (some (10, true))⟩,
    ⟨(some 13), .pick (.tmp 10) (.tmp 12) (.const (.bool false)), none⟩]
def k76_4 : VC := .cond (.tmp 13) .skip (.exit 0)
def k76_5 : VC := .seq k76_3 k76_4
def k76_6 : VC := .reg [⟨(some 16), .mv (.tmp 0), none⟩,
    ⟨(some 17), .bin .rem (.tmp 16) (.const (.int .u64 256)), none⟩,
    ⟨(some 18), .conv .u8 (.tmp 17), none⟩,
    ⟨(some 19), .buildSl 1 1 [(.int .u8 0)] [(0, 1, (.tmp 18))], none⟩,
    ⟨(some 20), .b2s (.tmp 19), none⟩,
    ⟨(some 21), .mv (.tmp 5), none⟩,
    ⟨(some 22), .bin .add (.tmp 20) (.tmp 21), none⟩,
    ⟨(some 5), .mv (.tmp 22), none⟩]
def k76_7 : VC := .reg [⟨(some 23), .mv (.tmp 0), none⟩,
    ⟨(some 24), .bin .quo (.tmp 23) (.const (.int .u64 256)), none⟩,
    ⟨(some 0), .mv (.tmp 24), none⟩]
def k76_8 : VC := .seq k76_6 k76_7
def k76_9 : VC := .block 1 k76_8
def k76_10 : VC := .reg [⟨(some 14), .mv (.tmp 6), none⟩,
    ⟨(some 15), .bin .add (.tmp 14) (.const (.int .i64 1)), none⟩,
    ⟨(some 6), .mv (.tmp 15), none⟩]
def k76_11 : VC := .seq k76_9 k76_10
def k76_12 : VC := .seq k76_5 k76_11
def k76_13 : VC := .loop k76_12
def k76_14 : VC := .block 0 k76_13
def k76_15 : VC := .seq k76_2 k76_14
def k76_16 : VC := .reg [⟨(some 25), .mv (.tmp 5), none⟩,
    ⟨(some 4), .mv (.tmp 25), none⟩]
def k76_17 : VC := .seq k76_16 .ret
def k76_18 : VC := .seq k76_15 k76_17
def k76_19 : VC := .seq k76_1 k76_18
def k76_20 : VC := .seq k76_0 k76_19
def fn76 : VFn := ⟨26, k76_20, [.tmp 4]⟩
/- 12: cloakroom/cloakroomlaw03.CheckStays -/
def k12_0 : VC := .reg [⟨(some 10), .mv (.const (.bool false)), none⟩]
def k12_1 : VC := .reg [⟨(some 19), .mv (.tmp 0), none⟩,
    ⟨(some 20), .lenS (.tmp 19), none⟩,
    ⟨(some 21), .bin .gtr (.tmp 20) (.const (.int .i64 200)), none⟩,
    ⟨(some 22), .mv (.tmp 21), none⟩,
    ⟨(some 23), .mv (.tmp 0), (some (22, false))⟩,
    ⟨(some 24), .lenS (.tmp 23), (some (22, false))⟩,
    ⟨(some 25), .bin .rem (.tmp 24) (.const (.int .i64 2)), (some (22, false))⟩,
    ⟨(some 26), .bin .eql (.tmp 25) (.const (.int .i64 1)), (some (22, false))⟩,
    ⟨(some 27), .pick (.tmp 22) (.const (.bool true)) (.tmp 26), none⟩,
    ⟨(some 28), .mv (.tmp 27), none⟩,
    ⟨(some 29), .mv (.tmp 0), (some (28, false))⟩,
    ⟨(some 30), .lenS (.tmp 29), (some (28, false))⟩,
    ⟨(some 31), .bin .lss (.tmp 30) (.const (.int .i64 12)), (some (28, false))⟩,
    ⟨(some 32), .pick (.tmp 28) (.const (.bool true)) (.tmp 31), none⟩]
def k12_2 : VC := .reg [⟨(some 33), .callF 28 [], none⟩,
    ⟨(some 10), .mv (.tmp 33), none⟩]
def k12_3 : VC := .seq k12_2 .ret
def k12_4 : VC := .cond (.tmp 32) k12_3 .skip
def k12_5 : VC := .seq k12_1 k12_4
def k12_6 : VC := .reg [⟨(some 34), .mv (.tmp 1), none⟩,
    ⟨(some 35), .conv .i64 (.tmp 34), none⟩,
    ⟨(some 36), .mv (.tmp 0), none⟩,
    ⟨(some 37), .lenS (.tmp 36), none⟩,
    ⟨(some 38), .bin .quo (.tmp 37) (.const (.int .i64 2)), none⟩,
    ⟨(some 39), .bin .rem (.tmp 35) (.tmp 38), none⟩,
    ⟨(some 40), .bin .mul (.const (.int .i64 2)) (.tmp 39), none⟩,
    ⟨(some 11), .mv (.tmp 40), none⟩]
def k12_7 : VC := .reg [⟨(some 41), .mv (.tmp 3), none⟩,
    ⟨(some 42), .conv .i64 (.tmp 41), none⟩,
    ⟨(some 43), .bin .rem (.tmp 42) (.const (.int .i64 4)), none⟩,
    ⟨(some 44), .bin .mul (.const (.int .i64 2)) (.tmp 43), none⟩,
    ⟨(some 45), .bin .add (.const (.int .i64 2)) (.tmp 44), none⟩,
    ⟨(some 12), .mv (.tmp 45), none⟩]
def k12_8 : VC := .reg [⟨(some 46), .mv (.tmp 2), none⟩,
    ⟨(some 47), .conv .i64 (.tmp 46), none⟩,
    ⟨(some 48), .mv (.tmp 0), none⟩,
    ⟨(some 49), .lenS (.tmp 48), none⟩,
    ⟨(some 50), .bin .quo (.tmp 49) (.const (.int .i64 2)), none⟩,
    ⟨(some 51), .bin .sub (.tmp 50) (.const (.int .i64 3)), none⟩,
    ⟨(some 52), .bin .rem (.tmp 47) (.tmp 51), none⟩,
    ⟨(some 53), .bin .mul (.const (.int .i64 2)) (.tmp 52), none⟩,
    ⟨(some 13), .mv (.tmp 53), none⟩]
def k12_9 : VC := .reg [⟨(some 54), .mv (.tmp 11), none⟩,
    ⟨(some 55), .mv (.tmp 13), none⟩,
    ⟨(some 56), .bin .geq (.tmp 54) (.tmp 55), none⟩,
    ⟨(some 57), .mv (.tmp 56), none⟩,
    ⟨(some 58), .mv (.tmp 11), (some (57, true))⟩,
    ⟨(some 59), .mv (.tmp 13), (some (57, true))⟩,
    ⟨(some 60), .mv (.tmp 12), (some (57, true))⟩,
    ⟨(some 61), .bin .add (.tmp 59) (.tmp 60), (some (57, true))⟩,
    ⟨(some 62), .bin .lss (.tmp 58) (.tmp 61), (some (57, true))⟩,
    ⟨(some 63), .pick (.tmp 57) (.tmp 62) (.const (.bool false)), none⟩]
def k12_10 : VC := .reg [⟨(some 64), .callF 28 [], none⟩,
    ⟨(some 10), .mv (.tmp 64), none⟩]
def k12_11 : VC := .seq k12_10 .ret
def k12_12 : VC := .cond (.tmp 63) k12_11 .skip
def k12_13 : VC := .seq k12_9 k12_12
def k12_14 : VC := .reg [⟨(some 65), .mv (.tmp 0), none⟩,
    ⟨(some 66), .lenS (.tmp 65), none⟩,
    ⟨(some 14), .mv (.tmp 66), none⟩]
def k12_15 : VC := .reg [⟨(some 67), .mv (.tmp 0), none⟩,
    ⟨(some 68), .mv (.tmp 11), none⟩,
    ⟨(some 69), .callF 47 [(.tmp 67), (.tmp 68), (.const (.int .i64 2)), (.const (.int .u64 0))], none⟩,
    ⟨(some 0), .mv (.tmp 69), none⟩]
def k12_16 : VC := .reg [⟨(some 70), .mv (.tmp 0), none⟩,
    ⟨(some 71), .callF 40 [(.tmp 70)], none⟩,
    ⟨(some 15), .mv (.tmp 71), none⟩]
def k12_17 : VC := .reg [⟨(some 72), .mv (.tmp 0), none⟩,
    ⟨(some 73), .mv (.tmp 11), none⟩,
    ⟨(some 74), .mv (.tmp 15), none⟩,
    ⟨(some 75), .conv .u64 (.tmp 74), none⟩,
    ⟨(some 76), .callF 47 [(.tmp 72), (.tmp 73), (.const (.int .i64 2)), (.tmp 75)], none⟩,
    ⟨(some 0), .mv (.tmp 76), none⟩]
def k12_18 : VC := .reg [⟨(some 77), .mv (.tmp 0), none⟩,
    ⟨(some 78), .lenS (.tmp 77), none⟩,
    ⟨(some 79), .mv (.tmp 14), none⟩,
    ⟨(some 80), .bin .neq (.tmp 78) (.tmp 79), none⟩,
    ⟨(some 81), .mv (.tmp 80), none⟩,
    ⟨(some 82), .mv (.tmp 0), (some (81, false))⟩,
    ⟨(some 83), .callF 42 [(.tmp 82)], (some (81, false))⟩,
    ⟨(some 84), .not (.tmp 83), (some (81, false))⟩,
    ⟨(some 85), .pick (.tmp 81) (.const (.bool true)) (.tmp 84), none⟩]
def k12_19 : VC := .reg [⟨(some 10), .mv (.const (.bool false)), none⟩]
def k12_20 : VC := .seq k12_19 .ret
def k12_21 : VC := .cond (.tmp 85) k12_20 .skip
def k12_22 : VC := .seq k12_18 k12_21
def k12_23 : VC := .reg [⟨(some 86), .mv (.tmp 0), none⟩,
    ⟨(some 87), .mv (.tmp 13), none⟩,
    ⟨(some 88), .mv (.tmp 12), none⟩,
    ⟨(some 89), .mv (.tmp 4), none⟩,
    ⟨(some 90), .callF 47 [(.tmp 86), (.tmp 87), (.tmp 88), (.tmp 89)], none⟩,
    ⟨(some 16), .mv (.tmp 90), none⟩]
def k12_24 : VC := .reg [⟨(some 91), .mv (.tmp 16), none⟩,
    ⟨(some 92), .lenS (.tmp 91), none⟩,
    ⟨(some 93), .mv (.tmp 14), none⟩,
    ⟨(some 94), .bin .neq (.tmp 92) (.tmp 93), none⟩]
def k12_25 : VC := .reg [⟨(some 10), .mv (.const (.bool false)), none⟩]
def k12_26 : VC := .seq k12_25 .ret
def k12_27 : VC := .cond (.tmp 94) k12_26 .skip
def k12_28 : VC := .seq k12_24 k12_27
def k12_29 : VC := .regD [⟨(some 95), .mv (.tmp 16), none⟩,
    ⟨(some 96), .mv (.tmp 11), none⟩,
    ⟨(some 97), .mv (.tmp 15), none⟩,
    ⟨(some 98), .mv (.tmp 0), none⟩,
    ⟨(some 99), .mv (.tmp 13), none⟩,
    ⟨(some 100), .mv (.tmp 13), none⟩,
    ⟨(some 101), .mv (.tmp 12), none⟩,
    ⟨(some 102), .bin .add (.tmp 100) (.tmp 101), none⟩,
    ⟨(some 103), .sliceS (.tmp 98) (some (.tmp 99)) (some (.tmp 102)), none⟩,
    ⟨(some 104), .mv (.tmp 16), none⟩,
    ⟨(some 105), .mv (.tmp 13), none⟩,
    ⟨(some 106), .mv (.tmp 13), none⟩,
    ⟨(some 107), .mv (.tmp 12), none⟩,
    ⟨(some 108), .bin .add (.tmp 106) (.tmp 107), none⟩,
    ⟨(some 109), .sliceS (.tmp 104) (some (.tmp 105)) (some (.tmp 108)), none⟩,
    ⟨(some 110), .callF 45 [(.tmp 97), (.tmp 103), (.tmp 109)], none⟩,
    ⟨(some 111), .conv .u64 (.tmp 110), none⟩,
    ⟨(some 112), .callF 47 [(.tmp 95), (.tmp 96), (.const (.int .i64 2)), (.tmp 111)], none⟩,
    ⟨(some 16), .mv (.tmp 112), none⟩] []
def k12_30 : VC := .reg [⟨(some 17), .mv (.const (.bool true)), none⟩]
def k12_31 : VC := .reg [⟨(some 18), .mv (.const (.int .i64 0)), none⟩]
def k12_32 : VC := .reg [⟨(some 113), .mv (.tmp 18), none⟩,
    ⟨(some 114), .mv (.tmp 16), none⟩,
    ⟨(some 115), .lenS (.tmp 114), none⟩,
    ⟨(some 116), .bin .lss (.tmp 113) (.tmp 115), none⟩]
def k12_33 : VC := .cond (.tmp 116) .skip (.exit 0)
def k12_34 : VC := .seq k12_32 k12_33
def k12_35 : VC := .reg [⟨(some 119), .mv (.tmp 17), none⟩,
    ⟨(some 120), .mv (.tmp 119), none⟩,
    ⟨(some 121), .mv (.tmp 16), (some (120, true))⟩,
    ⟨(some 122), .mv (.tmp 18), (some (120, true))⟩,
    ⟨(some 123), .idxS (.tmp 121) (.tmp 122), (some (120, true))⟩,
    ⟨(some 124), .bin .eql (.tmp 123) (.const (.int .u8 0)), (some (120, true))⟩,
    ⟨(some 125), .pick (.tmp 120) (.tmp 124) (.const (.bool false)), none⟩,
    ⟨(some 17), .mv (.tmp 125), none⟩]
def k12_36 : VC := .block 1 k12_35
def k12_37 : VC := .reg [⟨(some 117), .mv (.tmp 18), none⟩,
    ⟨(some 118), .bin .add (.tmp 117) (.const (.int .i64 1)), none⟩,
    ⟨(some 18), .mv (.tmp 118), none⟩]
def k12_38 : VC := .seq k12_36 k12_37
def k12_39 : VC := .seq k12_34 k12_38
def k12_40 : VC := .loop k12_39
def k12_41 : VC := .block 0 k12_40
def k12_42 : VC := .seq k12_31 k12_41
def k12_43 : VC := .reg [⟨(some 126), .mv (.tmp 16), none⟩,
    ⟨(some 127), .lenS (.tmp 126), none⟩,
    ⟨(some 128), .mv (.tmp 0), none⟩,
    ⟨(some 129), .lenS (.tmp 128), none⟩,
    ⟨(some 130), .bin .eql (.tmp 127) (.tmp 129), none⟩,
    ⟨(some 131), .mv (.tmp 130), none⟩,
    ⟨(some 132), .mv (.tmp 17), (some (131, true))⟩,
    ⟨(some 133), .mv (.tmp 132), (some (131, true))⟩,
    ⟨(some 134), .mv (.tmp 16), (some (133, false))⟩,
    ⟨(some 135), .callF 42 [(.tmp 134)], (some (133, false))⟩,
    ⟨(some 136), .pick (.tmp 133) (.const (.bool true)) (.tmp 135), (some (131, true))⟩,
    ⟨(some 137), .pick (.tmp 131) (.tmp 136) (.const (.bool false)), none⟩,
    ⟨(some 138), .mv (.tmp 137), none⟩,
    ⟨(some 139), .callF 28 [], (some (138, true))⟩,
    ⟨(some 140), .pick (.tmp 138) (.tmp 139) (.const (.bool false)), none⟩,
    ⟨(some 10), .mv (.tmp 140), none⟩]
def k12_44 : VC := .seq k12_43 .ret
def k12_45 : VC := .seq k12_42 k12_44
def k12_46 : VC := .seq k12_30 k12_45
def k12_47 : VC := .seq k12_29 k12_46
def k12_48 : VC := .seq k12_28 k12_47
def k12_49 : VC := .seq k12_23 k12_48
def k12_50 : VC := .seq k12_22 k12_49
def k12_51 : VC := .seq k12_17 k12_50
def k12_52 : VC := .seq k12_16 k12_51
def k12_53 : VC := .seq k12_15 k12_52
def k12_54 : VC := .seq k12_14 k12_53
def k12_55 : VC := .seq k12_13 k12_54
def k12_56 : VC := .seq k12_8 k12_55
def k12_57 : VC := .seq k12_7 k12_56
def k12_58 : VC := .seq k12_6 k12_57
def k12_59 : VC := .seq k12_5 k12_58
def k12_60 : VC := .seq k12_0 k12_59
def fn12 : VFn := ⟨141, k12_60, [.tmp 10]⟩
/- 8: cloakroom/cloakroomlaw12.SipParts -/
def k8_0 : VC := .reg [⟨(some 2), .box (.tmp 0), none⟩,
    ⟨(some 4), .mv (.const (.bool false)), none⟩]
def k8_1 : VC := .reg [⟨(some 10), .mv (.tmp 1), none⟩,
    ⟨(some 11), .lenL (.tmp 10), none⟩,
    ⟨(some 12), .bin .gtr (.tmp 11) (.const (.int .i64 10)), none⟩]
def k8_2 : VC := .reg [⟨(some 13), .callF 30 [], none⟩,
    ⟨(some 4), .mv (.tmp 13), none⟩]
def k8_3 : VC := .seq k8_2 .ret
def k8_4 : VC := .cond (.tmp 12) k8_3 .skip
def k8_5 : VC := .seq k8_1 k8_4
def k8_6 : VC := .reg [⟨(some 14), .loadN [(.int .u64), (.int .u64)] (.tmp 2), none⟩,
    ⟨(some 15), .callF 31 [(.tmp 14)], none⟩,
    ⟨(some 5), .mv (.tmp 15), none⟩]
def k8_7 : VC := .reg [⟨(some 6), .mv (.const (.string ⟨⟨[]⟩⟩)), none⟩]
def k8_8 : VC := .reg [⟨(some 7), .mv (.const (.int .i64 0)), none⟩]
def k8_9 : VC := .reg [⟨(some 16), .mv (.tmp 7), none⟩,
    ⟨(some 17), .mv (.tmp 1), none⟩,
    ⟨(some 18), .lenL (.tmp 17), none⟩,
    ⟨(some 19), .bin .lss (.tmp 16) (.tmp 18), none⟩]
def k8_10 : VC := .cond (.tmp 19) .skip (.exit 0)
def k8_11 : VC := .seq k8_9 k8_10
def k8_12 : VC := .reg [⟨(some 22), .mv (.tmp 1), none⟩,
    ⟨(some 23), .mv (.tmp 7), none⟩,
    ⟨(some 24), .idxAL 1 (.tmp 22) (.tmp 23), none⟩,
    ⟨(some 25), .load1 .str (.tmp 24), none⟩,
    ⟨(some 26), .lenS (.tmp 25), none⟩,
    ⟨(some 27), .bin .gtr (.tmp 26) (.const (.int .i64 40)), none⟩]
def k8_13 : VC := .reg [⟨(some 28), .callF 30 [], none⟩,
    ⟨(some 4), .mv (.tmp 28), none⟩]
def k8_14 : VC := .seq k8_13 .ret
def k8_15 : VC := .cond (.tmp 27) k8_14 .skip
def k8_16 : VC := .seq k8_12 k8_15
def k8_17 : VC := .reg [⟨(some 29), .mv (.tmp 5), none⟩,
    ⟨(some 30), .mv (.tmp 1), none⟩,
    ⟨(some 31), .mv (.tmp 7), none⟩,
    ⟨(some 32), .idxAL 1 (.tmp 30) (.tmp 31), none⟩,
    ⟨(some 33), .load1 .str (.tmp 32), none⟩,
    ⟨(some 34), .callF 32 [(.tmp 29), (.tmp 33)], none⟩]
def k8_18 : VC := .reg [⟨(some 35), .mv (.tmp 6), none⟩,
    ⟨(some 36), .mv (.tmp 1), none⟩,
    ⟨(some 37), .mv (.tmp 7), none⟩,
    ⟨(some 38), .idxAL 1 (.tmp 36) (.tmp 37), none⟩,
    ⟨(some 39), .load1 .str (.tmp 38), none⟩,
    ⟨(some 40), .bin .add (.tmp 35) (.tmp 39), none⟩,
    ⟨(some 6), .mv (.tmp 40), none⟩]
def k8_19 : VC := .regD [⟨(some 41), .mv (.tmp 5), none⟩,
    ⟨(some 42), .callF 33 [(.tmp 41)], none⟩,
    ⟨(some 43), .loadN [(.int .u64), (.int .u64)] (.tmp 2), none⟩,
    ⟨(some 44), .mv (.tmp 6), none⟩,
    ⟨(some 45), .callF 34 [(.tmp 43), (.tmp 44)], none⟩,
    ⟨(some 46), .bin .neq (.tmp 42) (.tmp 45), none⟩,
    ⟨(some 47), .mv (.tmp 46), none⟩,
    ⟨(some 48), .mv (.tmp 5), (some (47, false))⟩,
    ⟨(some 49), .callF 33 [(.tmp 48)], (some (47, false))⟩,
    ⟨(some 50), .mv (.tmp 5), (some (47, false))⟩,
    ⟨(some 51), .callF 33 [(.tmp 50)], (some (47, false))⟩,
    ⟨(some 52), .bin .neq (.tmp 49) (.tmp 51), (some (47, false))⟩,
    ⟨(some 53), .pick (.tmp 47) (.const (.bool true)) (.tmp 52), none⟩] [(1, 2)]
def k8_20 : VC := .reg [⟨(some 4), .mv (.const (.bool false)), none⟩]
def k8_21 : VC := .seq k8_20 .ret
def k8_22 : VC := .cond (.tmp 53) k8_21 .skip
def k8_23 : VC := .seq k8_19 k8_22
def k8_24 : VC := .seq k8_18 k8_23
def k8_25 : VC := .seq k8_17 k8_24
def k8_26 : VC := .seq k8_16 k8_25
def k8_27 : VC := .block 1 k8_26
def k8_28 : VC := .reg [⟨(some 20), .mv (.tmp 7), none⟩,
    ⟨(some 21), .bin .add (.tmp 20) (.const (.int .i64 1)), none⟩,
    ⟨(some 7), .mv (.tmp 21), none⟩]
def k8_29 : VC := .seq k8_27 k8_28
def k8_30 : VC := .seq k8_11 k8_29
def k8_31 : VC := .loop k8_30
def k8_32 : VC := .block 0 k8_31
def k8_33 : VC := .seq k8_8 k8_32
def k8_34 : VC := .reg [⟨(some 8), .mv (.const (.pointer none)), none⟩]
def k8_35 : VC := .reg [⟨(some 54), .build [(.bool false), (.int .u64 0), (.int .u64 0), (.int .u64 0), (.int .u64 0), (.int .u64 0), (.int .i64 0)] [], none⟩,
    ⟨(some 55), .box (.tmp 54), none⟩,
    ⟨(some 9), .mv (.tmp 55), none⟩]
def k8_36 : VC := .reg [⟨(some 56), .mv (.tmp 8), none⟩,
    ⟨(some 57), .callF 32 [(.tmp 56), (.const (.string ⟨⟨[97]⟩⟩))], none⟩]
def k8_37 : VC := .reg [⟨(some 58), .mv (.tmp 9), none⟩,
    ⟨(some 59), .callF 32 [(.tmp 58), (.const (.string ⟨⟨[97]⟩⟩))], none⟩]
def k8_38 : VC := .reg [⟨(some 60), .mv (.tmp 8), none⟩,
    ⟨(some 61), .callF 33 [(.tmp 60)], none⟩,
    ⟨(some 62), .bin .eql (.tmp 61) (.const (.int .u64 0)), none⟩,
    ⟨(some 63), .mv (.tmp 62), none⟩,
    ⟨(some 64), .mv (.tmp 9), (some (63, true))⟩,
    ⟨(some 65), .callF 33 [(.tmp 64)], (some (63, true))⟩,
    ⟨(some 66), .bin .eql (.tmp 65) (.const (.int .u64 0)), (some (63, true))⟩,
    ⟨(some 67), .pick (.tmp 63) (.tmp 66) (.const (.bool false)), none⟩,
    ⟨(some 68), .mv (.tmp 67), none⟩,
    ⟨(some 69), .callF 30 [], (some (68, true))⟩,
    ⟨(some 70), .pick (.tmp 68) (.tmp 69) (.const (.bool false)), none⟩,
    ⟨(some 4), .mv (.tmp 70), none⟩]
def k8_39 : VC := .seq k8_38 .ret
def k8_40 : VC := .seq k8_37 k8_39
def k8_41 : VC := .seq k8_36 k8_40
def k8_42 : VC := .seq k8_35 k8_41
def k8_43 : VC := .seq k8_34 k8_42
def k8_44 : VC := .seq k8_33 k8_43
def k8_45 : VC := .seq k8_7 k8_44
def k8_46 : VC := .seq k8_6 k8_45
def k8_47 : VC := .seq k8_5 k8_46
def k8_48 : VC := .seq k8_0 k8_47
def fn8 : VFn := ⟨71, k8_48, [.tmp 4]⟩
/- 30: cloakroom/cloakroomlaw12.awake -/
def k30_0 : VC := .reg [⟨(some 0), .mv (.const (.bool false)), none⟩]
def k30_1 : VC := .reg [⟨(some 1), .build [(.int .u64 0), (.int .u64 0)] [(0, 1, (.const (.int .u64 506097522914230528))), (1, 1, (.const (.int .u64 1084818905618843912)))], none⟩,
    ⟨(some 2), .callF 34 [(.tmp 1), (.const (.string ⟨⟨[0, 1, 2, 3, 4, 5, 6, 7, 8, 9, 10, 11, 12, 13, 14]⟩⟩))], none⟩,
    ⟨(some 3), .bin .eql (.tmp 2) (.const (.int .u64 11613035633349379557)), none⟩,
    ⟨(some 0), .mv (.tmp 3), none⟩]
def k30_2 : VC := .seq k30_1 .ret
def k30_3 : VC := .seq k30_0 k30_2
def fn30 : VFn := ⟨4, k30_3, [.tmp 0]⟩
/- 34: cloakroom/sip.Hash -/
def k34_0 : VC := .reg [⟨(some 2), .box (.tmp 0), none⟩,
    ⟨(some 4), .mv (.const (.int .u64 0)), none⟩]
def k34_1 : VC := .reg [⟨(some 6), .loadN [(.int .u64), (.int .u64)] (.tmp 2), none⟩,
    ⟨(some 7), .callF 31 [(.tmp 6)], none⟩,
    ⟨(some 5), .mv (.tmp 7), none⟩]
def k34_2 : VC := .reg [⟨(some 8), .mv (.tmp 5), none⟩,
    ⟨(some 9), .mv (.tmp 1), none⟩,
    ⟨(some 10), .callF 32 [(.tmp 8), (.tmp 9)], none⟩]
def k34_3 : VC := .reg [⟨(some 11), .mv (.tmp 5), none⟩,
    ⟨(some 12), .callF 33 [(.tmp 11)], none⟩,
    ⟨(some 4), .mv (.tmp 12), none⟩]
def k34_4 : VC := .seq k34_3 .ret
def k34_5 : VC := .seq k34_2 k34_4
def k34_6 : VC := .seq k34_1 k34_5
def k34_7 : VC := .seq k34_0 k34_6
def fn34 : VFn := ⟨13, k34_7, [.tmp 4]⟩
/- 31: cloakroom/sip.New -/
def k31_0 : VC := .reg [⟨(some 1), .box (.tmp 0), none⟩,
    ⟨(some 2), .mv (.const (.pointer none)), none⟩]
def k31_1 : VC := .reg [⟨(some 3), .fieldA 0 (.tmp 1), none⟩,
    ⟨(some 4), .load1 (.int .u64) (.tmp 3), none⟩,
    ⟨(some 5), .bin .xor (.const (.int .u64 8317987319222330741)) (.tmp 4), none⟩,
    ⟨(some 6), .fieldA 1 (.tmp 1), none⟩,
    ⟨(some 7), .load1 (.int .u64) (.tmp 6), none⟩,
    ⟨(some 8), .bin .xor (.const (.int .u64 7237128888997146477)) (.tmp 7), none⟩,
    ⟨(some 9), .fieldA 0 (.tmp 1), none⟩,
    ⟨(some 10), .load1 (.int .u64) (.tmp 9), none⟩,
    ⟨(some 11), .bin .xor (.const (.int .u64 7816392313619706465)) (.tmp 10), none⟩,
    ⟨(some 12), .fieldA 1 (.tmp 1), none⟩,
    ⟨(some 13), .load1 (.int .u64) (.tmp 12), none⟩,
    ⟨(some 14), .bin .xor (.const (.int .u64 8387220255154660723)) (.tmp 13), none⟩,
    ⟨(some 15), .build [(.int .u64 0), (.int .u64 0), (.int .u64 0), (.int .u64 0)] [(0, 1, (.tmp 5)), (1, 1, (.tmp 8)), (2, 1, (.tmp 11)), (3, 1, (.tmp 14))], none⟩,
    ⟨(some 16), .build [(.bool false), (.int .u64 0), (.int .u64 0), (.int .u64 0), (.int .u64 0), (.int .u64 0), (.int .i64 0)] [(0, 1, (.const (.bool true))), (1, 4, (.tmp 15))], none⟩,
    ⟨(some 17), .box (.tmp 16), none⟩,
    ⟨(some 2), .mv (.tmp 17), none⟩]
def k31_2 : VC := .seq k31_1 .ret
def k31_3 : VC := .seq k31_0 k31_2
def fn31 : VFn := ⟨18, k31_3, [.tmp 2]⟩
/- 32: (*cloakroom/sip.Hasher).Write -/
def k32_0 : VC := .reg [⟨(some 6), .mv (.tmp 0), none⟩,
    ⟨(some 7), .isNil 0 false (.tmp 6), none⟩,
    ⟨(some 8), .mv (.tmp 7), none⟩,
    ⟨(some 9), .mv (.tmp 0), (some (8, false))⟩,
    ⟨(some 10), .nilCheck (.tmp 9), (some (8, false))⟩,
    ⟨(some 11), .fieldA 0 (.tmp 10), (some (8, false))⟩,
    ⟨(some 12), .load1 .bool (.tmp 11), (some (8, false))⟩,
    ⟨(some 13), .not (.tmp 12), (some (8, false))⟩,
    ⟨(some 14), .pick (.tmp 8) (.const (.bool true)) (.tmp 13), none⟩]
def k32_1 : VC := .cond (.tmp 14) .ret .skip
def k32_2 : VC := .seq k32_0 k32_1
def k32_3 : VC := .reg [⟨(some 15), .mv (.tmp 1), none⟩,
    ⟨(some 16), .s2b (.tmp 15), none⟩,
    ⟨(some 17), .lenL (.tmp 16), none⟩,
    ⟨(some 18), .mv (.const (.int .i64 0)), none⟩]
def k32_4 : VC := .reg [⟨(some 19), .bin .lss (.tmp 18) (.tmp 17), none⟩]
def k32_5 : VC := .cond (.tmp 19) .skip (.exit 0)
def k32_6 : VC := .reg [⟨(some 20), .idxAL 1 (.tmp 16) (.tmp 18), none⟩,
    ⟨(some 21), .load1 (.int .u8) (.tmp 20), none⟩,
    ⟨(some 5), .mv (.tmp 21), none⟩]
def k32_7 : VC := .regD [⟨(some 22), .mv (.tmp 0), none⟩,
    ⟨(some 23), .nilCheck (.tmp 22), none⟩,
    ⟨(some 24), .fieldA 5 (.tmp 23), none⟩,
    ⟨(some 25), .load1 (.int .u64) (.tmp 24), none⟩,
    ⟨(some 26), .mv (.tmp 5), none⟩,
    ⟨(some 27), .conv .u64 (.tmp 26), none⟩,
    ⟨(some 28), .mv (.tmp 0), none⟩,
    ⟨(some 29), .nilCheck (.tmp 28), none⟩,
    ⟨(some 30), .fieldA 6 (.tmp 29), none⟩,
    ⟨(some 31), .load1 (.int .i64) (.tmp 30), none⟩,
    ⟨(some 32), .bin .rem (.tmp 31) (.const (.int .i64 8)), none⟩,
    ⟨(some 33), .bin .mul (.const (.int .i64 8)) (.tmp 32), none⟩,
    ⟨(some 34), .bin .shl (.tmp 27) (.tmp 33), none⟩,
    ⟨(some 35), .bin .or (.tmp 25) (.tmp 34), none⟩,
    ⟨(some 36), .nilCheck (.tmp 22), none⟩,
    ⟨(some 37), .fieldA 5 (.tmp 36), none⟩,
    ⟨none, .store 1 (.tmp 37) (.tmp 35), none⟩] []
def k32_8 : VC := .reg [⟨(some 38), .mv (.tmp 0), none⟩,
    ⟨(some 39), .nilCheck (.tmp 38), none⟩,
    ⟨(some 40), .fieldA 6 (.tmp 39), none⟩,
    ⟨(some 41), .load1 (.int .i64) (.tmp 40), none⟩,
    ⟨(some 42), .bin .add (.tmp 41) (.const (.int .i64 1)), none⟩,
    ⟨(some 43), .nilCheck (.tmp 38), none⟩,
    ⟨(some 44), .fieldA 6 (.tmp 43), none⟩,
    ⟨none, .store 1 (.tmp 44) (.tmp 42), none⟩]
def k32_9 : VC := .reg [⟨(some 45), .mv (.tmp 0), none⟩,
    ⟨(some 46), .nilCheck (.tmp 45), none⟩,
    ⟨(some 47), .fieldA 6 (.tmp 46), none⟩,
    ⟨(some 48), .load1 (.int .i64) (.tmp 47), none⟩,
    ⟨(some 49), .bin .rem (.tmp 48) (.const (.int .i64 8)), none⟩,
    ⟨(some 50), .bin .eql (.tmp 49) (.const (.int .i64 0)), none⟩]
def k32_10 : VC := .regD [⟨(some 51), .mv (.tmp 0), none⟩,
    ⟨(some 52), .nilCheck (.tmp 51), none⟩,
    ⟨(some 53), .fieldA 1 (.tmp 52), none⟩,
    ⟨(some 54), .mv (.tmp 0), none⟩,
    ⟨(some 55), .nilCheck (.tmp 54), none⟩,
    ⟨(some 56), .fieldA 5 (.tmp 55), none⟩,
    ⟨(some 57), .load1 (.int .u64) (.tmp 56), none⟩,
    ⟨(some 58), .callF 64 [(.tmp 53), (.tmp 57)], none⟩] []
def k32_11 : VC := .reg [⟨(some 59), .mv (.tmp 0), none⟩,
    ⟨(some 60), .nilCheck (.tmp 59), none⟩,
    ⟨(some 61), .fieldA 5 (.tmp 60), none⟩,
    ⟨none, .store 1 (.tmp 61) (.const (.int .u64 0)), none⟩]
def k32_12 : VC := .seq k32_10 k32_11
def k32_13 : VC := .cond (.tmp 50) k32_12 .skip
def k32_14 : VC := .seq k32_9 k32_13
def k32_15 : VC := .seq k32_8 k32_14
def k32_16 : VC := .seq k32_7 k32_15
def k32_17 : VC := .seq k32_6 k32_16
def k32_18 : VC := .block 1 k32_17
def k32_19 : VC := .reg [⟨(some 62), .bin .add (.tmp 18) (.const (.int .i64 1)), none⟩,
    ⟨(some 18), .mv (.tmp 62), none⟩]
def k32_20 : VC := .seq k32_18 k32_19
def k32_21 : VC := .seq k32_5 k32_20
def k32_22 : VC := .seq k32_4 k32_21
def k32_23 : VC := .loop k32_22
def k32_24 : VC := .block 0 k32_23
def k32_25 : VC := .seq k32_3 k32_24
def k32_26 : VC := .seq k32_2 k32_25
def fn32 : VFn := ⟨63, k32_26, []⟩
/- 64: (*cloakroom/sip.state).take -/
def k64_0 : VC := .regD [⟨(some 4), .mv (.tmp 0), none⟩,
    ⟨(some 5), .nilCheck (.tmp 4), none⟩,
    ⟨(some 6), .idxAA 4 1 (.tmp 5) (.const (.int .i64 3)), none⟩,
    ⟨(some 7), .load1 (.int .u64) (.tmp 6), none⟩,
    ⟨(some 8), .mv (.tmp 1), none⟩,
    ⟨(some 9), .bin .xor (.tmp 7) (.tmp 8), none⟩,
    ⟨(some 10), .nilCheck (.tmp 4), none⟩,
    ⟨(some 11), .idxAA 4 1 (.tmp 10) (.const (.int .i64 3)), none⟩,
    ⟨none, .store 1 (.tmp 11) (.tmp 9), none⟩] []
def k64_1 : VC := .reg [⟨(some 12), .mv (.tmp 0), none⟩,
    ⟨(some 13), .callF 65 [(.tmp 12), (.const (.int .i64 2))], none⟩]
def k64_2 : VC := .regD [⟨(some 14), .mv (.tmp 0), none⟩,
    ⟨(some 15), .nilCheck (.tmp 14), none⟩,
    ⟨(some 16), .idxAA 4 1 (.tmp 15) (.const (.int .i64 0)), none⟩,
    ⟨(some 17), .load1 (.int .u64) (.tmp 16), none⟩,
    ⟨(some 18), .mv (.tmp 1), none⟩,
    ⟨(some 19), .bin .xor (.tmp 17) (.tmp 18), none⟩,
    ⟨(some 20), .nilCheck (.tmp 14), none⟩,
    ⟨(some 21), .idxAA 4 1 (.tmp 20) (.const (.int .i64 0)), none⟩,
    ⟨none, .store 1 (.tmp 21) (.tmp 19), none⟩] []
def k64_3 : VC := .seq k64_1 k64_2
def k64_4 : VC := .seq k64_0 k64_3
def fn64 : VFn := ⟨22, k64_4, []⟩
/- 65: (*cloakroom/sip.state).mix -/
def k65_0 : VC := .reg [⟨(some 4), .mv (.tmp 1), none⟩,
    ⟨(some 5), .minmax false [(.tmp 4), (.const (.int .i64 64))], none⟩,
    ⟨(some 6), .minmax true [(.const (.int .i64 0)), (.tmp 5)], none⟩,
    ⟨(some 7), .mv (.const (.int .i64 0)), none⟩]
def k65_1 : VC := .reg [⟨(some 8), .bin .lss (.tmp 7) (.tmp 6), none⟩]
def k65_2 : VC := .cond (.tmp 8) .skip (.exit 0)
def k65_3 : VC := .reg [⟨(some 9), .mv (.tmp 0), none⟩,
    ⟨(some 10), .callF 93 [(.tmp 9)], none⟩]
def k65_4 : VC := .block 1 k65_3
def k65_5 : VC := .reg [⟨(some 11), .bin .add (.tmp 7) (.const (.int .i64 1)), none⟩,
    ⟨(some 7), .mv (.tmp 11), none⟩]
def k65_6 : VC := .seq k65_4 k65_5
def k65_7 : VC := .seq k65_2 k65_6
def k65_8 : VC := .seq k65_1 k65_7
def k65_9 : VC := .loop k65_8
def k65_10 : VC := .block 0 k65_9
def k65_11 : VC := .seq k65_0 k65_10
def fn65 : VFn := ⟨12, k65_11, []⟩
/- 93: (*cloakroom/sip.state).round -/
def k93_0 : VC := .regD [⟨(some 2), .mv (.tmp 0), none⟩,
    ⟨(some 3), .nilCheck (.tmp 2), none⟩,
    ⟨(some 4), .idxAA 4 1 (.tmp 3) (.const (.int .i64 0)), none⟩,
    ⟨(some 5), .load1 (.int .u64) (.tmp 4), none⟩,
    ⟨(some 6), .mv (.tmp 0), none⟩,
    ⟨(some 7), .nilCheck (.tmp 6), none⟩,
    ⟨(some 8), .idxAA 4 1 (.tmp 7) (.const (.int .i64 1)), none⟩,
    ⟨(some 9), .load1 (.int .u64) (.tmp 8), none⟩,
    ⟨(some 10), .bin .add (.tmp 5) (.tmp 9), none⟩,
    ⟨(some 11), .nilCheck (.tmp 2), none⟩,
    ⟨(some 12), .idxAA 4 1 (.tmp 11) (.const (.int .i64 0)), none⟩,
    ⟨none, .store 1 (.tmp 12) (.tmp 10), none⟩] []
def k93_1 : VC := .regD [⟨(some 13), .mv (.tmp 0), none⟩,
    ⟨(some 14), .mv (.tmp 0), none⟩,
    ⟨(some 15), .nilCheck (.tmp 14), none⟩,
    ⟨(some 16), .idxAA 4 1 (.tmp 15) (.const (.int .i64 1)), none⟩,
    ⟨(some 17), .load1 (.int .u64) (.tmp 16), none⟩,
    ⟨(some 18), .callF 97 [(.tmp 17), (.const (.int .i64 13))], none⟩,
    ⟨(some 19), .mv (.tmp 0), none⟩,
    ⟨(some 20), .nilCheck (.tmp 19), none⟩,
    ⟨(some 21), .idxAA 4 1 (.tmp 20) (.const (.int .i64 0)), none⟩,
    ⟨(some 22), .load1 (.int .u64) (.tmp 21), none⟩,
    ⟨(some 23), .bin .xor (.tmp 18) (.tmp 22), none⟩,
    ⟨(some 24), .nilCheck (.tmp 13), none⟩,
    ⟨(some 25), .idxAA 4 1 (.tmp 24) (.const (.int .i64 1)), none⟩,
    ⟨none, .store 1 (.tmp 25) (.tmp 23), none⟩] [(5, 9)]
def k93_2 : VC := .regD [⟨(some 26), .mv (.tmp 0), none⟩,
    ⟨(some 27), .mv (.tmp 0), none⟩,
    ⟨(some 28), .nilCheck (.tmp 27), none⟩,
    ⟨(some 29), .idxAA 4 1 (.tmp 28) (.const (.int .i64 0)), none⟩,
    ⟨(some 30), .load1 (.int .u64) (.tmp 29), none⟩,
    ⟨(some 31), .callF 97 [(.tmp 30), (.const (.int .i64 32))], none⟩,
    ⟨(some 32), .nilCheck (.tmp 26), none⟩,
    ⟨(some 33), .idxAA 4 1 (.tmp 32) (.const (.int .i64 0)), none⟩,
    ⟨none, .store 1 (.tmp 33) (.tmp 31), none⟩] []
def k93_3 : VC := .regD [⟨(some 34), .mv (.tmp 0), none⟩,
    ⟨(some 35), .nilCheck (.tmp 34), none⟩,
    ⟨(some 36), .idxAA 4 1 (.tmp 35) (.const (.int .i64 2)), none⟩,
    ⟨(some 37), .load1 (.int .u64) (.tmp 36), none⟩,
    ⟨(some 38), .mv (.tmp 0), none⟩,
    ⟨(some 39), .nilCheck (.tmp 38), none⟩,
    ⟨(some 40), .idxAA 4 1 (.tmp 39) (.const (.int .i64 3)), none⟩,
    ⟨(some 41), .load1 (.int .u64) (.tmp 40), none⟩,
    ⟨(some 42), .bin .add (.tmp 37) (.tmp 41), none⟩,
    ⟨(some 43), .nilCheck (.tmp 34), none⟩,
    ⟨(some 44), .idxAA 4 1 (.tmp 43) (.const (.int .i64 2)), none⟩,
    ⟨none, .store 1 (.tmp 44) (.tmp 42), none⟩] []
def k93_4 : VC := .regD [⟨(some 45), .mv (.tmp 0), none⟩,
    ⟨(some 46), .mv (.tmp 0), none⟩,
    ⟨(some 47), .nilCheck (.tmp 46), none⟩,
    ⟨(some 48), .idxAA 4 1 (.tmp 47) (.const (.int .i64 3)), none⟩,
    ⟨(some 49), .load1 (.int .u64) (.tmp 48), none⟩,
    ⟨(some 50), .callF 97 [(.tmp 49), (.const (.int .i64 16))], none⟩,
    ⟨(some 51), .mv (.tmp 0), none⟩,
    ⟨(some 52), .nilCheck (.tmp 51), none⟩,
    ⟨(some 53), .idxAA 4 1 (.tmp 52) (.const (.int .i64 2)), none⟩,
    ⟨(some 54), .load1 (.int .u64) (.tmp 53), none⟩,
    ⟨(some 55), .bin .xor (.tmp 50) (.tmp 54), none⟩,
    ⟨(some 56), .nilCheck (.tmp 45), none⟩,
    ⟨(some 57), .idxAA 4 1 (.tmp 56) (.const (.int .i64 3)), none⟩,
    ⟨none, .store 1 (.tmp 57) (.tmp 55), none⟩] [(5, 9)]
def k93_5 : VC := .regD [⟨(some 58), .mv (.tmp 0), none⟩,
    ⟨(some 59), .nilCheck (.tmp 58), none⟩,
    ⟨(some 60), .idxAA 4 1 (.tmp 59) (.const (.int .i64 0)), none⟩,
    ⟨(some 61), .load1 (.int .u64) (.tmp 60), none⟩,
    ⟨(some 62), .mv (.tmp 0), none⟩,
    ⟨(some 63), .nilCheck (.tmp 62), none⟩,
    ⟨(some 64), .idxAA 4 1 (.tmp 63) (.const (.int .i64 3)), none⟩,
    ⟨(some 65), .load1 (.int .u64) (.tmp 64), none⟩,
    ⟨(some 66), .bin .add (.tmp 61) (.tmp 65), none⟩,
    ⟨(some 67), .nilCheck (.tmp 58), none⟩,
    ⟨(some 68), .idxAA 4 1 (.tmp 67) (.const (.int .i64 0)), none⟩,
    ⟨none, .store 1 (.tmp 68) (.tmp 66), none⟩] []
def k93_6 : VC := .regD [⟨(some 69), .mv (.tmp 0), none⟩,
    ⟨(some 70), .mv (.tmp 0), none⟩,
    ⟨(some 71), .nilCheck (.tmp 70), none⟩,
    ⟨(some 72), .idxAA 4 1 (.tmp 71) (.const (.int .i64 3)), none⟩,
    ⟨(some 73), .load1 (.int .u64) (.tmp 72), none⟩,
    ⟨(some 74), .callF 97 [(.tmp 73), (.const (.int .i64 21))], none⟩,
    ⟨(some 75), .mv (.tmp 0), none⟩,
    ⟨(some 76), .nilCheck (.tmp 75), none⟩,
    ⟨(some 77), .idxAA 4 1 (.tmp 76) (.const (.int .i64 0)), none⟩,
    ⟨(some 78), .load1 (.int .u64) (.tmp 77), none⟩,
    ⟨(some 79), .bin .xor (.tmp 74) (.tmp 78), none⟩,
    ⟨(some 80), .nilCheck (.tmp 69), none⟩,
    ⟨(some 81), .idxAA 4 1 (.tmp 80) (.const (.int .i64 3)), none⟩,
    ⟨none, .store 1 (.tmp 81) (.tmp 79), none⟩] [(5, 9)]
def k93_7 : VC := .regD [⟨(some 82), .mv (.tmp 0), none⟩,
    ⟨(some 83), .nilCheck (.tmp 82), none⟩,
    ⟨(some 84), .idxAA 4 1 (.tmp 83) (.const (.int .i64 2)), none⟩,
    ⟨(some 85), .load1 (.int .u64) (.tmp 84), none⟩,
    ⟨(some 86), .mv (.tmp 0), none⟩,
    ⟨(some 87), .nilCheck (.tmp 86), none⟩,
    ⟨(some 88), .idxAA 4 1 (.tmp 87) (.const (.int .i64 1)), none⟩,
    ⟨(some 89), .load1 (.int .u64) (.tmp 88), none⟩,
    ⟨(some 90), .bin .add (.tmp 85) (.tmp 89), none⟩,
    ⟨(some 91), .nilCheck (.tmp 82), none⟩,
    ⟨(some 92), .idxAA 4 1 (.tmp 91) (.const (.int .i64 2)), none⟩,
    ⟨none, .store 1 (.tmp 92) (.tmp 90), none⟩] []
def k93_8 : VC := .regD [⟨(some 93), .mv (.tmp 0), none⟩,
    ⟨(some 94), .mv (.tmp 0), none⟩,
    ⟨(some 95), .nilCheck (.tmp 94), none⟩,
    ⟨(some 96), .idxAA 4 1 (.tmp 95) (.const (.int .i64 1)), none⟩,
    ⟨(some 97), .load1 (.int .u64) (.tmp 96), none⟩,
    ⟨(some 98), .callF 97 [(.tmp 97), (.const (.int .i64 17))], none⟩,
    ⟨(some 99), .mv (.tmp 0), none⟩,
    ⟨(some 100), .nilCheck (.tmp 99), none⟩,
    ⟨(some 101), .idxAA 4 1 (.tmp 100) (.const (.int .i64 2)), none⟩,
    ⟨(some 102), .load1 (.int .u64) (.tmp 101), none⟩,
    ⟨(some 103), .bin .xor (.tmp 98) (.tmp 102), none⟩,
    ⟨(some 104), .nilCheck (.tmp 93), none⟩,
    ⟨(some 105), .idxAA 4 1 (.tmp 104) (.const (.int .i64 1)), none⟩,
    ⟨none, .store 1 (.tmp 105) (.tmp 103), none⟩] [(5, 9)]
def k93_9 : VC := .regD [⟨(some 106), .mv (.tmp 0), none⟩,
    ⟨(some 107), .mv (.tmp 0), none⟩,
    ⟨(some 108), .nilCheck (.tmp 107), none⟩,
    ⟨(some 109), .idxAA 4 1 (.tmp 108) (.const (.int .i64 2)), none⟩,
    ⟨(some 110), .load1 (.int .u64) (.tmp 109), none⟩,
    ⟨(some 111), .callF 97 [(.tmp 110), (.const (.int .i64 32))], none⟩,
    ⟨(some 112), .nilCheck (.tmp 106), none⟩,
    ⟨(some 113), .idxAA 4 1 (.tmp 112) (.const (.int .i64 2)), none⟩,
    ⟨none, .store 1 (.tmp 113) (.tmp 111), none⟩] []
def k93_10 : VC := .seq k93_8 k93_9
def k93_11 : VC := .seq k93_7 k93_10
def k93_12 : VC := .seq k93_6 k93_11
def k93_13 : VC := .seq k93_5 k93_12
def k93_14 : VC := .seq k93_4 k93_13
def k93_15 : VC := .seq k93_3 k93_14
def k93_16 : VC := .seq k93_2 k93_15
def k93_17 : VC := .seq k93_1 k93_16
def k93_18 : VC := .seq k93_0 k93_17
def fn93 : VFn := ⟨114, k93_18, []⟩
/- 97: math/bits.RotateLeft64 -/
def k97_0 : VC := .reg [⟨(some 4), .mv (.const (.int .u64 0)), none⟩]
def k97_1 : VC := .reg [⟨(some 6), .mv (.tmp 1), none⟩,
    ⟨(some 7), .conv .u64 (.tmp 6), none⟩,
    ⟨(some 8), .bin .and (.tmp 7) (.const (.int .u64 63)), none⟩,
    ⟨(some 5), .mv (.tmp 8), none⟩]
def k97_2 : VC := .reg [⟨(some 9), .mv (.tmp 0), none⟩,
    ⟨(some 10), .mv (.tmp 5), none⟩,
    ⟨(some 11), .bin .shl (.tmp 9) (.tmp 10), none⟩,
    ⟨(some 12), .mv (.tmp 0), none⟩,
    ⟨(some 13), .mv (.tmp 5), none⟩,
    ⟨(some 14), .bin .sub (.const (.int .u64 64)) (.tmp 13), none⟩,
    ⟨(some 15), .bin .shr (.tmp 12) (.tmp 14), none⟩,
    ⟨(some 16), .bin .or (.tmp 11) (.tmp 15), none⟩,
    ⟨(some 4), .mv (.tmp 16), none⟩]
def k97_3 : VC := .seq k97_2 .ret
def k97_4 : VC := .seq k97_1 k97_3
def k97_5 : VC := .seq k97_0 k97_4
def fn97 : VFn := ⟨17, k97_5, [.tmp 4]⟩
/- 33: (*cloakroom/sip.Hasher).Sum -/
def k33_0 : VC := .reg [⟨(some 2), .mv (.const (.int .u64 0)), none⟩]
def k33_1 : VC := .reg [⟨(some 4), .mv (.tmp 0), none⟩,
    ⟨(some 5), .isNil 0 false (.tmp 4), none⟩,
    ⟨(some 6), .mv (.tmp 5), none⟩,
    ⟨(some 7), .mv (.tmp 0), (some (6, false))⟩,
    ⟨(some 8), .nilCheck (.tmp 7), (some (6, false))⟩,
    ⟨(some 9), .fieldA 0 (.tmp 8), (some (6, false))⟩,
    ⟨(some 10), .load1 .bool (.tmp 9), (some (6, false))⟩,
    ⟨(some 11), .not (.tmp 10), (some (6, false))⟩,
    ⟨(some 12), .pick (.tmp 6) (.const (.bool true)) (.tmp 11), none⟩]
def k33_2 : VC := .reg [⟨(some 2), .mv (.const (.int .u64 0)), none⟩]
def k33_3 : VC := .seq k33_2 .ret
def k33_4 : VC := .cond (.tmp 12) k33_3 .skip
def k33_5 : VC := .seq k33_1 k33_4
def k33_6 : VC := .reg [⟨(some 13), .mv (.tmp 0), none⟩,
    ⟨(some 14), .nilCheck (.tmp 13), none⟩,
    ⟨(some 15), .fieldA 1 (.tmp 14), none⟩,
    ⟨(some 16), .loadN [(.int .u64), (.int .u64), (.int .u64), (.int .u64)] (.tmp 15), none⟩,
    ⟨(some 3), .alloc [(.int .u64 0), (.int .u64 0), (.int .u64 0), (.int .u64 0)], none⟩,
    ⟨none, .store 4 (.tmp 3) (.tmp 16), none⟩]
def k33_7 : VC := .regD [⟨(some 17), .mv (.tmp 0), none⟩,
    ⟨(some 18), .nilCheck (.tmp 17), none⟩,
    ⟨(some 19), .fieldA 5 (.tmp 18), none⟩,
    ⟨(some 20), .load1 (.int .u64) (.tmp 19), none⟩,
    ⟨(some 21), .mv (.tmp 0), none⟩,
    ⟨(some 22), .nilCheck (.tmp 21), none⟩,
    ⟨(some 23), .fieldA 6 (.tmp 22), none⟩,
    ⟨(some 24), .load1 (.int .i64) (.tmp 23), none⟩,
    ⟨(some 25), .conv .u64 (.tmp 24), none⟩,
    ⟨(some 26), .bin .shl (.tmp 25) (.const (.int .u64 56)), none⟩,
    ⟨(some 27), .bin .or (.tmp 20) (.tmp 26), none⟩,
    ⟨(some 28), .callF 64 [(.tmp 3), (.tmp 27)], none⟩] []
def k33_8 : VC := .reg [⟨(some 29), .idxAA 4 1 (.tmp 3) (.const (.int .i64 2)), none⟩,
    ⟨(some 30), .load1 (.int .u64) (.tmp 29), none⟩,
    ⟨(some 31), .bin .xor (.tmp 30) (.const (.int .u64 255)), none⟩,
    ⟨(some 32), .idxAA 4 1 (.tmp 3) (.const (.int .i64 2)), none⟩,
    ⟨none, .store 1 (.tmp 32) (.tmp 31), none⟩]
def k33_9 : VC := .reg [⟨(some 33), .callF 65 [(.tmp 3), (.const (.int .i64 4))], none⟩]
def k33_10 : VC := .reg [⟨(some 34), .idxAA 4 1 (.tmp 3) (.const (.int .i64 0)), none⟩,
    ⟨(some 35), .load1 (.int .u64) (.tmp 34), none⟩,
    ⟨(some 36), .idxAA 4 1 (.tmp 3) (.const (.int .i64 1)), none⟩,
    ⟨(some 37), .load1 (.int .u64) (.tmp 36), none⟩,
    ⟨(some 38), .bin .xor (.tmp 35) (.tmp 37), none⟩,
    ⟨(some 39), .idxAA 4 1 (.tmp 3) (.const (.int .i64 2)), none⟩,
    ⟨(some 40), .load1 (.int .u64) (.tmp 39), none⟩,
    ⟨(some 41), .bin .xor (.tmp 38) (.tmp 40), none⟩,
    ⟨(some 42), .idxAA 4 1 (.tmp 3) (.const (.int .i64 3)), none⟩,
    ⟨(some 43), .load1 (.int .u64) (.tmp 42), none⟩,
    ⟨(some 44), .bin .xor (.tmp 41) (.tmp 43), none⟩,
    ⟨(some 2), .mv (.tmp 44), none⟩]
def k33_11 : VC := .seq k33_10 .ret
def k33_12 : VC := .seq k33_9 k33_11
def k33_13 : VC := .seq k33_8 k33_12
def k33_14 : VC := .seq k33_7 k33_13
def k33_15 : VC := .seq k33_6 k33_14
def k33_16 : VC := .seq k33_5 k33_15
def k33_17 : VC := .seq k33_0 k33_16
def fn33 : VFn := ⟨45, k33_17, [.tmp 2]⟩
/- 9: cloakroom/cloakroomlaw12.SipTells -/
def k9_0 : VC := .reg [⟨(some 5), .box (.tmp 0), none⟩,
    ⟨(some 10), .mv (.const (.bool false)), none⟩]
def k9_1 : VC := .reg [⟨(some 11), .mv (.tmp 1), none⟩,
    ⟨(some 12), .lenS (.tmp 11), none⟩,
    ⟨(some 13), .bin .gtr (.tmp 12) (.const (.int .i64 300)), none⟩]
def k9_2 : VC := .reg [⟨(some 14), .callF 30 [], none⟩,
    ⟨(some 10), .mv (.tmp 14), none⟩]
def k9_3 : VC := .seq k9_2 .ret
def k9_4 : VC := .cond (.tmp 13) k9_3 .skip
def k9_5 : VC := .seq k9_1 k9_4
def k9_6 : VC := .regD [⟨(some 15), .loadN [(.int .u64), (.int .u64)] (.tmp 5), none⟩,
    ⟨(some 16), .mv (.tmp 1), none⟩,
    ⟨(some 17), .callF 34 [(.tmp 15), (.tmp 16)], none⟩,
    ⟨(some 18), .loadN [(.int .u64), (.int .u64)] (.tmp 5), none⟩,
    ⟨(some 19), .mv (.tmp 1), none⟩,
    ⟨(some 20), .callF 35 [(.tmp 18), (.tmp 19)], none⟩,
    ⟨(some 21), .bin .eql (.tmp 17) (.tmp 20), none⟩,
    ⟨(some 22), .mv (.tmp 21), none⟩,
    ⟨(some 23), .mv (.tmp 2), (some (22, true))⟩,
    ⟨(some 24), .mv (.tmp 3), (some (22, true))⟩,
    ⟨(some 25), .fieldA 0 (.tmp 5), (some (22, true))⟩,
    ⟨(some 26), .load1 (.int .u64) (.tmp 25), (some (22, true))⟩,
    ⟨(some 27), .fieldA 1 (.tmp 5), (some (22, true))⟩,
    ⟨(some 28), .load1 (.int .u64) (.tmp 27), (some (22, true))⟩,
    ⟨(some 29), .mv (.tmp 4), (some (22, true))⟩,
    ⟨(some 30), .callF 36 [(.tmp 23), (.tmp 24), (.tmp 26), (.tmp 28), (.tmp 29)], (some (22, true))⟩,
    ⟨(some 31), .mv (.tmp 2), (some (22, true))⟩,
    ⟨(some 32), .mv (.tmp 3), (some (22, true))⟩,
    ⟨(some 33), .fieldA 0 (.tmp 5), (some (22, true))⟩,
    ⟨(some 34), .load1 (.int .u64) (.tmp 33), (some (22, true))⟩,
    ⟨(some 35), .fieldA 1 (.tmp 5), (some (22, true))⟩,
    ⟨(some 36), .load1 (.int .u64) (.tmp 35), (some (22, true))⟩,
    ⟨(some 37), .mv (.tmp 4), (some (22, true))⟩,
    ⟨(some 38), .callF 37 [(.tmp 31), (.tmp 32), (.tmp 34), (.tmp 36), (.tmp 37)], (some (22, true))⟩,
    ⟨(some 39), .eqAgg false [(0, (.int .u64)), (1, (.int .u64)), (2, (.int .u64)), (3, (.int .u64))] (.tmp 30) (.tmp 38), (some (22, true))⟩,
    ⟨(some 40), .pick (.tmp 22) (.tmp 39) (.const (.bool false)), none⟩,
    ⟨(some 41), .mv (.tmp 40), none⟩,
    ⟨(some 42), .callF 30 [], (some (41, true))⟩,
    ⟨(some 43), .pick (.tmp 41) (.tmp 42) (.const (.bool false)), none⟩,
    ⟨(some 10), .mv (.tmp 43), none⟩] [(2, 3), (15, 19), (15, 21)]
def k9_7 : VC := .seq k9_6 .ret
def k9_8 : VC := .seq k9_5 k9_7
def k9_9 : VC := .seq k9_0 k9_8
def fn9 : VFn := ⟨44, k9_9, [.tmp 10]⟩
/- 35: cloakroom/cloakroomref12.Hash -/
def k35_0 : VC := .reg [⟨(some 2), .box (.tmp 0), none⟩,
    ⟨(some 4), .mv (.const (.int .u64 0)), none⟩]
def k35_1 : VC := .regD [⟨(some 14), .fieldA 0 (.tmp 2), none⟩,
    ⟨(some 15), .load1 (.int .u64) (.tmp 14), none⟩,
    ⟨(some 16), .bin .xor (.const (.int .u64 8317987319222330741)) (.tmp 15), none⟩,
    ⟨(some 17), .fieldA 1 (.tmp 2), none⟩,
    ⟨(some 18), .load1 (.int .u64) (.tmp 17), none⟩,
    ⟨(some 19), .bin .xor (.const (.int .u64 7237128888997146477)) (.tmp 18), none⟩,
    ⟨(some 5), .mv (.tmp 16), none⟩,
    ⟨(some 6), .mv (.tmp 19), none⟩] []
def k35_2 : VC := .regD [⟨(some 20), .fieldA 0 (.tmp 2), none⟩,
    ⟨(some 21), .load1 (.int .u64) (.tmp 20), none⟩,
    ⟨(some 22), .bin .xor (.const (.int .u64 7816392313619706465)) (.tmp 21), none⟩,
    ⟨(some 23), .fieldA 1 (.tmp 2), none⟩,
    ⟨(some 24), .load1 (.int .u64) (.tmp 23), none⟩,
    ⟨(some 25), .bin .xor (.const (.int .u64 8387220255154660723)) (.tmp 24), none⟩,
    ⟨(some 7), .mv (.tmp 22), none⟩,
    ⟨(some 8), .mv (.tmp 25), none⟩] []
def k35_3 : VC := .reg [⟨(some 26), .mv (.tmp 1), none⟩,
    ⟨(some 27), .lenS (.tmp 26), none⟩,
    ⟨(some 28), .bin .quo (.tmp 27) (.const (.int .i64 8)), none⟩,
    ⟨(some 29), .bin .mul (.tmp 28) (.const (.int .i64 8)), none⟩,
    ⟨(some 9), .mv (.tmp 29), none⟩]
def k35_4 : VC := .reg [⟨(some 10), .mv (.const (.int .i64 0)), none⟩]
def k35_5 : VC := .reg [⟨(some 30), .mv (.tmp 10), none⟩,
    ⟨(some 31), .mv (.tmp 9), none⟩,
    ⟨(some 32), .bin .leq (.tmp 30) (.tmp 31), none⟩]
def k35_6 : VC := .cond (.tmp 32) .skip (.exit 0)
def k35_7 : VC := .seq k35_5 k35_6
def k35_8 : VC := .reg [⟨(some 35), .mv (.tmp 1), none⟩,
    ⟨(some 36), .mv (.tmp 10), none⟩,
    ⟨(some 37), .mv (.tmp 10), none⟩,
    ⟨(some 38), .bin .add (.tmp 37) (.const (.int .i64 8)), none⟩,
    ⟨(some 39), .mv (.tmp 1), none⟩,
    ⟨(some 40), .lenS (.tmp 39), none⟩,
    ⟨(some 41), .minmax false [(.tmp 38), (.tmp 40)], none⟩,
    ⟨(some 42), .sliceS (.tmp 35) (some (.tmp 36)) (some (.tmp 41)), none⟩,
    ⟨(some 43), .callF 66 [(.tmp 42)], none⟩,
    ⟨(some 11), .mv (.tmp 43), none⟩]
def k35_9 : VC := .reg [⟨(some 44), .mv (.tmp 10), none⟩,
    ⟨(some 45), .mv (.tmp 9), none⟩,
    ⟨(some 46), .bin .eql (.tmp 44) (.tmp 45), none⟩]
def k35_10 : VC := .reg [⟨(some 47), .mv (.tmp 1), none⟩,
    ⟨(some 48), .mv (.tmp 10), none⟩,
    ⟨(some 49), .sliceS (.tmp 47) (some (.tmp 48)) none, none⟩,
    ⟨(some 50), .callF 66 [(.tmp 49)], none⟩,
    ⟨(some 51), .mv (.tmp 1), none⟩,
    ⟨(some 52), .lenS (.tmp 51), none⟩,
    ⟨(some 53), .bin .rem (.tmp 52) (.const (.int .i64 256)), none⟩,
    ⟨(some 54), .conv .u64 (.tmp 53), none⟩,
    ⟨(some 55), .bin .shl (.tmp 54) (.const (.int .u64 56)), none⟩,
    ⟨(some 56), .bin .add (.tmp 50) (.tmp 55), none⟩,
    ⟨(some 11), .mv (.tmp 56), none⟩]
def k35_11 : VC := .cond (.tmp 46) k35_10 .skip
def k35_12 : VC := .seq k35_9 k35_11
def k35_13 : VC := .reg [⟨(some 57), .mv (.tmp 8), none⟩,
    ⟨(some 58), .mv (.tmp 11), none⟩,
    ⟨(some 59), .bin .xor (.tmp 57) (.tmp 58), none⟩,
    ⟨(some 8), .mv (.tmp 59), none⟩]
def k35_14 : VC := .reg [⟨(some 12), .mv (.const (.int .i64 0)), none⟩]
def k35_15 : VC := .reg [⟨(some 60), .mv (.tmp 12), none⟩,
    ⟨(some 61), .bin .lss (.tmp 60) (.const (.int .i64 2)), none⟩]
def k35_16 : VC := .cond (.tmp 61) .skip (.exit 2)
def k35_17 : VC := .seq k35_15 k35_16
def k35_18 : VC := .reg [⟨(some 65), .mv (.tmp 5), none⟩,
    ⟨(some 66), .mv (.tmp 6), none⟩,
    ⟨(some 67), .mv (.tmp 7), none⟩,
    ⟨(some 68), .mv (.tmp 8), none⟩,
    ⟨(some 69), .callF 67 [(.tmp 65), (.tmp 66), (.tmp 67), (.tmp 68)], none⟩,
    ⟨(some 64), .mv (.tmp 69), none⟩,
    ⟨(some 70), .extract 0 (.tmp 64), none⟩,
    ⟨(some 71), .extract 1 (.tmp 64), none⟩,
    ⟨(some 72), .extract 2 (.tmp 64), none⟩,
    ⟨(some 73), .extract 3 (.tmp 64), none⟩,
    ⟨(some 5), .mv (.tmp 70), none⟩,
    ⟨(some 6), .mv (.tmp 71), none⟩,
    ⟨(some 7), .mv (.tmp 72), none⟩,
    ⟨(some 8), .mv (.tmp 73), none⟩]
def k35_19 : VC := .block 3 k35_18
def k35_20 : VC := .reg [⟨(some 62), .mv (.tmp 12), none⟩,
    ⟨(some 63), .bin .add (.tmp 62) (.const (.int .i64 1)), none⟩,
    ⟨(some 12), .mv (.tmp 63), none⟩]
def k35_21 : VC := .seq k35_19 k35_20
def k35_22 : VC := .seq k35_17 k35_21
def k35_23 : VC := .loop k35_22
def k35_24 : VC := .block 2 k35_23
def k35_25 : VC := .seq k35_14 k35_24
def k35_26 : VC := .reg [⟨(some 74), .mv (.tmp 5), none⟩,
    ⟨(some 75), .mv (.tmp 11), none⟩,
    ⟨(some 76), .bin .xor (.tmp 74) (.tmp 75), none⟩,
    ⟨(some 5), .mv (.tmp 76), none⟩]
def k35_27 : VC := .seq k35_25 k35_26
def k35_28 : VC := .seq k35_13 k35_27
def k35_29 : VC := .seq k35_12 k35_28
def k35_30 : VC := .seq k35_8 k35_29
def k35_31 : VC := .block 1 k35_30
def k35_32 : VC := .reg [⟨(some 33), .mv (.tmp 10), none⟩,
    ⟨(some 34), .bin .add (.tmp 33) (.const (.int .i64 8)), none⟩,
    ⟨(some 10), .mv (.tmp 34), none⟩]
def k35_33 : VC := .seq k35_31 k35_32
def k35_34 : VC := .seq k35_7 k35_33
def k35_35 : VC := .loop k35_34
def k35_36 : VC := .block 0 k35_35
def k35_37 : VC := .seq k35_4 k35_36
def k35_38 : VC := .reg [⟨(some 77), .mv (.tmp 7), none⟩,
    ⟨(some 78), .bin .xor (.tmp 77) (.const (.int .u64 255)), none⟩,
    ⟨(some 7), .mv (.tmp 78), none⟩]
def k35_39 : VC := .reg [⟨(some 79), .mv (.tmp 5), none⟩,
    ⟨(some 80), .mv (.tmp 6), none⟩,
    ⟨(some 81), .mv (.tmp 7), none⟩,
    ⟨(some 82), .mv (.tmp 8), none⟩,
    ⟨(some 83), .callF 37 [(.tmp 79), (.tmp 80), (.tmp 81), (.tmp 82), (.const (.int .i64 4))], none⟩,
    ⟨(some 13), .alloc [(.int .u64 0), (.int .u64 0), (.int .u64 0), (.int .u64 0)], none⟩,
    ⟨none, .store 4 (.tmp 13) (.tmp 83), none⟩]
def k35_40 : VC := .reg [⟨(some 84), .idxAA 4 1 (.tmp 13) (.const (.int .i64 0)), none⟩,
    ⟨(some 85), .load1 (.int .u64) (.tmp 84), none⟩,
    ⟨(some 86), .idxAA 4 1 (.tmp 13) (.const (.int .i64 1)), none⟩,
    ⟨(some 87), .load1 (.int .u64) (.tmp 86), none⟩,
    ⟨(some 88), .bin .xor (.tmp 85) (.tmp 87), none⟩,
    ⟨(some 89), .idxAA 4 1 (.tmp 13) (.const (.int .i64 2)), none⟩,
    ⟨(some 90), .load1 (.int .u64) (.tmp 89), none⟩,
    ⟨(some 91), .bin .xor (.tmp 88) (.tmp 90), none⟩,
    ⟨(some 92), .idxAA 4 1 (.tmp 13) (.const (.int .i64 3)), none⟩,
    ⟨(some 93), .load1 (.int .u64) (.tmp 92), none⟩,
    ⟨(some 94), .bin .xor (.tmp 91) (.tmp 93), none⟩,
    ⟨(some 4), .mv (.tmp 94), none⟩]
def k35_41 : VC := .seq k35_40 .ret
def k35_42 : VC := .seq k35_39 k35_41
def k35_43 : VC := .seq k35_38 k35_42
def k35_44 : VC := .seq k35_37 k35_43
def k35_45 : VC := .seq k35_3 k35_44
def k35_46 : VC := .seq k35_2 k35_45
def k35_47 : VC := .seq k35_1 k35_46
def k35_48 : VC := .seq k35_0 k35_47
def fn35 : VFn := ⟨95, k35_48, [.tmp 4]⟩
/- 66: cloakroom/cloakroomref12.word -/
def k66_0 : VC := .reg [⟨(some 2), .mv (.const (.int .u64 0)), none⟩]
def k66_1 : VC := .reg [⟨(some 3), .mv (.const (.int .u64 0)), none⟩]
def k66_2 : VC := .reg [⟨(some 5), .mv (.tmp 0), none⟩,
    ⟨(some 6), .lenS (.tmp 5), none⟩,
    ⟨(some 7), .bin .sub (.tmp 6) (.const (.int .i64 1)), none⟩,
    ⟨(some 4), .mv (.tmp 7), none⟩]
def k66_3 : VC := .reg [⟨(some 8), .mv (.tmp 4), none⟩,
    ⟨(some 9), .bin .geq (.tmp 8) (.const (.int .i64 0)), none⟩]
def k66_4 : VC := .cond (.tmp 9) .skip (.exit 0)
def k66_5 : VC := .seq k66_3 k66_4
def k66_6 : VC := .reg [⟨(some 12), .mv (.tmp 3), none⟩,
    ⟨(some 13), .bin .shl (.tmp 12) (.const (.int .u64 8)), none⟩,
    ⟨(some 14), .mv (.tmp 0), none⟩,
    ⟨(some 15), .mv (.tmp 4), none⟩,
    ⟨(some 16), .idxS (.tmp 14) (.tmp 15), none⟩,
    ⟨(some 17), .conv .u64 (.tmp 16), none⟩,
    ⟨(some 18), .bin .add (.tmp 13) (.tmp 17), none⟩,
    ⟨(some 3), .mv (.tmp 18), none⟩]
def k66_7 : VC := .block 1 k66_6
def k66_8 : VC := .reg [⟨(some 10), .mv (.tmp 4), none⟩,
    ⟨(some 11), .bin .sub (.tmp 10) (.const (.int .i64 1)), none⟩,
    ⟨(some 4), .mv (.tmp 11), none⟩]
def k66_9 : VC := .seq k66_7 k66_8
def k66_10 : VC := .seq k66_5 k66_9
def k66_11 : VC := .loop k66_10
def k66_12 : VC := .block 0 k66_11
def k66_13 : VC := .seq k66_2 k66_12
def k66_14 : VC := .reg [⟨(some 19), .mv (.tmp 3), none⟩,
    ⟨(some 2), .mv (.tmp 19), none⟩]
def k66_15 : VC := .seq k66_14 .ret
def k66_16 : VC := .seq k66_13 k66_15
def k66_17 : VC := .seq k66_1 k66_16
def k66_18 : VC := .seq k66_0 k66_17
def fn66 : VFn := ⟨20, k66_18, [.tmp 2]⟩
/- 67: cloakroom/cloakroomref12.Round -/
def k67_0 : VC := .reg [⟨(some 8), .mv (.const (.int .u64 0)), none⟩,
    ⟨(some 9), .mv (.const (.int .u64 0)), none⟩,
    ⟨(some 10), .mv (.const (.int .u64 0)), none⟩,
    ⟨(some 11), .mv (.const (.int .u64 0)), none⟩]
def k67_1 : VC := .reg [⟨(some 12), .mv (.tmp 0), none⟩,
    ⟨(some 13), .mv (.tmp 1), none⟩,
    ⟨(some 14), .bin .add (.tmp 12) (.tmp 13), none⟩,
    ⟨(some 0), .mv (.tmp 14), none⟩]
def k67_2 : VC := .reg [⟨(some 15), .mv (.tmp 1), none⟩,
    ⟨(some 16), .callF 68 [(.tmp 15), (.const (.int .i64 13))], none⟩,
    ⟨(some 17), .mv (.tmp 0), none⟩,
    ⟨(some 18), .bin .xor (.tmp 16) (.tmp 17), none⟩,
    ⟨(some 1), .mv (.tmp 18), none⟩]
def k67_3 : VC := .reg [⟨(some 19), .mv (.tmp 0), none⟩,
    ⟨(some 20), .callF 68 [(.tmp 19), (.const (.int .i64 32))], none⟩,
    ⟨(some 0), .mv (.tmp 20), none⟩]
def k67_4 : VC := .reg [⟨(some 21), .mv (.tmp 2), none⟩,
    ⟨(some 22), .mv (.tmp 3), none⟩,
    ⟨(some 23), .bin .add (.tmp 21) (.tmp 22), none⟩,
    ⟨(some 2), .mv (.tmp 23), none⟩]
def k67_5 : VC := .reg [⟨(some 24), .mv (.tmp 3), none⟩,
    ⟨(some 25), .callF 68 [(.tmp 24), (.const (.int .i64 16))], none⟩,
    ⟨(some 26), .mv (.tmp 2), none⟩,
    ⟨(some 27), .bin .xor (.tmp 25) (.tmp 26), none⟩,
    ⟨(some 3), .mv (.tmp 27), none⟩]
def k67_6 : VC := .reg [⟨(some 28), .mv (.tmp 0), none⟩,
    ⟨(some 29), .mv (.tmp 3), none⟩,
    ⟨(some 30), .bin .add (.tmp 28) (.tmp 29), none⟩,
    ⟨(some 0), .mv (.tmp 30), none⟩]
def k67_7 : VC := .reg [⟨(some 31), .mv (.tmp 3), none⟩,
    ⟨(some 32), .callF 68 [(.tmp 31), (.const (.int .i64 21))], none⟩,
    ⟨(some 33), .mv (.tmp 0), none⟩,
    ⟨(some 34), .bin .xor (.tmp 32) (.tmp 33), none⟩,
    ⟨(some 3), .mv (.tmp 34), none⟩]
def k67_8 : VC := .reg [⟨(some 35), .mv (.tmp 2), none⟩,
    ⟨(some 36), .mv (.tmp 1), none⟩,
    ⟨(some 37), .bin .add (.tmp 35) (.tmp 36), none⟩,
    ⟨(some 2), .mv (.tmp 37), none⟩]
def k67_9 : VC := .reg [⟨(some 38), .mv (.tmp 1), none⟩,
    ⟨(some 39), .callF 68 [(.tmp 38), (.const (.int .i64 17))], none⟩,
    ⟨(some 40), .mv (.tmp 2), none⟩,
    ⟨(some 41), .bin .xor (.tmp 39) (.tmp 40), none⟩,
    ⟨(some 1), .mv (.tmp 41), none⟩]
def k67_10 : VC := .reg [⟨(some 42), .mv (.tmp 2), none⟩,
    ⟨(some 43), .callF 68 [(.tmp 42), (.const (.int .i64 32))], none⟩,
    ⟨(some 2), .mv (.tmp 43), none⟩]
def k67_11 : VC := .reg [⟨(some 44), .mv (.tmp 0), none⟩,
    ⟨(some 45), .mv (.tmp 1), none⟩,
    ⟨(some 46), .mv (.tmp 2), none⟩,
    ⟨(some 47), .mv (.tmp 3), none⟩,
    ⟨(some 8), .mv (.tmp 44), none⟩,
    ⟨(some 9), .mv (.tmp 45), none⟩,
    ⟨(some 10), .mv (.tmp 46), none⟩,
    ⟨(some 11), .mv (.tmp 47), none⟩]
def k67_12 : VC := .seq k67_11 .ret
def k67_13 : VC := .seq k67_10 k67_12
def k67_14 : VC := .seq k67_9 k67_13
def k67_15 : VC := .seq k67_8 k67_14
def k67_16 : VC := .seq k67_7 k67_15
def k67_17 : VC := .seq k67_6 k67_16
def k67_18 : VC := .seq k67_5 k67_17
def k67_19 : VC := .seq k67_4 k67_18
def k67_20 : VC := .seq k67_3 k67_19
def k67_21 : VC := .seq k67_2 k67_20
def k67_22 : VC := .seq k67_1 k67_21
def k67_23 : VC := .seq k67_0 k67_22
def fn67 : VFn := ⟨48, k67_23, [.tmp 8, .tmp 9, .tmp 10, .tmp 11]⟩
/- 68: cloakroom/cloakroomref12.turn -/
def k68_0 : VC := .reg [⟨(some 4), .mv (.const (.int .u64 0)), none⟩]
def k68_1 : VC := .regD [⟨(some 5), .mv (.tmp 0), none⟩,
    ⟨(some 6), .mv (.tmp 1), none⟩,
    ⟨(some 7), .bin .shl (.tmp 5) (.tmp 6), none⟩,
    ⟨(some 8), .mv (.tmp 0), none⟩,
    ⟨(some 9), .mv (.tmp 1), none⟩,
    ⟨(some 10), .bin .sub (.const (.int .i64 64)) (.tmp 9), none⟩,
    ⟨(some 11), .bin .shr (.tmp 8) (.tmp 10), none⟩,
    ⟨(some 12), .bin .or (.tmp 7) (.tmp 11), none⟩,
    ⟨(some 4), .mv (.tmp 12), none⟩] []
def k68_2 : VC := .seq k68_1 .ret
def k68_3 : VC := .seq k68_0 k68_2
def fn68 : VFn := ⟨13, k68_3, [.tmp 4]⟩
/- 37: cloakroom/cloakroomref12.Mix -/
def k37_0 : VC := .reg [⟨(some 10), .alloc [(.int .u64 0), (.int .u64 0), (.int .u64 0), (.int .u64 0)], none⟩]
def k37_1 : VC := .reg [⟨(some 11), .mv (.const (.int .i64 0)), none⟩]
def k37_2 : VC := .reg [⟨(some 12), .mv (.tmp 11), none⟩,
    ⟨(some 13), .mv (.tmp 4), none⟩,
    ⟨(some 14), .bin .lss (.tmp 12) (.tmp 13), none⟩,
    ⟨(some 15), .mv (.tmp 14), none⟩,
    ⟨(some 16), .mv (.tmp 11), (some (15, true))⟩,
    ⟨(some 17), .bin .lss (.tmp 16) (.const (.int .i64 64)), (some (15, true))⟩,
    ⟨(some 18), .pick (.tmp 15) (.tmp 17) (.const (.bool false)), none⟩]
def k37_3 : VC := .cond (.tmp 18) .skip (.exit 0)
def k37_4 : VC := .seq k37_2 k37_3
def k37_5 : VC := .reg [⟨(some 22), .mv (.tmp 0), none⟩,
    ⟨(some 23), .mv (.tmp 1), none⟩,
    ⟨(some 24), .mv (.tmp 2), none⟩,
    ⟨(some 25), .mv (.tmp 3), none⟩,
    ⟨(some 26), .callF 67 [(.tmp 22), (.tmp 23), (.tmp 24), (.tmp 25)], none⟩,
    ⟨(some 21), .mv (.tmp 26), none⟩,
    ⟨(some 27), .extract 0 (.tmp 21), none⟩,
    ⟨(some 28), .extract 1 (.tmp 21), none⟩,
    ⟨(some 29), .extract 2 (.tmp 21), none⟩,
    ⟨(some 30), .extract 3 (.tmp 21), none⟩,
    ⟨(some 0), .mv (.tmp 27), none⟩,
    ⟨(some 1), .mv (.tmp 28), none⟩,
    ⟨(some 2), .mv (.tmp 29), none⟩,
    ⟨(some 3), .mv (.tmp 30), none⟩]
def k37_6 : VC := .block 1 k37_5
def k37_7 : VC := .reg [⟨(some 19), .mv (.tmp 11), none⟩,
    ⟨(some 20), .bin .add (.tmp 19) (.const (.int .i64 1)), none⟩,
    ⟨(some 11), .mv (.tmp 20), none⟩]
def k37_8 : VC := .seq k37_6 k37_7
def k37_9 : VC := .seq k37_4 k37_8
def k37_10 : VC := .loop k37_9
def k37_11 : VC := .block 0 k37_10
def k37_12 : VC := .seq k37_1 k37_11
def k37_13 : VC := .reg [⟨(some 31), .mv (.tmp 0), none⟩,
    ⟨(some 32), .mv (.tmp 1), none⟩,
    ⟨(some 33), .mv (.tmp 2), none⟩,
    ⟨(some 34), .mv (.tmp 3), none⟩,
    ⟨(some 35), .build [(.int .u64 0), (.int .u64 0), (.int .u64 0), (.int .u64 0)] [(0, 1, (.tmp 31)), (1, 1, (.tmp 32)), (2, 1, (.tmp 33)), (3, 1, (.tmp 34))], none⟩,
    ⟨none, .store 4 (.tmp 10) (.tmp 35), none⟩]
def k37_14 : VC := .seq k37_13 .ret
def k37_15 : VC := .seq k37_12 k37_14
def k37_16 : VC := .seq k37_0 k37_15
def fn37 : VFn := ⟨36, k37_16, [.cell 10 [(.int .u64), (.int .u64), (.int .u64), (.int .u64)] true]⟩
/- 36: cloakroom/sip.Mix -/
def k36_0 : VC := .reg [⟨(some 10), .alloc [(.int .u64 0), (.int .u64 0), (.int .u64 0), (.int .u64 0)], none⟩]
def k36_1 : VC := .reg [⟨(some 12), .mv (.tmp 0), none⟩,
    ⟨(some 13), .mv (.tmp 1), none⟩,
    ⟨(some 14), .mv (.tmp 2), none⟩,
    ⟨(some 15), .mv (.tmp 3), none⟩,
    ⟨(some 16), .build [(.int .u64 0), (.int .u64 0), (.int .u64 0), (.int .u64 0)] [(0, 1, (.tmp 12)), (1, 1, (.tmp 13)), (2, 1, (.tmp 14)), (3, 1, (.tmp 15))], none⟩,
    ⟨(some 11), .alloc [(.int .u64 0), (.int .u64 0), (.int .u64 0), (.int .u64 0)], none⟩,
    ⟨none, .store 4 (.tmp 11) (.tmp 16), none⟩]
def k36_2 : VC := .reg [⟨(some 17), .mv (.tmp 4), none⟩,
    ⟨(some 18), .callF 65 [(.tmp 11), (.tmp 17)], none⟩]
def k36_3 : VC := .reg [⟨(some 19), .loadN [(.int .u64), (.int .u64), (.int .u64), (.int .u64)] (.tmp 11), none⟩,
    ⟨none, .store 4 (.tmp 10) (.tmp 19), none⟩]
def k36_4 : VC := .seq k36_3 .ret
def k36_5 : VC := .seq k36_2 k36_4
def k36_6 : VC := .seq k36_1 k36_5
def k36_7 : VC := .seq k36_0 k36_6
def fn36 : VFn := ⟨20, k36_7, [.cell 10 [(.int .u64), (.int .u64), (.int .u64), (.int .u64)] true]⟩
/- 13: cloakroom/cloakroomlaw06.IpsixTells -/
def k13_0 : VC := .reg [⟨(some 3), .box (.tmp 0), none⟩,
    ⟨(some 6), .mv (.const (.bool false)), none⟩]
def k13_1 : VC := .reg [⟨(some 17), .mv (.tmp 1), none⟩,
    ⟨(some 18), .lenS (.tmp 17), none⟩,
    ⟨(some 19), .bin .gtr (.tmp 18) (.const (.int .i64 200)), none⟩,
    ⟨(some 20), .mv (.tmp 19), none⟩,
    ⟨(some 21), .mv (.tmp 2), (some (20, false))⟩,
    ⟨(some 22), .lenS (.tmp 21), (some (20, false))⟩,
    ⟨(some 23), .bin .gtr (.tmp 22) (.const (.int .i64 200)), (some (20, false))⟩,
    ⟨(some 24), .pick (.tmp 20) (.const (.bool true)) (.tmp 23), none⟩]
def k13_2 : VC := .reg [⟨(some 25), .callF 49 [], none⟩,
    ⟨(some 6), .mv (.tmp 25), none⟩]
def k13_3 : VC := .seq k13_2 .ret
def k13_4 : VC := .cond (.tmp 24) k13_3 .skip
def k13_5 : VC := .seq k13_1 k13_4
def k13_6 : VC := .reg [⟨(some 27), .loadN [(.int .i64), (.int .i64), (.int .i64), (.int .i64), .bool, (.int .u64), (.int .u64), .bool, (.int .u64), (.int .u64)] (.tmp 3), none⟩,
    ⟨(some 28), .callF 51 [(.tmp 27)], none⟩,
    ⟨(some 29), .mv (.tmp 1), none⟩,
    ⟨(some 30), .callF 50 [(.tmp 28), (.tmp 29)], none⟩,
    ⟨(some 26), .mv (.tmp 30), none⟩,
    ⟨(some 31), .extract 0 (.tmp 26), none⟩,
    ⟨(some 32), .extract 1 (.tmp 26), none⟩,
    ⟨(some 7), .mv (.tmp 31), none⟩,
    ⟨(some 8), .mv (.tmp 32), none⟩]
def k13_7 : VC := .reg [⟨(some 34), .loadN [(.int .i64), (.int .i64), (.int .i64), (.int .i64), .bool, (.int .u64), (.int .u64), .bool, (.int .u64), (.int .u64)] (.tmp 3), none⟩,
    ⟨(some 35), .mv (.tmp 1), none⟩,
    ⟨(some 36), .callF 52 [(.tmp 34), (.tmp 35)], none⟩,
    ⟨(some 33), .mv (.tmp 36), none⟩,
    ⟨(some 37), .extract 0 (.tmp 33), none⟩,
    ⟨(some 38), .extract 1 (.tmp 33), none⟩,
    ⟨(some 9), .mv (.tmp 37), none⟩,
    ⟨(some 10), .mv (.tmp 38), none⟩]
def k13_8 : VC := .reg [⟨(some 40), .mv (.tmp 2), none⟩,
    ⟨(some 41), .callF 53 [(.tmp 40)], none⟩,
    ⟨(some 39), .mv (.tmp 41), none⟩,
    ⟨(some 42), .extract 0 (.tmp 39), none⟩,
    ⟨(some 43), .extract 1 (.tmp 39), none⟩,
    ⟨(some 44), .extract 2 (.tmp 39), none⟩,
    ⟨(some 11), .alloc [(.int .i64 0), (.int .i64 0), (.int .i64 0), (.int .i64 0), (.bool false), (.int .u64 0), (.int .u64 0), (.bool false), (.int .u64 0), (.int .u64 0)], none⟩,
    ⟨none, .store 10 (.tmp 11) (.tmp 42), none⟩,
    ⟨(some 12), .mv (.tmp 43), none⟩,
    ⟨(some 13), .mv (.tmp 44), none⟩]
def k13_9 : VC := .reg [⟨(some 46), .mv (.tmp 2), none⟩,
    ⟨(some 47), .callF 54 [(.tmp 46)], none⟩,
    ⟨(some 45), .mv (.tmp 47), none⟩,
    ⟨(some 48), .extract 0 (.tmp 45), none⟩,
    ⟨(some 49), .extract 1 (.tmp 45), none⟩,
    ⟨(some 50), .extract 2 (.tmp 45), none⟩,
    ⟨(some 14), .alloc [(.int .i64 0), (.int .i64 0), (.int .i64 0), (.int .i64 0), (.bool false), (.int .u64 0), (.int .u64 0), (.bool false), (.int .u64 0), (.int .u64 0)], none⟩,
    ⟨none, .store 10 (.tmp 14) (.tmp 48), none⟩,
    ⟨(some 15), .mv (.tmp 49), none⟩,
    ⟨(some 16), .mv (.tmp 50), none⟩]
def k13_10 : VC := .regD [⟨(some 51), .mv (.tmp 7), none⟩,
    ⟨(some 52), .mv (.tmp 9), none⟩,
    ⟨(some 53), .bin .eql (.tmp 51) (.tmp 52), none⟩,
    ⟨(some 54), .mv (.tmp 53), none⟩,
    ⟨(some 55), .mv (.tmp 8), (some (54, true))⟩,
    ⟨(some 56), .mv (.tmp 10), (some (54, true))⟩,
    ⟨(some 57), .bin .eql (.tmp 55) (.tmp 56), (some (54, true))⟩,
    ⟨(some 58), .pick (.tmp 54) (.tmp 57) (.const (.bool false)), none⟩,
    ⟨(some 59), .mv (.tmp 58), none⟩,
    ⟨(some 60), .loadN [(.int .i64), (.int .i64), (.int .i64), (.int .i64), .bool, (.int .u64), (.int .u64), .bool, (.int .u64), (.int .u64)] (.tmp 11), (some (59, true))⟩,
    ⟨(some 61), .callF 55 [(.tmp 60)], (some (59, true))⟩,
    ⟨(some 62), .loadN [(.int .i64), (.int .i64), (.int .i64), (.int .i64), .bool, (.int .u64), (.int .u64), .bool, (.int .u64), (.int .u64)] (.tmp 14), (some (59, true))⟩,
    ⟨(some 63), .eqAgg false [(0, (.int .i64)), (1, (.int .i64)), (2, (.int .i64)), (3, (.int .i64)), (4, .bool), (5, (.int .u64)), (6, (.int .u64)), (7, .bool), (8, (.int .u64)), (9, (.int .u64))] (.tmp 61) (.tmp 62), (some (59, true))⟩,
    ⟨(some 64), .pick (.tmp 59) (.tmp 63) (.const (.bool false)), none⟩,
    ⟨(some 65), .mv (.tmp 64), none⟩,
    ⟨(some 66), .mv (.tmp 12), (some (65, true))⟩,
    ⟨(some 67), .mv (.tmp 15), (some (65, true))⟩,
    ⟨(some 68), .bin .eql (.tmp 66) (.tmp 67), (some (65, true))⟩,
    ⟨(some 69), .pick (.tmp 65) (.tmp 68) (.const (.bool false)), none⟩,
    ⟨(some 70), .mv (.tmp 69), none⟩,
    ⟨(some 71), .mv (.tmp 13), (some (70, true))⟩,
    ⟨(some 72), .mv (.tmp 16), (some (70, true))⟩,
    ⟨(some 73), .bin .eql (.tmp 71) (.tmp 72), (some (70, true))⟩,
    ⟨(some 74), .pick (.tmp 70) (.tmp 73) (.const (.bool false)), none⟩,
    ⟨(some 75), .mv (.tmp 74), none⟩,
    ⟨(some 76), .callF 49 [], (some (75, true))⟩,
    ⟨(some 77), .pick (.tmp 75) (.tmp 76) (.const (.bool false)), none⟩,
    ⟨(some 6), .mv (.tmp 77), none⟩] [(10, 11)]
def k13_11 : VC := .seq k13_10 .ret
def k13_12 : VC := .seq k13_9 k13_11
def k13_13 : VC := .seq k13_8 k13_12
def k13_14 : VC := .seq k13_7 k13_13
def k13_15 : VC := .seq k13_6 k13_14
def k13_16 : VC := .seq k13_5 k13_15
def k13_17 : VC := .seq k13_0 k13_16
def fn13 : VFn := ⟨78, k13_17, [.tmp 6]⟩
/- 49: cloakroom/cloakroomlaw06.awake -/
def k49_0 : VC := .reg [⟨(some 0), .mv (.const (.bool false)), none⟩]
def k49_1 : VC := .reg [⟨(some 10), .build [(.bool false), (.int .u64 0), (.int .u64 0)] [(0, 1, (.const (.bool true))), (2, 1, (.const (.int .u64 1)))], none⟩,
    ⟨(some 11), .build [(.bool false), (.int .u64 0), (.int .u64 0)] [(0, 1, (.const (.bool true))), (2, 1, (.const (.int .u64 2)))], none⟩,
    ⟨(some 12), .build [(.int .i64 0), (.int .i64 0), (.int .i64 0), (.int .i64 0), (.bool false), (.int .u64 0), (.int .u64 0), (.bool false), (.int .u64 0), (.int .u64 0)] [(2, 1, (.const (.int .i64 6))), (4, 3, (.tmp 10)), (7, 3, (.tmp 11))], none⟩,
    ⟨(some 13), .callF 50 [(.tmp 12), (.const (.string ⟨⟨[97]⟩⟩))], none⟩,
    ⟨(some 9), .mv (.tmp 13), none⟩,
    ⟨(some 14), .extract 0 (.tmp 9), none⟩,
    ⟨(some 15), .extract 1 (.tmp 9), none⟩,
    ⟨(some 1), .mv (.tmp 14), none⟩,
    ⟨(some 2), .mv (.tmp 15), none⟩]
def k49_2 : VC := .reg [⟨(some 17), .mv (.tmp 1), none⟩,
    ⟨(some 18), .callF 53 [(.tmp 17)], none⟩,
    ⟨(some 16), .mv (.tmp 18), none⟩,
    ⟨(some 19), .extract 0 (.tmp 16), none⟩,
    ⟨(some 20), .extract 1 (.tmp 16), none⟩,
    ⟨(some 21), .extract 2 (.tmp 16), none⟩,
    ⟨(some 3), .alloc [(.int .i64 0), (.int .i64 0), (.int .i64 0), (.int .i64 0), (.bool false), (.int .u64 0), (.int .u64 0), (.bool false), (.int .u64 0), (.int .u64 0)], none⟩,
    ⟨none, .store 10 (.tmp 3) (.tmp 19), none⟩,
    ⟨(some 4), .mv (.tmp 20), none⟩,
    ⟨(some 5), .mv (.tmp 21), none⟩]
def k49_3 : VC := .reg [⟨(some 23), .callF 53 [(.const (.string ⟨⟨[]⟩⟩))], none⟩,
    ⟨(some 22), .mv (.tmp 23), none⟩,
    ⟨(some 24), .extract 0 (.tmp 22), none⟩,
    ⟨(some 25), .extract 1 (.tmp 22), none⟩,
    ⟨(some 26), .extract 2 (.tmp 22), none⟩,
    ⟨(some 6), .alloc [(.int .i64 0), (.int .i64 0), (.int .i64 0), (.int .i64 0), (.bool false), (.int .u64 0), (.int .u64 0), (.bool false), (.int .u64 0), (.int .u64 0)], none⟩,
    ⟨none, .store 10 (.tmp 6) (.tmp 24), none⟩,
    ⟨(some 7), .mv (.tmp 25), none⟩,
    ⟨(some 8), .mv (.tmp 26), none⟩]
def k49_4 : VC := .reg [⟨(some 27), .mv (.tmp 2), none⟩,
    ⟨(some 28), .bin .eql (.tmp 27) (.const (.int .i64 0)), none⟩,
    ⟨(some 29), .mv (.tmp 28), none⟩,
    ⟨(some 30), .mv (.tmp 1), (some (29, true))⟩,
    ⟨(some 31), .lenS (.tmp 30), (some (29, true))⟩,
    ⟨(some 32), .bin .eql (.tmp 31) (.const (.int .i64 41)), (some (29, true))⟩,
    ⟨(some 33), .pick (.tmp 29) (.tmp 32) (.const (.bool false)), none⟩,
    ⟨(some 34), .mv (.tmp 33), none⟩,
    ⟨(some 35), .mv (.tmp 1), (some (34, true))⟩,
    ⟨(some 36), .idxS (.tmp 35) (.const (.int .i64 0)), (some (34, true))⟩,
    ⟨(some 37), .bin .eql (.tmp 36) (.const (.int .u8 96)), (some (34, true))⟩,
    ⟨(some 38), .pick (.tmp 34) (.tmp 37) (.const (.bool false)), none⟩,
    ⟨(some 39), .mv (.tmp 38), none⟩,
    ⟨(some 40), .mv (.tmp 5), (some (39, true))⟩,
    ⟨(some 41), .bin .eql (.tmp 40) (.const (.int .i64 0)), (some (39, true))⟩,
    ⟨(some 42), .pick (.tmp 39) (.tmp 41) (.const (.bool false)), none⟩,
    ⟨(some 43), .mv (.tmp 42), none⟩,
    ⟨(some 44), .mv (.tmp 4), (some (43, true))⟩,
    ⟨(some 45), .bin .eql (.tmp 44) (.const (.string ⟨⟨[97]⟩⟩)), (some (43, true))⟩,
    ⟨(some 46), .pick (.tmp 43) (.tmp 45) (.const (.bool false)), none⟩,
    ⟨(some 47), .mv (.tmp 46), none⟩,
    ⟨(some 48), .mv (.tmp 8), (some (47, true))⟩,
    ⟨(some 49), .bin .eql (.tmp 48) (.const (.int .i64 2)), (some (47, true))⟩,
    ⟨(some 50), .pick (.tmp 47) (.tmp 49) (.const (.bool false)), none⟩,
    ⟨(some 0), .mv (.tmp 50), none⟩]
def k49_5 : VC := .seq k49_4 .ret
def k49_6 : VC := .seq k49_3 k49_5
def k49_7 : VC := .seq k49_2 k49_6
def k49_8 : VC := .seq k49_1 k49_7
def k49_9 : VC := .seq k49_0 k49_8
def fn49 : VFn := ⟨51, k49_9, [.tmp 0]⟩
/- 50: cloakroom/ipsix.Put -/
def k50_0 : VC := .reg [⟨(some 2), .box (.tmp 0), none⟩,
    ⟨(some 4), .mv (.const (.string ⟨⟨[]⟩⟩)), none⟩,
    ⟨(some 5), .mv (.const (.int .i64 0)), none⟩]
def k50_1 : VC := .reg [⟨(some 9), .loadN [(.int .i64), (.int .i64), (.int .i64), (.int .i64), .bool, (.int .u64), (.int .u64), .bool, (.int .u64), (.int .u64)] (.tmp 2), none⟩,
    ⟨(some 10), .callF 77 [(.tmp 9)], none⟩,
    ⟨(some 11), .not (.tmp 10), none⟩,
    ⟨(some 8), .mv (.tmp 11), none⟩]
def k50_2 : VC := .reg [⟨(some 4), .mv (.const (.string ⟨⟨[]⟩⟩)), none⟩,
    ⟨(some 5), .mv (.const (.int .i64 1)), none⟩]
def k50_3 : VC := .seq k50_2 .ret
def k50_4 : VC := .reg [⟨(some 13), .mv (.tmp 1), none⟩,
    ⟨(some 14), .lenS (.tmp 13), none⟩,
    ⟨(some 15), .bin .gtr (.tmp 14) (.const (.int .i64 65535)), none⟩,
    ⟨(some 12), .mv (.tmp 15), none⟩]
def k50_5 : VC := .reg [⟨(some 4), .mv (.const (.string ⟨⟨[]⟩⟩)), none⟩,
    ⟨(some 5), .mv (.const (.int .i64 5)), none⟩]
def k50_6 : VC := .seq k50_5 .ret
def k50_7 : VC := .cond (.tmp 12) k50_6 .skip
def k50_8 : VC := .seq k50_4 k50_7
def k50_9 : VC := .cond (.tmp 8) k50_3 k50_8
def k50_10 : VC := .seq k50_1 k50_9
def k50_11 : VC := .block 0 k50_10
def k50_12 : VC := .reg [⟨(some 16), .fieldA 0 (.tmp 2), none⟩,
    ⟨(some 17), .load1 (.int .i64) (.tmp 16), none⟩,
    ⟨(some 18), .conv .u64 (.tmp 17), none⟩,
    ⟨(some 19), .bin .shl (.tmp 18) (.const (.int .u64 20)), none⟩,
    ⟨(some 20), .bin .or (.const (.int .u64 1610612736)) (.tmp 19), none⟩,
    ⟨(some 21), .fieldA 1 (.tmp 2), none⟩,
    ⟨(some 22), .load1 (.int .i64) (.tmp 21), none⟩,
    ⟨(some 23), .conv .u64 (.tmp 22), none⟩,
    ⟨(some 24), .bin .or (.tmp 20) (.tmp 23), none⟩,
    ⟨(some 25), .callF 74 [(.tmp 24), (.const (.int .i64 4))], none⟩,
    ⟨(some 6), .mv (.tmp 25), none⟩]
def k50_13 : VC := .reg [⟨(some 26), .mv (.tmp 1), none⟩,
    ⟨(some 27), .lenS (.tmp 26), none⟩,
    ⟨(some 28), .conv .u64 (.tmp 27), none⟩,
    ⟨(some 29), .bin .shl (.tmp 28) (.const (.int .u64 16)), none⟩,
    ⟨(some 30), .fieldA 2 (.tmp 2), none⟩,
    ⟨(some 31), .load1 (.int .i64) (.tmp 30), none⟩,
    ⟨(some 32), .conv .u64 (.tmp 31), none⟩,
    ⟨(some 33), .bin .shl (.tmp 32) (.const (.int .u64 8)), none⟩,
    ⟨(some 34), .bin .or (.tmp 29) (.tmp 33), none⟩,
    ⟨(some 35), .fieldA 3 (.tmp 2), none⟩,
    ⟨(some 36), .load1 (.int .i64) (.tmp 35), none⟩,
    ⟨(some 37), .conv .u64 (.tmp 36), none⟩,
    ⟨(some 38), .bin .or (.tmp 34) (.tmp 37), none⟩,
    ⟨(some 39), .callF 74 [(.tmp 38), (.const (.int .i64 4))], none⟩,
    ⟨(some 7), .mv (.tmp 39), none⟩]
def k50_14 : VC := .regD [⟨(some 40), .mv (.tmp 6), none⟩,
    ⟨(some 41), .mv (.tmp 7), none⟩,
    ⟨(some 42), .bin .add (.tmp 40) (.tmp 41), none⟩,
    ⟨(some 43), .fieldA 4 (.tmp 2), none⟩,
    ⟨(some 44), .loadN [.bool, (.int .u64), (.int .u64)] (.tmp 43), none⟩,
    ⟨(some 45), .callF 78 [(.tmp 44)], none⟩,
    ⟨(some 46), .bin .add (.tmp 42) (.tmp 45), none⟩,
    ⟨(some 47), .fieldA 7 (.tmp 2), none⟩,
    ⟨(some 48), .loadN [.bool, (.int .u64), (.int .u64)] (.tmp 47), none⟩,
    ⟨(some 49), .callF 78 [(.tmp 48)], none⟩,
    ⟨(some 50), .bin .add (.tmp 46) (.tmp 49), none⟩,
    ⟨(some 51), .mv (.tmp 1), none⟩,
    ⟨(some 52), .bin .add (.tmp 50) (.tmp 51), none⟩,
    ⟨(some 4), .mv (.tmp 52), none⟩,
    ⟨(some 5), .mv (.const (.int .i64 0)), none⟩] [(5, 8)]
def k50_15 : VC := .seq k50_14 .ret
def k50_16 : VC := .seq k50_13 k50_15
def k50_17 : VC := .seq k50_12 k50_16
def k50_18 : VC := .seq k50_11 k50_17
def k50_19 : VC := .seq k50_0 k50_18
def fn50 : VFn := ⟨53, k50_19, [.tmp 4, .tmp 5]⟩
/- 77: (cloakroom/ipsix.Head).may -/
def k77_0 : VC := .reg [⟨(some 1), .box (.tmp 0), none⟩,
    ⟨(some 2), .mv (.const (.bool false)), none⟩]
def k77_1 : VC := .reg [⟨(some 5), .fieldA 0 (.tmp 1), none⟩,
    ⟨(some 6), .load1 (.int .i64) (.tmp 5), none⟩,
    ⟨(some 7), .build [(.int .i64 0), (.int .i64 0)] [(0, 1, (.tmp 6)), (1, 1, (.const (.int .i64 255)))], none⟩,
    ⟨(some 8), .fieldA 1 (.tmp 1), none⟩,
    ⟨(some 9), .load1 (.int .i64) (.tmp 8), none⟩,
    ⟨(some 10), .build [(.int .i64 0), (.int .i64 0)] [(0, 1, (.tmp 9)), (1, 1, (.const (.int .i64 1048575)))], none⟩,
    ⟨(some 11), .fieldA 2 (.tmp 1), none⟩,
    ⟨(some 12), .load1 (.int .i64) (.tmp 11), none⟩,
    ⟨(some 13), .build [(.int .i64 0), (.int .i64 0)] [(0, 1, (.tmp 12)), (1, 1, (.const (.int .i64 255)))], none⟩,
    ⟨(some 14), .fieldA 3 (.tmp 1), none⟩,
    ⟨(some 15), .load1 (.int .i64) (.tmp 14), none⟩,
    ⟨(some 16), .build [(.int .i64 0), (.int .i64 0)] [(0, 1, (.tmp 15)), (1, 1, (.const (.int .i64 255)))], none⟩,
    ⟨(some 17), .buildSl 4 2 [(.int .i64 0), (.int .i64 0), (.int .i64 0), (.int .i64 0), (.int .i64 0), (.int .i64 0), (.int .i64 0), (.int .i64 0)] [(0, 2, (.tmp 7)), (2, 2, (.tmp 10)), (4, 2, (.tmp 13)), (6, 2, (.tmp 16))], none⟩,
    ⟨(some 18), .lenL (.tmp 17), none⟩,
    ⟨(some 19), .mv (.const (.int .i64 0)), none⟩]
def k77_2 : VC := .reg [⟨(some 20), .bin .lss (.tmp 19) (.tmp 18), none⟩]
def k77_3 : VC := .cond (.tmp 20) .skip (.exit 0)
def k77_4 : VC := .reg [⟨(some 21), .idxAL 2 (.tmp 17) (.tmp 19), none⟩,
    ⟨(some 22), .loadN [(.int .i64), (.int .i64)] (.tmp 21), none⟩,
    ⟨(some 4), .alloc [(.int .i64 0), (.int .i64 0)], none⟩,
    ⟨none, .store 2 (.tmp 4) (.tmp 22), none⟩]
def k77_5 : VC := .reg [⟨(some 23), .idxAA 2 1 (.tmp 4) (.const (.int .i64 0)), none⟩,
    ⟨(some 24), .load1 (.int .i64) (.tmp 23), none⟩,
    ⟨(some 25), .bin .lss (.tmp 24) (.const (.int .i64 0)), none⟩,
    ⟨(some 26), .mv (.tmp 25), none⟩,
    ⟨(some 27), .idxAA 2 1 (.tmp 4) (.const (.int .i64 0)), (some (26, false))⟩,
    ⟨(some 28), .load1 (.int .i64) (.tmp 27), (some (26, false))⟩,
    ⟨(some 29), .idxAA 2 1 (.tmp 4) (.const (.int .i64 1)), (some (26, false))⟩,
    ⟨(some 30), .load1 (.int .i64) (.tmp 29), (some (26, false))⟩,
    ⟨(some 31), .bin .gtr (.tmp 28) (.tmp 30), (some (26, false))⟩,
    ⟨(some 32), .pick (.tmp 26) (.const (.bool true)) (.tmp 31), none⟩]
def k77_6 : VC := .reg [⟨(some 2), .mv (.const (.bool false)), none⟩]
def k77_7 : VC := .seq k77_6 .ret
def k77_8 : VC := .cond (.tmp 32) k77_7 .skip
def k77_9 : VC := .seq k77_5 k77_8
def k77_10 : VC := .seq k77_4 k77_9
def k77_11 : VC := .block 1 k77_10
def k77_12 : VC := .reg [⟨(some 33), .bin .add (.tmp 19) (.const (.int .i64 1)), none⟩,
    ⟨(some 19), .mv (.tmp 33), none⟩]
def k77_13 : VC := .seq k77_11 k77_12
def k77_14 : VC := .seq k77_3 k77_13
def k77_15 : VC := .seq k77_2 k77_14
def k77_16 : VC := .loop k77_15
def k77_17 : VC := .block 0 k77_16
def k77_18 : VC := .seq k77_1 k77_17
def k77_19 : VC := .reg [⟨(some 34), .fieldA 4 (.tmp 1), none⟩,
    ⟨(some 35), .fieldA 0 (.tmp 34), none⟩,
    ⟨(some 36), .load1 .bool (.tmp 35), none⟩,
    ⟨(some 37), .mv (.tmp 36), none⟩,
    ⟨(some 38), .fieldA 7 (.tmp 1), (some (37, true))⟩,
    ⟨(some 39), .fieldA 0 (.tmp 38), (some (37, true))⟩,
    ⟨(some 40), .load1 .bool (.tmp 39), (some (37, true))⟩,
    ⟨(some 41), .pick (.tmp 37) (.tmp 40) (.const (.bool false)), none⟩,
    ⟨(some 2), .mv (.tmp 41), none⟩]
def k77_20 : VC := .seq k77_19 .ret
def k77_21 : VC := .seq k77_18 k77_20
def k77_22 : VC := .seq k77_0 k77_21
def fn77 : VFn := ⟨42, k77_22, [.tmp 2]⟩
/- 78: cloakroom/addr.Put -/
def k78_0 : VC := .reg [⟨(some 1), .box (.tmp 0), none⟩,
    ⟨(some 2), .mv (.const (.string ⟨⟨[]⟩⟩)), none⟩]
def k78_1 : VC := .reg [⟨(some 4), .loadN [.bool, (.int .u64), (.int .u64)] (.tmp 1), none⟩,
    ⟨(some 5), .callF 94 [(.tmp 4)], none⟩,
    ⟨(some 6), .not (.tmp 5), none⟩,
    ⟨(some 3), .mv (.tmp 6), none⟩]
def k78_2 : VC := .reg [⟨(some 2), .mv (.const (.string ⟨⟨[]⟩⟩)), none⟩]
def k78_3 : VC := .seq k78_2 .ret
def k78_4 : VC := .reg [⟨(some 8), .fieldA 0 (.tmp 1), none⟩,
    ⟨(some 9), .load1 .bool (.tmp 8), none⟩,
    ⟨(some 7), .mv (.tmp 9), none⟩]
def k78_5 : VC := .regD [⟨(some 10), .fieldA 1 (.tmp 1), none⟩,
    ⟨(some 11), .load1 (.int .u64) (.tmp 10), none⟩,
    ⟨(some 12), .callF 74 [(.tmp 11), (.const (.int .i64 8))], none⟩,
    ⟨(some 13), .fieldA 2 (.tmp 1), none⟩,
    ⟨(some 14), .load1 (.int .u64) (.tmp 13), none⟩,
    ⟨(some 15), .callF 74 [(.tmp 14), (.const (.int .i64 8))], none⟩,
    ⟨(some 16), .bin .add (.tmp 12) (.tmp 15), none⟩,
    ⟨(some 2), .mv (.tmp 16), none⟩] [(2, 4)]
def k78_6 : VC := .seq k78_5 .ret
def k78_7 : VC := .cond (.tmp 7) k78_6 .skip
def k78_8 : VC := .seq k78_4 k78_7
def k78_9 : VC := .cond (.tmp 3) k78_3 k78_8
def k78_10 : VC := .seq k78_1 k78_9
def k78_11 : VC := .block 0 k78_10
def k78_12 : VC := .reg [⟨(some 17), .fieldA 2 (.tmp 1), none⟩,
    ⟨(some 18), .load1 (.int .u64) (.tmp 17), none⟩,
    ⟨(some 19), .callF 74 [(.tmp 18), (.const (.int .i64 4))], none⟩,
    ⟨(some 2), .mv (.tmp 19), none⟩]
def k78_13 : VC := .seq k78_12 .ret
def k78_14 : VC := .seq k78_11 k78_13
def k78_15 : VC := .seq k78_0 k78_14
def fn78 : VFn := ⟨20, k78_15, [.tmp 2]⟩
/- 94: cloakroom/addr.Right -/
def k94_0 : VC := .reg [⟨(some 1), .box (.tmp 0), none⟩,
    ⟨(some 2), .mv (.const (.bool false)), none⟩]
def k94_1 : VC := .reg [⟨(some 3), .fieldA 0 (.tmp 1), none⟩,
    ⟨(some 4), .load1 .bool (.tmp 3), none⟩,
    ⟨(some 5), .mv (.tmp 4), none⟩,
    ⟨(some 6), .fieldA 1 (.tmp 1), (some (5, false))⟩,
    ⟨(some 7), .load1 (.int .u64) (.tmp 6), (some (5, false))⟩,
    ⟨(some 8), .bin .eql (.tmp 7) (.const (.int .u64 0)), (some (5, false))⟩,
    ⟨(some 9), .mv (.tmp 8), (some (5, false))⟩,
    ⟨(some 10), .fieldA 2 (.tmp 1), (some (9, true))⟩,
    ⟨(some 11), .load1 (.int .u64) (.tmp 10), (some (9, true))⟩,
    ⟨(some 12), .bin .lss (.tmp 11) (.const (.int .u64 4294967296)), (some (9, true))⟩,
    ⟨(some 13), .pick (.tmp 9) (.tmp 12) (.const (.bool false)), (some (5, false))⟩,
    ⟨(some 14), .pick (.tmp 5) (.const (.bool true)) (.tmp 13), none⟩,
    ⟨(some 2), .mv (.tmp 14), none⟩]
def k94_2 : VC := .seq k94_1 .ret
def k94_3 : VC := .seq k94_0 k94_2
def fn94 : VFn := ⟨15, k94_3, [.tmp 2]⟩
/- 53: cloakroom/ipsix.Get -/
def k53_0 : VC := .reg [⟨(some 2), .alloc [(.int .i64 0), (.int .i64 0), (.int .i64 0), (.int .i64 0), (.bool false), (.int .u64 0), (.int .u64 0), (.bool false), (.int .u64 0), (.int .u64 0)], none⟩,
    ⟨(some 3), .mv (.const (.string ⟨⟨[]⟩⟩)), none⟩,
    ⟨(some 4), .mv (.const (.int .i64 0)), none⟩]
def k53_1 : VC := .reg [⟨(some 12), .mv (.tmp 0), none⟩,
    ⟨(some 13), .callF 82 [(.tmp 12)], none⟩,
    ⟨(some 5), .mv (.tmp 13), none⟩]
def k53_2 : VC := .reg [⟨(some 14), .mv (.tmp 5), none⟩,
    ⟨(some 15), .callF 83 [(.tmp 14), (.const (.int .i64 4))], none⟩,
    ⟨(some 16), .mv (.tmp 5), none⟩,
    ⟨(some 17), .callF 83 [(.tmp 16), (.const (.int .i64 2))], none⟩,
    ⟨(some 6), .mv (.tmp 15), none⟩,
    ⟨(some 7), .mv (.tmp 17), none⟩]
def k53_3 : VC := .reg [⟨(some 18), .mv (.tmp 6), none⟩,
    ⟨(some 19), .bin .shr (.tmp 18) (.const (.int .u64 20)), none⟩,
    ⟨(some 20), .bin .and (.tmp 19) (.const (.int .i64 255)), none⟩,
    ⟨(some 21), .mv (.tmp 6), none⟩,
    ⟨(some 22), .bin .and (.tmp 21) (.const (.int .i64 1048575)), none⟩,
    ⟨(some 23), .mv (.tmp 5), none⟩,
    ⟨(some 24), .callF 83 [(.tmp 23), (.const (.int .i64 1))], none⟩,
    ⟨(some 25), .mv (.tmp 5), none⟩,
    ⟨(some 26), .callF 83 [(.tmp 25), (.const (.int .i64 1))], none⟩,
    ⟨(some 27), .build [(.int .i64 0), (.int .i64 0), (.int .i64 0), (.int .i64 0), (.bool false), (.int .u64 0), (.int .u64 0), (.bool false), (.int .u64 0), (.int .u64 0)] [(0, 1, (.tmp 20)), (1, 1, (.tmp 22)), (2, 1, (.tmp 24)), (3, 1, (.tmp 26))], none⟩,
    ⟨(some 8), .alloc [(.int .i64 0), (.int .i64 0), (.int .i64 0), (.int .i64 0), (.bool false), (.int .u64 0), (.int .u64 0), (.bool false), (.int .u64 0), (.int .u64 0)], none⟩,
    ⟨none, .store 10 (.tmp 8) (.tmp 27), none⟩]
def k53_4 : VC := .reg [⟨(some 28), .mv (.tmp 5), none⟩,
    ⟨(some 29), .callF 84 [(.tmp 28), (.const (.int .i64 16))], none⟩,
    ⟨(some 30), .mv (.tmp 5), none⟩,
    ⟨(some 31), .callF 84 [(.tmp 30), (.const (.int .i64 16))], none⟩,
    ⟨(some 9), .mv (.tmp 29), none⟩,
    ⟨(some 10), .mv (.tmp 31), none⟩]
def k53_5 : VC := .reg [⟨(some 32), .mv (.tmp 5), none⟩,
    ⟨(some 33), .callF 85 [(.tmp 32)], none⟩]
def k53_6 : VC := .reg [⟨(some 34), .build [(.int .i64 0), (.int .i64 0), (.int .i64 0), (.int .i64 0), (.bool false), (.int .u64 0), (.int .u64 0), (.bool false), (.int .u64 0), (.int .u64 0)] [], none⟩,
    ⟨none, .store 10 (.tmp 2) (.tmp 34), none⟩,
    ⟨(some 3), .mv (.const (.string ⟨⟨[]⟩⟩)), none⟩,
    ⟨(some 4), .mv (.const (.int .i64 2)), none⟩]
def k53_7 : VC := .seq k53_6 .ret
def k53_8 : VC := .cond (.tmp 33) k53_7 .skip
def k53_9 : VC := .seq k53_5 k53_8
def k53_10 : VC := .reg [⟨(some 35), .mv (.tmp 6), none⟩,
    ⟨(some 36), .bin .shr (.tmp 35) (.const (.int .u64 28)), none⟩,
    ⟨(some 37), .bin .neq (.tmp 36) (.const (.int .i64 6)), none⟩]
def k53_11 : VC := .reg [⟨(some 38), .build [(.int .i64 0), (.int .i64 0), (.int .i64 0), (.int .i64 0), (.bool false), (.int .u64 0), (.int .u64 0), (.bool false), (.int .u64 0), (.int .u64 0)] [], none⟩,
    ⟨none, .store 10 (.tmp 2) (.tmp 38), none⟩,
    ⟨(some 3), .mv (.const (.string ⟨⟨[]⟩⟩)), none⟩,
    ⟨(some 4), .mv (.const (.int .i64 3)), none⟩]
def k53_12 : VC := .seq k53_11 .ret
def k53_13 : VC := .cond (.tmp 37) k53_12 .skip
def k53_14 : VC := .seq k53_10 k53_13
def k53_15 : VC := .reg [⟨(some 40), .mv (.tmp 9), none⟩,
    ⟨(some 41), .callF 86 [(.tmp 40)], none⟩,
    ⟨(some 39), .mv (.tmp 41), none⟩,
    ⟨(some 42), .extract 0 (.tmp 39), none⟩,
    ⟨(some 43), .extract 1 (.tmp 39), none⟩,
    ⟨(some 44), .fieldA 4 (.tmp 8), none⟩,
    ⟨none, .store 3 (.tmp 44) (.tmp 42), none⟩]
def k53_16 : VC := .reg [⟨(some 46), .mv (.tmp 10), none⟩,
    ⟨(some 47), .callF 86 [(.tmp 46)], none⟩,
    ⟨(some 45), .mv (.tmp 47), none⟩,
    ⟨(some 48), .extract 0 (.tmp 45), none⟩,
    ⟨(some 49), .extract 1 (.tmp 45), none⟩,
    ⟨(some 50), .fieldA 7 (.tmp 8), none⟩,
    ⟨none, .store 3 (.tmp 50) (.tmp 48), none⟩]
def k53_17 : VC := .reg [⟨(some 51), .mv (.tmp 5), none⟩,
    ⟨(some 52), .mv (.tmp 7), none⟩,
    ⟨(some 53), .callF 84 [(.tmp 51), (.tmp 52)], none⟩,
    ⟨(some 11), .mv (.tmp 53), none⟩]
def k53_18 : VC := .reg [⟨(some 54), .mv (.tmp 5), none⟩,
    ⟨(some 55), .callF 85 [(.tmp 54)], none⟩]
def k53_19 : VC := .reg [⟨(some 56), .build [(.int .i64 0), (.int .i64 0), (.int .i64 0), (.int .i64 0), (.bool false), (.int .u64 0), (.int .u64 0), (.bool false), (.int .u64 0), (.int .u64 0)] [], none⟩,
    ⟨none, .store 10 (.tmp 2) (.tmp 56), none⟩,
    ⟨(some 3), .mv (.const (.string ⟨⟨[]⟩⟩)), none⟩,
    ⟨(some 4), .mv (.const (.int .i64 2)), none⟩]
def k53_20 : VC := .seq k53_19 .ret
def k53_21 : VC := .cond (.tmp 55) k53_20 .skip
def k53_22 : VC := .seq k53_18 k53_21
def k53_23 : VC := .reg [⟨(some 57), .loadN [(.int .i64), (.int .i64), (.int .i64), (.int .i64), .bool, (.int .u64), (.int .u64), .bool, (.int .u64), (.int .u64)] (.tmp 8), none⟩,
    ⟨(some 58), .mv (.tmp 11), none⟩,
    ⟨none, .store 10 (.tmp 2) (.tmp 57), none⟩,
    ⟨(some 3), .mv (.tmp 58), none⟩,
    ⟨(some 4), .mv (.const (.int .i64 0)), none⟩]
def k53_24 : VC := .seq k53_23 .ret
def k53_25 : VC := .seq k53_22 k53_24
def k53_26 : VC := .seq k53_17 k53_25
def k53_27 : VC := .seq k53_16 k53_26
def k53_28 : VC := .seq k53_15 k53_27
def k53_29 : VC := .seq k53_14 k53_28
def k53_30 : VC := .seq k53_9 k53_29
def k53_31 : VC := .seq k53_4 k53_30
def k53_32 : VC := .seq k53_3 k53_31
def k53_33 : VC := .seq k53_2 k53_32
def k53_34 : VC := .seq k53_1 k53_33
def k53_35 : VC := .seq k53_0 k53_34
def fn53 : VFn := ⟨59, k53_35, [.cell 2 [(.int .i64), (.int .i64), (.int .i64), (.int .i64), .bool, (.int .u64), (.int .u64), .bool, (.int .u64), (.int .u64)] true, .tmp 3, .tmp 4]⟩
/- 82: cloakroom/octet.New -/
def k82_0 : VC := .reg [⟨(some 2), .mv (.const (.pointer none)), none⟩]
def k82_1 : VC := .reg [⟨(some 3), .mv (.tmp 0), none⟩,
    ⟨(some 4), .build [(.string ⟨⟨[]⟩⟩), (.bool false), (.bool false)] [(0, 1, (.tmp 3)), (1, 1, (.const (.bool true)))], none⟩,
    ⟨(some 5), .box (.tmp 4), none⟩,
    ⟨(some 2), .mv (.tmp 5), none⟩]
def k82_2 : VC := .seq k82_1 .ret
def k82_3 : VC := .seq k82_0 k82_2
def fn82 : VFn := ⟨6, k82_3, [.tmp 2]⟩
/- 83: (*cloakroom/octet.Reader).Num -/
def k83_0 : VC := .reg [⟨(some 4), .mv (.const (.int .i64 0)), none⟩]
def k83_1 : VC := .reg [⟨(some 7), .mv (.tmp 1), none⟩,
    ⟨(some 8), .bin .lss (.tmp 7) (.const (.int .i64 1)), none⟩,
    ⟨(some 9), .mv (.tmp 8), none⟩,
    ⟨(some 10), .mv (.tmp 1), (some (9, false))⟩,
    ⟨(some 11), .bin .gtr (.tmp 10) (.const (.int .i64 7)), (some (9, false))⟩,
    ⟨(some 12), .pick (.tmp 9) (.const (.bool true)) (.tmp 11), none⟩]
def k83_2 : VC := .reg [⟨(some 1), .mv (.const (.int .i64 (-1))), none⟩]
def k83_3 : VC := .cond (.tmp 12) k83_2 .skip
def k83_4 : VC := .seq k83_1 k83_3
def k83_5 : VC := .reg [⟨(some 14), .mv (.tmp 0), none⟩,
    ⟨(some 15), .mv (.tmp 1), none⟩,
    ⟨(some 16), .callF 84 [(.tmp 14), (.tmp 15)], none⟩,
    ⟨(some 17), .mv (.tmp 1), none⟩,
    ⟨(some 18), .callF 73 [(.tmp 16), (.const (.int .i64 0)), (.tmp 17)], none⟩,
    ⟨(some 13), .mv (.tmp 18), none⟩,
    ⟨(some 19), .extract 0 (.tmp 13), none⟩,
    ⟨(some 20), .extract 1 (.tmp 13), none⟩,
    ⟨(some 5), .mv (.tmp 19), none⟩,
    ⟨(some 6), .mv (.tmp 20), none⟩]
def k83_6 : VC := .reg [⟨(some 21), .mv (.tmp 5), none⟩,
    ⟨(some 22), .conv .i64 (.tmp 21), none⟩,
    ⟨(some 4), .mv (.tmp 22), none⟩]
def k83_7 : VC := .seq k83_6 .ret
def k83_8 : VC := .seq k83_5 k83_7
def k83_9 : VC := .seq k83_4 k83_8
def k83_10 : VC := .seq k83_0 k83_9
def fn83 : VFn := ⟨23, k83_10, [.tmp 4]⟩
/- 84: (*cloakroom/octet.Reader).Text -/
def k84_0 : VC := .reg [⟨(some 4), .mv (.const (.string ⟨⟨[]⟩⟩)), none⟩]
def k84_1 : VC := .reg [⟨(some 6), .mv (.tmp 0), none⟩,
    ⟨(some 7), .callF 85 [(.tmp 6)], none⟩]
def k84_2 : VC := .reg [⟨(some 4), .mv (.const (.string ⟨⟨[]⟩⟩)), none⟩]
def k84_3 : VC := .seq k84_2 .ret
def k84_4 : VC := .cond (.tmp 7) k84_3 .skip
def k84_5 : VC := .seq k84_1 k84_4
def k84_6 : VC := .reg [⟨(some 8), .mv (.tmp 1), none⟩,
    ⟨(some 9), .bin .lss (.tmp 8) (.const (.int .i64 0)), none⟩,
    ⟨(some 10), .mv (.tmp 9), none⟩,
    ⟨(some 11), .mv (.tmp 1), (some (10, false))⟩,
    ⟨(some 12), .mv (.tmp 0), (some (10, false))⟩,
    ⟨(some 13), .nilCheck (.tmp 12), (some (10, false))⟩,
    ⟨(some 14), .fieldA 0 (.tmp 13), (some (10, false))⟩,
    ⟨(some 15), .load1 .str (.tmp 14), (some (10, false))⟩,
    ⟨(some 16), .lenS (.tmp 15), (some (10, false))⟩,
    ⟨(some 17), .bin .gtr (.tmp 11) (.tmp 16), (some (10, false))⟩,
    ⟨(some 18), .pick (.tmp 10) (.const (.bool true)) (.tmp 17), none⟩]
def k84_7 : VC := .reg [⟨(some 19), .mv (.tmp 0), none⟩,
    ⟨(some 20), .nilCheck (.tmp 19), none⟩,
    ⟨(some 21), .fieldA 2 (.tmp 20), none⟩,
    ⟨none, .store 1 (.tmp 21) (.const (.bool true)), none⟩]
def k84_8 : VC := .reg [⟨(some 4), .mv (.const (.string ⟨⟨[]⟩⟩)), none⟩]
def k84_9 : VC := .seq k84_8 .ret
def k84_10 : VC := .seq k84_7 k84_9
def k84_11 : VC := .cond (.tmp 18) k84_10 .skip
def k84_12 : VC := .seq k84_6 k84_11
def k84_13 : VC := .reg [⟨(some 22), .mv (.tmp 0), none⟩,
    ⟨(some 23), .nilCheck (.tmp 22), none⟩,
    ⟨(some 24), .fieldA 0 (.tmp 23), none⟩,
    ⟨(some 25), .load1 .str (.tmp 24), none⟩,
    ⟨(some 26), .mv (.tmp 1), none⟩,
    ⟨(some 27), .sliceS (.tmp 25) none (some (.tmp 26)), none⟩,
    ⟨(some 5), .mv (.tmp 27), none⟩]
def k84_14 : VC := .reg [⟨(some 28), .mv (.tmp 0), none⟩,
    ⟨(some 29), .mv (.tmp 0), none⟩,
    ⟨(some 30), .nilCheck (.tmp 29), none⟩,
    ⟨(some 31), .fieldA 0 (.tmp 30), none⟩,
    ⟨(some 32), .load1 .str (.tmp 31), none⟩,
    ⟨(some 33), .mv (.tmp 1), none⟩,
    ⟨(some 34), .sliceS (.tmp 32) (some (.tmp 33)) none, none⟩,
    ⟨(some 35), .nilCheck (.tmp 28), none⟩,
    ⟨(some 36), .fieldA 0 (.tmp 35), none⟩,
    ⟨none, .store 1 (.tmp 36) (.tmp 34), none⟩]
def k84_15 : VC := .reg [⟨(some 37), .mv (.tmp 5), none⟩,
    ⟨(some 4), .mv (.tmp 37), none⟩]
def k84_16 : VC := .seq k84_15 .ret
def k84_17 : VC := .seq k84_14 k84_16
def k84_18 : VC := .seq k84_13 k84_17
def k84_19 : VC := .seq k84_12 k84_18
def k84_20 : VC := .seq k84_5 k84_19
def k84_21 : VC := .seq k84_0 k84_20
def fn84 : VFn := ⟨38, k84_21, [.tmp 4]⟩
/- 85: (*cloakroom/octet.Reader).Bad -/
def k85_0 : VC := .reg [⟨(some 2), .mv (.const (.bool false)), none⟩]
def k85_1 : VC := .reg [⟨(some 3), .mv (.tmp 0), none⟩,
    ⟨(some 4), .isNil 0 false (.tmp 3), none⟩,
    ⟨(some 5), .mv (.tmp 4), none⟩,
    ⟨(some 6), .mv (.tmp 0), (some (5, false))⟩,
    ⟨(some 7), .nilCheck (.tmp 6), (some (5, false))⟩,
    ⟨(some 8), .fieldA 1 (.tmp 7), (some (5, false))⟩,
    ⟨(some 9), .load1 .bool (.tmp 8), (some (5, false))⟩,
    ⟨(some 10), .not (.tmp 9), (some (5, false))⟩,
    ⟨(some 11), .pick (.tmp 5) (.const (.bool true)) (.tmp 10), none⟩,
    ⟨(some 12), .mv (.tmp 11), none⟩,
    ⟨(some 13), .mv (.tmp 0), (some (12, false))⟩,
    ⟨(some 14), .nilCheck (.tmp 13), (some (12, false))⟩,
    ⟨(some 15), .fieldA 2 (.tmp 14), (some (12, false))⟩,
    ⟨(some 16), .load1 .bool (.tmp 15), (some (12, false))⟩,
    ⟨(some 17), .pick (.tmp 12) (.const (.bool true)) (.tmp 16), none⟩,
    ⟨(some 2), .mv (.tmp 17), none⟩]
def k85_2 : VC := .seq k85_1 .ret
def k85_3 : VC := .seq k85_0 k85_2
def fn85 : VFn := ⟨18, k85_3, [.tmp 2]⟩
/- 86: cloakroom/addr.Get -/
def k86_0 : VC := .reg [⟨(some 2), .alloc [(.bool false), (.int .u64 0), (.int .u64 0)], none⟩,
    ⟨(some 3), .mv (.const (.bool false)), none⟩]
def k86_1 : VC := .reg [⟨(some 7), .mv (.tmp 0), none⟩,
    ⟨(some 8), .lenS (.tmp 7), none⟩]
def k86_2 : VC := .reg [⟨(some 10), .bin .eql (.tmp 8) (.const (.int .i64 4)), none⟩,
    ⟨(some 9), .mv (.tmp 10), none⟩]
def k86_3 : VC := .reg [⟨(some 12), .mv (.tmp 0), none⟩,
    ⟨(some 13), .callF 73 [(.tmp 12), (.const (.int .i64 0)), (.const (.int .i64 4))], none⟩,
    ⟨(some 11), .mv (.tmp 13), none⟩,
    ⟨(some 14), .extract 0 (.tmp 11), none⟩,
    ⟨(some 15), .extract 1 (.tmp 11), none⟩,
    ⟨(some 4), .mv (.tmp 14), none⟩,
    ⟨(some 5), .mv (.tmp 15), none⟩]
def k86_4 : VC := .reg [⟨(some 16), .mv (.tmp 4), none⟩,
    ⟨(some 17), .build [(.bool false), (.int .u64 0), (.int .u64 0)] [(2, 1, (.tmp 16))], none⟩,
    ⟨none, .store 3 (.tmp 2) (.tmp 17), none⟩,
    ⟨(some 3), .mv (.const (.bool true)), none⟩]
def k86_5 : VC := .seq k86_4 .ret
def k86_6 : VC := .seq k86_3 k86_5
def k86_7 : VC := .reg [⟨(some 19), .bin .eql (.tmp 8) (.const (.int .i64 16)), none⟩,
    ⟨(some 18), .mv (.tmp 19), none⟩]
def k86_8 : VC := .reg [⟨(some 20), .build [(.bool false), (.int .u64 0), (.int .u64 0)] [(0, 1, (.const (.bool true)))], none⟩,
    ⟨(some 6), .alloc [(.bool false), (.int .u64 0), (.int .u64 0)], none⟩,
    ⟨none, .store 3 (.tmp 6) (.tmp 20), none⟩]
def k86_9 : VC := .reg [⟨(some 22), .mv (.tmp 0), none⟩,
    ⟨(some 23), .callF 73 [(.tmp 22), (.const (.int .i64 0)), (.const (.int .i64 8))], none⟩,
    ⟨(some 21), .mv (.tmp 23), none⟩,
    ⟨(some 24), .extract 0 (.tmp 21), none⟩,
    ⟨(some 25), .extract 1 (.tmp 21), none⟩,
    ⟨(some 26), .fieldA 1 (.tmp 6), none⟩,
    ⟨none, .store 1 (.tmp 26) (.tmp 24), none⟩]
def k86_10 : VC := .reg [⟨(some 28), .mv (.tmp 0), none⟩,
    ⟨(some 29), .callF 73 [(.tmp 28), (.const (.int .i64 8)), (.const (.int .i64 8))], none⟩,
    ⟨(some 27), .mv (.tmp 29), none⟩,
    ⟨(some 30), .extract 0 (.tmp 27), none⟩,
    ⟨(some 31), .extract 1 (.tmp 27), none⟩,
    ⟨(some 32), .fieldA 2 (.tmp 6), none⟩,
    ⟨none, .store 1 (.tmp 32) (.tmp 30), none⟩]
def k86_11 : VC := .reg [⟨(some 33), .loadN [.bool, (.int .u64), (.int .u64)] (.tmp 6), none⟩,
    ⟨none, .store 3 (.tmp 2) (.tmp 33), none⟩,
    ⟨(some 3), .mv (.const (.bool true)), none⟩]
def k86_12 : VC := .seq k86_11 .ret
def k86_13 : VC := .seq k86_10 k86_12
def k86_14 : VC := .seq k86_9 k86_13
def k86_15 : VC := .seq k86_8 k86_14
def k86_16 : VC := .cond (.tmp 18) k86_15 .skip
def k86_17 : VC := .seq k86_7 k86_16
def k86_18 : VC := .cond (.tmp 9) k86_6 k86_17
def k86_19 : VC := .seq k86_2 k86_18
def k86_20 : VC := .block 0 k86_19
def k86_21 : VC := .seq k86_1 k86_20
def k86_22 : VC := .reg [⟨(some 34), .build [(.bool false), (.int .u64 0), (.int .u64 0)] [], none⟩,
    ⟨none, .store 3 (.tmp 2) (.tmp 34), none⟩,
    ⟨(some 3), .mv (.const (.bool false)), none⟩]
def k86_23 : VC := .seq k86_22 .ret
def k86_24 : VC := .seq k86_21 k86_23
def k86_25 : VC := .seq k86_0 k86_24
def fn86 : VFn := ⟨35, k86_25, [.cell 2 [.bool, (.int .u64), (.int .u64)] true, .tmp 3]⟩
/- 51: cloakroom/cloakroomlaw06.of -/
def k51_0 : VC := .reg [⟨(some 1), .box (.tmp 0), none⟩,
    ⟨(some 2), .alloc [(.int .i64 0), (.int .i64 0), (.int .i64 0), (.int .i64 0), (.bool false), (.int .u64 0), (.int .u64 0), (.bool false), (.int .u64 0), (.int .u64 0)], none⟩]
def k51_1 : VC := .reg [⟨(some 3), .fieldA 0 (.tmp 1), none⟩,
    ⟨(some 4), .load1 (.int .i64) (.tmp 3), none⟩,
    ⟨(some 5), .fieldA 1 (.tmp 1), none⟩,
    ⟨(some 6), .load1 (.int .i64) (.tmp 5), none⟩,
    ⟨(some 7), .fieldA 2 (.tmp 1), none⟩,
    ⟨(some 8), .load1 (.int .i64) (.tmp 7), none⟩,
    ⟨(some 9), .fieldA 3 (.tmp 1), none⟩,
    ⟨(some 10), .load1 (.int .i64) (.tmp 9), none⟩,
    ⟨(some 11), .fieldA 4 (.tmp 1), none⟩,
    ⟨(some 12), .loadN [.bool, (.int .u64), (.int .u64)] (.tmp 11), none⟩,
    ⟨(some 13), .fieldA 7 (.tmp 1), none⟩,
    ⟨(some 14), .loadN [.bool, (.int .u64), (.int .u64)] (.tmp 13), none⟩,
    ⟨(some 15), .build [(.int .i64 0), (.int .i64 0), (.int .i64 0), (.int .i64 0), (.bool false), (.int .u64 0), (.int .u64 0), (.bool false), (.int .u64 0), (.int .u64 0)] [(0, 1, (.tmp 4)), (1, 1, (.tmp 6)), (2, 1, (.tmp 8)), (3, 1, (.tmp 10)), (4, 3, (.tmp 12)), (7, 3, (.tmp 14))], none⟩,
    ⟨none, .store 10 (.tmp 2) (.tmp 15), none⟩]
def k51_2 : VC := .seq k51_1 .ret
def k51_3 : VC := .seq k51_0 k51_2
def fn51 : VFn := ⟨16, k51_3, [.cell 2 [(.int .i64), (.int .i64), (.int .i64), (.int .i64), .bool, (.int .u64), (.int .u64), .bool, (.int .u64), (.int .u64)] true]⟩
/- 52: cloakroom/cloakroomref06.Put -/
def k52_0 : VC := .reg [⟨(some 2), .box (.tmp 0), none⟩,
    ⟨(some 4), .mv (.const (.string ⟨⟨[]⟩⟩)), none⟩,
    ⟨(some 5), .mv (.const (.int .i64 0)), none⟩]
def k52_1 : VC := .reg [⟨(some 6), .loadN [(.int .i64), (.int .i64), (.int .i64), (.int .i64), .bool, (.int .u64), (.int .u64), .bool, (.int .u64), (.int .u64)] (.tmp 2), none⟩,
    ⟨(some 7), .callF 79 [(.tmp 6)], none⟩,
    ⟨(some 8), .not (.tmp 7), none⟩]
def k52_2 : VC := .reg [⟨(some 4), .mv (.const (.string ⟨⟨[]⟩⟩)), none⟩,
    ⟨(some 5), .mv (.const (.int .i64 1)), none⟩]
def k52_3 : VC := .seq k52_2 .ret
def k52_4 : VC := .cond (.tmp 8) k52_3 .skip
def k52_5 : VC := .seq k52_1 k52_4
def k52_6 : VC := .reg [⟨(some 9), .mv (.tmp 1), none⟩,
    ⟨(some 10), .lenS (.tmp 9), none⟩,
    ⟨(some 11), .bin .gtr (.tmp 10) (.const (.int .i64 65535)), none⟩]
def k52_7 : VC := .reg [⟨(some 4), .mv (.const (.string ⟨⟨[]⟩⟩)), none⟩,
    ⟨(some 5), .mv (.const (.int .i64 5)), none⟩]
def k52_8 : VC := .seq k52_7 .ret
def k52_9 : VC := .cond (.tmp 11) k52_8 .skip
def k52_10 : VC := .seq k52_6 k52_9
def k52_11 : VC := .regD [⟨(some 12), .fieldA 0 (.tmp 2), none⟩,
    ⟨(some 13), .load1 (.int .i64) (.tmp 12), none⟩,
    ⟨(some 14), .bin .mul (.tmp 13) (.const (.int .i64 1048576)), none⟩,
    ⟨(some 15), .bin .add (.const (.int .i64 1610612736)) (.tmp 14), none⟩,
    ⟨(some 16), .fieldA 1 (.tmp 2), none⟩,
    ⟨(some 17), .load1 (.int .i64) (.tmp 16), none⟩,
    ⟨(some 18), .bin .add (.tmp 15) (.tmp 17), none⟩,
    ⟨(some 19), .callF 80 [(.tmp 18), (.const (.int .i64 4))], none⟩,
    ⟨(some 20), .mv (.tmp 1), none⟩,
    ⟨(some 21), .lenS (.tmp 20), none⟩,
    ⟨(some 22), .callF 80 [(.tmp 21), (.const (.int .i64 2))], none⟩,
    ⟨(some 23), .bin .add (.tmp 19) (.tmp 22), none⟩,
    ⟨(some 24), .fieldA 2 (.tmp 2), none⟩,
    ⟨(some 25), .load1 (.int .i64) (.tmp 24), none⟩,
    ⟨(some 26), .callF 80 [(.tmp 25), (.const (.int .i64 1))], none⟩,
    ⟨(some 27), .bin .add (.tmp 23) (.tmp 26), none⟩,
    ⟨(some 28), .fieldA 3 (.tmp 2), none⟩,
    ⟨(some 29), .load1 (.int .i64) (.tmp 28), none⟩,
    ⟨(some 30), .callF 80 [(.tmp 29), (.const (.int .i64 1))], none⟩,
    ⟨(some 31), .bin .add (.tmp 27) (.tmp 30), none⟩,
    ⟨(some 32), .fieldA 4 (.tmp 2), none⟩,
    ⟨(some 33), .loadN [.bool, (.int .u64), (.int .u64)] (.tmp 32), none⟩,
    ⟨(some 34), .callF 81 [(.tmp 33)], none⟩,
    ⟨(some 35), .bin .add (.tmp 31) (.tmp 34), none⟩,
    ⟨(some 36), .fieldA 7 (.tmp 2), none⟩,
    ⟨(some 37), .loadN [.bool, (.int .u64), (.int .u64)] (.tmp 36), none⟩,
    ⟨(some 38), .callF 81 [(.tmp 37)], none⟩,
    ⟨(some 39), .bin .add (.tmp 35) (.tmp 38), none⟩,
    ⟨(some 40), .mv (.tmp 1), none⟩,
    ⟨(some 41), .bin .add (.tmp 39) (.tmp 40), none⟩,
    ⟨(some 4), .mv (.tmp 41), none⟩,
    ⟨(some 5), .mv (.const (.int .i64 0)), none⟩] [(7, 13), (7, 17), (7, 21), (7, 25), (10, 13), (10, 17), (10, 21), (10, 25), (14, 17), (14, 21), (14, 25), (18, 21), (18, 25), (22, 25)]
def k52_12 : VC := .seq k52_11 .ret
def k52_13 : VC := .seq k52_10 k52_12
def k52_14 : VC := .seq k52_5 k52_13
def k52_15 : VC := .seq k52_0 k52_14
def fn52 : VFn := ⟨42, k52_15, [.tmp 4, .tmp 5]⟩
/- 79: cloakroom/cloakroomref06.Right -/
def k79_0 : VC := .reg [⟨(some 1), .box (.tmp 0), none⟩,
    ⟨(some 2), .mv (.const (.bool false)), none⟩]
def k79_1 : VC := .reg [⟨(some 3), .fieldA 0 (.tmp 1), none⟩,
    ⟨(some 4), .load1 (.int .i64) (.tmp 3), none⟩,
    ⟨(some 5), .callF 95 [(.tmp 4), (.const (.int .i64 255))], none⟩,
    ⟨(some 6), .mv (.tmp 5), none⟩,
    ⟨(some 7), .fieldA 1 (.tmp 1), (some (6, true))⟩,
    ⟨(some 8), .load1 (.int .i64) (.tmp 7), (some (6, true))⟩,
    ⟨(some 9), .callF 95 [(.tmp 8), (.const (.int .i64 1048575))], (some (6, true))⟩,
    ⟨(some 10), .pick (.tmp 6) (.tmp 9) (.const (.bool false)), none⟩,
    ⟨(some 11), .mv (.tmp 10), none⟩,
    ⟨(some 12), .fieldA 2 (.tmp 1), (some (11, true))⟩,
    ⟨(some 13), .load1 (.int .i64) (.tmp 12), (some (11, true))⟩,
    ⟨(some 14), .callF 95 [(.tmp 13), (.const (.int .i64 255))], (some (11, true))⟩,
    ⟨(some 15), .pick (.tmp 11) (.tmp 14) (.const (.bool false)), none⟩,
    ⟨(some 16), .mv (.tmp 15), none⟩,
    ⟨(some 17), .fieldA 3 (.tmp 1), (some (16, true))⟩,
    ⟨(some 18), .load1 (.int .i64) (.tmp 17), (some (16, true))⟩,
    ⟨(some 19), .callF 95 [(.tmp 18), (.const (.int .i64 255))], (some (16, true))⟩,
    ⟨(some 20), .pick (.tmp 16) (.tmp 19) (.const (.bool false)), none⟩,
    ⟨(some 21), .mv (.tmp 20), none⟩,
    ⟨(some 22), .fieldA 4 (.tmp 1), (some (21, true))⟩,
    ⟨(some 23), .fieldA 0 (.tmp 22), (some (21, true))⟩,
    ⟨(some 24), .load1 .bool (.tmp 23), (some (21, true))⟩,
    ⟨(some 25), .pick (.tmp 21) (.tmp 24) (.const (.bool false)), none⟩,
    ⟨(some 26), .mv (.tmp 25), none⟩,
    ⟨(some 27), .fieldA 7 (.tmp 1), (some (26, true))⟩,
    ⟨(some 28), .fieldA 0 (.tmp 27), (some (26, true))⟩,
    ⟨(some 29), .load1 .bool (.tmp 28), (some (26, true))⟩,
    ⟨(some 30), .pick (.tmp 26) (.tmp 29) (.const (.bool false)), none⟩,
    ⟨(some 2), .mv (.tmp 30), none⟩]
def k79_2 : VC := .seq k79_1 .ret
def k79_3 : VC := .seq k79_0 k79_2
def fn79 : VFn := ⟨31, k79_3, [.tmp 2]⟩
/- 95: cloakroom/cloakroomref06.in -/
def k95_0 : VC := .reg [⟨(some 4), .mv (.const (.bool false)), none⟩]
def k95_1 : VC := .reg [⟨(some 5), .mv (.tmp 0), none⟩,
    ⟨(some 6), .bin .geq (.tmp 5) (.const (.int .i64 0)), none⟩,
    ⟨(some 7), .mv (.tmp 6), none⟩,
    ⟨(some 8), .mv (.tmp 0), (some (7, true))⟩,
    ⟨(some 9), .mv (.tmp 1), (some (7, true))⟩,
    ⟨(some 10), .bin .leq (.tmp 8) (.tmp 9), (some (7, true))⟩,
    ⟨(some 11), .pick (.tmp 7) (.tmp 10) (.const (.bool false)), none⟩,
    ⟨(some 4), .mv (.tmp 11), none⟩]
def k95_2 : VC := .seq k95_1 .ret
def k95_3 : VC := .seq k95_0 k95_2
def fn95 : VFn := ⟨12, k95_3, [.tmp 4]⟩
/- 80: cloakroom/cloakroomref06.num -/
def k80_0 : VC := .reg [⟨(some 4), .mv (.const (.string ⟨⟨[]⟩⟩)), none⟩]
def k80_1 : VC := .reg [⟨(some 5), .mv (.tmp 0), none⟩,
    ⟨(some 6), .conv .u64 (.tmp 5), none⟩,
    ⟨(some 7), .mv (.tmp 1), none⟩,
    ⟨(some 8), .callF 76 [(.tmp 6), (.tmp 7)], none⟩,
    ⟨(some 4), .mv (.tmp 8), none⟩]
def k80_2 : VC := .seq k80_1 .ret
def k80_3 : VC := .seq k80_0 k80_2
def fn80 : VFn := ⟨9, k80_3, [.tmp 4]⟩
/- 81: cloakroom/cloakroomref04.Put -/
def k81_0 : VC := .reg [⟨(some 1), .box (.tmp 0), none⟩,
    ⟨(some 2), .mv (.const (.string ⟨⟨[]⟩⟩)), none⟩]
def k81_1 : VC := .reg [⟨(some 3), .loadN [.bool, (.int .u64), (.int .u64)] (.tmp 1), none⟩,
    ⟨(some 4), .callF 96 [(.tmp 3)], none⟩,
    ⟨(some 5), .not (.tmp 4), none⟩]
def k81_2 : VC := .reg [⟨(some 2), .mv (.const (.string ⟨⟨[]⟩⟩)), none⟩]
def k81_3 : VC := .seq k81_2 .ret
def k81_4 : VC := .cond (.tmp 5) k81_3 .skip
def k81_5 : VC := .seq k81_1 k81_4
def k81_6 : VC := .reg [⟨(some 6), .fieldA 0 (.tmp 1), none⟩,
    ⟨(some 7), .load1 .bool (.tmp 6), none⟩]
def k81_7 : VC := .regD [⟨(some 8), .fieldA 1 (.tmp 1), none⟩,
    ⟨(some 9), .load1 (.int .u64) (.tmp 8), none⟩,
    ⟨(some 10), .callF 76 [(.tmp 9), (.const (.int .i64 8))], none⟩,
    ⟨(some 11), .fieldA 2 (.tmp 1), none⟩,
    ⟨(some 12), .load1 (.int .u64) (.tmp 11), none⟩,
    ⟨(some 13), .callF 76 [(.tmp 12), (.const (.int .i64 8))], none⟩,
    ⟨(some 14), .bin .add (.tmp 10) (.tmp 13), none⟩,
    ⟨(some 2), .mv (.tmp 14), none⟩] [(2, 4)]
def k81_8 : VC := .seq k81_7 .ret
def k81_9 : VC := .cond (.tmp 7) k81_8 .skip
def k81_10 : VC := .seq k81_6 k81_9
def k81_11 : VC := .reg [⟨(some 15), .fieldA 2 (.tmp 1), none⟩,
    ⟨(some 16), .load1 (.int .u64) (.tmp 15), none⟩,
    ⟨(some 17), .callF 76 [(.tmp 16), (.const (.int .i64 4))], none⟩,
    ⟨(some 2), .mv (.tmp 17), none⟩]
def k81_12 : VC := .seq k81_11 .ret
def k81_13 : VC := .seq k81_10 k81_12
def k81_14 : VC := .seq k81_5 k81_13
def k81_15 : VC := .seq k81_0 k81_14
def fn81 : VFn := ⟨18, k81_15, [.tmp 2]⟩
/- 96: cloakroom/cloakroomref04.Right -/
def k96_0 : VC := .reg [⟨(some 1), .box (.tmp 0), none⟩,
    ⟨(some 2), .mv (.const (.bool false)), none⟩]
def k96_1 : VC := .reg [⟨(some 3), .fieldA 0 (.tmp 1), none⟩,
    ⟨(some 4), .load1 .bool (.tmp 3), none⟩,
    ⟨(some 5), .mv (.tmp 4), none⟩,
    ⟨(some 6), .fieldA 1 (.tmp 1), (some (5, false))⟩,
    ⟨(some 7), .load1 (.int .u64) (.tmp 6), (some (5, false))⟩,
    ⟨(some 8), .bin .eql (.tmp 7) (.const (.int .u64 0)), (some (5, false))⟩,
    ⟨(some 9), .mv (.tmp 8), (some (5, false))⟩,
    ⟨(some 10), .fieldA 2 (.tmp 1), (some (9, true))⟩,
    ⟨(some 11), .load1 (.int .u64) (.tmp 10), (some (9, true))⟩,
    ⟨(some 12), .bin .lss (.tmp 11) (.const (.int .u64 4294967296)), (some (9, true))⟩,
    ⟨(some 13), .pick (.tmp 9) (.tmp 12) (.const (.bool false)), (some (5, false))⟩,
    ⟨(some 14), .pick (.tmp 5) (.const (.bool true)) (.tmp 13), none⟩,
    ⟨(some 2), .mv (.tmp 14), none⟩]
def k96_2 : VC := .seq k96_1 .ret
def k96_3 : VC := .seq k96_0 k96_2
def fn96 : VFn := ⟨15, k96_3, [.tmp 2]⟩
/- 54: cloakroom/cloakroomref06.Get -/
def k54_0 : VC := .reg [⟨(some 2), .alloc [(.int .i64 0), (.int .i64 0), (.int .i64 0), (.int .i64 0), (.bool false), (.int .u64 0), (.int .u64 0), (.bool false), (.int .u64 0), (.int .u64 0)], none⟩,
    ⟨(some 3), .mv (.const (.string ⟨⟨[]⟩⟩)), none⟩,
    ⟨(some 4), .mv (.const (.int .i64 0)), none⟩]
def k54_1 : VC := .reg [⟨(some 11), .mv (.tmp 0), none⟩,
    ⟨(some 12), .lenS (.tmp 11), none⟩,
    ⟨(some 13), .bin .lss (.tmp 12) (.const (.int .i64 40)), none⟩]
def k54_2 : VC := .reg [⟨(some 14), .build [(.int .i64 0), (.int .i64 0), (.int .i64 0), (.int .i64 0), (.bool false), (.int .u64 0), (.int .u64 0), (.bool false), (.int .u64 0), (.int .u64 0)] [], none⟩,
    ⟨none, .store 10 (.tmp 2) (.tmp 14), none⟩,
    ⟨(some 3), .mv (.const (.string ⟨⟨[]⟩⟩)), none⟩,
    ⟨(some 4), .mv (.const (.int .i64 2)), none⟩]
def k54_3 : VC := .seq k54_2 .ret
def k54_4 : VC := .cond (.tmp 13) k54_3 .skip
def k54_5 : VC := .seq k54_1 k54_4
def k54_6 : VC := .reg [⟨(some 15), .mv (.tmp 0), none⟩,
    ⟨(some 16), .callF 87 [(.tmp 15), (.const (.int .i64 0)), (.const (.int .i64 4))], none⟩,
    ⟨(some 17), .mv (.tmp 0), none⟩,
    ⟨(some 18), .callF 87 [(.tmp 17), (.const (.int .i64 4)), (.const (.int .i64 2))], none⟩,
    ⟨(some 5), .mv (.tmp 16), none⟩,
    ⟨(some 6), .mv (.tmp 18), none⟩]
def k54_7 : VC := .reg [⟨(some 19), .mv (.tmp 5), none⟩,
    ⟨(some 20), .bin .quo (.tmp 19) (.const (.int .i64 268435456)), none⟩,
    ⟨(some 21), .bin .neq (.tmp 20) (.const (.int .i64 6)), none⟩]
def k54_8 : VC := .reg [⟨(some 22), .build [(.int .i64 0), (.int .i64 0), (.int .i64 0), (.int .i64 0), (.bool false), (.int .u64 0), (.int .u64 0), (.bool false), (.int .u64 0), (.int .u64 0)] [], none⟩,
    ⟨none, .store 10 (.tmp 2) (.tmp 22), none⟩,
    ⟨(some 3), .mv (.const (.string ⟨⟨[]⟩⟩)), none⟩,
    ⟨(some 4), .mv (.const (.int .i64 3)), none⟩]
def k54_9 : VC := .seq k54_8 .ret
def k54_10 : VC := .cond (.tmp 21) k54_9 .skip
def k54_11 : VC := .seq k54_7 k54_10
def k54_12 : VC := .reg [⟨(some 23), .mv (.tmp 0), none⟩,
    ⟨(some 24), .lenS (.tmp 23), none⟩,
    ⟨(some 25), .bin .sub (.tmp 24) (.const (.int .i64 40)), none⟩,
    ⟨(some 26), .mv (.tmp 6), none⟩,
    ⟨(some 27), .bin .lss (.tmp 25) (.tmp 26), none⟩]
def k54_13 : VC := .reg [⟨(some 28), .build [(.int .i64 0), (.int .i64 0), (.int .i64 0), (.int .i64 0), (.bool false), (.int .u64 0), (.int .u64 0), (.bool false), (.int .u64 0), (.int .u64 0)] [], none⟩,
    ⟨none, .store 10 (.tmp 2) (.tmp 28), none⟩,
    ⟨(some 3), .mv (.const (.string ⟨⟨[]⟩⟩)), none⟩,
    ⟨(some 4), .mv (.const (.int .i64 2)), none⟩]
def k54_14 : VC := .seq k54_13 .ret
def k54_15 : VC := .cond (.tmp 27) k54_14 .skip
def k54_16 : VC := .seq k54_12 k54_15
def k54_17 : VC := .reg [⟨(some 30), .mv (.tmp 0), none⟩,
    ⟨(some 31), .sliceS (.tmp 30) (some (.const (.int .i64 8))) (some (.const (.int .i64 24))), none⟩,
    ⟨(some 32), .callF 88 [(.tmp 31)], none⟩,
    ⟨(some 29), .mv (.tmp 32), none⟩,
    ⟨(some 33), .extract 0 (.tmp 29), none⟩,
    ⟨(some 34), .extract 1 (.tmp 29), none⟩,
    ⟨(some 7), .alloc [(.bool false), (.int .u64 0), (.int .u64 0)], none⟩,
    ⟨none, .store 3 (.tmp 7) (.tmp 33), none⟩,
    ⟨(some 8), .mv (.tmp 34), none⟩]
def k54_18 : VC := .reg [⟨(some 36), .mv (.tmp 0), none⟩,
    ⟨(some 37), .sliceS (.tmp 36) (some (.const (.int .i64 24))) (some (.const (.int .i64 40))), none⟩,
    ⟨(some 38), .callF 88 [(.tmp 37)], none⟩,
    ⟨(some 35), .mv (.tmp 38), none⟩,
    ⟨(some 39), .extract 0 (.tmp 35), none⟩,
    ⟨(some 40), .extract 1 (.tmp 35), none⟩,
    ⟨(some 9), .alloc [(.bool false), (.int .u64 0), (.int .u64 0)], none⟩,
    ⟨none, .store 3 (.tmp 9) (.tmp 39), none⟩,
    ⟨(some 10), .mv (.tmp 40), none⟩]
def k54_19 : VC := .regD [⟨(some 41), .mv (.tmp 5), none⟩,
    ⟨(some 42), .bin .quo (.tmp 41) (.const (.int .i64 1048576)), none⟩,
    ⟨(some 43), .bin .rem (.tmp 42) (.const (.int .i64 256)), none⟩,
    ⟨(some 44), .mv (.tmp 5), none⟩,
    ⟨(some 45), .bin .rem (.tmp 44) (.const (.int .i64 1048576)), none⟩,
    ⟨(some 46), .mv (.tmp 0), none⟩,
    ⟨(some 47), .idxS (.tmp 46) (.const (.int .i64 6)), none⟩,
    ⟨(some 48), .conv .i64 (.tmp 47), none⟩,
    ⟨(some 49), .mv (.tmp 0), none⟩,
    ⟨(some 50), .idxS (.tmp 49) (.const (.int .i64 7)), none⟩,
    ⟨(some 51), .conv .i64 (.tmp 50), none⟩,
    ⟨(some 52), .loadN [.bool, (.int .u64), (.int .u64)] (.tmp 7), none⟩,
    ⟨(some 53), .loadN [.bool, (.int .u64), (.int .u64)] (.tmp 9), none⟩,
    ⟨(some 54), .build [(.int .i64 0), (.int .i64 0), (.int .i64 0), (.int .i64 0), (.bool false), (.int .u64 0), (.int .u64 0), (.bool false), (.int .u64 0), (.int .u64 0)] [(0, 1, (.tmp 43)), (1, 1, (.tmp 45)), (2, 1, (.tmp 48)), (3, 1, (.tmp 51)), (4, 3, (.tmp 52)), (7, 3, (.tmp 53))], none⟩,
    ⟨(some 55), .mv (.tmp 0), none⟩,
    ⟨(some 56), .mv (.tmp 6), none⟩,
    ⟨(some 57), .bin .add (.const (.int .i64 40)) (.tmp 56), none⟩,
    ⟨(some 58), .sliceS (.tmp 55) (some (.const (.int .i64 40))) (some (.tmp 57)), none⟩,
    ⟨none, .store 10 (.tmp 2) (.tmp 54), none⟩,
    ⟨(some 3), .mv (.tmp 58), none⟩,
    ⟨(some 4), .mv (.const (.int .i64 0)), none⟩] []
def k54_20 : VC := .seq k54_19 .ret
def k54_21 : VC := .seq k54_18 k54_20
def k54_22 : VC := .seq k54_17 k54_21
def k54_23 : VC := .seq k54_16 k54_22
def k54_24 : VC := .seq k54_11 k54_23
def k54_25 : VC := .seq k54_6 k54_24
def k54_26 : VC := .seq k54_5 k54_25
def k54_27 : VC := .seq k54_0 k54_26
def fn54 : VFn := ⟨59, k54_27, [.cell 2 [(.int .i64), (.int .i64), (.int .i64), (.int .i64), .bool, (.int .u64), (.int .u64), .bool, (.int .u64), (.int .u64)] true, .tmp 3, .tmp 4]⟩
/- 88: cloakroom/cloakroomref04.Get -/
def k88_0 : VC := .reg [⟨(some 2), .alloc [(.bool false), (.int .u64 0), (.int .u64 0)], none⟩,
    ⟨(some 3), .mv (.const (.bool false)), none⟩]
def k88_1 : VC := .reg [⟨(some 10), .mv (.tmp 0), none⟩,
    ⟨(some 11), .lenS (.tmp 10), none⟩,
    ⟨(some 12), .bin .eql (.tmp 11) (.const (.int .i64 4)), none⟩]
def k88_2 : VC := .reg [⟨(some 14), .mv (.tmp 0), none⟩,
    ⟨(some 15), .callF 75 [(.tmp 14), (.const (.int .i64 0)), (.const (.int .i64 4))], none⟩,
    ⟨(some 13), .mv (.tmp 15), none⟩,
    ⟨(some 16), .extract 0 (.tmp 13), none⟩,
    ⟨(some 17), .extract 1 (.tmp 13), none⟩,
    ⟨(some 4), .mv (.tmp 16), none⟩,
    ⟨(some 5), .mv (.tmp 17), none⟩]
def k88_3 : VC := .reg [⟨(some 18), .mv (.tmp 4), none⟩,
    ⟨(some 19), .build [(.bool false), (.int .u64 0), (.int .u64 0)] [(2, 1, (.tmp 18))], none⟩,
    ⟨none, .store 3 (.tmp 2) (.tmp 19), none⟩,
    ⟨(some 3), .mv (.const (.bool true)), none⟩]
def k88_4 : VC := .seq k88_3 .ret
def k88_5 : VC := .seq k88_2 k88_4
def k88_6 : VC := .cond (.tmp 12) k88_5 .skip
def k88_7 : VC := .seq k88_1 k88_6
def k88_8 : VC := .reg [⟨(some 20), .mv (.tmp 0), none⟩,
    ⟨(some 21), .lenS (.tmp 20), none⟩,
    ⟨(some 22), .bin .eql (.tmp 21) (.const (.int .i64 16)), none⟩]
def k88_9 : VC := .reg [⟨(some 24), .mv (.tmp 0), none⟩,
    ⟨(some 25), .callF 75 [(.tmp 24), (.const (.int .i64 0)), (.const (.int .i64 8))], none⟩,
    ⟨(some 23), .mv (.tmp 25), none⟩,
    ⟨(some 26), .extract 0 (.tmp 23), none⟩,
    ⟨(some 27), .extract 1 (.tmp 23), none⟩,
    ⟨(some 6), .mv (.tmp 26), none⟩,
    ⟨(some 7), .mv (.tmp 27), none⟩]
def k88_10 : VC := .reg [⟨(some 29), .mv (.tmp 0), none⟩,
    ⟨(some 30), .callF 75 [(.tmp 29), (.const (.int .i64 8)), (.const (.int .i64 8))], none⟩,
    ⟨(some 28), .mv (.tmp 30), none⟩,
    ⟨(some 31), .extract 0 (.tmp 28), none⟩,
    ⟨(some 32), .extract 1 (.tmp 28), none⟩,
    ⟨(some 8), .mv (.tmp 31), none⟩,
    ⟨(some 9), .mv (.tmp 32), none⟩]
def k88_11 : VC := .reg [⟨(some 33), .mv (.tmp 6), none⟩,
    ⟨(some 34), .mv (.tmp 8), none⟩,
    ⟨(some 35), .build [(.bool false), (.int .u64 0), (.int .u64 0)] [(0, 1, (.const (.bool true))), (1, 1, (.tmp 33)), (2, 1, (.tmp 34))], none⟩,
    ⟨none, .store 3 (.tmp 2) (.tmp 35), none⟩,
    ⟨(some 3), .mv (.const (.bool true)), none⟩]
def k88_12 : VC := .seq k88_11 .ret
def k88_13 : VC := .seq k88_10 k88_12
def k88_14 : VC := .seq k88_9 k88_13
def k88_15 : VC := .cond (.tmp 22) k88_14 .skip
def k88_16 : VC := .seq k88_8 k88_15
def k88_17 : VC := .reg [⟨(some 36), .build [(.bool false), (.int .u64 0), (.int .u64 0)] [], none⟩,
    ⟨none, .store 3 (.tmp 2) (.tmp 36), none⟩,
    ⟨(some 3), .mv (.const (.bool false)), none⟩]
def k88_18 : VC := .seq k88_17 .ret
def k88_19 : VC := .seq k88_16 k88_18
def k88_20 : VC := .seq k88_7 k88_19
def k88_21 : VC := .seq k88_0 k88_20
def fn88 : VFn := ⟨37, k88_21, [.cell 2 [.bool, (.int .u64), (.int .u64)] true, .tmp 3]⟩
/- 55: cloakroom/cloakroomlaw06.back -/
def k55_0 : VC := .reg [⟨(some 1), .box (.tmp 0), none⟩,
    ⟨(some 2), .alloc [(.int .i64 0), (.int .i64 0), (.int .i64 0), (.int .i64 0), (.bool false), (.int .u64 0), (.int .u64 0), (.bool false), (.int .u64 0), (.int .u64 0)], none⟩]
def k55_1 : VC := .reg [⟨(some 3), .fieldA 0 (.tmp 1), none⟩,
    ⟨(some 4), .load1 (.int .i64) (.tmp 3), none⟩,
    ⟨(some 5), .fieldA 1 (.tmp 1), none⟩,
    ⟨(some 6), .load1 (.int .i64) (.tmp 5), none⟩,
    ⟨(some 7), .fieldA 2 (.tmp 1), none⟩,
    ⟨(some 8), .load1 (.int .i64) (.tmp 7), none⟩,
    ⟨(some 9), .fieldA 3 (.tmp 1), none⟩,
    ⟨(some 10), .load1 (.int .i64) (.tmp 9), none⟩,
    ⟨(some 11), .fieldA 4 (.tmp 1), none⟩,
    ⟨(some 12), .loadN [.bool, (.int .u64), (.int .u64)] (.tmp 11), none⟩,
    ⟨(some 13), .fieldA 7 (.tmp 1), none⟩,
    ⟨(some 14), .loadN [.bool, (.int .u64), (.int .u64)] (.tmp 13), none⟩,
    ⟨(some 15), .build [(.int .i64 0), (.int .i64 0), (.int .i64 0), (.int .i64 0), (.bool false), (.int .u64 0), (.int .u64 0), (.bool false), (.int .u64 0), (.int .u64 0)] [(0, 1, (.tmp 4)), (1, 1, (.tmp 6)), (2, 1, (.tmp 8)), (3, 1, (.tmp 10)), (4, 3, (.tmp 12)), (7, 3, (.tmp 14))], none⟩,
    ⟨none, .store 10 (.tmp 2) (.tmp 15), none⟩]
def k55_2 : VC := .seq k55_1 .ret
def k55_3 : VC := .seq k55_0 k55_2
def fn55 : VFn := ⟨16, k55_3, [.cell 2 [(.int .i64), (.int .i64), (.int .i64), (.int .i64), .bool, (.int .u64), (.int .u64), .bool, (.int .u64), (.int .u64)] true]⟩
/- 14: cloakroom/cloakroomlaw06.IpsixBack -/
def k14_0 : VC := .reg [⟨(some 5), .box (.tmp 0), none⟩,
    ⟨(some 10), .mv (.const (.bool false)), none⟩]
def k14_1 : VC := .reg [⟨(some 24), .mv (.tmp 1), none⟩,
    ⟨(some 25), .lenS (.tmp 24), none⟩,
    ⟨(some 26), .bin .gtr (.tmp 25) (.const (.int .i64 200)), none⟩,
    ⟨(some 27), .mv (.tmp 26), none⟩,
    ⟨(some 28), .mv (.tmp 2), (some (27, false))⟩,
    ⟨(some 29), .lenS (.tmp 28), (some (27, false))⟩,
    ⟨(some 30), .bin .gtr (.tmp 29) (.const (.int .i64 200)), (some (27, false))⟩,
    ⟨(some 31), .pick (.tmp 27) (.const (.bool true)) (.tmp 30), none⟩,
    ⟨(some 32), .mv (.tmp 31), none⟩,
    ⟨(some 33), .mv (.tmp 3), (some (32, false))⟩,
    ⟨(some 34), .lenS (.tmp 33), (some (32, false))⟩,
    ⟨(some 35), .bin .gtr (.tmp 34) (.const (.int .i64 200)), (some (32, false))⟩,
    ⟨(some 36), .pick (.tmp 32) (.const (.bool true)) (.tmp 35), none⟩]
def k14_2 : VC := .reg [⟨(some 37), .callF 49 [], none⟩,
    ⟨(some 10), .mv (.tmp 37), none⟩]
def k14_3 : VC := .seq k14_2 .ret
def k14_4 : VC := .cond (.tmp 36) k14_3 .skip
def k14_5 : VC := .seq k14_1 k14_4
def k14_6 : VC := .reg [⟨(some 39), .mv (.tmp 3), none⟩,
    ⟨(some 40), .callF 53 [(.tmp 39)], none⟩,
    ⟨(some 38), .mv (.tmp 40), none⟩,
    ⟨(some 41), .extract 0 (.tmp 38), none⟩,
    ⟨(some 42), .extract 1 (.tmp 38), none⟩,
    ⟨(some 43), .extract 2 (.tmp 38), none⟩,
    ⟨(some 11), .alloc [(.int .i64 0), (.int .i64 0), (.int .i64 0), (.int .i64 0), (.bool false), (.int .u64 0), (.int .u64 0), (.bool false), (.int .u64 0), (.int .u64 0)], none⟩,
    ⟨none, .store 10 (.tmp 11) (.tmp 41), none⟩,
    ⟨(some 12), .mv (.tmp 42), none⟩,
    ⟨(some 13), .mv (.tmp 43), none⟩]
def k14_7 : VC := .reg [⟨(some 44), .mv (.tmp 13), none⟩,
    ⟨(some 45), .bin .eql (.tmp 44) (.const (.int .i64 0)), none⟩]
def k14_8 : VC := .reg [⟨(some 47), .loadN [(.int .i64), (.int .i64), (.int .i64), (.int .i64), .bool, (.int .u64), (.int .u64), .bool, (.int .u64), (.int .u64)] (.tmp 11), none⟩,
    ⟨(some 48), .mv (.tmp 12), none⟩,
    ⟨(some 49), .callF 50 [(.tmp 47), (.tmp 48)], none⟩,
    ⟨(some 46), .mv (.tmp 49), none⟩,
    ⟨(some 50), .extract 0 (.tmp 46), none⟩,
    ⟨(some 51), .extract 1 (.tmp 46), none⟩,
    ⟨(some 14), .mv (.tmp 50), none⟩,
    ⟨(some 15), .mv (.tmp 51), none⟩]
def k14_9 : VC := .reg [⟨(some 52), .mv (.tmp 15), none⟩,
    ⟨(some 53), .bin .neq (.tmp 52) (.const (.int .i64 0)), none⟩,
    ⟨(some 54), .mv (.tmp 53), none⟩,
    ⟨(some 55), .mv (.tmp 14), (some (54, false))⟩,
    ⟨(some 56), .lenS (.tmp 55), (some (54, false))⟩,
    ⟨(some 57), .mv (.tmp 3), (some (54, false))⟩,
    ⟨(some 58), .lenS (.tmp 57), (some (54, false))⟩,
    ⟨(some 59), .bin .gtr (.tmp 56) (.tmp 58), (some (54, false))⟩,
    ⟨(some 60), .pick (.tmp 54) (.const (.bool true)) (.tmp 59), none⟩,
    ⟨(some 61), .mv (.tmp 60), none⟩,
    ⟨(some 62), .mv (.tmp 14), (some (61, false))⟩,
    ⟨(some 63), .mv (.tmp 3), (some (61, false))⟩,
    ⟨(some 64), .mv (.tmp 14), (some (61, false))⟩,
    ⟨(some 65), .lenS (.tmp 64), (some (61, false))⟩,
    ⟨(some 66), .sliceS (.tmp 63) none (some (.tmp 65)), (some (61, false))⟩,
    ⟨(some 67), .bin .neq (.tmp 62) (.tmp 66), (some (61, false))⟩,
    ⟨(some 68), .pick (.tmp 61) (.const (.bool true)) (.tmp 67), none⟩]
def k14_10 : VC := .reg [⟨(some 10), .mv (.const (.bool false)), none⟩]
def k14_11 : VC := .seq k14_10 .ret
def k14_12 : VC := .cond (.tmp 68) k14_11 .skip
def k14_13 : VC := .seq k14_9 k14_12
def k14_14 : VC := .seq k14_8 k14_13
def k14_15 : VC := .cond (.tmp 45) k14_14 .skip
def k14_16 : VC := .seq k14_7 k14_15
def k14_17 : VC := .seq k14_6 k14_16
def k14_18 : VC := .reg [⟨(some 70), .loadN [(.int .i64), (.int .i64), (.int .i64), (.int .i64), .bool, (.int .u64), (.int .u64), .bool, (.int .u64), (.int .u64)] (.tmp 5), none⟩,
    ⟨(some 71), .callF 51 [(.tmp 70)], none⟩,
    ⟨(some 72), .mv (.tmp 1), none⟩,
    ⟨(some 73), .callF 50 [(.tmp 71), (.tmp 72)], none⟩,
    ⟨(some 69), .mv (.tmp 73), none⟩,
    ⟨(some 74), .extract 0 (.tmp 69), none⟩,
    ⟨(some 75), .extract 1 (.tmp 69), none⟩,
    ⟨(some 16), .mv (.tmp 74), none⟩,
    ⟨(some 17), .mv (.tmp 75), none⟩]
def k14_19 : VC := .reg [⟨(some 76), .mv (.tmp 17), none⟩,
    ⟨(some 77), .bin .neq (.tmp 76) (.const (.int .i64 0)), none⟩]
def k14_20 : VC := .reg [⟨(some 78), .mv (.tmp 16), none⟩,
    ⟨(some 79), .bin .eql (.tmp 78) (.const (.string ⟨⟨[]⟩⟩)), none⟩,
    ⟨(some 80), .mv (.tmp 79), none⟩,
    ⟨(some 81), .callF 49 [], (some (80, true))⟩,
    ⟨(some 82), .pick (.tmp 80) (.tmp 81) (.const (.bool false)), none⟩,
    ⟨(some 10), .mv (.tmp 82), none⟩]
def k14_21 : VC := .seq k14_20 .ret
def k14_22 : VC := .cond (.tmp 77) k14_21 .skip
def k14_23 : VC := .seq k14_19 k14_22
def k14_24 : VC := .reg [⟨(some 84), .mv (.tmp 16), none⟩,
    ⟨(some 85), .mv (.tmp 2), none⟩,
    ⟨(some 86), .bin .add (.tmp 84) (.tmp 85), none⟩,
    ⟨(some 87), .callF 53 [(.tmp 86)], none⟩,
    ⟨(some 83), .mv (.tmp 87), none⟩,
    ⟨(some 88), .extract 0 (.tmp 83), none⟩,
    ⟨(some 89), .extract 1 (.tmp 83), none⟩,
    ⟨(some 90), .extract 2 (.tmp 83), none⟩,
    ⟨(some 18), .alloc [(.int .i64 0), (.int .i64 0), (.int .i64 0), (.int .i64 0), (.bool false), (.int .u64 0), (.int .u64 0), (.bool false), (.int .u64 0), (.int .u64 0)], none⟩,
    ⟨none, .store 10 (.tmp 18) (.tmp 88), none⟩,
    ⟨(some 19), .mv (.tmp 89), none⟩,
    ⟨(some 20), .mv (.tmp 90), none⟩]
def k14_25 : VC := .regD [⟨(some 91), .mv (.tmp 20), none⟩,
    ⟨(some 92), .bin .neq (.tmp 91) (.const (.int .i64 0)), none⟩,
    ⟨(some 93), .mv (.tmp 92), none⟩,
    ⟨(some 94), .loadN [(.int .i64), (.int .i64), (.int .i64), (.int .i64), .bool, (.int .u64), (.int .u64), .bool, (.int .u64), (.int .u64)] (.tmp 18), (some (93, false))⟩,
    ⟨(some 95), .callF 55 [(.tmp 94)], (some (93, false))⟩,
    ⟨(some 96), .loadN [(.int .i64), (.int .i64), (.int .i64), (.int .i64), .bool, (.int .u64), (.int .u64), .bool, (.int .u64), (.int .u64)] (.tmp 5), (some (93, false))⟩,
    ⟨(some 97), .eqAgg true [(0, (.int .i64)), (1, (.int .i64)), (2, (.int .i64)), (3, (.int .i64)), (4, .bool), (5, (.int .u64)), (6, (.int .u64)), (7, .bool), (8, (.int .u64)), (9, (.int .u64))] (.tmp 95) (.tmp 96), (some (93, false))⟩,
    ⟨(some 98), .pick (.tmp 93) (.const (.bool true)) (.tmp 97), none⟩,
    ⟨(some 99), .mv (.tmp 98), none⟩,
    ⟨(some 100), .mv (.tmp 19), (some (99, false))⟩,
    ⟨(some 101), .mv (.tmp 1), (some (99, false))⟩,
    ⟨(some 102), .bin .neq (.tmp 100) (.tmp 101), (some (99, false))⟩,
    ⟨(some 103), .pick (.tmp 99) (.const (.bool true)) (.tmp 102), none⟩,
    ⟨(some 104), .mv (.tmp 103), none⟩,
    ⟨(some 105), .mv (.tmp 16), (some (104, false))⟩,
    ⟨(some 106), .lenS (.tmp 105), (some (104, false))⟩,
    ⟨(some 107), .mv (.tmp 1), (some (104, false))⟩,
    ⟨(some 108), .lenS (.tmp 107), (some (104, false))⟩,
    ⟨(some 109), .bin .add (.const (.int .i64 40)) (.tmp 108), (some (104, false))⟩,
    ⟨(some 110), .bin .neq (.tmp 106) (.tmp 109), (some (104, false))⟩,
    ⟨(some 111), .pick (.tmp 104) (.const (.bool true)) (.tmp 110), none⟩] [(4, 5)]
def k14_26 : VC := .reg [⟨(some 10), .mv (.const (.bool false)), none⟩]
def k14_27 : VC := .seq k14_26 .ret
def k14_28 : VC := .cond (.tmp 111) k14_27 .skip
def k14_29 : VC := .seq k14_25 k14_28
def k14_30 : VC := .reg [⟨(some 113), .mv (.tmp 16), none⟩,
    ⟨(some 114), .mv (.tmp 4), none⟩,
    ⟨(some 115), .conv .i64 (.tmp 114), none⟩,
    ⟨(some 116), .mv (.tmp 16), none⟩,
    ⟨(some 117), .lenS (.tmp 116), none⟩,
    ⟨(some 118), .bin .rem (.tmp 115) (.tmp 117), none⟩,
    ⟨(some 119), .sliceS (.tmp 113) none (some (.tmp 118)), none⟩,
    ⟨(some 120), .callF 53 [(.tmp 119)], none⟩,
    ⟨(some 112), .mv (.tmp 120), none⟩,
    ⟨(some 121), .extract 0 (.tmp 112), none⟩,
    ⟨(some 122), .extract 1 (.tmp 112), none⟩,
    ⟨(some 123), .extract 2 (.tmp 112), none⟩,
    ⟨(some 21), .alloc [(.int .i64 0), (.int .i64 0), (.int .i64 0), (.int .i64 0), (.bool false), (.int .u64 0), (.int .u64 0), (.bool false), (.int .u64 0), (.int .u64 0)], none⟩,
    ⟨none, .store 10 (.tmp 21) (.tmp 121), none⟩,
    ⟨(some 22), .mv (.tmp 122), none⟩,
    ⟨(some 23), .mv (.tmp 123), none⟩]
def k14_31 : VC := .reg [⟨(some 124), .mv (.tmp 23), none⟩,
    ⟨(some 125), .bin .eql (.tmp 124) (.const (.int .i64 2)), none⟩,
    ⟨(some 126), .mv (.tmp 125), none⟩,
    ⟨(some 127), .callF 49 [], (some (126, true))⟩,
    ⟨(some 128), .pick (.tmp 126) (.tmp 127) (.const (.bool false)), none⟩,
    ⟨(some 10), .mv (.tmp 128), none⟩]
def k14_32 : VC := .seq k14_31 .ret
def k14_33 : VC := .seq k14_30 k14_32
def k14_34 : VC := .seq k14_29 k14_33
def k14_35 : VC := .seq k14_24 k14_34
def k14_36 : VC := .seq k14_23 k14_35
def k14_37 : VC := .seq k14_18 k14_36
def k14_38 : VC := .seq k14_17 k14_37
def k14_39 : VC := .seq k14_5 k14_38
def k14_40 : VC := .seq k14_0 k14_39
def fn14 : VFn := ⟨129, k14_40, [.tmp 10]⟩
theorem fn7_ok : (Try.prog.funcs[7]?).bind (compFn Try.prog) = some fn7 := by kernel_rfl
theorem fn28_ok : (Try.prog.funcs[28]?).bind (compFn Try.prog) = some fn28 := by kernel_rfl
theorem fn29_ok : (Try.prog.funcs[29]?).bind (compFn Try.prog) = some fn29 := by kernel_rfl
theorem fn62_ok : (Try.prog.funcs[62]?).bind (compFn Try.prog) = some fn62 := by kernel_rfl
theorem fn92_ok : (Try.prog.funcs[92]?).bind (compFn Try.prog) = some fn92 := by kernel_rfl
theorem fn63_ok : (Try.prog.funcs[63]?).bind (compFn Try.prog) = some fn63 := by kernel_rfl
theorem fn42_ok : (Try.prog.funcs[42]?).bind (compFn Try.prog) = some fn42 := by kernel_rfl
theorem fn47_ok : (Try.prog.funcs[47]?).bind (compFn Try.prog) = some fn47 := by kernel_rfl
theorem fn74_ok : (Try.prog.funcs[74]?).bind (compFn Try.prog) = some fn74 := by kernel_rfl
theorem fn11_ok : (Try.prog.funcs[11]?).bind (compFn Try.prog) = some fn11 := by kernel_rfl
theorem fn39_ok : (Try.prog.funcs[39]?).bind (compFn Try.prog) = some fn39 := by kernel_rfl
theorem fn70_ok : (Try.prog.funcs[70]?).bind (compFn Try.prog) = some fn70 := by kernel_rfl
theorem fn87_ok : (Try.prog.funcs[87]?).bind (compFn Try.prog) = some fn87 := by kernel_rfl
theorem fn75_ok : (Try.prog.funcs[75]?).bind (compFn Try.prog) = some fn75 := by kernel_rfl
theorem fn69_ok : (Try.prog.funcs[69]?).bind (compFn Try.prog) = some fn69 := by kernel_rfl
theorem fn40_ok : (Try.prog.funcs[40]?).bind (compFn Try.prog) = some fn40 := by kernel_rfl
theorem fn41_ok : (Try.prog.funcs[41]?).bind (compFn Try.prog) = some fn41 := by kernel_rfl
theorem fn43_ok : (Try.prog.funcs[43]?).bind (compFn Try.prog) = some fn43 := by kernel_rfl
theorem fn71_ok : (Try.prog.funcs[71]?).bind (compFn Try.prog) = some fn71 := by kernel_rfl
theorem fn44_ok : (Try.prog.funcs[44]?).bind (compFn Try.prog) = some fn44 := by kernel_rfl
theorem fn72_ok : (Try.prog.funcs[72]?).bind (compFn Try.prog) = some fn72 := by kernel_rfl
theorem fn45_ok : (Try.prog.funcs[45]?).bind (compFn Try.prog) = some fn45 := by kernel_rfl
theorem fn73_ok : (Try.prog.funcs[73]?).bind (compFn Try.prog) = some fn73 := by kernel_rfl
theorem fn46_ok : (Try.prog.funcs[46]?).bind (compFn Try.prog) = some fn46 := by kernel_rfl
theorem fn48_ok : (Try.prog.funcs[48]?).bind (compFn Try.prog) = some fn48 := by kernel_rfl
theorem fn76_ok : (Try.prog.funcs[76]?).bind (compFn Try.prog) = some fn76 := by kernel_rfl
theorem fn12_ok : (Try.prog.funcs[12]?).bind (compFn Try.prog) = some fn12 := by kernel_rfl
theorem fn8_ok : (Try.prog.funcs[8]?).bind (compFn Try.prog) = some fn8 := by kernel_rfl
theorem fn30_ok : (Try.prog.funcs[30]?).bind (compFn Try.prog) = some fn30 := by kernel_rfl
theorem fn34_ok : (Try.prog.funcs[34]?).bind (compFn Try.prog) = some fn34 := by kernel_rfl
theorem fn31_ok : (Try.prog.funcs[31]?).bind (compFn Try.prog) = some fn31 := by kernel_rfl
theorem fn32_ok : (Try.prog.funcs[32]?).bind (compFn Try.prog) = some fn32 := by kernel_rfl
theorem fn64_ok : (Try.prog.funcs[64]?).bind (compFn Try.prog) = some fn64 := by kernel_rfl
theorem fn65_ok : (Try.prog.funcs[65]?).bind (compFn Try.prog) = some fn65 := by kernel_rfl
theorem fn93_ok : (Try.prog.funcs[93]?).bind (compFn Try.prog) = some fn93 := by kernel_rfl
theorem fn97_ok : (Try.prog.funcs[97]?).bind (compFn Try.prog) = some fn97 := by kernel_rfl
theorem fn33_ok : (Try.prog.funcs[33]?).bind (compFn Try.prog) = some fn33 := by kernel_rfl
theorem fn9_ok : (Try.prog.funcs[9]?).bind (compFn Try.prog) = some fn9 := by kernel_rfl
theorem fn35_ok : (Try.prog.funcs[35]?).bind (compFn Try.prog) = some fn35 := by kernel_rfl
theorem fn66_ok : (Try.prog.funcs[66]?).bind (compFn Try.prog) = some fn66 := by kernel_rfl
theorem fn67_ok : (Try.prog.funcs[67]?).bind (compFn Try.prog) = some fn67 := by kernel_rfl
theorem fn68_ok : (Try.prog.funcs[68]?).bind (compFn Try.prog) = some fn68 := by kernel_rfl
theorem fn37_ok : (Try.prog.funcs[37]?).bind (compFn Try.prog) = some fn37 := by kernel_rfl
theorem fn36_ok : (Try.prog.funcs[36]?).bind (compFn Try.prog) = some fn36 := by kernel_rfl
theorem fn13_ok : (Try.prog.funcs[13]?).bind (compFn Try.prog) = some fn13 := by kernel_rfl
theorem fn49_ok : (Try.prog.funcs[49]?).bind (compFn Try.prog) = some fn49 := by kernel_rfl
theorem fn50_ok : (Try.prog.funcs[50]?).bind (compFn Try.prog) = some fn50 := by kernel_rfl
theorem fn77_ok : (Try.prog.funcs[77]?).bind (compFn Try.prog) = some fn77 := by kernel_rfl
theorem fn78_ok : (Try.prog.funcs[78]?).bind (compFn Try.prog) = some fn78 := by kernel_rfl
theorem fn94_ok : (Try.prog.funcs[94]?).bind (compFn Try.prog) = some fn94 := by kernel_rfl
theorem fn53_ok : (Try.prog.funcs[53]?).bind (compFn Try.prog) = some fn53 := by kernel_rfl
theorem fn82_ok : (Try.prog.funcs[82]?).bind (compFn Try.prog) = some fn82 := by kernel_rfl
theorem fn83_ok : (Try.prog.funcs[83]?).bind (compFn Try.prog) = some fn83 := by kernel_rfl
theorem fn84_ok : (Try.prog.funcs[84]?).bind (compFn Try.prog) = some fn84 := by kernel_rfl
theorem fn85_ok : (Try.prog.funcs[85]?).bind (compFn Try.prog) = some fn85 := by kernel_rfl
theorem fn86_ok : (Try.prog.funcs[86]?).bind (compFn Try.prog) = some fn86 := by kernel_rfl
theorem fn51_ok : (Try.prog.funcs[51]?).bind (compFn Try.prog) = some fn51 := by kernel_rfl
theorem fn52_ok : (Try.prog.funcs[52]?).bind (compFn Try.prog) = some fn52 := by kernel_rfl
theorem fn79_ok : (Try.prog.funcs[79]?).bind (compFn Try.prog) = some fn79 := by kernel_rfl
theorem fn95_ok : (Try.prog.funcs[95]?).bind (compFn Try.prog) = some fn95 := by kernel_rfl
theorem fn80_ok : (Try.prog.funcs[80]?).bind (compFn Try.prog) = some fn80 := by kernel_rfl
theorem fn81_ok : (Try.prog.funcs[81]?).bind (compFn Try.prog) = some fn81 := by kernel_rfl
theorem fn96_ok : (Try.prog.funcs[96]?).bind (compFn Try.prog) = some fn96 := by kernel_rfl
theorem fn54_ok : (Try.prog.funcs[54]?).bind (compFn Try.prog) = some fn54 := by kernel_rfl
theorem fn88_ok : (Try.prog.funcs[88]?).bind (compFn Try.prog) = some fn88 := by kernel_rfl
theorem fn55_ok : (Try.prog.funcs[55]?).bind (compFn Try.prog) = some fn55 := by kernel_rfl
theorem fn14_ok : (Try.prog.funcs[14]?).bind (compFn Try.prog) = some fn14 := by kernel_rfl
def tab : List (Nat × VFn) := [(7, fn7),(28, fn28),(29, fn29),(62, fn62),(92, fn92),(63, fn63),(42, fn42),(47, fn47),(74, fn74),(11, fn11),(39, fn39),(70, fn70),(87, fn87),(75, fn75),(69, fn69),(40, fn40),(41, fn41),(43, fn43),(71, fn71),(44, fn44),(72, fn72),(45, fn45),(73, fn73),(46, fn46),(48, fn48),(76, fn76),(12, fn12),(8, fn8),(30, fn30),(34, fn34),(31, fn31),(32, fn32),(64, fn64),(65, fn65),(93, fn93),(97, fn97),(33, fn33),(9, fn9),(35, fn35),(66, fn66),(67, fn67),(68, fn68),(37, fn37),(36, fn36),(13, fn13),(49, fn49),(50, fn50),(77, fn77),(78, fn78),(94, fn94),(53, fn53),(82, fn82),(83, fn83),(84, fn84),(85, fn85),(86, fn86),(51, fn51),(52, fn52),(79, fn79),(95, fn95),(80, fn80),(81, fn81),(96, fn96),(54, fn54),(88, fn88),(55, fn55),(14, fn14)]
theorem tab_ok : FnsOK Try.prog (aget tab) := FnsOK.of_tab ⟨fn7_ok,fn28_ok,fn29_ok,fn62_ok,fn92_ok,fn63_ok,fn42_ok,fn47_ok,fn74_ok,fn11_ok,fn39_ok,fn70_ok,fn87_ok,fn75_ok,fn69_ok,fn40_ok,fn41_ok,fn43_ok,fn71_ok,fn44_ok,fn72_ok,fn45_ok,fn73_ok,fn46_ok,fn48_ok,fn76_ok,fn12_ok,fn8_ok,fn30_ok,fn34_ok,fn31_ok,fn32_ok,fn64_ok,fn65_ok,fn93_ok,fn97_ok,fn33_ok,fn9_ok,fn35_ok,fn66_ok,fn67_ok,fn68_ok,fn37_ok,fn36_ok,fn13_ok,fn49_ok,fn50_ok,fn77_ok,fn78_ok,fn94_ok,fn53_ok,fn82_ok,fn83_ok,fn84_ok,fn85_ok,fn86_ok,fn51_ok,fn52_ok,fn79_ok,fn95_ok,fn80_ok,fn81_ok,fn96_ok,fn54_ok,fn88_ok,fn55_ok,fn14_ok, trivial⟩
end Go.Vm.Code
