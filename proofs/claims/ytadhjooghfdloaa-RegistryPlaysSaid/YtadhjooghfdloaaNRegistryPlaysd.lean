import Derived.Test.YtadhjooghfdloaaNRegistryPlaysc
namespace Go.Vm.Code
open Go Go.Vm Go.Proofs
def k3_0 : VC := .reg [⟨(some 2), .box (.tmp 0), none⟩,
    ⟨(some 4), .mv (.const (.bool false)), none⟩]
def k3_1 : VC := .reg [⟨(some 13), .mv (.tmp 1), none⟩,
    ⟨(some 14), .lenL (.tmp 13), none⟩,
    ⟨(some 15), .bin .gtr (.tmp 14) (.const (.int .i64 100)), none⟩]
def k3_2 : VC := .reg [⟨(some 16), .callF 15 [], none⟩,
    ⟨(some 4), .mv (.tmp 16), none⟩]
def k3_3 : VC := .seq k3_2 .ret
def k3_4 : VC := .cond (.tmp 15) k3_3 .skip
def k3_5 : VC := .seq k3_1 k3_4
def k3_6 : VC := .reg [⟨(some 18), .fieldA 0 (.tmp 2), none⟩,
    ⟨(some 19), .load1 (.int .i64) (.tmp 18), none⟩,
    ⟨(some 20), .fieldA 1 (.tmp 2), none⟩,
    ⟨(some 21), .load1 (.int .i64) (.tmp 20), none⟩,
    ⟨(some 22), .build [(.int .i64 0), (.int .i64 0)] [(0, 1, (.tmp 19)), (1, 1, (.tmp 21))], none⟩,
    ⟨(some 23), .callF 16 [(.tmp 22)], none⟩,
    ⟨(some 17), .mv (.tmp 23), none⟩,
    ⟨(some 24), .extract 0 (.tmp 17), none⟩,
    ⟨(some 25), .extract 1 (.tmp 17), none⟩,
    ⟨(some 5), .mv (.tmp 24), none⟩,
    ⟨(some 6), .mv (.tmp 25), none⟩]
def k3_7 : VC := .reg [⟨(some 26), .loadN [(.int .i64), (.int .i64)] (.tmp 2), none⟩,
    ⟨(some 27), .callF 17 [(.tmp 26)], none⟩,
    ⟨(some 7), .mv (.tmp 27), none⟩]
def k3_8 : VC := .reg [⟨(some 28), .mv (.tmp 5), none⟩,
    ⟨(some 29), .isNil 0 false (.tmp 28), none⟩,
    ⟨(some 30), .mv (.tmp 7), none⟩,
    ⟨(some 31), .isNil 0 false (.tmp 30), none⟩,
    ⟨(some 32), .eqB true (.tmp 29) (.tmp 31), none⟩,
    ⟨(some 33), .mv (.tmp 32), none⟩,
    ⟨(some 34), .mv (.tmp 6), (some (33, false))⟩,
    ⟨(some 35), .bin .eql (.tmp 34) (.const (.int .i64 0)), (some (33, false))⟩,
    ⟨(some 36), .mv (.tmp 7), (some (33, false))⟩,
    ⟨(some 37), .isNil 0 true (.tmp 36), (some (33, false))⟩,
    ⟨(some 38), .eqB true (.tmp 35) (.tmp 37), (some (33, false))⟩,
    ⟨(some 39), .pick (.tmp 33) (.const (.bool true)) (.tmp 38), none⟩]
def k3_9 : VC := .reg [⟨(some 4), .mv (.const (.bool false)), none⟩]
def k3_10 : VC := .seq k3_9 .ret
def k3_11 : VC := .cond (.tmp 39) k3_10 .skip
def k3_12 : VC := .seq k3_8 k3_11
def k3_13 : VC := .reg [⟨(some 8), .mv (.const (.int .i64 0)), none⟩]
def k3_14 : VC := .reg [⟨(some 40), .mv (.tmp 8), none⟩,
    ⟨(some 41), .mv (.tmp 1), none⟩,
    ⟨(some 42), .lenL (.tmp 41), none⟩,
    ⟨(some 43), .bin .lss (.tmp 40) (.tmp 42), none⟩,
    ⟨(some 44), .mv (.tmp 43), none⟩,
    ⟨(some 45), .mv (.tmp 7), (some (44, true))⟩,
    ⟨(some 46), .isNil 0 true (.tmp 45), (some (44, true))⟩,
    ⟨(some 47), .pick (.tmp 44) (.tmp 46) (.const (.bool false)), none⟩]
def k3_15 : VC := .cond (.tmp 47) .skip (.exit 0)
def k3_16 : VC := .seq k3_14 k3_15
def k3_17 : VC := .reg [⟨(some 51), .mv (.tmp 5), none⟩,
    ⟨(some 52), .mv (.tmp 1), none⟩,
    ⟨(some 53), .mv (.tmp 8), none⟩,
    ⟨(some 54), .idxAL 7 (.tmp 52) (.tmp 53), none⟩,
    ⟨(some 55), .fieldA 1 (.tmp 54), none⟩,
    ⟨(some 56), .load1 (.int .i64) (.tmp 55), none⟩,
    ⟨(some 57), .callF 18 [(.tmp 51), (.tmp 56)], none⟩,
    ⟨(some 50), .mv (.tmp 57), none⟩,
    ⟨(some 58), .extract 0 (.tmp 50), none⟩,
    ⟨(some 59), .extract 1 (.tmp 50), none⟩,
    ⟨(some 9), .alloc [(.int .i64 0), (.int .i64 0), (.int .i64 0), (.bool false), (.int .u64 0), (.int .u64 0)], none⟩,
    ⟨none, .store 6 (.tmp 9) (.tmp 58), none⟩,
    ⟨(some 10), .mv (.tmp 59), none⟩]
def k3_18 : VC := .reg [⟨(some 61), .mv (.tmp 7), none⟩,
    ⟨(some 62), .mv (.tmp 1), none⟩,
    ⟨(some 63), .mv (.tmp 8), none⟩,
    ⟨(some 64), .idxAL 7 (.tmp 62) (.tmp 63), none⟩,
    ⟨(some 65), .fieldA 1 (.tmp 64), none⟩,
    ⟨(some 66), .load1 (.int .i64) (.tmp 65), none⟩,
    ⟨(some 67), .callF 19 [(.tmp 61), (.tmp 66)], none⟩,
    ⟨(some 60), .mv (.tmp 67), none⟩,
    ⟨(some 68), .extract 0 (.tmp 60), none⟩,
    ⟨(some 69), .extract 1 (.tmp 60), none⟩,
    ⟨(some 11), .alloc [(.int .i64 0), (.int .i64 0), (.int .i64 0), (.bool false), (.int .u64 0), (.int .u64 0)], none⟩,
    ⟨none, .store 6 (.tmp 11) (.tmp 68), none⟩,
    ⟨(some 12), .mv (.tmp 69), none⟩]
def k3_19 : VC := .regD [⟨(some 70), .loadN [(.int .i64), (.int .i64), (.int .i64), .bool, (.int .u64), (.int .u64)] (.tmp 9), none⟩,
    ⟨(some 71), .loadN [(.int .i64), (.int .i64), (.int .i64), .bool, (.int .u64), (.int .u64)] (.tmp 11), none⟩,
    ⟨(some 72), .eqAgg true [(0, (.int .i64)), (1, (.int .i64)), (2, (.int .i64)), (3, .bool), (4, (.int .u64)), (5, (.int .u64))] (.tmp 70) (.tmp 71), none⟩,
    ⟨(some 73), .mv (.tmp 72), none⟩,
    ⟨(some 74), .mv (.tmp 10), (some (73, false))⟩,
    ⟨(some 75), .mv (.tmp 12), (some (73, false))⟩,
    ⟨(some 76), .eqB true (.tmp 74) (.tmp 75), (some (73, false))⟩,
    ⟨(some 77), .pick (.tmp 73) (.const (.bool true)) (.tmp 76), none⟩,
    ⟨(some 78), .mv (.tmp 77), none⟩,
    ⟨(some 79), .mv (.tmp 5), (some (78, false))⟩,
    ⟨(some 80), .mv (.tmp 7), (some (78, false))⟩,
    ⟨(some 81), .mv (.tmp 1), (some (78, false))⟩,
    ⟨(some 82), .mv (.tmp 8), (some (78, false))⟩,
    ⟨(some 83), .idxAL 7 (.tmp 81) (.tmp 82), (some (78, false))⟩,
    ⟨(some 84), .loadN [(.int .i64), (.int .i64), (.int .i64), .bool, (.int .u64), (.int .u64), .bool] (.tmp 83), (some (78, false))⟩,
    ⟨(some 85), .callF 20 [(.tmp 79), (.tmp 80), (.tmp 84)], (some (78, false))⟩,
    ⟨(some 86), .not (.tmp 85), (some (78, false))⟩,
    ⟨(some 87), .pick (.tmp 78) (.const (.bool true)) (.tmp 86), none⟩,
    ⟨(some 88), .mv (.tmp 87), none⟩,
    ⟨(some 89), .mv (.tmp 5), (some (88, false))⟩,
    ⟨(some 90), .callF 22 [(.tmp 89)], (some (88, false))⟩,
    ⟨(some 91), .mv (.tmp 7), (some (88, false))⟩,
    ⟨(some 92), .callF 23 [(.tmp 91)], (some (88, false))⟩,
    ⟨(some 93), .callF 21 [(.tmp 90), (.tmp 92)], (some (88, false))⟩,
    ⟨(some 94), .not (.tmp 93), (some (88, false))⟩,
    ⟨(some 95), .pick (.tmp 88) (.const (.bool true)) (.tmp 94), none⟩,
    ⟨(some 96), .mv (.tmp 95), none⟩,
    ⟨(some 97), .mv (.tmp 5), (some (96, false))⟩,
    ⟨(some 98), .callF 24 [(.tmp 97)], (some (96, false))⟩,
    ⟨(some 99), .mv (.tmp 7), (some (96, false))⟩,
    ⟨(some 100), .nilCheck (.tmp 99), (some (96, false))⟩,
    ⟨(some 101), .fieldA 4 (.tmp 100), (some (96, false))⟩,
    ⟨(some 102), .load1 (.int .i64) (.tmp 101), (some (96, false))⟩] [(28, 32)] [⟨(some 103), .bin .neq (.tmp 98) (.tmp 102), (some (96, false))⟩,
    ⟨(some 104), .pick (.tmp 96) (.const (.bool true)) (.tmp 103), none⟩]
def k3_20 : VC := .reg [⟨(some 4), .mv (.const (.bool false)), none⟩]
def k3_21 : VC := .seq k3_20 .ret
def k3_22 : VC := .cond (.tmp 104) k3_21 .skip
def k3_23 : VC := .seq k3_19 k3_22
def k3_24 : VC := .seq k3_18 k3_23
def k3_25 : VC := .seq k3_17 k3_24
def k3_26 : VC := .block 1 k3_25
def k3_27 : VC := .reg [⟨(some 48), .mv (.tmp 8), none⟩,
    ⟨(some 49), .bin .add (.tmp 48) (.const (.int .i64 1)), none⟩,
    ⟨(some 8), .mv (.tmp 49), none⟩]
def k3_28 : VC := .seq k3_26 k3_27
def k3_29 : VC := .seq k3_16 k3_28
def k3_30 : VC := .loop k3_29
def k3_31 : VC := .block 0 k3_30
def k3_32 : VC := .seq k3_13 k3_31
def k3_33 : VC := .reg [⟨(some 105), .callF 15 [], none⟩,
    ⟨(some 4), .mv (.tmp 105), none⟩]
def k3_34 : VC := .seq k3_33 .ret
def k3_35 : VC := .seq k3_32 k3_34
def k3_36 : VC := .seq k3_12 k3_35
def k3_37 : VC := .seq k3_7 k3_36
def k3_38 : VC := .seq k3_6 k3_37
def k3_39 : VC := .seq k3_5 k3_38
def k3_40 : VC := .seq k3_0 k3_39
def fn3 : VFn := ⟨106, k3_40, [.tmp 4]⟩
def k15_0 : VC := .reg [⟨(some 0), .mv (.const (.bool false)), none⟩]
def k15_1 : VC := .reg [⟨(some 15), .build [(.int .i64 0), (.int .i64 0)] [(0, 1, (.const (.int .i64 1))), (1, 1, (.const (.int .i64 1)))], none⟩,
    ⟨(some 16), .callF 16 [(.tmp 15)], none⟩,
    ⟨(some 14), .mv (.tmp 16), none⟩,
    ⟨(some 17), .extract 0 (.tmp 14), none⟩,
    ⟨(some 18), .extract 1 (.tmp 14), none⟩,
    ⟨(some 1), .mv (.tmp 17), none⟩,
    ⟨(some 2), .mv (.tmp 18), none⟩]
def k15_2 : VC := .reg [⟨(some 20), .mv (.tmp 1), none⟩,
    ⟨(some 21), .build [(.bool false), (.int .u64 0), (.int .u64 0)] [(2, 1, (.const (.int .u64 1)))], none⟩,
    ⟨(some 22), .callF 26 [(.tmp 20), (.const (.int .i64 5)), (.tmp 21)], none⟩,
    ⟨(some 19), .mv (.tmp 22), none⟩,
    ⟨(some 23), .extract 0 (.tmp 19), none⟩,
    ⟨(some 24), .extract 1 (.tmp 19), none⟩,
    ⟨(some 3), .mv (.tmp 23), none⟩,
    ⟨(some 4), .mv (.tmp 24), none⟩]
def k15_3 : VC := .reg [⟨(some 25), .mv (.tmp 1), none⟩,
    ⟨(some 26), .callF 27 [(.tmp 25), (.const (.int .i64 1))], none⟩,
    ⟨(some 5), .mv (.tmp 26), none⟩]
def k15_4 : VC := .reg [⟨(some 28), .mv (.tmp 1), none⟩,
    ⟨(some 29), .build [(.bool false), (.int .u64 0), (.int .u64 0)] [(2, 1, (.const (.int .u64 1)))], none⟩,
    ⟨(some 30), .callF 26 [(.tmp 28), (.const (.int .i64 5)), (.tmp 29)], none⟩,
    ⟨(some 27), .mv (.tmp 30), none⟩,
    ⟨(some 31), .extract 0 (.tmp 27), none⟩,
    ⟨(some 32), .extract 1 (.tmp 27), none⟩,
    ⟨(some 6), .mv (.tmp 31), none⟩,
    ⟨(some 7), .mv (.tmp 32), none⟩]
def k15_5 : VC := .reg [⟨(some 8), .mv (.const (.pointer none)), none⟩]
def k15_6 : VC := .reg [⟨(some 33), .build [(.int .i64 0), (.int .i64 0), (.slice none 0 0), (.int .i64 0), (.int .i64 0)] [], none⟩,
    ⟨(some 34), .box (.tmp 33), none⟩,
    ⟨(some 9), .mv (.tmp 34), none⟩]
def k15_7 : VC := .reg [⟨(some 35), .mv (.tmp 8), none⟩,
    ⟨(some 36), .callF 31 [(.tmp 35)], none⟩]
def k15_8 : VC := .reg [⟨(some 37), .mv (.tmp 9), none⟩,
    ⟨(some 38), .callF 31 [(.tmp 37)], none⟩]
def k15_9 : VC := .reg [⟨(some 40), .mv (.tmp 8), none⟩,
    ⟨(some 41), .build [(.bool false), (.int .u64 0), (.int .u64 0)] [], none⟩,
    ⟨(some 42), .callF 26 [(.tmp 40), (.const (.int .i64 1)), (.tmp 41)], none⟩,
    ⟨(some 39), .mv (.tmp 42), none⟩,
    ⟨(some 43), .extract 0 (.tmp 39), none⟩,
    ⟨(some 44), .extract 1 (.tmp 39), none⟩,
    ⟨(some 10), .mv (.tmp 43), none⟩,
    ⟨(some 11), .mv (.tmp 44), none⟩]
def k15_10 : VC := .reg [⟨(some 46), .mv (.tmp 9), none⟩,
    ⟨(some 47), .callF 18 [(.tmp 46), (.const (.int .i64 1))], none⟩,
    ⟨(some 45), .mv (.tmp 47), none⟩,
    ⟨(some 48), .extract 0 (.tmp 45), none⟩,
    ⟨(some 49), .extract 1 (.tmp 45), none⟩,
    ⟨(some 12), .alloc [(.int .i64 0), (.int .i64 0), (.int .i64 0), (.bool false), (.int .u64 0), (.int .u64 0)], none⟩,
    ⟨none, .store 6 (.tmp 12) (.tmp 48), none⟩,
    ⟨(some 13), .mv (.tmp 49), none⟩]
def k15_11 : VC := .reg [⟨(some 50), .mv (.tmp 2), none⟩,
    ⟨(some 51), .bin .eql (.tmp 50) (.const (.int .i64 0)), none⟩,
    ⟨(some 52), .mv (.tmp 51), none⟩,
    ⟨(some 53), .mv (.tmp 4), (some (52, true))⟩,
    ⟨(some 54), .bin .eql (.tmp 53) (.const (.int .i64 0)), (some (52, true))⟩,
    ⟨(some 55), .pick (.tmp 52) (.tmp 54) (.const (.bool false)), none⟩,
    ⟨(some 56), .mv (.tmp 55), none⟩,
    ⟨(some 57), .mv (.tmp 3), (some (56, true))⟩,
    ⟨(some 58), .bin .eql (.tmp 57) (.const (.int .i64 1)), (some (56, true))⟩,
    ⟨(some 59), .pick (.tmp 56) (.tmp 58) (.const (.bool false)), none⟩,
    ⟨(some 60), .mv (.tmp 59), none⟩,
    ⟨(some 61), .mv (.tmp 5), (some (60, true))⟩,
    ⟨(some 62), .bin .eql (.tmp 61) (.const (.int .i64 0)), (some (60, true))⟩,
    ⟨(some 63), .pick (.tmp 60) (.tmp 62) (.const (.bool false)), none⟩,
    ⟨(some 64), .mv (.tmp 63), none⟩,
    ⟨(some 65), .mv (.tmp 7), (some (64, true))⟩,
    ⟨(some 66), .bin .eql (.tmp 65) (.const (.int .i64 0)), (some (64, true))⟩,
    ⟨(some 67), .pick (.tmp 64) (.tmp 66) (.const (.bool false)), none⟩,
    ⟨(some 68), .mv (.tmp 67), none⟩,
    ⟨(some 69), .mv (.tmp 6), (some (68, true))⟩,
    ⟨(some 70), .bin .eql (.tmp 69) (.const (.int .i64 2)), (some (68, true))⟩,
    ⟨(some 71), .pick (.tmp 68) (.tmp 70) (.const (.bool false)), none⟩,
    ⟨(some 72), .mv (.tmp 71), none⟩,
    ⟨(some 73), .mv (.tmp 11), (some (72, true))⟩,
    ⟨(some 74), .bin .eql (.tmp 73) (.const (.int .i64 1)), (some (72, true))⟩,
    ⟨(some 75), .pick (.tmp 72) (.tmp 74) (.const (.bool false)), none⟩,
    ⟨(some 76), .mv (.tmp 75), none⟩,
    ⟨(some 77), .mv (.tmp 13), (some (76, true))⟩,
    ⟨(some 78), .not (.tmp 77), (some (76, true))⟩,
    ⟨(some 79), .pick (.tmp 76) (.tmp 78) (.const (.bool false)), none⟩,
    ⟨(some 80), .mv (.tmp 79), none⟩,
    ⟨(some 81), .mv (.tmp 8), (some (80, true))⟩,
    ⟨(some 82), .callF 27 [(.tmp 81), (.const (.int .i64 1))], (some (80, true))⟩,
    ⟨(some 83), .bin .eql (.tmp 82) (.const (.int .i64 1)), (some (80, true))⟩,
    ⟨(some 84), .pick (.tmp 80) (.tmp 83) (.const (.bool false)), none⟩,
    ⟨(some 85), .mv (.tmp 84), none⟩,
    ⟨(some 86), .mv (.tmp 8), (some (85, true))⟩,
    ⟨(some 87), .callF 24 [(.tmp 86)], (some (85, true))⟩,
    ⟨(some 88), .mv (.tmp 9), (some (85, true))⟩,
    ⟨(some 89), .callF 24 [(.tmp 88)], (some (85, true))⟩,
    ⟨(some 90), .bin .add (.tmp 87) (.tmp 89), (some (85, true))⟩,
    ⟨(some 91), .mv (.tmp 8), (some (85, true))⟩,
    ⟨(some 92), .callF 22 [(.tmp 91)], (some (85, true))⟩,
    ⟨(some 93), .lenL (.tmp 92), (some (85, true))⟩,
    ⟨(some 94), .bin .add (.tmp 90) (.tmp 93), (some (85, true))⟩,
    ⟨(some 95), .bin .eql (.tmp 94) (.const (.int .i64 0)), (some (85, true))⟩,
    ⟨(some 96), .pick (.tmp 85) (.tmp 95) (.const (.bool false)), none⟩,
    ⟨(some 0), .mv (.tmp 96), none⟩]
def k15_12 : VC := .seq k15_11 .ret
def k15_13 : VC := .seq k15_10 k15_12
def k15_14 : VC := .seq k15_9 k15_13
def k15_15 : VC := .seq k15_8 k15_14
def k15_16 : VC := .seq k15_7 k15_15
def k15_17 : VC := .seq k15_6 k15_16
def k15_18 : VC := .seq k15_5 k15_17
def k15_19 : VC := .seq k15_4 k15_18
def k15_20 : VC := .seq k15_3 k15_19
def k15_21 : VC := .seq k15_2 k15_20
def k15_22 : VC := .seq k15_1 k15_21
def k15_23 : VC := .seq k15_0 k15_22
def fn15 : VFn := ⟨97, k15_23, [.tmp 0]⟩
def k16_0 : VC := .reg [⟨(some 1), .box (.tmp 0), none⟩,
    ⟨(some 2), .mv (.const (.pointer none)), none⟩,
    ⟨(some 3), .mv (.const (.int .i64 0)), none⟩]
def k16_1 : VC := .reg [⟨(some 4), .loadN [(.int .i64), (.int .i64)] (.tmp 1), none⟩,
    ⟨(some 5), .callF 69 [(.tmp 4)], none⟩,
    ⟨(some 6), .not (.tmp 5), none⟩]
def k16_2 : VC := .reg [⟨(some 2), .mv (.const (.pointer none)), none⟩,
    ⟨(some 3), .mv (.const (.int .i64 1)), none⟩]
def k16_3 : VC := .seq k16_2 .ret
def k16_4 : VC := .cond (.tmp 6) k16_3 .skip
def k16_5 : VC := .seq k16_1 k16_4
def k16_6 : VC := .reg [⟨(some 7), .loadN [(.int .i64), (.int .i64)] (.tmp 1), none⟩,
    ⟨(some 8), .build [(.int .i64 0), (.int .i64 0), (.slice none 0 0), (.int .i64 0), (.int .i64 0)] [(0, 2, (.tmp 7))], none⟩,
    ⟨(some 9), .box (.tmp 8), none⟩,
    ⟨(some 2), .mv (.tmp 9), none⟩,
    ⟨(some 3), .mv (.const (.int .i64 0)), none⟩]
def k16_7 : VC := .seq k16_6 .ret
def k16_8 : VC := .seq k16_5 k16_7
def k16_9 : VC := .seq k16_0 k16_8
def fn16 : VFn := ⟨10, k16_9, [.tmp 2, .tmp 3]⟩
def k69_0 : VC := .reg [⟨(some 1), .box (.tmp 0), none⟩,
    ⟨(some 2), .mv (.const (.bool false)), none⟩]
def k69_1 : VC := .reg [⟨(some 3), .fieldA 0 (.tmp 1), none⟩,
    ⟨(some 4), .load1 (.int .i64) (.tmp 3), none⟩,
    ⟨(some 5), .callF 121 [(.tmp 4), (.const (.int .i64 1)), (.const (.int .i64 100))], none⟩,
    ⟨(some 6), .mv (.tmp 5), none⟩,
    ⟨(some 7), .fieldA 1 (.tmp 1), (some (6, true))⟩,
    ⟨(some 8), .load1 (.int .i64) (.tmp 7), (some (6, true))⟩,
    ⟨(some 9), .callF 121 [(.tmp 8), (.const (.int .i64 1)), (.const (.int .i64 100))], (some (6, true))⟩,
    ⟨(some 10), .pick (.tmp 6) (.tmp 9) (.const (.bool false)), none⟩,
    ⟨(some 2), .mv (.tmp 10), none⟩]
def k69_2 : VC := .seq k69_1 .ret
def k69_3 : VC := .seq k69_0 k69_2
def fn69 : VFn := ⟨11, k69_3, [.tmp 2]⟩
def k121_0 : VC := .reg [⟨(some 6), .mv (.const (.bool false)), none⟩]
def k121_1 : VC := .reg [⟨(some 7), .mv (.tmp 1), none⟩,
    ⟨(some 8), .mv (.tmp 0), none⟩,
    ⟨(some 9), .bin .leq (.tmp 7) (.tmp 8), none⟩,
    ⟨(some 10), .mv (.tmp 9), none⟩,
    ⟨(some 11), .mv (.tmp 0), (some (10, true))⟩,
    ⟨(some 12), .mv (.tmp 2), (some (10, true))⟩,
    ⟨(some 13), .bin .leq (.tmp 11) (.tmp 12), (some (10, true))⟩,
    ⟨(some 14), .pick (.tmp 10) (.tmp 13) (.const (.bool false)), none⟩,
    ⟨(some 6), .mv (.tmp 14), none⟩]
def k121_2 : VC := .seq k121_1 .ret
def k121_3 : VC := .seq k121_0 k121_2
def fn121 : VFn := ⟨15, k121_3, [.tmp 6]⟩
def k26_0 : VC := .reg [⟨(some 5), .box (.tmp 2), none⟩,
    ⟨(some 6), .mv (.const (.int .i64 0)), none⟩,
    ⟨(some 7), .mv (.const (.int .i64 0)), none⟩]
def k26_1 : VC := .reg [⟨(some 9), .mv (.tmp 0), none⟩,
    ⟨(some 10), .callF 70 [(.tmp 9)], none⟩,
    ⟨(some 11), .not (.tmp 10), none⟩,
    ⟨(some 12), .mv (.tmp 11), none⟩,
    ⟨(some 13), .mv (.tmp 1), (some (12, false))⟩,
    ⟨(some 14), .callF 81 [(.tmp 13)], (some (12, false))⟩,
    ⟨(some 15), .not (.tmp 14), (some (12, false))⟩,
    ⟨(some 16), .pick (.tmp 12) (.const (.bool true)) (.tmp 15), none⟩,
    ⟨(some 17), .mv (.tmp 16), none⟩,
    ⟨(some 18), .loadN [.bool, (.int .u64), (.int .u64)] (.tmp 5), (some (17, false))⟩,
    ⟨(some 19), .callF 82 [(.tmp 18)], (some (17, false))⟩,
    ⟨(some 20), .not (.tmp 19), (some (17, false))⟩,
    ⟨(some 21), .pick (.tmp 17) (.const (.bool true)) (.tmp 20), none⟩,
    ⟨(some 8), .mv (.tmp 21), none⟩]
def k26_2 : VC := .reg [⟨(some 6), .mv (.const (.int .i64 0)), none⟩,
    ⟨(some 7), .mv (.const (.int .i64 1)), none⟩]
def k26_3 : VC := .seq k26_2 .ret
def k26_4 : VC := .reg [⟨(some 23), .mv (.tmp 0), none⟩,
    ⟨(some 24), .nilCheck (.tmp 23), none⟩,
    ⟨(some 25), .fieldA 2 (.tmp 24), none⟩,
    ⟨(some 26), .load1 .oth (.tmp 25), none⟩,
    ⟨(some 27), .lenL (.tmp 26), none⟩,
    ⟨(some 28), .bin .eql (.tmp 27) (.const (.int .i64 64)), none⟩,
    ⟨(some 29), .mv (.tmp 28), none⟩,
    ⟨(some 30), .mv (.tmp 0), (some (29, false))⟩,
    ⟨(some 31), .nilCheck (.tmp 30), (some (29, false))⟩,
    ⟨(some 32), .fieldA 3 (.tmp 31), (some (29, false))⟩,
    ⟨(some 33), .load1 (.int .i64) (.tmp 32), (some (29, false))⟩,
    ⟨(some 34), .bin .eql (.tmp 33) (.const (.int .i64 65535)), (some (29, false))⟩,
    ⟨(some 35), .pick (.tmp 29) (.const (.bool true)) (.tmp 34), none⟩,
    ⟨(some 22), .mv (.tmp 35), none⟩]
def k26_5 : VC := .reg [⟨(some 6), .mv (.const (.int .i64 0)), none⟩,
    ⟨(some 7), .mv (.const (.int .i64 9)), none⟩]
def k26_6 : VC := .seq k26_5 .ret
def k26_7 : VC := .cond (.tmp 22) k26_6 .skip
def k26_8 : VC := .seq k26_4 k26_7
def k26_9 : VC := .cond (.tmp 8) k26_3 k26_8
def k26_10 : VC := .seq k26_1 k26_9
def k26_11 : VC := .block 0 k26_10
def k26_12 : VC := .reg [⟨(some 36), .mv (.tmp 0), none⟩,
    ⟨(some 37), .nilCheck (.tmp 36), none⟩,
    ⟨(some 38), .fieldA 3 (.tmp 37), none⟩,
    ⟨(some 39), .load1 (.int .i64) (.tmp 38), none⟩,
    ⟨(some 40), .bin .add (.tmp 39) (.const (.int .i64 1)), none⟩,
    ⟨(some 41), .nilCheck (.tmp 36), none⟩,
    ⟨(some 42), .fieldA 3 (.tmp 41), none⟩,
    ⟨none, .store 1 (.tmp 42) (.tmp 40), none⟩]
def k26_13 : VC := .reg [⟨(some 43), .mv (.tmp 0), none⟩,
    ⟨(some 44), .nilCheck (.tmp 43), none⟩,
    ⟨(some 45), .fieldA 4 (.tmp 44), none⟩,
    ⟨(some 46), .load1 (.int .i64) (.tmp 45), none⟩,
    ⟨(some 47), .bin .add (.tmp 46) (.const (.int .i64 1)), none⟩,
    ⟨(some 48), .nilCheck (.tmp 43), none⟩,
    ⟨(some 49), .fieldA 4 (.tmp 48), none⟩,
    ⟨none, .store 1 (.tmp 49) (.tmp 47), none⟩]
def k26_14 : VC := .regD [⟨(some 50), .mv (.tmp 0), none⟩,
    ⟨(some 51), .mv (.tmp 0), none⟩,
    ⟨(some 52), .nilCheck (.tmp 51), none⟩,
    ⟨(some 53), .fieldA 2 (.tmp 52), none⟩,
    ⟨(some 54), .load1 .oth (.tmp 53), none⟩,
    ⟨(some 55), .mv (.tmp 0), none⟩,
    ⟨(some 56), .nilCheck (.tmp 55), none⟩,
    ⟨(some 57), .fieldA 3 (.tmp 56), none⟩,
    ⟨(some 58), .load1 (.int .i64) (.tmp 57), none⟩,
    ⟨(some 59), .mv (.tmp 1), none⟩,
    ⟨(some 60), .loadN [.bool, (.int .u64), (.int .u64)] (.tmp 5), none⟩,
    ⟨(some 61), .build [(.int .i64 0), (.int .i64 0), (.int .i64 0), (.bool false), (.int .u64 0), (.int .u64 0)] [(0, 1, (.tmp 58)), (1, 1, (.tmp 59)), (3, 3, (.tmp 60))], none⟩,
    ⟨(some 62), .build [(.bool false), (.int .i64 0)] [(0, 1, (.const (.bool true)))], none⟩,
    ⟨(some 63), .build [(.int .i64 0), (.int .i64 0), (.int .i64 0), (.bool false), (.int .u64 0), (.int .u64 0), (.bool false), (.bool false), (.int .i64 0)] [(0, 6, (.tmp 61)), (7, 2, (.tmp 62))], none⟩,
    ⟨(some 64), .buildSl 1 9 [(.int .i64 0), (.int .i64 0), (.int .i64 0), (.bool false), (.int .u64 0), (.int .u64 0), (.bool false), (.bool false), (.int .i64 0)] [(0, 9, (.tmp 63))], none⟩,
    ⟨(some 65), .app 130 9 72 (.tmp 54) (.tmp 64), none⟩] [(4, 14)] [⟨(some 66), .nilCheck (.tmp 50), none⟩,
    ⟨(some 67), .fieldA 2 (.tmp 66), none⟩,
    ⟨none, .store 1 (.tmp 67) (.tmp 65), none⟩]
def k26_15 : VC := .reg [⟨(some 68), .mv (.tmp 0), none⟩,
    ⟨(some 69), .nilCheck (.tmp 68), none⟩,
    ⟨(some 70), .fieldA 3 (.tmp 69), none⟩,
    ⟨(some 71), .load1 (.int .i64) (.tmp 70), none⟩,
    ⟨(some 6), .mv (.tmp 71), none⟩,
    ⟨(some 7), .mv (.const (.int .i64 0)), none⟩]
def k26_16 : VC := .seq k26_15 .ret
def k26_17 : VC := .seq k26_14 k26_16
def k26_18 : VC := .seq k26_13 k26_17
def k26_19 : VC := .seq k26_12 k26_18
def k26_20 : VC := .seq k26_11 k26_19
def k26_21 : VC := .seq k26_0 k26_20
def fn26 : VFn := ⟨72, k26_21, [.tmp 6, .tmp 7]⟩
def k70_0 : VC := .reg [⟨(some 2), .mv (.const (.bool false)), none⟩]
def k70_1 : VC := .reg [⟨(some 3), .mv (.tmp 0), none⟩,
    ⟨(some 4), .isNil 0 true (.tmp 3), none⟩,
    ⟨(some 5), .mv (.tmp 4), none⟩,
    ⟨(some 6), .mv (.tmp 0), (some (5, true))⟩,
    ⟨(some 7), .nilCheck (.tmp 6), (some (5, true))⟩,
    ⟨(some 8), .fieldA 0 (.tmp 7), (some (5, true))⟩,
    ⟨(some 9), .loadN [(.int .i64), (.int .i64)] (.tmp 8), (some (5, true))⟩,
    ⟨(some 10), .callF 69 [(.tmp 9)], (some (5, true))⟩,
    ⟨(some 11), .pick (.tmp 5) (.tmp 10) (.const (.bool false)), none⟩,
    ⟨(some 2), .mv (.tmp 11), none⟩]
def k70_2 : VC := .seq k70_1 .ret
def k70_3 : VC := .seq k70_0 k70_2
def fn70 : VFn := ⟨12, k70_3, [.tmp 2]⟩
def k81_0 : VC := .reg [⟨(some 2), .mv (.const (.bool false)), none⟩]
def k81_1 : VC := .reg [⟨(some 3), .mv (.tmp 0), none⟩,
    ⟨(some 4), .bin .leq (.const (.int .i64 0)) (.tmp 3), none⟩,
    ⟨(some 5), .mv (.tmp 4), none⟩,
    ⟨(some 6), .mv (.tmp 0), (some (5, true))⟩,
    ⟨(some 7), .bin .leq (.tmp 6) (.const (.int .i64 1000)), (some (5, true))⟩,
    ⟨(some 8), .pick (.tmp 5) (.tmp 7) (.const (.bool false)), none⟩,
    ⟨(some 2), .mv (.tmp 8), none⟩]
def k81_2 : VC := .seq k81_1 .ret
def k81_3 : VC := .seq k81_0 k81_2
def fn81 : VFn := ⟨9, k81_3, [.tmp 2]⟩
def k82_0 : VC := .reg [⟨(some 1), .box (.tmp 0), none⟩,
    ⟨(some 2), .mv (.const (.bool false)), none⟩]
def k82_1 : VC := .reg [⟨(some 3), .fieldA 0 (.tmp 1), none⟩,
    ⟨(some 4), .load1 .bool (.tmp 3), none⟩,
    ⟨(some 5), .mv (.tmp 4), none⟩,
    ⟨(some 6), .fieldA 1 (.tmp 1), (some (5, false))⟩,
    ⟨(some 7), .load1 (.int .u64) (.tmp 6), (some (5, false))⟩,
    ⟨(some 8), .bin .eql (.tmp 7) (.const (.int .u64 0)), (some (5, false))⟩,
    ⟨(some 9), .mv (.tmp 8), (some (5, false))⟩,
    ⟨(some 10), .fieldA 2 (.tmp 1), (some (9, true))⟩,
    ⟨(some 11), .load1 (.int .u64) (.tmp 10), (some (9, true))⟩,
    ⟨(some 12), .bin .lss (.tmp 11) (.const (.int .u64 4294967296)), (some (9, true))⟩,
    ⟨(some 13), .pick (.tmp 9) (.tmp 12) (.const (.bool false)), (some (5, false))⟩,
    ⟨(some 14), .pick (.tmp 5) (.const (.bool true)) (.tmp 13), none⟩,
    ⟨(some 2), .mv (.tmp 14), none⟩]
def k82_2 : VC := .seq k82_1 .ret
def k82_3 : VC := .seq k82_0 k82_2
def fn82 : VFn := ⟨15, k82_3, [.tmp 2]⟩
def k27_0 : VC := .reg [⟨(some 3), .box (.tmp 1), none⟩,
    ⟨(some 4), .mv (.const (.int .i64 0)), none⟩]
def k27_1 : VC := .reg [⟨(some 6), .mv (.tmp 0), none⟩,
    ⟨(some 7), .load1 (.int .i64) (.tmp 3), none⟩,
    ⟨(some 8), .callF 83 [(.tmp 6), (.tmp 7), (.func 84)], none⟩,
    ⟨(some 5), .mv (.tmp 8), none⟩]
def k27_2 : VC := .reg [⟨(some 9), .mv (.tmp 5), none⟩,
    ⟨(some 10), .bin .eql (.tmp 9) (.const (.int .i64 0)), none⟩]
def k27_3 : VC := .reg [⟨(some 11), .mv (.tmp 0), none⟩,
    ⟨(some 12), .mv (.tmp 0), none⟩,
    ⟨(some 13), .nilCheck (.tmp 12), none⟩,
    ⟨(some 14), .fieldA 2 (.tmp 13), none⟩,
    ⟨(some 15), .load1 .oth (.tmp 14), none⟩,
    ⟨(some 16), .mkFunc 86 [] [(.tmp 3)], none⟩,
    ⟨(some 17), .callF 85 [(.tmp 15), (.tmp 16)], none⟩,
    ⟨(some 18), .nilCheck (.tmp 11), none⟩,
    ⟨(some 19), .fieldA 2 (.tmp 18), none⟩,
    ⟨none, .store 1 (.tmp 19) (.tmp 17), none⟩]
def k27_4 : VC := .cond (.tmp 10) k27_3 .skip
def k27_5 : VC := .seq k27_2 k27_4
def k27_6 : VC := .reg [⟨(some 20), .mv (.tmp 5), none⟩,
    ⟨(some 4), .mv (.tmp 20), none⟩]
def k27_7 : VC := .seq k27_6 .ret
def k27_8 : VC := .seq k27_5 k27_7
def k27_9 : VC := .seq k27_1 k27_8
def k27_10 : VC := .seq k27_0 k27_9
def fn27 : VFn := ⟨21, k27_10, [.tmp 4]⟩
def k83_0 : VC := .reg [⟨(some 6), .mv (.const (.int .i64 0)), none⟩]
def k83_1 : VC := .reg [⟨(some 10), .mv (.tmp 0), none⟩,
    ⟨(some 11), .callF 70 [(.tmp 10)], none⟩,
    ⟨(some 12), .not (.tmp 11), none⟩]
def k83_2 : VC := .reg [⟨(some 6), .mv (.const (.int .i64 1)), none⟩]
def k83_3 : VC := .seq k83_2 .ret
def k83_4 : VC := .cond (.tmp 12) k83_3 .skip
def k83_5 : VC := .seq k83_1 k83_4
def k83_6 : VC := .reg [⟨(some 14), .mv (.tmp 0), none⟩,
    ⟨(some 15), .mv (.tmp 1), none⟩,
    ⟨(some 16), .callF 71 [(.tmp 14), (.tmp 15)], none⟩,
    ⟨(some 13), .mv (.tmp 16), none⟩,
    ⟨(some 17), .extract 0 (.tmp 13), none⟩,
    ⟨(some 18), .extract 1 (.tmp 13), none⟩,
    ⟨(some 7), .mv (.tmp 17), none⟩,
    ⟨(some 8), .mv (.tmp 18), none⟩]
def k83_7 : VC := .reg [⟨(some 19), .mv (.tmp 8), none⟩,
    ⟨(some 20), .not (.tmp 19), none⟩]
def k83_8 : VC := .reg [⟨(some 6), .mv (.const (.int .i64 13)), none⟩]
def k83_9 : VC := .seq k83_8 .ret
def k83_10 : VC := .cond (.tmp 20) k83_9 .skip
def k83_11 : VC := .seq k83_7 k83_10
def k83_12 : VC := .reg [⟨(some 21), .mv (.tmp 2), none⟩,
    ⟨(some 22), .mv (.tmp 0), none⟩,
    ⟨(some 23), .nilCheck (.tmp 22), none⟩,
    ⟨(some 24), .fieldA 2 (.tmp 23), none⟩,
    ⟨(some 25), .load1 .oth (.tmp 24), none⟩,
    ⟨(some 26), .mv (.tmp 7), none⟩,
    ⟨(some 27), .idxAL 9 (.tmp 25) (.tmp 26), none⟩,
    ⟨(some 28), .callV (.tmp 21) [(.tmp 27)], none⟩,
    ⟨(some 9), .mv (.tmp 28), none⟩]
def k83_13 : VC := .reg [⟨(some 29), .mv (.tmp 9), none⟩,
    ⟨(some 30), .bin .eql (.tmp 29) (.const (.int .i64 0)), none⟩]
def k83_14 : VC := .reg [⟨(some 31), .mv (.tmp 0), none⟩,
    ⟨(some 32), .nilCheck (.tmp 31), none⟩,
    ⟨(some 33), .fieldA 4 (.tmp 32), none⟩,
    ⟨(some 34), .load1 (.int .i64) (.tmp 33), none⟩,
    ⟨(some 35), .bin .add (.tmp 34) (.const (.int .i64 1)), none⟩,
    ⟨(some 36), .nilCheck (.tmp 31), none⟩,
    ⟨(some 37), .fieldA 4 (.tmp 36), none⟩,
    ⟨none, .store 1 (.tmp 37) (.tmp 35), none⟩]
def k83_15 : VC := .cond (.tmp 30) k83_14 .skip
def k83_16 : VC := .seq k83_13 k83_15
def k83_17 : VC := .reg [⟨(some 38), .mv (.tmp 9), none⟩,
    ⟨(some 6), .mv (.tmp 38), none⟩]
def k83_18 : VC := .seq k83_17 .ret
def k83_19 : VC := .seq k83_16 k83_18
def k83_20 : VC := .seq k83_12 k83_19
def k83_21 : VC := .seq k83_11 k83_20
def k83_22 : VC := .seq k83_6 k83_21
def k83_23 : VC := .seq k83_5 k83_22
def k83_24 : VC := .seq k83_0 k83_23
def fn83 : VFn := ⟨39, k83_24, [.tmp 6]⟩
def k71_0 : VC := .reg [⟨(some 4), .mv (.const (.int .i64 0)), none⟩,
    ⟨(some 5), .mv (.const (.bool false)), none⟩]
def k71_1 : VC := .reg [⟨(some 6), .mv (.tmp 0), none⟩,
    ⟨(some 7), .nilCheck (.tmp 6), none⟩,
    ⟨(some 8), .fieldA 2 (.tmp 7), none⟩,
    ⟨(some 9), .load1 .oth (.tmp 8), none⟩,
    ⟨(some 10), .mv (.tmp 1), none⟩,
    ⟨(some 11), .callF 122 [(.tmp 9), (.tmp 10), (.func 123)], none⟩,
    ⟨(some 12), .extract 0 (.tmp 11), none⟩,
    ⟨(some 13), .extract 1 (.tmp 11), none⟩,
    ⟨(some 4), .mv (.tmp 12), none⟩,
    ⟨(some 5), .mv (.tmp 13), none⟩]
def k71_2 : VC := .seq k71_1 .ret
def k71_3 : VC := .seq k71_0 k71_2
def fn71 : VFn := ⟨14, k71_3, [.tmp 4, .tmp 5]⟩
def k122_0 : VC := .reg [⟨(some 6), .mv (.const (.int .i64 0)), none⟩,
    ⟨(some 7), .mv (.const (.bool false)), none⟩]
def k122_1 : VC := .reg [⟨(some 12), .mv (.tmp 0), none⟩,
    ⟨(some 13), .lenL (.tmp 12), none⟩,
    ⟨(some 8), .mv (.tmp 13), none⟩]
def k122_2 : VC := .reg [⟨(some 14), .mv (.tmp 8), none⟩,
    ⟨(some 9), .mv (.const (.int .i64 0)), none⟩,
    ⟨(some 10), .mv (.tmp 14), none⟩]
def k122_3 : VC := .reg [⟨(some 15), .mv (.tmp 9), none⟩,
    ⟨(some 16), .mv (.tmp 10), none⟩,
    ⟨(some 17), .bin .lss (.tmp 15) (.tmp 16), none⟩]
def k122_4 : VC := .cond (.tmp 17) .skip (.exit 0)
def k122_5 : VC := .seq k122_3 k122_4
def k122_6 : VC := .reg [⟨(some 18), .mv (.tmp 9), none⟩,
    ⟨(some 19), .mv (.tmp 10), none⟩,
    ⟨(some 20), .bin .add (.tmp 18) (.tmp 19), none⟩,
    ⟨(some 21), .conv .u64 (.tmp 20), none⟩,
    ⟨(some 22), .bin .shr (.tmp 21) (.const (.int .u64 1)), none⟩,
    ⟨(some 23), .conv .i64 (.tmp 22), none⟩,
    ⟨(some 11), .mv (.tmp 23), none⟩]
def k122_7 : VC := .reg [⟨(some 24), .mv (.tmp 2), none⟩,
    ⟨(some 25), .mv (.tmp 0), none⟩,
    ⟨(some 26), .mv (.tmp 11), none⟩,
    ⟨(some 27), .idxAL 9 (.tmp 25) (.tmp 26), none⟩,
    ⟨(some 28), .loadN [(.int .i64), (.int .i64), (.int .i64), .bool, (.int .u64), (.int .u64), .bool, .bool, (.int .i64)] (.tmp 27), none⟩,
    ⟨(some 29), .mv (.tmp 1), none⟩,
    ⟨(some 30), .callV (.tmp 24) [(.tmp 28), (.tmp 29)], none⟩,
    ⟨(some 31), .bin .lss (.tmp 30) (.const (.int .i64 0)), none⟩]
def k122_8 : VC := .reg [⟨(some 32), .mv (.tmp 11), none⟩,
    ⟨(some 33), .bin .add (.tmp 32) (.const (.int .i64 1)), none⟩,
    ⟨(some 9), .mv (.tmp 33), none⟩]
def k122_9 : VC := .reg [⟨(some 34), .mv (.tmp 11), none⟩,
    ⟨(some 10), .mv (.tmp 34), none⟩]
def k122_10 : VC := .cond (.tmp 31) k122_8 k122_9
def k122_11 : VC := .seq k122_7 k122_10
def k122_12 : VC := .seq k122_6 k122_11
def k122_13 : VC := .block 1 k122_12
def k122_14 : VC := .seq k122_5 k122_13
def k122_15 : VC := .loop k122_14
def k122_16 : VC := .block 0 k122_15
def k122_17 : VC := .reg [⟨(some 35), .mv (.tmp 9), none⟩,
    ⟨(some 36), .mv (.tmp 9), none⟩,
    ⟨(some 37), .mv (.tmp 8), none⟩,
    ⟨(some 38), .bin .lss (.tmp 36) (.tmp 37), none⟩,
    ⟨(some 39), .mv (.tmp 38), none⟩,
    ⟨(some 40), .mv (.tmp 2), (some (39, true))⟩,
    ⟨(some 41), .mv (.tmp 0), (some (39, true))⟩,
    ⟨(some 42), .mv (.tmp 9), (some (39, true))⟩,
    ⟨(some 43), .idxAL 9 (.tmp 41) (.tmp 42), (some (39, true))⟩,
    ⟨(some 44), .loadN [(.int .i64), (.int .i64), (.int .i64), .bool, (.int .u64), (.int .u64), .bool, .bool, (.int .i64)] (.tmp 43), (some (39, true))⟩,
    ⟨(some 45), .mv (.tmp 1), (some (39, true))⟩,
    ⟨(some 46), .callV (.tmp 40) [(.tmp 44), (.tmp 45)], (some (39, true))⟩,
    ⟨(some 47), .bin .eql (.tmp 46) (.const (.int .i64 0)), (some (39, true))⟩,
    ⟨(some 48), .pick (.tmp 39) (.tmp 47) (.const (.bool false)), none⟩,
    ⟨(some 6), .mv (.tmp 35), none⟩,
    ⟨(some 7), .mv (.tmp 48), none⟩]
def k122_18 : VC := .seq k122_17 .ret
def k122_19 : VC := .seq k122_16 k122_18
def k122_20 : VC := .seq k122_2 k122_19
def k122_21 : VC := .seq k122_1 k122_20
def k122_22 : VC := .seq k122_0 k122_21
def fn122 : VFn := ⟨49, k122_22, [.tmp 6, .tmp 7]⟩
def k123_0 : VC := .reg [⟨(some 2), .box (.tmp 0), none⟩,
    ⟨(some 4), .mv (.const (.int .i64 0)), none⟩]
def k123_1 : VC := .reg [⟨(some 5), .fieldA 0 (.tmp 2), none⟩,
    ⟨(some 6), .fieldA 0 (.tmp 5), none⟩,
    ⟨(some 7), .load1 (.int .i64) (.tmp 6), none⟩,
    ⟨(some 8), .mv (.tmp 1), none⟩,
    ⟨(some 9), .minmax false [(.tmp 8), (.const (.int .i64 65536))], none⟩,
    ⟨(some 10), .minmax true [(.const (.int .i64 0)), (.tmp 9)], none⟩,
    ⟨(some 11), .bin .sub (.tmp 7) (.tmp 10), none⟩,
    ⟨(some 4), .mv (.tmp 11), none⟩]
def k123_2 : VC := .seq k123_1 .ret
def k123_3 : VC := .seq k123_0 k123_2
def fn123 : VFn := ⟨12, k123_3, [.tmp 4]⟩
def k84_0 : VC := .reg [⟨(some 2), .mv (.const (.int .i64 0)), none⟩]
def k84_1 : VC := .reg [⟨(some 2), .mv (.const (.int .i64 0)), none⟩]
def k84_2 : VC := .seq k84_1 .ret
def k84_3 : VC := .seq k84_0 k84_2
def fn84 : VFn := ⟨3, k84_3, [.tmp 2]⟩
def k86_0 : VC := .reg [⟨(some 2), .box (.tmp 0), none⟩,
    ⟨(some 3), .mv (.const (.bool false)), none⟩]
def k86_1 : VC := .reg [⟨(some 4), .fieldA 0 (.tmp 2), none⟩,
    ⟨(some 5), .fieldA 0 (.tmp 4), none⟩,
    ⟨(some 6), .load1 (.int .i64) (.tmp 5), none⟩,
    ⟨(some 7), .load1 (.int .i64) (.tmp 1), none⟩,
    ⟨(some 8), .bin .eql (.tmp 6) (.tmp 7), none⟩,
    ⟨(some 3), .mv (.tmp 8), none⟩]
def k86_2 : VC := .seq k86_1 .ret
def k86_3 : VC := .seq k86_0 k86_2
def fn86 : VFn := ⟨9, k86_3, [.tmp 3]⟩
def k85_0 : VC := .reg [⟨(some 4), .mv (.const (.slice none 0 0)), none⟩]
def k85_1 : VC := .reg [⟨(some 8), .mv (.tmp 0), none⟩,
    ⟨(some 9), .mv (.tmp 1), none⟩,
    ⟨(some 10), .callF 127 [(.tmp 8), (.tmp 9)], none⟩,
    ⟨(some 5), .mv (.tmp 10), none⟩]
def k85_2 : VC := .reg [⟨(some 11), .mv (.tmp 5), none⟩,
    ⟨(some 12), .bin .eql (.tmp 11) (.const (.int .i64 (-1))), none⟩]
def k85_3 : VC := .reg [⟨(some 13), .mv (.tmp 0), none⟩,
    ⟨(some 4), .mv (.tmp 13), none⟩]
def k85_4 : VC := .seq k85_3 .ret
def k85_5 : VC := .cond (.tmp 12) k85_4 .skip
def k85_6 : VC := .seq k85_2 k85_5
def k85_7 : VC := .reg [⟨(some 14), .mv (.tmp 5), none⟩,
    ⟨(some 15), .bin .add (.tmp 14) (.const (.int .i64 1)), none⟩,
    ⟨(some 6), .mv (.tmp 15), none⟩]
def k85_8 : VC := .reg [⟨(some 16), .mv (.tmp 6), none⟩,
    ⟨(some 17), .mv (.tmp 0), none⟩,
    ⟨(some 18), .lenL (.tmp 17), none⟩,
    ⟨(some 19), .bin .lss (.tmp 16) (.tmp 18), none⟩]
def k85_9 : VC := .cond (.tmp 19) .skip (.exit 0)
def k85_10 : VC := .seq k85_8 k85_9
def k85_11 : VC := .reg [⟨(some 22), .mv (.tmp 0), none⟩,
    ⟨(some 23), .mv (.tmp 6), none⟩,
    ⟨(some 24), .idxAL 9 (.tmp 22) (.tmp 23), none⟩,
    ⟨(some 25), .loadN [(.int .i64), (.int .i64), (.int .i64), .bool, (.int .u64), (.int .u64), .bool, .bool, (.int .i64)] (.tmp 24), none⟩,
    ⟨(some 7), .alloc [(.int .i64 0), (.int .i64 0), (.int .i64 0), (.bool false), (.int .u64 0), (.int .u64 0), (.bool false), (.bool false), (.int .i64 0)], none⟩,
    ⟨none, .store 9 (.tmp 7) (.tmp 25), none⟩]
def k85_12 : VC := .reg [⟨(some 26), .mv (.tmp 1), none⟩,
    ⟨(some 27), .loadN [(.int .i64), (.int .i64), (.int .i64), .bool, (.int .u64), (.int .u64), .bool, .bool, (.int .i64)] (.tmp 7), none⟩,
    ⟨(some 28), .callV (.tmp 26) [(.tmp 27)], none⟩,
    ⟨(some 29), .not (.tmp 28), none⟩]
def k85_13 : VC := .reg [⟨(some 30), .mv (.tmp 0), none⟩,
    ⟨(some 31), .mv (.tmp 5), none⟩,
    ⟨(some 32), .loadN [(.int .i64), (.int .i64), (.int .i64), .bool, (.int .u64), (.int .u64), .bool, .bool, (.int .i64)] (.tmp 7), none⟩,
    ⟨(some 33), .idxAL 9 (.tmp 30) (.tmp 31), none⟩,
    ⟨none, .store 9 (.tmp 33) (.tmp 32), none⟩]
def k85_14 : VC := .reg [⟨(some 34), .mv (.tmp 5), none⟩,
    ⟨(some 35), .bin .add (.tmp 34) (.const (.int .i64 1)), none⟩,
    ⟨(some 5), .mv (.tmp 35), none⟩]
def k85_15 : VC := .seq k85_13 k85_14
def k85_16 : VC := .cond (.tmp 29) k85_15 .skip
def k85_17 : VC := .seq k85_12 k85_16
def k85_18 : VC := .seq k85_11 k85_17
def k85_19 : VC := .block 1 k85_18
def k85_20 : VC := .reg [⟨(some 20), .mv (.tmp 6), none⟩,
    ⟨(some 21), .bin .add (.tmp 20) (.const (.int .i64 1)), none⟩,
    ⟨(some 6), .mv (.tmp 21), none⟩]
def k85_21 : VC := .seq k85_19 k85_20
def k85_22 : VC := .seq k85_10 k85_21
def k85_23 : VC := .loop k85_22
def k85_24 : VC := .block 0 k85_23
def k85_25 : VC := .seq k85_7 k85_24
def k85_26 : VC := .reg [⟨(some 36), .mv (.tmp 0), none⟩,
    ⟨(some 37), .mv (.tmp 5), none⟩,
    ⟨(some 38), .sliceL 9 (.tmp 36) (some (.tmp 37)) none, none⟩,
    ⟨none, .clr 9 (.tmp 38), none⟩]
def k85_27 : VC := .reg [⟨(some 39), .mv (.tmp 0), none⟩,
    ⟨(some 40), .mv (.tmp 5), none⟩,
    ⟨(some 41), .sliceL 9 (.tmp 39) none (some (.tmp 40)), none⟩,
    ⟨(some 4), .mv (.tmp 41), none⟩]
def k85_28 : VC := .seq k85_27 .ret
def k85_29 : VC := .seq k85_26 k85_28
def k85_30 : VC := .seq k85_25 k85_29
def k85_31 : VC := .seq k85_6 k85_30
def k85_32 : VC := .seq k85_1 k85_31
def k85_33 : VC := .seq k85_0 k85_32
def fn85 : VFn := ⟨42, k85_33, [.tmp 4]⟩
def k127_0 : VC := .reg [⟨(some 4), .mv (.const (.int .i64 0)), none⟩]
def k127_1 : VC := .reg [⟨(some 6), .mv (.tmp 0), none⟩,
    ⟨(some 7), .lenL (.tmp 6), none⟩,
    ⟨(some 8), .mv (.const (.int .i64 0)), none⟩]
def k127_2 : VC := .reg [⟨(some 9), .bin .lss (.tmp 8) (.tmp 7), none⟩]
def k127_3 : VC := .cond (.tmp 9) .skip (.exit 0)
def k127_4 : VC := .reg [⟨(some 10), .mv (.tmp 8), none⟩,
    ⟨(some 5), .mv (.tmp 10), none⟩]
def k127_5 : VC := .reg [⟨(some 11), .mv (.tmp 1), none⟩,
    ⟨(some 12), .mv (.tmp 0), none⟩,
    ⟨(some 13), .mv (.tmp 5), none⟩,
    ⟨(some 14), .idxAL 9 (.tmp 12) (.tmp 13), none⟩,
    ⟨(some 15), .loadN [(.int .i64), (.int .i64), (.int .i64), .bool, (.int .u64), (.int .u64), .bool, .bool, (.int .i64)] (.tmp 14), none⟩,
    ⟨(some 16), .callV (.tmp 11) [(.tmp 15)], none⟩]
def k127_6 : VC := .reg [⟨(some 17), .mv (.tmp 5), none⟩,
    ⟨(some 4), .mv (.tmp 17), none⟩]
def k127_7 : VC := .seq k127_6 .ret
def k127_8 : VC := .cond (.tmp 16) k127_7 .skip
def k127_9 : VC := .seq k127_5 k127_8
def k127_10 : VC := .seq k127_4 k127_9
def k127_11 : VC := .block 1 k127_10
def k127_12 : VC := .reg [⟨(some 18), .bin .add (.tmp 8) (.const (.int .i64 1)), none⟩,
    ⟨(some 8), .mv (.tmp 18), none⟩]
def k127_13 : VC := .seq k127_11 k127_12
def k127_14 : VC := .seq k127_3 k127_13
def k127_15 : VC := .seq k127_2 k127_14
def k127_16 : VC := .loop k127_15
def k127_17 : VC := .block 0 k127_16
def k127_18 : VC := .seq k127_1 k127_17
def k127_19 : VC := .reg [⟨(some 4), .mv (.const (.int .i64 (-1))), none⟩]
def k127_20 : VC := .seq k127_19 .ret
def k127_21 : VC := .seq k127_18 k127_20
def k127_22 : VC := .seq k127_0 k127_21
def fn127 : VFn := ⟨19, k127_22, [.tmp 4]⟩
def k31_0 : VC := .reg [⟨(some 3), .mv (.tmp 0), none⟩,
    ⟨(some 4), .callF 70 [(.tmp 3)], none⟩,
    ⟨(some 5), .not (.tmp 4), none⟩]
def k31_1 : VC := .cond (.tmp 5) .ret .skip
def k31_2 : VC := .seq k31_0 k31_1
def k31_3 : VC := .reg [⟨(some 6), .mv (.tmp 0), none⟩,
    ⟨(some 7), .nilCheck (.tmp 6), none⟩,
    ⟨(some 8), .fieldA 2 (.tmp 7), none⟩,
    ⟨(some 9), .load1 .oth (.tmp 8), none⟩,
    ⟨(some 10), .lenL (.tmp 9), none⟩,
    ⟨(some 11), .mv (.const (.int .i64 0)), none⟩]
def k31_4 : VC := .reg [⟨(some 12), .bin .lss (.tmp 11) (.tmp 10), none⟩]
def k31_5 : VC := .cond (.tmp 12) .skip (.exit 0)
def k31_6 : VC := .reg [⟨(some 13), .mv (.tmp 11), none⟩,
    ⟨(some 2), .mv (.tmp 13), none⟩]
def k31_7 : VC := .reg [⟨(some 14), .mv (.tmp 0), none⟩,
    ⟨(some 15), .nilCheck (.tmp 14), none⟩,
    ⟨(some 16), .fieldA 2 (.tmp 15), none⟩,
    ⟨(some 17), .load1 .oth (.tmp 16), none⟩,
    ⟨(some 18), .mv (.tmp 2), none⟩,
    ⟨(some 19), .build [(.bool false), (.int .i64 0)] [(0, 1, (.const (.bool true)))], none⟩,
    ⟨(some 20), .idxAL 9 (.tmp 17) (.tmp 18), none⟩,
    ⟨(some 21), .fieldA 7 (.tmp 20), none⟩,
    ⟨none, .store 2 (.tmp 21) (.tmp 19), none⟩]
def k31_8 : VC := .seq k31_6 k31_7
def k31_9 : VC := .block 1 k31_8
def k31_10 : VC := .reg [⟨(some 22), .bin .add (.tmp 11) (.const (.int .i64 1)), none⟩,
    ⟨(some 11), .mv (.tmp 22), none⟩]
def k31_11 : VC := .seq k31_9 k31_10
def k31_12 : VC := .seq k31_5 k31_11
def k31_13 : VC := .seq k31_4 k31_12
def k31_14 : VC := .loop k31_13
def k31_15 : VC := .block 0 k31_14
def k31_16 : VC := .seq k31_3 k31_15
def k31_17 : VC := .reg [⟨(some 23), .mv (.tmp 0), none⟩,
    ⟨(some 24), .nilCheck (.tmp 23), none⟩,
    ⟨(some 25), .fieldA 4 (.tmp 24), none⟩,
    ⟨(some 26), .load1 (.int .i64) (.tmp 25), none⟩,
    ⟨(some 27), .bin .add (.tmp 26) (.const (.int .i64 1)), none⟩,
    ⟨(some 28), .nilCheck (.tmp 23), none⟩,
    ⟨(some 29), .fieldA 4 (.tmp 28), none⟩,
    ⟨none, .store 1 (.tmp 29) (.tmp 27), none⟩]
def k31_18 : VC := .seq k31_16 k31_17
def k31_19 : VC := .seq k31_2 k31_18
def fn31 : VFn := ⟨30, k31_19, []⟩
def k18_0 : VC := .reg [⟨(some 4), .alloc [(.int .i64 0), (.int .i64 0), (.int .i64 0), (.bool false), (.int .u64 0), (.int .u64 0)], none⟩,
    ⟨(some 5), .mv (.const (.bool false)), none⟩]
def k18_1 : VC := .reg [⟨(some 8), .mv (.tmp 0), none⟩,
    ⟨(some 9), .callF 70 [(.tmp 8)], none⟩,
    ⟨(some 10), .not (.tmp 9), none⟩]
def k18_2 : VC := .reg [⟨(some 11), .build [(.int .i64 0), (.int .i64 0), (.int .i64 0), (.bool false), (.int .u64 0), (.int .u64 0)] [], none⟩,
    ⟨none, .store 6 (.tmp 4) (.tmp 11), none⟩,
    ⟨(some 5), .mv (.const (.bool false)), none⟩]
def k18_3 : VC := .seq k18_2 .ret
def k18_4 : VC := .cond (.tmp 10) k18_3 .skip
def k18_5 : VC := .seq k18_1 k18_4
def k18_6 : VC := .reg [⟨(some 13), .mv (.tmp 0), none⟩,
    ⟨(some 14), .mv (.tmp 1), none⟩,
    ⟨(some 15), .callF 71 [(.tmp 13), (.tmp 14)], none⟩,
    ⟨(some 12), .mv (.tmp 15), none⟩,
    ⟨(some 16), .extract 0 (.tmp 12), none⟩,
    ⟨(some 17), .extract 1 (.tmp 12), none⟩,
    ⟨(some 6), .mv (.tmp 16), none⟩,
    ⟨(some 7), .mv (.tmp 17), none⟩]
def k18_7 : VC := .reg [⟨(some 18), .mv (.tmp 7), none⟩]
def k18_8 : VC := .reg [⟨(some 19), .mv (.tmp 0), none⟩,
    ⟨(some 20), .nilCheck (.tmp 19), none⟩,
    ⟨(some 21), .fieldA 2 (.tmp 20), none⟩,
    ⟨(some 22), .load1 .oth (.tmp 21), none⟩,
    ⟨(some 23), .mv (.tmp 6), none⟩,
    ⟨(some 24), .idxAL 9 (.tmp 22) (.tmp 23), none⟩,
    ⟨(some 25), .loadN [(.int .i64), (.int .i64), (.int .i64), .bool, (.int .u64), (.int .u64), .bool, .bool, (.int .i64)] (.tmp 24), none⟩,
    ⟨(some 26), .callF 72 [(.tmp 25)], none⟩,
    ⟨none, .store 6 (.tmp 4) (.tmp 26), none⟩,
    ⟨(some 5), .mv (.const (.bool true)), none⟩]
def k18_9 : VC := .seq k18_8 .ret
def k18_10 : VC := .cond (.tmp 18) k18_9 .skip
def k18_11 : VC := .seq k18_7 k18_10
def k18_12 : VC := .seq k18_6 k18_11
def k18_13 : VC := .reg [⟨(some 27), .mv (.tmp 1), none⟩,
    ⟨(some 28), .bin .lss (.tmp 27) (.const (.int .i64 1)), none⟩,
    ⟨(some 29), .mv (.tmp 28), none⟩,
    ⟨(some 30), .mv (.tmp 1), (some (29, false))⟩,
    ⟨(some 31), .mv (.tmp 0), (some (29, false))⟩,
    ⟨(some 32), .nilCheck (.tmp 31), (some (29, false))⟩,
    ⟨(some 33), .fieldA 3 (.tmp 32), (some (29, false))⟩,
    ⟨(some 34), .load1 (.int .i64) (.tmp 33), (some (29, false))⟩,
    ⟨(some 35), .bin .gtr (.tmp 30) (.tmp 34), (some (29, false))⟩,
    ⟨(some 36), .pick (.tmp 29) (.const (.bool true)) (.tmp 35), none⟩]
def k18_14 : VC := .reg [⟨(some 37), .build [(.int .i64 0), (.int .i64 0), (.int .i64 0), (.bool false), (.int .u64 0), (.int .u64 0)] [], none⟩,
    ⟨none, .store 6 (.tmp 4) (.tmp 37), none⟩,
    ⟨(some 5), .mv (.const (.bool false)), none⟩]
def k18_15 : VC := .seq k18_14 .ret
def k18_16 : VC := .cond (.tmp 36) k18_15 .skip
def k18_17 : VC := .seq k18_13 k18_16
def k18_18 : VC := .reg [⟨(some 38), .mv (.tmp 1), none⟩,
    ⟨(some 39), .build [(.int .i64 0), (.int .i64 0), (.int .i64 0), (.bool false), (.int .u64 0), (.int .u64 0)] [(0, 1, (.tmp 38)), (2, 1, (.const (.int .i64 4)))], none⟩,
    ⟨none, .store 6 (.tmp 4) (.tmp 39), none⟩,
    ⟨(some 5), .mv (.const (.bool true)), none⟩]
def k18_19 : VC := .seq k18_18 .ret
def k18_20 : VC := .seq k18_17 k18_19
def k18_21 : VC := .seq k18_12 k18_20
def k18_22 : VC := .seq k18_5 k18_21
def k18_23 : VC := .seq k18_0 k18_22
def fn18 : VFn := ⟨40, k18_23, [.cell 4 [(.int .i64), (.int .i64), (.int .i64), .bool, (.int .u64), (.int .u64)] true, .tmp 5]⟩
def k72_0 : VC := .reg [⟨(some 1), .box (.tmp 0), none⟩,
    ⟨(some 2), .alloc [(.int .i64 0), (.int .i64 0), (.int .i64 0), (.bool false), (.int .u64 0), (.int .u64 0)], none⟩]
def k72_1 : VC := .reg [⟨(some 4), .fieldA 0 (.tmp 1), none⟩,
    ⟨(some 5), .loadN [(.int .i64), (.int .i64), (.int .i64), .bool, (.int .u64), (.int .u64)] (.tmp 4), none⟩,
    ⟨(some 3), .alloc [(.int .i64 0), (.int .i64 0), (.int .i64 0), (.bool false), (.int .u64 0), (.int .u64 0)], none⟩,
    ⟨none, .store 6 (.tmp 3) (.tmp 5), none⟩]
def k72_2 : VC := .reg [⟨(some 8), .fieldA 6 (.tmp 1), none⟩,
    ⟨(some 9), .load1 .bool (.tmp 8), none⟩,
    ⟨(some 7), .mv (.tmp 9), none⟩]
def k72_3 : VC := .reg [⟨(some 10), .fieldA 2 (.tmp 3), none⟩,
    ⟨none, .store 1 (.tmp 10) (.const (.int .i64 3)), none⟩]
def k72_4 : VC := .reg [⟨(some 12), .fieldA 7 (.tmp 1), none⟩,
    ⟨(some 13), .fieldA 0 (.tmp 12), none⟩,
    ⟨(some 14), .load1 .bool (.tmp 13), none⟩,
    ⟨(some 11), .mv (.tmp 14), none⟩]
def k72_5 : VC := .reg [⟨(some 15), .fieldA 2 (.tmp 3), none⟩,
    ⟨none, .store 1 (.tmp 15) (.const (.int .i64 1)), none⟩]
def k72_6 : VC := .reg [⟨(some 6), .fieldA 2 (.tmp 3), none⟩,
    ⟨none, .store 1 (.tmp 6) (.const (.int .i64 2)), none⟩]
def k72_7 : VC := .cond (.tmp 11) k72_5 k72_6
def k72_8 : VC := .seq k72_4 k72_7
def k72_9 : VC := .cond (.tmp 7) k72_3 k72_8
def k72_10 : VC := .seq k72_2 k72_9
def k72_11 : VC := .block 0 k72_10
def k72_12 : VC := .reg [⟨(some 16), .loadN [(.int .i64), (.int .i64), (.int .i64), .bool, (.int .u64), (.int .u64)] (.tmp 3), none⟩,
    ⟨none, .store 6 (.tmp 2) (.tmp 16), none⟩]
def k72_13 : VC := .seq k72_12 .ret
def k72_14 : VC := .seq k72_11 k72_13
def k72_15 : VC := .seq k72_1 k72_14
def k72_16 : VC := .seq k72_0 k72_15
def fn72 : VFn := ⟨17, k72_16, [.cell 2 [(.int .i64), (.int .i64), (.int .i64), .bool, (.int .u64), (.int .u64)] true]⟩
def k24_0 : VC := .reg [⟨(some 2), .mv (.const (.int .i64 0)), none⟩]
def k24_1 : VC := .reg [⟨(some 3), .mv (.tmp 0), none⟩,
    ⟨(some 4), .callF 70 [(.tmp 3)], none⟩,
    ⟨(some 5), .not (.tmp 4), none⟩]
def k24_2 : VC := .reg [⟨(some 2), .mv (.const (.int .i64 0)), none⟩]
def k24_3 : VC := .seq k24_2 .ret
def k24_4 : VC := .cond (.tmp 5) k24_3 .skip
def k24_5 : VC := .seq k24_1 k24_4
def k24_6 : VC := .reg [⟨(some 6), .mv (.tmp 0), none⟩,
    ⟨(some 7), .nilCheck (.tmp 6), none⟩,
    ⟨(some 8), .fieldA 4 (.tmp 7), none⟩,
    ⟨(some 9), .load1 (.int .i64) (.tmp 8), none⟩,
    ⟨(some 2), .mv (.tmp 9), none⟩]
def k24_7 : VC := .seq k24_6 .ret
def k24_8 : VC := .seq k24_5 k24_7
def k24_9 : VC := .seq k24_0 k24_8
def fn24 : VFn := ⟨10, k24_9, [.tmp 2]⟩
def k22_0 : VC := .reg [⟨(some 2), .mv (.const (.slice none 0 0)), none⟩]
def k22_1 : VC := .reg [⟨(some 6), .mv (.tmp 0), none⟩,
    ⟨(some 7), .callF 70 [(.tmp 6)], none⟩,
    ⟨(some 8), .not (.tmp 7), none⟩]
def k22_2 : VC := .reg [⟨(some 2), .mv (.const (.slice none 0 0)), none⟩]
def k22_3 : VC := .seq k22_2 .ret
def k22_4 : VC := .cond (.tmp 8) k22_3 .skip
def k22_5 : VC := .seq k22_1 k22_4
def k22_6 : VC := .reg [⟨(some 3), .mv (.const (.slice none 0 0)), none⟩]
def k22_7 : VC := .reg [⟨(some 9), .mv (.tmp 0), none⟩,
    ⟨(some 10), .nilCheck (.tmp 9), none⟩,
    ⟨(some 11), .fieldA 2 (.tmp 10), none⟩,
    ⟨(some 12), .load1 .oth (.tmp 11), none⟩,
    ⟨(some 13), .lenL (.tmp 12), none⟩,
    ⟨(some 14), .mv (.const (.int .i64 0)), none⟩]
def k22_8 : VC := .reg [⟨(some 15), .bin .lss (.tmp 14) (.tmp 13), none⟩]
def k22_9 : VC := .cond (.tmp 15) .skip (.exit 0)
def k22_10 : VC := .reg [⟨(some 16), .idxAL 9 (.tmp 12) (.tmp 14), none⟩,
    ⟨(some 17), .loadN [(.int .i64), (.int .i64), (.int .i64), .bool, (.int .u64), (.int .u64), .bool, .bool, (.int .i64)] (.tmp 16), none⟩,
    ⟨(some 5), .alloc [(.int .i64 0), (.int .i64 0), (.int .i64 0), (.bool false), (.int .u64 0), (.int .u64 0), (.bool false), (.bool false), (.int .i64 0)], none⟩,
    ⟨none, .store 9 (.tmp 5) (.tmp 17), none⟩]
def k22_11 : VC := .reg [⟨(some 18), .mv (.tmp 3), none⟩,
    ⟨(some 19), .loadN [(.int .i64), (.int .i64), (.int .i64), .bool, (.int .u64), (.int .u64), .bool, .bool, (.int .i64)] (.tmp 5), none⟩,
    ⟨(some 20), .callF 72 [(.tmp 19)], none⟩,
    ⟨(some 21), .buildSl 1 6 [(.int .i64 0), (.int .i64 0), (.int .i64 0), (.bool false), (.int .u64 0), (.int .u64 0)] [(0, 6, (.tmp 20))], none⟩,
    ⟨(some 22), .app 37 6 48 (.tmp 18) (.tmp 21), none⟩,
    ⟨(some 3), .mv (.tmp 22), none⟩]
def k22_12 : VC := .seq k22_10 k22_11
def k22_13 : VC := .block 1 k22_12
def k22_14 : VC := .reg [⟨(some 23), .bin .add (.tmp 14) (.const (.int .i64 1)), none⟩,
    ⟨(some 14), .mv (.tmp 23), none⟩]
def k22_15 : VC := .seq k22_13 k22_14
def k22_16 : VC := .seq k22_9 k22_15
def k22_17 : VC := .seq k22_8 k22_16
def k22_18 : VC := .loop k22_17
def k22_19 : VC := .block 0 k22_18
def k22_20 : VC := .seq k22_7 k22_19
def k22_21 : VC := .reg [⟨(some 24), .mv (.tmp 3), none⟩,
    ⟨(some 2), .mv (.tmp 24), none⟩]
def k22_22 : VC := .seq k22_21 .ret
def k22_23 : VC := .seq k22_20 k22_22
def k22_24 : VC := .seq k22_6 k22_23
def k22_25 : VC := .seq k22_5 k22_24
def k22_26 : VC := .seq k22_0 k22_25
def fn22 : VFn := ⟨25, k22_26, [.tmp 2]⟩
def k17_0 : VC := .reg [⟨(some 1), .box (.tmp 0), none⟩,
    ⟨(some 2), .mv (.const (.pointer none)), none⟩]
def k17_1 : VC := .reg [⟨(some 3), .loadN [(.int .i64), (.int .i64)] (.tmp 1), none⟩,
    ⟨(some 4), .callF 25 [(.tmp 3)], none⟩,
    ⟨(some 5), .not (.tmp 4), none⟩]
def k17_2 : VC := .reg [⟨(some 2), .mv (.const (.pointer none)), none⟩]
def k17_3 : VC := .seq k17_2 .ret
def k17_4 : VC := .cond (.tmp 5) k17_3 .skip
def k17_5 : VC := .seq k17_1 k17_4
def k17_6 : VC := .reg [⟨(some 6), .loadN [(.int .i64), (.int .i64)] (.tmp 1), none⟩,
    ⟨(some 7), .build [(.int .i64 0), (.int .i64 0), (.slice none 0 0), (.int .i64 0), (.int .i64 0)] [(0, 2, (.tmp 6))], none⟩,
    ⟨(some 8), .box (.tmp 7), none⟩,
    ⟨(some 2), .mv (.tmp 8), none⟩]
def k17_7 : VC := .seq k17_6 .ret
def k17_8 : VC := .seq k17_5 k17_7
def k17_9 : VC := .seq k17_0 k17_8
def fn17 : VFn := ⟨9, k17_9, [.tmp 2]⟩
def k25_0 : VC := .reg [⟨(some 1), .box (.tmp 0), none⟩,
    ⟨(some 2), .mv (.const (.bool false)), none⟩]
def k25_1 : VC := .reg [⟨(some 3), .fieldA 0 (.tmp 1), none⟩,
    ⟨(some 4), .load1 (.int .i64) (.tmp 3), none⟩,
    ⟨(some 5), .bin .geq (.tmp 4) (.const (.int .i64 1)), none⟩,
    ⟨(some 6), .mv (.tmp 5), none⟩,
    ⟨(some 7), .fieldA 0 (.tmp 1), (some (6, true))⟩,
    ⟨(some 8), .load1 (.int .i64) (.tmp 7), (some (6, true))⟩,
    ⟨(some 9), .bin .leq (.tmp 8) (.const (.int .i64 100)), (some (6, true))⟩,
    ⟨(some 10), .pick (.tmp 6) (.tmp 9) (.const (.bool false)), none⟩,
    ⟨(some 11), .mv (.tmp 10), none⟩,
    ⟨(some 12), .fieldA 1 (.tmp 1), (some (11, true))⟩,
    ⟨(some 13), .load1 (.int .i64) (.tmp 12), (some (11, true))⟩,
    ⟨(some 14), .bin .geq (.tmp 13) (.const (.int .i64 1)), (some (11, true))⟩,
    ⟨(some 15), .pick (.tmp 11) (.tmp 14) (.const (.bool false)), none⟩,
    ⟨(some 16), .mv (.tmp 15), none⟩,
    ⟨(some 17), .fieldA 1 (.tmp 1), (some (16, true))⟩,
    ⟨(some 18), .load1 (.int .i64) (.tmp 17), (some (16, true))⟩,
    ⟨(some 19), .bin .leq (.tmp 18) (.const (.int .i64 100)), (some (16, true))⟩,
    ⟨(some 20), .pick (.tmp 16) (.tmp 19) (.const (.bool false)), none⟩,
    ⟨(some 2), .mv (.tmp 20), none⟩]
def k25_2 : VC := .seq k25_1 .ret
def k25_3 : VC := .seq k25_0 k25_2
def fn25 : VFn := ⟨21, k25_3, [.tmp 2]⟩
def k19_0 : VC := .reg [⟨(some 4), .alloc [(.int .i64 0), (.int .i64 0), (.int .i64 0), (.bool false), (.int .u64 0), (.int .u64 0)], none⟩,
    ⟨(some 5), .mv (.const (.bool false)), none⟩]
def k19_1 : VC := .reg [⟨(some 7), .mv (.tmp 0), none⟩,
    ⟨(some 8), .mv (.tmp 1), none⟩,
    ⟨(some 9), .callF 73 [(.tmp 7), (.tmp 8)], none⟩,
    ⟨(some 6), .mv (.tmp 9), none⟩]
def k19_2 : VC := .reg [⟨(some 10), .mv (.tmp 6), none⟩,
    ⟨(some 11), .bin .geq (.tmp 10) (.const (.int .i64 0)), none⟩]
def k19_3 : VC := .reg [⟨(some 12), .mv (.tmp 0), none⟩,
    ⟨(some 13), .nilCheck (.tmp 12), none⟩,
    ⟨(some 14), .fieldA 2 (.tmp 13), none⟩,
    ⟨(some 15), .load1 .oth (.tmp 14), none⟩,
    ⟨(some 16), .mv (.tmp 6), none⟩,
    ⟨(some 17), .idxAL 8 (.tmp 15) (.tmp 16), none⟩,
    ⟨(some 18), .loadN [(.int .i64), (.int .i64), .bool, (.int .u64), (.int .u64), .bool, .bool, (.int .i64)] (.tmp 17), none⟩,
    ⟨(some 19), .callF 74 [(.tmp 18)], none⟩,
    ⟨none, .store 6 (.tmp 4) (.tmp 19), none⟩,
    ⟨(some 5), .mv (.const (.bool true)), none⟩]
def k19_4 : VC := .seq k19_3 .ret
def k19_5 : VC := .cond (.tmp 11) k19_4 .skip
def k19_6 : VC := .seq k19_2 k19_5
def k19_7 : VC := .reg [⟨(some 20), .mv (.tmp 1), none⟩,
    ⟨(some 21), .bin .geq (.tmp 20) (.const (.int .i64 1)), none⟩,
    ⟨(some 22), .mv (.tmp 21), none⟩,
    ⟨(some 23), .mv (.tmp 1), (some (22, true))⟩,
    ⟨(some 24), .mv (.tmp 0), (some (22, true))⟩,
    ⟨(some 25), .nilCheck (.tmp 24), (some (22, true))⟩,
    ⟨(some 26), .fieldA 3 (.tmp 25), (some (22, true))⟩,
    ⟨(some 27), .load1 (.int .i64) (.tmp 26), (some (22, true))⟩,
    ⟨(some 28), .bin .leq (.tmp 23) (.tmp 27), (some (22, true))⟩,
    ⟨(some 29), .pick (.tmp 22) (.tmp 28) (.const (.bool false)), none⟩]
def k19_8 : VC := .reg [⟨(some 30), .mv (.tmp 1), none⟩,
    ⟨(some 31), .build [(.int .i64 0), (.int .i64 0), (.int .i64 0), (.bool false), (.int .u64 0), (.int .u64 0)] [(0, 1, (.tmp 30)), (2, 1, (.const (.int .i64 4)))], none⟩,
    ⟨none, .store 6 (.tmp 4) (.tmp 31), none⟩,
    ⟨(some 5), .mv (.const (.bool true)), none⟩]
def k19_9 : VC := .seq k19_8 .ret
def k19_10 : VC := .cond (.tmp 29) k19_9 .skip
def k19_11 : VC := .seq k19_7 k19_10
def k19_12 : VC := .reg [⟨(some 32), .build [(.int .i64 0), (.int .i64 0), (.int .i64 0), (.bool false), (.int .u64 0), (.int .u64 0)] [], none⟩,
    ⟨none, .store 6 (.tmp 4) (.tmp 32), none⟩,
    ⟨(some 5), .mv (.const (.bool false)), none⟩]
def k19_13 : VC := .seq k19_12 .ret
def k19_14 : VC := .seq k19_11 k19_13
def k19_15 : VC := .seq k19_6 k19_14
def k19_16 : VC := .seq k19_1 k19_15
def k19_17 : VC := .seq k19_0 k19_16
def fn19 : VFn := ⟨33, k19_17, [.cell 4 [(.int .i64), (.int .i64), (.int .i64), .bool, (.int .u64), (.int .u64)] true, .tmp 5]⟩
def k73_0 : VC := .reg [⟨(some 4), .mv (.const (.int .i64 0)), none⟩]
def k73_1 : VC := .reg [⟨(some 5), .mv (.const (.int .i64 0)), none⟩]
def k73_2 : VC := .reg [⟨(some 6), .mv (.tmp 5), none⟩,
    ⟨(some 7), .mv (.tmp 0), none⟩,
    ⟨(some 8), .nilCheck (.tmp 7), none⟩,
    ⟨(some 9), .fieldA 2 (.tmp 8), none⟩,
    ⟨(some 10), .load1 .oth (.tmp 9), none⟩,
    ⟨(some 11), .lenL (.tmp 10), none⟩,
    ⟨(some 12), .bin .lss (.tmp 6) (.tmp 11), none⟩]
def k73_3 : VC := .cond (.tmp 12) .skip (.exit 0)
def k73_4 : VC := .seq k73_2 k73_3
def k73_5 : VC := .reg [⟨(some 15), .mv (.tmp 0), none⟩,
    ⟨(some 16), .nilCheck (.tmp 15), none⟩,
    ⟨(some 17), .fieldA 2 (.tmp 16), none⟩,
    ⟨(some 18), .load1 .oth (.tmp 17), none⟩,
    ⟨(some 19), .mv (.tmp 5), none⟩,
    ⟨(some 20), .idxAL 8 (.tmp 18) (.tmp 19), none⟩,
    ⟨(some 21), .fieldA 0 (.tmp 20), none⟩,
    ⟨(some 22), .load1 (.int .i64) (.tmp 21), none⟩,
    ⟨(some 23), .mv (.tmp 1), none⟩,
    ⟨(some 24), .bin .eql (.tmp 22) (.tmp 23), none⟩]
def k73_6 : VC := .reg [⟨(some 25), .mv (.tmp 5), none⟩,
    ⟨(some 4), .mv (.tmp 25), none⟩]
def k73_7 : VC := .seq k73_6 .ret
def k73_8 : VC := .cond (.tmp 24) k73_7 .skip
def k73_9 : VC := .seq k73_5 k73_8
def k73_10 : VC := .block 1 k73_9
def k73_11 : VC := .reg [⟨(some 13), .mv (.tmp 5), none⟩,
    ⟨(some 14), .bin .add (.tmp 13) (.const (.int .i64 1)), none⟩,
    ⟨(some 5), .mv (.tmp 14), none⟩]
def k73_12 : VC := .seq k73_10 k73_11
def k73_13 : VC := .seq k73_4 k73_12
def k73_14 : VC := .loop k73_13
def k73_15 : VC := .block 0 k73_14
def k73_16 : VC := .seq k73_1 k73_15
def k73_17 : VC := .reg [⟨(some 4), .mv (.const (.int .i64 (-1))), none⟩]
def k73_18 : VC := .seq k73_17 .ret
def k73_19 : VC := .seq k73_16 k73_18
def k73_20 : VC := .seq k73_0 k73_19
def fn73 : VFn := ⟨26, k73_20, [.tmp 4]⟩
def k74_0 : VC := .reg [⟨(some 1), .box (.tmp 0), none⟩,
    ⟨(some 2), .alloc [(.int .i64 0), (.int .i64 0), (.int .i64 0), (.bool false), (.int .u64 0), (.int .u64 0)], none⟩]
def k74_1 : VC := .reg [⟨(some 4), .fieldA 0 (.tmp 1), none⟩,
    ⟨(some 5), .load1 (.int .i64) (.tmp 4), none⟩,
    ⟨(some 6), .fieldA 1 (.tmp 1), none⟩,
    ⟨(some 7), .load1 (.int .i64) (.tmp 6), none⟩,
    ⟨(some 8), .fieldA 2 (.tmp 1), none⟩,
    ⟨(some 9), .loadN [.bool, (.int .u64), (.int .u64)] (.tmp 8), none⟩,
    ⟨(some 10), .build [(.int .i64 0), (.int .i64 0), (.int .i64 0), (.bool false), (.int .u64 0), (.int .u64 0)] [(0, 1, (.tmp 5)), (1, 1, (.tmp 7)), (3, 3, (.tmp 9)), (2, 1, (.const (.int .i64 2)))], none⟩,
    ⟨(some 3), .alloc [(.int .i64 0), (.int .i64 0), (.int .i64 0), (.bool false), (.int .u64 0), (.int .u64 0)], none⟩,
    ⟨none, .store 6 (.tmp 3) (.tmp 10), none⟩]
def k74_2 : VC := .reg [⟨(some 11), .fieldA 6 (.tmp 1), none⟩,
    ⟨(some 12), .fieldA 0 (.tmp 11), none⟩,
    ⟨(some 13), .load1 .bool (.tmp 12), none⟩]
def k74_3 : VC := .reg [⟨(some 14), .fieldA 2 (.tmp 3), none⟩,
    ⟨none, .store 1 (.tmp 14) (.const (.int .i64 1)), none⟩]
def k74_4 : VC := .cond (.tmp 13) k74_3 .skip
def k74_5 : VC := .seq k74_2 k74_4
def k74_6 : VC := .reg [⟨(some 15), .fieldA 5 (.tmp 1), none⟩,
    ⟨(some 16), .load1 .bool (.tmp 15), none⟩]
def k74_7 : VC := .reg [⟨(some 17), .fieldA 2 (.tmp 3), none⟩,
    ⟨none, .store 1 (.tmp 17) (.const (.int .i64 3)), none⟩]
def k74_8 : VC := .cond (.tmp 16) k74_7 .skip
def k74_9 : VC := .seq k74_6 k74_8
def k74_10 : VC := .reg [⟨(some 18), .loadN [(.int .i64), (.int .i64), (.int .i64), .bool, (.int .u64), (.int .u64)] (.tmp 3), none⟩,
    ⟨none, .store 6 (.tmp 2) (.tmp 18), none⟩]
def k74_11 : VC := .seq k74_10 .ret
def k74_12 : VC := .seq k74_9 k74_11
def k74_13 : VC := .seq k74_5 k74_12
def k74_14 : VC := .seq k74_1 k74_13
def k74_15 : VC := .seq k74_0 k74_14
def fn74 : VFn := ⟨19, k74_15, [.cell 2 [(.int .i64), (.int .i64), (.int .i64), .bool, (.int .u64), (.int .u64)] true]⟩
def k20_0 : VC := .reg [⟨(some 5), .box (.tmp 2), none⟩,
    ⟨(some 6), .mv (.const (.bool false)), none⟩]
def k20_1 : VC := .reg [⟨(some 15), .fieldA 0 (.tmp 5), none⟩,
    ⟨(some 16), .load1 (.int .i64) (.tmp 15), none⟩]
def k20_2 : VC := .reg [⟨(some 18), .bin .eql (.tmp 16) (.const (.int .i64 0)), none⟩,
    ⟨(some 17), .mv (.tmp 18), none⟩]
def k20_3 : VC := .reg [⟨(some 20), .mv (.tmp 0), none⟩,
    ⟨(some 21), .fieldA 2 (.tmp 5), none⟩,
    ⟨(some 22), .load1 (.int .i64) (.tmp 21), none⟩,
    ⟨(some 23), .fieldA 3 (.tmp 5), none⟩,
    ⟨(some 24), .loadN [.bool, (.int .u64), (.int .u64)] (.tmp 23), none⟩,
    ⟨(some 25), .callF 26 [(.tmp 20), (.tmp 22), (.tmp 24)], none⟩,
    ⟨(some 19), .mv (.tmp 25), none⟩,
    ⟨(some 26), .extract 0 (.tmp 19), none⟩,
    ⟨(some 27), .extract 1 (.tmp 19), none⟩,
    ⟨(some 7), .mv (.tmp 26), none⟩,
    ⟨(some 8), .mv (.tmp 27), none⟩]
def k20_4 : VC := .reg [⟨(some 29), .mv (.tmp 1), none⟩,
    ⟨(some 30), .fieldA 2 (.tmp 5), none⟩,
    ⟨(some 31), .load1 (.int .i64) (.tmp 30), none⟩,
    ⟨(some 32), .fieldA 3 (.tmp 5), none⟩,
    ⟨(some 33), .loadN [.bool, (.int .u64), (.int .u64)] (.tmp 32), none⟩,
    ⟨(some 34), .callF 75 [(.tmp 29), (.tmp 31), (.tmp 33)], none⟩,
    ⟨(some 28), .mv (.tmp 34), none⟩,
    ⟨(some 35), .extract 0 (.tmp 28), none⟩,
    ⟨(some 36), .extract 1 (.tmp 28), none⟩,
    ⟨(some 9), .mv (.tmp 35), none⟩,
    ⟨(some 10), .mv (.tmp 36), none⟩]
def k20_5 : VC := .reg [⟨(some 37), .mv (.tmp 7), none⟩,
    ⟨(some 38), .mv (.tmp 9), none⟩,
    ⟨(some 39), .bin .eql (.tmp 37) (.tmp 38), none⟩,
    ⟨(some 40), .mv (.tmp 39), none⟩,
    ⟨(some 41), .mv (.tmp 8), (some (40, true))⟩,
    ⟨(some 42), .mv (.tmp 10), (some (40, true))⟩,
    ⟨(some 43), .bin .eql (.tmp 41) (.tmp 42), (some (40, true))⟩,
    ⟨(some 44), .pick (.tmp 40) (.tmp 43) (.const (.bool false)), none⟩,
    ⟨(some 6), .mv (.tmp 44), none⟩]
def k20_6 : VC := .seq k20_5 .ret
def k20_7 : VC := .seq k20_4 k20_6
def k20_8 : VC := .seq k20_3 k20_7
def k20_9 : VC := .reg [⟨(some 46), .bin .eql (.tmp 16) (.const (.int .i64 1)), none⟩,
    ⟨(some 45), .mv (.tmp 46), none⟩]
def k20_10 : VC := .regD [⟨(some 47), .mv (.tmp 0), none⟩,
    ⟨(some 48), .fieldA 1 (.tmp 5), none⟩,
    ⟨(some 49), .load1 (.int .i64) (.tmp 48), none⟩,
    ⟨(some 50), .callF 27 [(.tmp 47), (.tmp 49)], none⟩,
    ⟨(some 51), .mv (.tmp 1), none⟩,
    ⟨(some 52), .fieldA 1 (.tmp 5), none⟩,
    ⟨(some 53), .load1 (.int .i64) (.tmp 52), none⟩] [(3, 6)] [⟨(some 54), .callF 76 [(.tmp 51), (.tmp 53)], none⟩,
    ⟨(some 55), .bin .eql (.tmp 50) (.tmp 54), none⟩,
    ⟨(some 6), .mv (.tmp 55), none⟩]
def k20_11 : VC := .seq k20_10 .ret
def k20_12 : VC := .reg [⟨(some 57), .bin .eql (.tmp 16) (.const (.int .i64 2)), none⟩,
    ⟨(some 56), .mv (.tmp 57), none⟩]
def k20_13 : VC := .regD [⟨(some 58), .mv (.tmp 0), none⟩,
    ⟨(some 59), .fieldA 1 (.tmp 5), none⟩,
    ⟨(some 60), .load1 (.int .i64) (.tmp 59), none⟩,
    ⟨(some 61), .fieldA 6 (.tmp 5), none⟩,
    ⟨(some 62), .load1 .bool (.tmp 61), none⟩,
    ⟨(some 63), .callF 28 [(.tmp 58), (.tmp 60), (.tmp 62)], none⟩,
    ⟨(some 64), .mv (.tmp 1), none⟩,
    ⟨(some 65), .fieldA 1 (.tmp 5), none⟩,
    ⟨(some 66), .load1 (.int .i64) (.tmp 65), none⟩,
    ⟨(some 67), .fieldA 6 (.tmp 5), none⟩,
    ⟨(some 68), .load1 .bool (.tmp 67), none⟩] [(5, 8), (5, 10)] [⟨(some 69), .callF 77 [(.tmp 64), (.tmp 66), (.tmp 68)], none⟩,
    ⟨(some 70), .bin .eql (.tmp 63) (.tmp 69), none⟩,
    ⟨(some 6), .mv (.tmp 70), none⟩]
def k20_14 : VC := .seq k20_13 .ret
def k20_15 : VC := .reg [⟨(some 72), .bin .eql (.tmp 16) (.const (.int .i64 3)), none⟩,
    ⟨(some 71), .mv (.tmp 72), none⟩]
def k20_16 : VC := .regD [⟨(some 73), .mv (.tmp 0), none⟩,
    ⟨(some 74), .fieldA 1 (.tmp 5), none⟩,
    ⟨(some 75), .load1 (.int .i64) (.tmp 74), none⟩,
    ⟨(some 76), .fieldA 2 (.tmp 5), none⟩,
    ⟨(some 77), .load1 (.int .i64) (.tmp 76), none⟩,
    ⟨(some 78), .callF 29 [(.tmp 73), (.tmp 75), (.tmp 77)], none⟩,
    ⟨(some 79), .mv (.tmp 1), none⟩,
    ⟨(some 80), .fieldA 1 (.tmp 5), none⟩,
    ⟨(some 81), .load1 (.int .i64) (.tmp 80), none⟩,
    ⟨(some 82), .fieldA 2 (.tmp 5), none⟩,
    ⟨(some 83), .load1 (.int .i64) (.tmp 82), none⟩] [(5, 8), (5, 10)] [⟨(some 84), .callF 78 [(.tmp 79), (.tmp 81), (.tmp 83)], none⟩,
    ⟨(some 85), .bin .eql (.tmp 78) (.tmp 84), none⟩,
    ⟨(some 6), .mv (.tmp 85), none⟩]
def k20_17 : VC := .seq k20_16 .ret
def k20_18 : VC := .reg [⟨(some 87), .bin .eql (.tmp 16) (.const (.int .i64 4)), none⟩,
    ⟨(some 86), .mv (.tmp 87), none⟩]
def k20_19 : VC := .reg [⟨(some 89), .mv (.tmp 0), none⟩,
    ⟨(some 90), .fieldA 1 (.tmp 5), none⟩,
    ⟨(some 91), .load1 (.int .i64) (.tmp 90), none⟩,
    ⟨(some 92), .fieldA 6 (.tmp 5), none⟩,
    ⟨(some 93), .load1 .bool (.tmp 92), none⟩,
    ⟨(some 94), .callF 30 [(.tmp 89), (.tmp 91), (.tmp 93)], none⟩,
    ⟨(some 88), .mv (.tmp 94), none⟩,
    ⟨(some 95), .extract 0 (.tmp 88), none⟩,
    ⟨(some 96), .extract 1 (.tmp 88), none⟩,
    ⟨(some 11), .mv (.tmp 95), none⟩,
    ⟨(some 12), .mv (.tmp 96), none⟩]
def k20_20 : VC := .reg [⟨(some 98), .mv (.tmp 1), none⟩,
    ⟨(some 99), .fieldA 1 (.tmp 5), none⟩,
    ⟨(some 100), .load1 (.int .i64) (.tmp 99), none⟩,
    ⟨(some 101), .fieldA 6 (.tmp 5), none⟩,
    ⟨(some 102), .load1 .bool (.tmp 101), none⟩,
    ⟨(some 103), .callF 79 [(.tmp 98), (.tmp 100), (.tmp 102)], none⟩,
    ⟨(some 97), .mv (.tmp 103), none⟩,
    ⟨(some 104), .extract 0 (.tmp 97), none⟩,
    ⟨(some 105), .extract 1 (.tmp 97), none⟩,
    ⟨(some 13), .mv (.tmp 104), none⟩,
    ⟨(some 14), .mv (.tmp 105), none⟩]
def k20_21 : VC := .reg [⟨(some 106), .mv (.tmp 11), none⟩,
    ⟨(some 107), .mv (.tmp 13), none⟩,
    ⟨(some 108), .eqB false (.tmp 106) (.tmp 107), none⟩,
    ⟨(some 109), .mv (.tmp 108), none⟩,
    ⟨(some 110), .mv (.tmp 12), (some (109, true))⟩,
    ⟨(some 111), .mv (.tmp 14), (some (109, true))⟩,
    ⟨(some 112), .bin .eql (.tmp 110) (.tmp 111), (some (109, true))⟩,
    ⟨(some 113), .pick (.tmp 109) (.tmp 112) (.const (.bool false)), none⟩,
    ⟨(some 6), .mv (.tmp 113), none⟩]
def k20_22 : VC := .seq k20_21 .ret
def k20_23 : VC := .seq k20_20 k20_22
def k20_24 : VC := .seq k20_19 k20_23
def k20_25 : VC := .reg [⟨(some 115), .bin .eql (.tmp 16) (.const (.int .i64 5)), none⟩,
    ⟨(some 114), .mv (.tmp 115), none⟩]
def k20_26 : VC := .reg [⟨(some 116), .mv (.tmp 0), none⟩,
    ⟨(some 117), .callF 31 [(.tmp 116)], none⟩]
def k20_27 : VC := .reg [⟨(some 118), .mv (.tmp 1), none⟩,
    ⟨(some 119), .callF 80 [(.tmp 118)], none⟩]
def k20_28 : VC := .seq k20_26 k20_27
def k20_29 : VC := .cond (.tmp 114) k20_28 .skip
def k20_30 : VC := .seq k20_25 k20_29
def k20_31 : VC := .cond (.tmp 86) k20_24 k20_30
def k20_32 : VC := .seq k20_18 k20_31
def k20_33 : VC := .cond (.tmp 71) k20_17 k20_32
def k20_34 : VC := .seq k20_15 k20_33
def k20_35 : VC := .cond (.tmp 56) k20_14 k20_34
def k20_36 : VC := .seq k20_12 k20_35
def k20_37 : VC := .cond (.tmp 45) k20_11 k20_36
def k20_38 : VC := .seq k20_9 k20_37
def k20_39 : VC := .cond (.tmp 17) k20_8 k20_38
def k20_40 : VC := .seq k20_2 k20_39
def k20_41 : VC := .block 0 k20_40
def k20_42 : VC := .seq k20_1 k20_41
def k20_43 : VC := .reg [⟨(some 6), .mv (.const (.bool true)), none⟩]
def k20_44 : VC := .seq k20_43 .ret
def k20_45 : VC := .seq k20_42 k20_44
def k20_46 : VC := .seq k20_0 k20_45
def fn20 : VFn := ⟨120, k20_46, [.tmp 6]⟩
def k75_0 : VC := .reg [⟨(some 5), .box (.tmp 2), none⟩,
    ⟨(some 6), .mv (.const (.int .i64 0)), none⟩,
    ⟨(some 7), .mv (.const (.int .i64 0)), none⟩]
def k75_1 : VC := .reg [⟨(some 8), .mv (.tmp 1), none⟩,
    ⟨(some 9), .callF 124 [(.tmp 8)], none⟩,
    ⟨(some 10), .not (.tmp 9), none⟩,
    ⟨(some 11), .mv (.tmp 10), none⟩,
    ⟨(some 12), .loadN [.bool, (.int .u64), (.int .u64)] (.tmp 5), (some (11, false))⟩,
    ⟨(some 13), .callF 115 [(.tmp 12)], (some (11, false))⟩,
    ⟨(some 14), .not (.tmp 13), (some (11, false))⟩,
    ⟨(some 15), .pick (.tmp 11) (.const (.bool true)) (.tmp 14), none⟩]
def k75_2 : VC := .reg [⟨(some 6), .mv (.const (.int .i64 0)), none⟩,
    ⟨(some 7), .mv (.const (.int .i64 1)), none⟩]
def k75_3 : VC := .seq k75_2 .ret
def k75_4 : VC := .cond (.tmp 15) k75_3 .skip
def k75_5 : VC := .seq k75_1 k75_4
def k75_6 : VC := .reg [⟨(some 16), .mv (.tmp 0), none⟩,
    ⟨(some 17), .nilCheck (.tmp 16), none⟩,
    ⟨(some 18), .fieldA 2 (.tmp 17), none⟩,
    ⟨(some 19), .load1 .oth (.tmp 18), none⟩,
    ⟨(some 20), .lenL (.tmp 19), none⟩,
    ⟨(some 21), .bin .geq (.tmp 20) (.const (.int .i64 64)), none⟩,
    ⟨(some 22), .mv (.tmp 21), none⟩,
    ⟨(some 23), .mv (.tmp 0), (some (22, false))⟩,
    ⟨(some 24), .nilCheck (.tmp 23), (some (22, false))⟩,
    ⟨(some 25), .fieldA 3 (.tmp 24), (some (22, false))⟩,
    ⟨(some 26), .load1 (.int .i64) (.tmp 25), (some (22, false))⟩,
    ⟨(some 27), .bin .geq (.tmp 26) (.const (.int .i64 65535)), (some (22, false))⟩,
    ⟨(some 28), .pick (.tmp 22) (.const (.bool true)) (.tmp 27), none⟩]
def k75_7 : VC := .reg [⟨(some 6), .mv (.const (.int .i64 0)), none⟩,
    ⟨(some 7), .mv (.const (.int .i64 9)), none⟩]
def k75_8 : VC := .seq k75_7 .ret
def k75_9 : VC := .cond (.tmp 28) k75_8 .skip
def k75_10 : VC := .seq k75_6 k75_9
def k75_11 : VC := .reg [⟨(some 29), .mv (.tmp 0), none⟩,
    ⟨(some 30), .nilCheck (.tmp 29), none⟩,
    ⟨(some 31), .fieldA 3 (.tmp 30), none⟩,
    ⟨(some 32), .load1 (.int .i64) (.tmp 31), none⟩,
    ⟨(some 33), .bin .add (.tmp 32) (.const (.int .i64 1)), none⟩,
    ⟨(some 34), .nilCheck (.tmp 29), none⟩,
    ⟨(some 35), .fieldA 3 (.tmp 34), none⟩,
    ⟨none, .store 1 (.tmp 35) (.tmp 33), none⟩]
def k75_12 : VC := .reg [⟨(some 36), .mv (.tmp 0), none⟩,
    ⟨(some 37), .nilCheck (.tmp 36), none⟩,
    ⟨(some 38), .fieldA 4 (.tmp 37), none⟩,
    ⟨(some 39), .load1 (.int .i64) (.tmp 38), none⟩,
    ⟨(some 40), .bin .add (.tmp 39) (.const (.int .i64 1)), none⟩,
    ⟨(some 41), .nilCheck (.tmp 36), none⟩,
    ⟨(some 42), .fieldA 4 (.tmp 41), none⟩,
    ⟨none, .store 1 (.tmp 42) (.tmp 40), none⟩]
def k75_13 : VC := .regD [⟨(some 43), .mv (.tmp 0), none⟩,
    ⟨(some 44), .mv (.tmp 0), none⟩,
    ⟨(some 45), .nilCheck (.tmp 44), none⟩,
    ⟨(some 46), .fieldA 2 (.tmp 45), none⟩,
    ⟨(some 47), .load1 .oth (.tmp 46), none⟩,
    ⟨(some 48), .mv (.tmp 0), none⟩,
    ⟨(some 49), .nilCheck (.tmp 48), none⟩,
    ⟨(some 50), .fieldA 3 (.tmp 49), none⟩,
    ⟨(some 51), .load1 (.int .i64) (.tmp 50), none⟩,
    ⟨(some 52), .mv (.tmp 1), none⟩,
    ⟨(some 53), .loadN [.bool, (.int .u64), (.int .u64)] (.tmp 5), none⟩,
    ⟨(some 54), .build [(.bool false), (.int .i64 0)] [(0, 1, (.const (.bool true)))], none⟩,
    ⟨(some 55), .build [(.int .i64 0), (.int .i64 0), (.bool false), (.int .u64 0), (.int .u64 0), (.bool false), (.bool false), (.int .i64 0)] [(0, 1, (.tmp 51)), (1, 1, (.tmp 52)), (2, 3, (.tmp 53)), (6, 2, (.tmp 54))], none⟩,
    ⟨(some 56), .buildSl 1 8 [(.int .i64 0), (.int .i64 0), (.bool false), (.int .u64 0), (.int .u64 0), (.bool false), (.bool false), (.int .i64 0)] [(0, 8, (.tmp 55))], none⟩,
    ⟨(some 57), .app 136 8 64 (.tmp 47) (.tmp 56), none⟩] [(4, 13)] [⟨(some 58), .nilCheck (.tmp 43), none⟩,
    ⟨(some 59), .fieldA 2 (.tmp 58), none⟩,
    ⟨none, .store 1 (.tmp 59) (.tmp 57), none⟩]
def k75_14 : VC := .reg [⟨(some 60), .mv (.tmp 0), none⟩,
    ⟨(some 61), .nilCheck (.tmp 60), none⟩,
    ⟨(some 62), .fieldA 3 (.tmp 61), none⟩,
    ⟨(some 63), .load1 (.int .i64) (.tmp 62), none⟩,
    ⟨(some 6), .mv (.tmp 63), none⟩,
    ⟨(some 7), .mv (.const (.int .i64 0)), none⟩]
def k75_15 : VC := .seq k75_14 .ret
def k75_16 : VC := .seq k75_13 k75_15
def k75_17 : VC := .seq k75_12 k75_16
def k75_18 : VC := .seq k75_11 k75_17
def k75_19 : VC := .seq k75_10 k75_18
def k75_20 : VC := .seq k75_5 k75_19
def k75_21 : VC := .seq k75_0 k75_20
def fn75 : VFn := ⟨64, k75_21, [.tmp 6, .tmp 7]⟩
def k124_0 : VC := .reg [⟨(some 2), .mv (.const (.bool false)), none⟩]
def k124_1 : VC := .reg [⟨(some 3), .mv (.tmp 0), none⟩,
    ⟨(some 4), .bin .geq (.tmp 3) (.const (.int .i64 0)), none⟩,
    ⟨(some 5), .mv (.tmp 4), none⟩,
    ⟨(some 6), .mv (.tmp 0), (some (5, true))⟩,
    ⟨(some 7), .bin .leq (.tmp 6) (.const (.int .i64 1000)), (some (5, true))⟩,
    ⟨(some 8), .pick (.tmp 5) (.tmp 7) (.const (.bool false)), none⟩,
    ⟨(some 2), .mv (.tmp 8), none⟩]
def k124_2 : VC := .seq k124_1 .ret
def k124_3 : VC := .seq k124_0 k124_2
def fn124 : VFn := ⟨9, k124_3, [.tmp 2]⟩
def k115_0 : VC := .reg [⟨(some 1), .box (.tmp 0), none⟩,
    ⟨(some 2), .mv (.const (.bool false)), none⟩]
def k115_1 : VC := .reg [⟨(some 3), .fieldA 0 (.tmp 1), none⟩,
    ⟨(some 4), .load1 .bool (.tmp 3), none⟩,
    ⟨(some 5), .mv (.tmp 4), none⟩,
    ⟨(some 6), .fieldA 1 (.tmp 1), (some (5, false))⟩,
    ⟨(some 7), .load1 (.int .u64) (.tmp 6), (some (5, false))⟩,
    ⟨(some 8), .bin .eql (.tmp 7) (.const (.int .u64 0)), (some (5, false))⟩,
    ⟨(some 9), .mv (.tmp 8), (some (5, false))⟩,
    ⟨(some 10), .fieldA 2 (.tmp 1), (some (9, true))⟩,
    ⟨(some 11), .load1 (.int .u64) (.tmp 10), (some (9, true))⟩,
    ⟨(some 12), .bin .lss (.tmp 11) (.const (.int .u64 4294967296)), (some (9, true))⟩,
    ⟨(some 13), .pick (.tmp 9) (.tmp 12) (.const (.bool false)), (some (5, false))⟩,
    ⟨(some 14), .pick (.tmp 5) (.const (.bool true)) (.tmp 13), none⟩,
    ⟨(some 2), .mv (.tmp 14), none⟩]
def k115_2 : VC := .seq k115_1 .ret
def k115_3 : VC := .seq k115_0 k115_2
def fn115 : VFn := ⟨15, k115_3, [.tmp 2]⟩
def k76_0 : VC := .reg [⟨(some 4), .mv (.const (.int .i64 0)), none⟩]
def k76_1 : VC := .reg [⟨(some 7), .mv (.tmp 0), none⟩,
    ⟨(some 8), .mv (.tmp 1), none⟩,
    ⟨(some 9), .callF 73 [(.tmp 7), (.tmp 8)], none⟩,
    ⟨(some 5), .mv (.tmp 9), none⟩]
def k76_2 : VC := .reg [⟨(some 10), .mv (.tmp 5), none⟩,
    ⟨(some 11), .bin .lss (.tmp 10) (.const (.int .i64 0)), none⟩]
def k76_3 : VC := .reg [⟨(some 4), .mv (.const (.int .i64 13)), none⟩]
def k76_4 : VC := .seq k76_3 .ret
def k76_5 : VC := .cond (.tmp 11) k76_4 .skip
def k76_6 : VC := .seq k76_2 k76_5
def k76_7 : VC := .reg [⟨(some 6), .mv (.const (.slice none 0 0)), none⟩]
def k76_8 : VC := .reg [⟨(some 12), .mv (.tmp 6), none⟩,
    ⟨(some 13), .mv (.tmp 0), none⟩,
    ⟨(some 14), .nilCheck (.tmp 13), none⟩,
    ⟨(some 15), .fieldA 2 (.tmp 14), none⟩,
    ⟨(some 16), .load1 .oth (.tmp 15), none⟩,
    ⟨(some 17), .mv (.tmp 5), none⟩,
    ⟨(some 18), .sliceL 8 (.tmp 16) none (some (.tmp 17)), none⟩,
    ⟨(some 19), .app 136 8 64 (.tmp 12) (.tmp 18), none⟩,
    ⟨(some 6), .mv (.tmp 19), none⟩]
def k76_9 : VC := .reg [⟨(some 20), .mv (.tmp 0), none⟩,
    ⟨(some 21), .mv (.tmp 6), none⟩,
    ⟨(some 22), .mv (.tmp 0), none⟩,
    ⟨(some 23), .nilCheck (.tmp 22), none⟩,
    ⟨(some 24), .fieldA 2 (.tmp 23), none⟩,
    ⟨(some 25), .load1 .oth (.tmp 24), none⟩,
    ⟨(some 26), .mv (.tmp 5), none⟩,
    ⟨(some 27), .bin .add (.tmp 26) (.const (.int .i64 1)), none⟩,
    ⟨(some 28), .sliceL 8 (.tmp 25) (some (.tmp 27)) none, none⟩,
    ⟨(some 29), .app 136 8 64 (.tmp 21) (.tmp 28), none⟩,
    ⟨(some 30), .nilCheck (.tmp 20), none⟩,
    ⟨(some 31), .fieldA 2 (.tmp 30), none⟩,
    ⟨none, .store 1 (.tmp 31) (.tmp 29), none⟩]
def k76_10 : VC := .reg [⟨(some 32), .mv (.tmp 0), none⟩,
    ⟨(some 33), .nilCheck (.tmp 32), none⟩,
    ⟨(some 34), .fieldA 4 (.tmp 33), none⟩,
    ⟨(some 35), .load1 (.int .i64) (.tmp 34), none⟩,
    ⟨(some 36), .bin .add (.tmp 35) (.const (.int .i64 1)), none⟩,
    ⟨(some 37), .nilCheck (.tmp 32), none⟩,
    ⟨(some 38), .fieldA 4 (.tmp 37), none⟩,
    ⟨none, .store 1 (.tmp 38) (.tmp 36), none⟩]
def k76_11 : VC := .reg [⟨(some 4), .mv (.const (.int .i64 0)), none⟩]
def k76_12 : VC := .seq k76_11 .ret
def k76_13 : VC := .seq k76_10 k76_12
def k76_14 : VC := .seq k76_9 k76_13
def k76_15 : VC := .seq k76_8 k76_14
def k76_16 : VC := .seq k76_7 k76_15
def k76_17 : VC := .seq k76_6 k76_16
def k76_18 : VC := .seq k76_1 k76_17
def k76_19 : VC := .seq k76_0 k76_18
def fn76 : VFn := ⟨39, k76_19, [.tmp 4]⟩
def k28_0 : VC := .reg [⟨(some 5), .box (.tmp 2), none⟩,
    ⟨(some 6), .mv (.const (.int .i64 0)), none⟩]
def k28_1 : VC := .reg [⟨(some 7), .mv (.tmp 0), none⟩,
    ⟨(some 8), .mv (.tmp 1), none⟩,
    ⟨(some 9), .mkFunc 87 [] [(.tmp 5)], none⟩,
    ⟨(some 10), .callF 83 [(.tmp 7), (.tmp 8), (.tmp 9)], none⟩,
    ⟨(some 6), .mv (.tmp 10), none⟩]
def k28_2 : VC := .seq k28_1 .ret
def k28_3 : VC := .seq k28_0 k28_2
def fn28 : VFn := ⟨11, k28_3, [.tmp 6]⟩
def k87_0 : VC := .reg [⟨(some 3), .mv (.const (.int .i64 0)), none⟩]
def k87_1 : VC := .regD [⟨(some 4), .mv (.tmp 0), none⟩,
    ⟨(some 5), .nilCheck (.tmp 4), none⟩,
    ⟨(some 6), .fieldA 6 (.tmp 5), none⟩,
    ⟨(some 7), .load1 .bool (.tmp 6), none⟩,
    ⟨(some 8), .load1 .bool (.tmp 1), none⟩] [] [⟨(some 9), .eqB false (.tmp 7) (.tmp 8), none⟩]
def k87_2 : VC := .reg [⟨(some 3), .mv (.const (.int .i64 11)), none⟩]
def k87_3 : VC := .seq k87_2 .ret
def k87_4 : VC := .cond (.tmp 9) k87_3 .skip
def k87_5 : VC := .seq k87_1 k87_4
def k87_6 : VC := .reg [⟨(some 10), .mv (.tmp 0), none⟩,
    ⟨(some 11), .load1 .bool (.tmp 1), none⟩,
    ⟨(some 12), .nilCheck (.tmp 10), none⟩,
    ⟨(some 13), .fieldA 6 (.tmp 12), none⟩,
    ⟨none, .store 1 (.tmp 13) (.tmp 11), none⟩]
def k87_7 : VC := .reg [⟨(some 3), .mv (.const (.int .i64 0)), none⟩]
def k87_8 : VC := .seq k87_7 .ret
def k87_9 : VC := .seq k87_6 k87_8
def k87_10 : VC := .seq k87_5 k87_9
def k87_11 : VC := .seq k87_0 k87_10
def fn87 : VFn := ⟨14, k87_11, [.tmp 3]⟩
def k77_0 : VC := .reg [⟨(some 6), .mv (.const (.int .i64 0)), none⟩]
def k77_1 : VC := .reg [⟨(some 9), .mv (.tmp 0), none⟩,
    ⟨(some 10), .mv (.tmp 1), none⟩,
    ⟨(some 11), .callF 73 [(.tmp 9), (.tmp 10)], none⟩,
    ⟨(some 7), .mv (.tmp 11), none⟩]
def k77_2 : VC := .reg [⟨(some 12), .mv (.tmp 7), none⟩,
    ⟨(some 13), .bin .lss (.tmp 12) (.const (.int .i64 0)), none⟩]
def k77_3 : VC := .reg [⟨(some 6), .mv (.const (.int .i64 13)), none⟩]
def k77_4 : VC := .seq k77_3 .ret
def k77_5 : VC := .cond (.tmp 13) k77_4 .skip
def k77_6 : VC := .seq k77_2 k77_5
def k77_7 : VC := .reg [⟨(some 14), .mv (.tmp 0), none⟩,
    ⟨(some 15), .nilCheck (.tmp 14), none⟩,
    ⟨(some 16), .fieldA 2 (.tmp 15), none⟩,
    ⟨(some 17), .load1 .oth (.tmp 16), none⟩,
    ⟨(some 18), .mv (.tmp 7), none⟩,
    ⟨(some 19), .idxAL 8 (.tmp 17) (.tmp 18), none⟩,
    ⟨(some 20), .loadN [(.int .i64), (.int .i64), .bool, (.int .u64), (.int .u64), .bool, .bool, (.int .i64)] (.tmp 19), none⟩,
    ⟨(some 8), .alloc [(.int .i64 0), (.int .i64 0), (.bool false), (.int .u64 0), (.int .u64 0), (.bool false), (.bool false), (.int .i64 0)], none⟩,
    ⟨none, .store 8 (.tmp 8) (.tmp 20), none⟩]
def k77_8 : VC := .reg [⟨(some 21), .fieldA 5 (.tmp 8), none⟩,
    ⟨(some 22), .load1 .bool (.tmp 21), none⟩,
    ⟨(some 23), .mv (.tmp 2), none⟩,
    ⟨(some 24), .eqB false (.tmp 22) (.tmp 23), none⟩]
def k77_9 : VC := .reg [⟨(some 6), .mv (.const (.int .i64 11)), none⟩]
def k77_10 : VC := .seq k77_9 .ret
def k77_11 : VC := .cond (.tmp 24) k77_10 .skip
def k77_12 : VC := .seq k77_8 k77_11
def k77_13 : VC := .reg [⟨(some 25), .mv (.tmp 2), none⟩,
    ⟨(some 26), .fieldA 5 (.tmp 8), none⟩,
    ⟨none, .store 1 (.tmp 26) (.tmp 25), none⟩]
def k77_14 : VC := .reg [⟨(some 27), .mv (.tmp 0), none⟩,
    ⟨(some 28), .mv (.tmp 7), none⟩,
    ⟨(some 29), .loadN [(.int .i64), (.int .i64), .bool, (.int .u64), (.int .u64), .bool, .bool, (.int .i64)] (.tmp 8), none⟩,
    ⟨(some 30), .callF 125 [(.tmp 27), (.tmp 28), (.tmp 29)], none⟩]
def k77_15 : VC := .reg [⟨(some 6), .mv (.const (.int .i64 0)), none⟩]
def k77_16 : VC := .seq k77_15 .ret
def k77_17 : VC := .seq k77_14 k77_16
def k77_18 : VC := .seq k77_13 k77_17
def k77_19 : VC := .seq k77_12 k77_18
def k77_20 : VC := .seq k77_7 k77_19
def k77_21 : VC := .seq k77_6 k77_20
def k77_22 : VC := .seq k77_1 k77_21
def k77_23 : VC := .seq k77_0 k77_22
def fn77 : VFn := ⟨31, k77_23, [.tmp 6]⟩
def k125_0 : VC := .reg [⟨(some 5), .box (.tmp 2), none⟩]
def k125_1 : VC := .reg [⟨(some 6), .mv (.const (.slice none 0 0)), none⟩]
def k125_2 : VC := .reg [⟨(some 7), .mv (.const (.int .i64 0)), none⟩]
def k125_3 : VC := .reg [⟨(some 8), .mv (.tmp 7), none⟩,
    ⟨(some 9), .mv (.tmp 0), none⟩,
    ⟨(some 10), .nilCheck (.tmp 9), none⟩,
    ⟨(some 11), .fieldA 2 (.tmp 10), none⟩,
    ⟨(some 12), .load1 .oth (.tmp 11), none⟩,
    ⟨(some 13), .lenL (.tmp 12), none⟩,
    ⟨(some 14), .bin .lss (.tmp 8) (.tmp 13), none⟩]
def k125_4 : VC := .cond (.tmp 14) .skip (.exit 0)
def k125_5 : VC := .seq k125_3 k125_4
def k125_6 : VC := .reg [⟨(some 17), .mv (.tmp 7), none⟩,
    ⟨(some 18), .mv (.tmp 1), none⟩,
    ⟨(some 19), .bin .eql (.tmp 17) (.tmp 18), none⟩]
def k125_7 : VC := .reg [⟨(some 20), .mv (.tmp 6), none⟩,
    ⟨(some 21), .loadN [(.int .i64), (.int .i64), .bool, (.int .u64), (.int .u64), .bool, .bool, (.int .i64)] (.tmp 5), none⟩,
    ⟨(some 22), .buildSl 1 8 [(.int .i64 0), (.int .i64 0), (.bool false), (.int .u64 0), (.int .u64 0), (.bool false), (.bool false), (.int .i64 0)] [(0, 8, (.tmp 21))], none⟩,
    ⟨(some 23), .app 136 8 64 (.tmp 20) (.tmp 22), none⟩,
    ⟨(some 6), .mv (.tmp 23), none⟩]
def k125_8 : VC := .reg [⟨(some 24), .mv (.tmp 6), none⟩,
    ⟨(some 25), .mv (.tmp 0), none⟩,
    ⟨(some 26), .nilCheck (.tmp 25), none⟩,
    ⟨(some 27), .fieldA 2 (.tmp 26), none⟩,
    ⟨(some 28), .load1 .oth (.tmp 27), none⟩,
    ⟨(some 29), .mv (.tmp 7), none⟩,
    ⟨(some 30), .idxAL 8 (.tmp 28) (.tmp 29), none⟩,
    ⟨(some 31), .loadN [(.int .i64), (.int .i64), .bool, (.int .u64), (.int .u64), .bool, .bool, (.int .i64)] (.tmp 30), none⟩,
    ⟨(some 32), .buildSl 1 8 [(.int .i64 0), (.int .i64 0), (.bool false), (.int .u64 0), (.int .u64 0), (.bool false), (.bool false), (.int .i64 0)] [(0, 8, (.tmp 31))], none⟩,
    ⟨(some 33), .app 136 8 64 (.tmp 24) (.tmp 32), none⟩,
    ⟨(some 6), .mv (.tmp 33), none⟩]
def k125_9 : VC := .cond (.tmp 19) k125_7 k125_8
def k125_10 : VC := .seq k125_6 k125_9
def k125_11 : VC := .block 1 k125_10
def k125_12 : VC := .reg [⟨(some 15), .mv (.tmp 7), none⟩,
    ⟨(some 16), .bin .add (.tmp 15) (.const (.int .i64 1)), none⟩,
    ⟨(some 7), .mv (.tmp 16), none⟩]
def k125_13 : VC := .seq k125_11 k125_12
def k125_14 : VC := .seq k125_5 k125_13
def k125_15 : VC := .loop k125_14
def k125_16 : VC := .block 0 k125_15
def k125_17 : VC := .seq k125_2 k125_16
def k125_18 : VC := .reg [⟨(some 34), .mv (.tmp 0), none⟩,
    ⟨(some 35), .mv (.tmp 6), none⟩,
    ⟨(some 36), .nilCheck (.tmp 34), none⟩,
    ⟨(some 37), .fieldA 2 (.tmp 36), none⟩,
    ⟨none, .store 1 (.tmp 37) (.tmp 35), none⟩]
def k125_19 : VC := .reg [⟨(some 38), .mv (.tmp 0), none⟩,
    ⟨(some 39), .nilCheck (.tmp 38), none⟩,
    ⟨(some 40), .fieldA 4 (.tmp 39), none⟩,
    ⟨(some 41), .load1 (.int .i64) (.tmp 40), none⟩,
    ⟨(some 42), .bin .add (.tmp 41) (.const (.int .i64 1)), none⟩,
    ⟨(some 43), .nilCheck (.tmp 38), none⟩,
    ⟨(some 44), .fieldA 4 (.tmp 43), none⟩,
    ⟨none, .store 1 (.tmp 44) (.tmp 42), none⟩]
def k125_20 : VC := .seq k125_18 k125_19
def k125_21 : VC := .seq k125_17 k125_20
def k125_22 : VC := .seq k125_1 k125_21
def k125_23 : VC := .seq k125_0 k125_22
def fn125 : VFn := ⟨45, k125_23, []⟩
def k29_0 : VC := .reg [⟨(some 5), .box (.tmp 2), none⟩,
    ⟨(some 6), .mv (.const (.int .i64 0)), none⟩]
def k29_1 : VC := .reg [⟨(some 7), .mv (.tmp 0), none⟩,
    ⟨(some 8), .mv (.tmp 1), none⟩,
    ⟨(some 9), .mkFunc 88 [] [(.tmp 5)], none⟩,
    ⟨(some 10), .callF 83 [(.tmp 7), (.tmp 8), (.tmp 9)], none⟩,
    ⟨(some 6), .mv (.tmp 10), none⟩]
def k29_2 : VC := .seq k29_1 .ret
def k29_3 : VC := .seq k29_0 k29_2
def fn29 : VFn := ⟨11, k29_3, [.tmp 6]⟩
def k88_0 : VC := .reg [⟨(some 3), .mv (.const (.int .i64 0)), none⟩]
def k88_1 : VC := .reg [⟨(some 4), .load1 (.int .i64) (.tmp 1), none⟩,
    ⟨(some 5), .callF 81 [(.tmp 4)], none⟩,
    ⟨(some 6), .not (.tmp 5), none⟩]
def k88_2 : VC := .reg [⟨(some 3), .mv (.const (.int .i64 1)), none⟩]
def k88_3 : VC := .seq k88_2 .ret
def k88_4 : VC := .cond (.tmp 6) k88_3 .skip
def k88_5 : VC := .seq k88_1 k88_4
def k88_6 : VC := .reg [⟨(some 7), .mv (.tmp 0), none⟩,
    ⟨(some 8), .load1 (.int .i64) (.tmp 1), none⟩,
    ⟨(some 9), .nilCheck (.tmp 7), none⟩,
    ⟨(some 10), .fieldA 0 (.tmp 9), none⟩,
    ⟨(some 11), .fieldA 1 (.tmp 10), none⟩,
    ⟨none, .store 1 (.tmp 11) (.tmp 8), none⟩]
def k88_7 : VC := .reg [⟨(some 3), .mv (.const (.int .i64 0)), none⟩]
def k88_8 : VC := .seq k88_7 .ret
def k88_9 : VC := .seq k88_6 k88_8
def k88_10 : VC := .seq k88_5 k88_9
def k88_11 : VC := .seq k88_0 k88_10
def fn88 : VFn := ⟨12, k88_11, [.tmp 3]⟩
def k78_0 : VC := .reg [⟨(some 6), .mv (.const (.int .i64 0)), none⟩]
def k78_1 : VC := .reg [⟨(some 9), .mv (.tmp 0), none⟩,
    ⟨(some 10), .mv (.tmp 1), none⟩,
    ⟨(some 11), .callF 73 [(.tmp 9), (.tmp 10)], none⟩,
    ⟨(some 7), .mv (.tmp 11), none⟩]
def k78_2 : VC := .reg [⟨(some 12), .mv (.tmp 7), none⟩,
    ⟨(some 13), .bin .lss (.tmp 12) (.const (.int .i64 0)), none⟩]
def k78_3 : VC := .reg [⟨(some 6), .mv (.const (.int .i64 13)), none⟩]
def k78_4 : VC := .seq k78_3 .ret
def k78_5 : VC := .cond (.tmp 13) k78_4 .skip
def k78_6 : VC := .seq k78_2 k78_5
def k78_7 : VC := .reg [⟨(some 14), .mv (.tmp 2), none⟩,
    ⟨(some 15), .callF 124 [(.tmp 14)], none⟩,
    ⟨(some 16), .not (.tmp 15), none⟩]
def k78_8 : VC := .reg [⟨(some 6), .mv (.const (.int .i64 1)), none⟩]
def k78_9 : VC := .seq k78_8 .ret
def k78_10 : VC := .cond (.tmp 16) k78_9 .skip
def k78_11 : VC := .seq k78_7 k78_10
def k78_12 : VC := .reg [⟨(some 17), .mv (.tmp 0), none⟩,
    ⟨(some 18), .nilCheck (.tmp 17), none⟩,
    ⟨(some 19), .fieldA 2 (.tmp 18), none⟩,
    ⟨(some 20), .load1 .oth (.tmp 19), none⟩,
    ⟨(some 21), .mv (.tmp 7), none⟩,
    ⟨(some 22), .idxAL 8 (.tmp 20) (.tmp 21), none⟩,
    ⟨(some 23), .loadN [(.int .i64), (.int .i64), .bool, (.int .u64), (.int .u64), .bool, .bool, (.int .i64)] (.tmp 22), none⟩,
    ⟨(some 8), .alloc [(.int .i64 0), (.int .i64 0), (.bool false), (.int .u64 0), (.int .u64 0), (.bool false), (.bool false), (.int .i64 0)], none⟩,
    ⟨none, .store 8 (.tmp 8) (.tmp 23), none⟩]
def k78_13 : VC := .reg [⟨(some 24), .mv (.tmp 2), none⟩,
    ⟨(some 25), .fieldA 1 (.tmp 8), none⟩,
    ⟨none, .store 1 (.tmp 25) (.tmp 24), none⟩]
def k78_14 : VC := .reg [⟨(some 26), .mv (.tmp 0), none⟩,
    ⟨(some 27), .mv (.tmp 7), none⟩,
    ⟨(some 28), .loadN [(.int .i64), (.int .i64), .bool, (.int .u64), (.int .u64), .bool, .bool, (.int .i64)] (.tmp 8), none⟩,
    ⟨(some 29), .callF 125 [(.tmp 26), (.tmp 27), (.tmp 28)], none⟩]
def k78_15 : VC := .reg [⟨(some 6), .mv (.const (.int .i64 0)), none⟩]
def k78_16 : VC := .seq k78_15 .ret
def k78_17 : VC := .seq k78_14 k78_16
def k78_18 : VC := .seq k78_13 k78_17
def k78_19 : VC := .seq k78_12 k78_18
def k78_20 : VC := .seq k78_11 k78_19
def k78_21 : VC := .seq k78_6 k78_20
def k78_22 : VC := .seq k78_1 k78_21
def k78_23 : VC := .seq k78_0 k78_22
def fn78 : VFn := ⟨30, k78_23, [.tmp 6]⟩
def k30_0 : VC := .reg [⟨(some 3), .box (.tmp 0), none⟩,
    ⟨(some 5), .box (.tmp 2), none⟩,
    ⟨(some 6), .mv (.const (.bool false)), none⟩,
    ⟨(some 7), .mv (.const (.int .i64 0)), none⟩]
def k30_1 : VC := .reg [⟨(some 8), .alloc [(.bool false)], none⟩,
    ⟨none, .store 1 (.tmp 8) (.const (.bool false)), none⟩]
def k30_2 : VC := .reg [⟨(some 10), .load1 .oth (.tmp 3), none⟩,
    ⟨(some 11), .mv (.tmp 1), none⟩,
    ⟨(some 12), .mkFunc 89 [] [(.tmp 3), (.tmp 5), (.tmp 8)], none⟩,
    ⟨(some 13), .callF 83 [(.tmp 10), (.tmp 11), (.tmp 12)], none⟩,
    ⟨(some 9), .mv (.tmp 13), none⟩]
def k30_3 : VC := .reg [⟨(some 14), .mv (.tmp 9), none⟩,
    ⟨(some 15), .bin .eql (.tmp 14) (.const (.int .i64 11)), none⟩]
def k30_4 : VC := .reg [⟨(some 9), .mv (.const (.int .i64 0)), none⟩]
def k30_5 : VC := .cond (.tmp 15) k30_4 .skip
def k30_6 : VC := .seq k30_3 k30_5
def k30_7 : VC := .reg [⟨(some 16), .load1 .bool (.tmp 8), none⟩,
    ⟨(some 17), .mv (.tmp 9), none⟩,
    ⟨(some 6), .mv (.tmp 16), none⟩,
    ⟨(some 7), .mv (.tmp 17), none⟩]
def k30_8 : VC := .seq k30_7 .ret
def k30_9 : VC := .seq k30_6 k30_8
def k30_10 : VC := .seq k30_2 k30_9
def k30_11 : VC := .seq k30_1 k30_10
def k30_12 : VC := .seq k30_0 k30_11
def fn30 : VFn := ⟨18, k30_12, [.tmp 6, .tmp 7]⟩
def k89_0 : VC := .reg [⟨(some 5), .mv (.const (.int .i64 0)), none⟩]
def k89_1 : VC := .regD [⟨(some 7), .mv (.tmp 0), none⟩,
    ⟨(some 8), .load1 .oth (.tmp 1), none⟩,
    ⟨(some 9), .nilCheck (.tmp 8), none⟩,
    ⟨(some 10), .fieldA 0 (.tmp 9), none⟩,
    ⟨(some 11), .loadN [(.int .i64), (.int .i64)] (.tmp 10), none⟩,
    ⟨(some 12), .mv (.tmp 0), none⟩,
    ⟨(some 13), .nilCheck (.tmp 12), none⟩,
    ⟨(some 14), .fieldA 7 (.tmp 13), none⟩,
    ⟨(some 15), .loadN [.bool, (.int .i64)] (.tmp 14), none⟩,
    ⟨(some 16), .load1 .bool (.tmp 2), none⟩,
    ⟨(some 17), .callF 90 [(.tmp 11), (.tmp 15), (.tmp 16)], none⟩,
    ⟨(some 6), .mv (.tmp 17), none⟩,
    ⟨(some 18), .extract 0 (.tmp 6), none⟩,
    ⟨(some 19), .extract 1 (.tmp 6), none⟩,
    ⟨(some 20), .nilCheck (.tmp 7), none⟩,
    ⟨(some 21), .fieldA 7 (.tmp 20), none⟩,
    ⟨none, .store 2 (.tmp 21) (.tmp 18), none⟩] [] [⟨none, .store 1 (.tmp 3) (.tmp 19), none⟩]
def k89_2 : VC := .reg [⟨(some 22), .load1 .bool (.tmp 3), none⟩,
    ⟨(some 23), .not (.tmp 22), none⟩]
def k89_3 : VC := .reg [⟨(some 5), .mv (.const (.int .i64 11)), none⟩]
def k89_4 : VC := .seq k89_3 .ret
def k89_5 : VC := .cond (.tmp 23) k89_4 .skip
def k89_6 : VC := .seq k89_2 k89_5
def k89_7 : VC := .seq k89_1 k89_6
def k89_8 : VC := .reg [⟨(some 5), .mv (.const (.int .i64 0)), none⟩]
def k89_9 : VC := .seq k89_8 .ret
def k89_10 : VC := .seq k89_7 k89_9
def k89_11 : VC := .seq k89_0 k89_10
def fn89 : VFn := ⟨24, k89_11, [.tmp 5]⟩
def k90_0 : VC := .reg [⟨(some 3), .box (.tmp 0), none⟩,
    ⟨(some 4), .box (.tmp 1), none⟩,
    ⟨(some 6), .alloc [(.bool false), (.int .i64 0)], none⟩,
    ⟨(some 7), .mv (.const (.bool false)), none⟩]
def k90_1 : VC := .reg [⟨(some 8), .loadN [(.int .i64), (.int .i64)] (.tmp 3), none⟩,
    ⟨(some 9), .loadN [.bool, (.int .i64)] (.tmp 4), none⟩,
    ⟨(some 10), .callF 128 [(.tmp 8), (.tmp 9)], none⟩]
def k90_2 : VC := .reg [⟨(some 12), .bin .eql (.tmp 10) (.const (.int .i64 0)), none⟩,
    ⟨(some 11), .mv (.tmp 12), none⟩]
def k90_3 : VC := .reg [⟨(some 13), .loadN [.bool, (.int .i64)] (.tmp 4), none⟩,
    ⟨none, .store 2 (.tmp 6) (.tmp 13), none⟩,
    ⟨(some 7), .mv (.const (.bool false)), none⟩]
def k90_4 : VC := .seq k90_3 .ret
def k90_5 : VC := .reg [⟨(some 15), .bin .eql (.tmp 10) (.const (.int .i64 1)), none⟩,
    ⟨(some 14), .mv (.tmp 15), none⟩]
def k90_6 : VC := .regD [⟨(some 16), .mv (.tmp 2), none⟩,
    ⟨(some 17), .build [(.bool false), (.int .i64 0)] [(0, 1, (.tmp 16))], none⟩,
    ⟨(some 18), .mv (.tmp 2), none⟩,
    ⟨(some 19), .fieldA 0 (.tmp 4), none⟩,
    ⟨(some 20), .load1 .bool (.tmp 19), none⟩,
    ⟨(some 21), .eqB true (.tmp 18) (.tmp 20), none⟩,
    ⟨none, .store 2 (.tmp 6) (.tmp 17), none⟩] [(4, 6)] [⟨(some 7), .mv (.tmp 21), none⟩]
def k90_7 : VC := .seq k90_6 .ret
def k90_8 : VC := .cond (.tmp 14) k90_7 .skip
def k90_9 : VC := .seq k90_5 k90_8
def k90_10 : VC := .cond (.tmp 11) k90_4 k90_9
def k90_11 : VC := .seq k90_2 k90_10
def k90_12 : VC := .block 0 k90_11
def k90_13 : VC := .seq k90_1 k90_12
def k90_14 : VC := .reg [⟨(some 22), .mv (.tmp 2), none⟩,
    ⟨(some 23), .fieldA 0 (.tmp 4), none⟩,
    ⟨(some 24), .load1 .bool (.tmp 23), none⟩,
    ⟨(some 25), .eqB false (.tmp 22) (.tmp 24), none⟩]
def k90_15 : VC := .reg [⟨(some 26), .fieldA 1 (.tmp 4), none⟩,
    ⟨none, .store 1 (.tmp 26) (.const (.int .i64 0)), none⟩]
def k90_16 : VC := .reg [⟨(some 27), .fieldA 1 (.tmp 4), none⟩,
    ⟨(some 28), .load1 (.int .i64) (.tmp 27), none⟩,
    ⟨(some 29), .bin .add (.tmp 28) (.const (.int .i64 1)), none⟩,
    ⟨(some 30), .fieldA 1 (.tmp 4), none⟩,
    ⟨none, .store 1 (.tmp 30) (.tmp 29), none⟩]
def k90_17 : VC := .cond (.tmp 25) k90_15 k90_16
def k90_18 : VC := .seq k90_14 k90_17
def k90_19 : VC := .reg [⟨(some 31), .loadN [.bool, (.int .i64)] (.tmp 4), none⟩,
    ⟨none, .store 2 (.tmp 6) (.tmp 31), none⟩,
    ⟨(some 7), .mv (.const (.bool false)), none⟩]
def k90_20 : VC := .seq k90_19 .ret
def k90_21 : VC := .seq k90_18 k90_20
def k90_22 : VC := .seq k90_13 k90_21
def k90_23 : VC := .seq k90_0 k90_22
def fn90 : VFn := ⟨32, k90_23, [.cell 6 [.bool, (.int .i64)] true, .tmp 7]⟩
def k128_0 : VC := .reg [⟨(some 2), .box (.tmp 0), none⟩,
    ⟨(some 3), .box (.tmp 1), none⟩,
    ⟨(some 4), .mv (.const (.int .i64 0)), none⟩]
def k128_1 : VC := .reg [⟨(some 6), .loadN [(.int .i64), (.int .i64)] (.tmp 2), none⟩,
    ⟨(some 7), .callF 69 [(.tmp 6)], none⟩,
    ⟨(some 8), .not (.tmp 7), none⟩,
    ⟨(some 9), .mv (.tmp 8), none⟩,
    ⟨(some 10), .fieldA 1 (.tmp 3), (some (9, false))⟩,
    ⟨(some 11), .load1 (.int .i64) (.tmp 10), (some (9, false))⟩,
    ⟨(some 12), .callF 121 [(.tmp 11), (.const (.int .i64 0)), (.const (.int .i64 1048576))], (some (9, false))⟩,
    ⟨(some 13), .not (.tmp 12), (some (9, false))⟩,
    ⟨(some 14), .pick (.tmp 9) (.const (.bool true)) (.tmp 13), none⟩,
    ⟨(some 5), .mv (.tmp 14), none⟩]
def k128_2 : VC := .reg [⟨(some 4), .mv (.const (.int .i64 0)), none⟩]
def k128_3 : VC := .seq k128_2 .ret
def k128_4 : VC := .reg [⟨(some 16), .fieldA 0 (.tmp 3), none⟩,
    ⟨(some 17), .load1 .bool (.tmp 16), none⟩,
    ⟨(some 15), .mv (.tmp 17), none⟩]
def k128_5 : VC := .reg [⟨(some 18), .fieldA 1 (.tmp 2), none⟩,
    ⟨(some 19), .load1 (.int .i64) (.tmp 18), none⟩,
    ⟨(some 20), .fieldA 1 (.tmp 3), none⟩,
    ⟨(some 21), .load1 (.int .i64) (.tmp 20), none⟩,
    ⟨(some 22), .bin .sub (.tmp 19) (.tmp 21), none⟩,
    ⟨(some 23), .minmax true [(.const (.int .i64 1)), (.tmp 22)], none⟩,
    ⟨(some 4), .mv (.tmp 23), none⟩]
def k128_6 : VC := .seq k128_5 .ret
def k128_7 : VC := .cond (.tmp 15) k128_6 .skip
def k128_8 : VC := .seq k128_4 k128_7
def k128_9 : VC := .cond (.tmp 5) k128_3 k128_8
def k128_10 : VC := .seq k128_1 k128_9
def k128_11 : VC := .block 0 k128_10
def k128_12 : VC := .reg [⟨(some 24), .fieldA 0 (.tmp 2), none⟩,
    ⟨(some 25), .load1 (.int .i64) (.tmp 24), none⟩,
    ⟨(some 26), .fieldA 1 (.tmp 3), none⟩,
    ⟨(some 27), .load1 (.int .i64) (.tmp 26), none⟩,
    ⟨(some 28), .bin .sub (.tmp 25) (.tmp 27), none⟩,
    ⟨(some 29), .minmax true [(.const (.int .i64 1)), (.tmp 28)], none⟩,
    ⟨(some 4), .mv (.tmp 29), none⟩]
def k128_13 : VC := .seq k128_12 .ret
def k128_14 : VC := .seq k128_11 k128_13
def k128_15 : VC := .seq k128_0 k128_14
def fn128 : VFn := ⟨30, k128_15, [.tmp 4]⟩
def k79_0 : VC := .reg [⟨(some 6), .mv (.const (.bool false)), none⟩,
    ⟨(some 7), .mv (.const (.int .i64 0)), none⟩]
def k79_1 : VC := .reg [⟨(some 12), .mv (.tmp 0), none⟩,
    ⟨(some 13), .mv (.tmp 1), none⟩,
    ⟨(some 14), .callF 73 [(.tmp 12), (.tmp 13)], none⟩,
    ⟨(some 8), .mv (.tmp 14), none⟩]
def k79_2 : VC := .reg [⟨(some 15), .mv (.tmp 8), none⟩,
    ⟨(some 16), .bin .lss (.tmp 15) (.const (.int .i64 0)), none⟩]
def k79_3 : VC := .reg [⟨(some 6), .mv (.const (.bool false)), none⟩,
    ⟨(some 7), .mv (.const (.int .i64 13)), none⟩]
def k79_4 : VC := .seq k79_3 .ret
def k79_5 : VC := .cond (.tmp 16) k79_4 .skip
def k79_6 : VC := .seq k79_2 k79_5
def k79_7 : VC := .reg [⟨(some 17), .mv (.tmp 0), none⟩,
    ⟨(some 18), .nilCheck (.tmp 17), none⟩,
    ⟨(some 19), .fieldA 2 (.tmp 18), none⟩,
    ⟨(some 20), .load1 .oth (.tmp 19), none⟩,
    ⟨(some 21), .mv (.tmp 8), none⟩,
    ⟨(some 22), .idxAL 8 (.tmp 20) (.tmp 21), none⟩,
    ⟨(some 23), .loadN [(.int .i64), (.int .i64), .bool, (.int .u64), (.int .u64), .bool, .bool, (.int .i64)] (.tmp 22), none⟩,
    ⟨(some 9), .alloc [(.int .i64 0), (.int .i64 0), (.bool false), (.int .u64 0), (.int .u64 0), (.bool false), (.bool false), (.int .i64 0)], none⟩,
    ⟨none, .store 8 (.tmp 9) (.tmp 23), none⟩]
def k79_8 : VC := .regD [⟨(some 25), .mv (.tmp 0), none⟩,
    ⟨(some 26), .nilCheck (.tmp 25), none⟩,
    ⟨(some 27), .fieldA 0 (.tmp 26), none⟩,
    ⟨(some 28), .loadN [(.int .i64), (.int .i64)] (.tmp 27), none⟩,
    ⟨(some 29), .fieldA 6 (.tmp 9), none⟩,
    ⟨(some 30), .loadN [.bool, (.int .i64)] (.tmp 29), none⟩,
    ⟨(some 31), .mv (.tmp 2), none⟩,
    ⟨(some 32), .callF 126 [(.tmp 28), (.tmp 30), (.tmp 31)], none⟩,
    ⟨(some 24), .mv (.tmp 32), none⟩,
    ⟨(some 33), .extract 0 (.tmp 24), none⟩,
    ⟨(some 34), .extract 1 (.tmp 24), none⟩,
    ⟨(some 10), .alloc [(.bool false), (.int .i64 0)], none⟩,
    ⟨none, .store 2 (.tmp 10) (.tmp 33), none⟩] [(3, 11), (5, 11), (7, 11)] [⟨(some 11), .mv (.tmp 34), none⟩]
def k79_9 : VC := .reg [⟨(some 35), .loadN [.bool, (.int .i64)] (.tmp 10), none⟩,
    ⟨(some 36), .fieldA 6 (.tmp 9), none⟩,
    ⟨none, .store 2 (.tmp 36) (.tmp 35), none⟩]
def k79_10 : VC := .reg [⟨(some 37), .mv (.tmp 0), none⟩,
    ⟨(some 38), .mv (.tmp 8), none⟩,
    ⟨(some 39), .loadN [(.int .i64), (.int .i64), .bool, (.int .u64), (.int .u64), .bool, .bool, (.int .i64)] (.tmp 9), none⟩,
    ⟨(some 40), .callF 125 [(.tmp 37), (.tmp 38), (.tmp 39)], none⟩]
def k79_11 : VC := .reg [⟨(some 41), .mv (.tmp 11), none⟩,
    ⟨(some 42), .not (.tmp 41), none⟩]
def k79_12 : VC := .reg [⟨(some 43), .mv (.tmp 0), none⟩,
    ⟨(some 44), .nilCheck (.tmp 43), none⟩,
    ⟨(some 45), .fieldA 4 (.tmp 44), none⟩,
    ⟨(some 46), .load1 (.int .i64) (.tmp 45), none⟩,
    ⟨(some 47), .bin .sub (.tmp 46) (.const (.int .i64 1)), none⟩,
    ⟨(some 48), .nilCheck (.tmp 43), none⟩,
    ⟨(some 49), .fieldA 4 (.tmp 48), none⟩,
    ⟨none, .store 1 (.tmp 49) (.tmp 47), none⟩]
def k79_13 : VC := .cond (.tmp 42) k79_12 .skip
def k79_14 : VC := .seq k79_11 k79_13
def k79_15 : VC := .reg [⟨(some 50), .mv (.tmp 11), none⟩,
    ⟨(some 6), .mv (.tmp 50), none⟩,
    ⟨(some 7), .mv (.const (.int .i64 0)), none⟩]
def k79_16 : VC := .seq k79_15 .ret
def k79_17 : VC := .seq k79_14 k79_16
def k79_18 : VC := .seq k79_10 k79_17
def k79_19 : VC := .seq k79_9 k79_18
def k79_20 : VC := .seq k79_8 k79_19
def k79_21 : VC := .seq k79_7 k79_20
def k79_22 : VC := .seq k79_6 k79_21
def k79_23 : VC := .seq k79_1 k79_22
def k79_24 : VC := .seq k79_0 k79_23
def fn79 : VFn := ⟨51, k79_24, [.tmp 6, .tmp 7]⟩
def k126_0 : VC := .reg [⟨(some 3), .box (.tmp 0), none⟩,
    ⟨(some 4), .box (.tmp 1), none⟩,
    ⟨(some 6), .alloc [(.bool false), (.int .i64 0)], none⟩,
    ⟨(some 7), .mv (.const (.bool false)), none⟩]
def k126_1 : VC := .reg [⟨(some 9), .loadN [(.int .i64), (.int .i64)] (.tmp 3), none⟩,
    ⟨(some 10), .loadN [.bool, (.int .i64)] (.tmp 4), none⟩,
    ⟨(some 11), .callF 144 [(.tmp 9), (.tmp 10)], none⟩,
    ⟨(some 12), .not (.tmp 11), none⟩]
def k126_2 : VC := .reg [⟨(some 13), .loadN [.bool, (.int .i64)] (.tmp 4), none⟩,
    ⟨none, .store 2 (.tmp 6) (.tmp 13), none⟩,
    ⟨(some 7), .mv (.const (.bool false)), none⟩]
def k126_3 : VC := .seq k126_2 .ret
def k126_4 : VC := .cond (.tmp 12) k126_3 .skip
def k126_5 : VC := .seq k126_1 k126_4
def k126_6 : VC := .reg [⟨(some 14), .mv (.tmp 2), none⟩,
    ⟨(some 15), .fieldA 0 (.tmp 4), none⟩,
    ⟨(some 16), .load1 .bool (.tmp 15), none⟩,
    ⟨(some 17), .eqB false (.tmp 14) (.tmp 16), none⟩]
def k126_7 : VC := .reg [⟨(some 18), .fieldA 0 (.tmp 4), none⟩,
    ⟨(some 19), .load1 .bool (.tmp 18), none⟩,
    ⟨(some 20), .build [(.bool false), (.int .i64 0)] [(0, 1, (.tmp 19))], none⟩,
    ⟨none, .store 2 (.tmp 6) (.tmp 20), none⟩,
    ⟨(some 7), .mv (.const (.bool false)), none⟩]
def k126_8 : VC := .seq k126_7 .ret
def k126_9 : VC := .cond (.tmp 17) k126_8 .skip
def k126_10 : VC := .seq k126_6 k126_9
def k126_11 : VC := .reg [⟨(some 21), .fieldA 0 (.tmp 3), none⟩,
    ⟨(some 22), .load1 (.int .i64) (.tmp 21), none⟩,
    ⟨(some 8), .mv (.tmp 22), none⟩]
def k126_12 : VC := .reg [⟨(some 23), .fieldA 0 (.tmp 4), none⟩,
    ⟨(some 24), .load1 .bool (.tmp 23), none⟩]
def k126_13 : VC := .reg [⟨(some 25), .fieldA 1 (.tmp 3), none⟩,
    ⟨(some 26), .load1 (.int .i64) (.tmp 25), none⟩,
    ⟨(some 8), .mv (.tmp 26), none⟩]
def k126_14 : VC := .cond (.tmp 24) k126_13 .skip
def k126_15 : VC := .seq k126_12 k126_14
def k126_16 : VC := .reg [⟨(some 27), .fieldA 1 (.tmp 4), none⟩,
    ⟨(some 28), .load1 (.int .i64) (.tmp 27), none⟩,
    ⟨(some 29), .bin .add (.tmp 28) (.const (.int .i64 1)), none⟩,
    ⟨(some 30), .mv (.tmp 8), none⟩,
    ⟨(some 31), .bin .geq (.tmp 29) (.tmp 30), none⟩]
def k126_17 : VC := .reg [⟨(some 32), .mv (.tmp 2), none⟩,
    ⟨(some 33), .build [(.bool false), (.int .i64 0)] [(0, 1, (.tmp 32))], none⟩,
    ⟨none, .store 2 (.tmp 6) (.tmp 33), none⟩,
    ⟨(some 7), .mv (.const (.bool true)), none⟩]
def k126_18 : VC := .seq k126_17 .ret
def k126_19 : VC := .cond (.tmp 31) k126_18 .skip
def k126_20 : VC := .seq k126_16 k126_19
def k126_21 : VC := .reg [⟨(some 34), .fieldA 0 (.tmp 4), none⟩,
    ⟨(some 35), .load1 .bool (.tmp 34), none⟩,
    ⟨(some 36), .fieldA 1 (.tmp 4), none⟩,
    ⟨(some 37), .load1 (.int .i64) (.tmp 36), none⟩,
    ⟨(some 38), .bin .add (.tmp 37) (.const (.int .i64 1)), none⟩,
    ⟨(some 39), .build [(.bool false), (.int .i64 0)] [(0, 1, (.tmp 35)), (1, 1, (.tmp 38))], none⟩,
    ⟨none, .store 2 (.tmp 6) (.tmp 39), none⟩,
    ⟨(some 7), .mv (.const (.bool false)), none⟩]
def k126_22 : VC := .seq k126_21 .ret
def k126_23 : VC := .seq k126_20 k126_22
def k126_24 : VC := .seq k126_15 k126_23
def k126_25 : VC := .seq k126_11 k126_24
def k126_26 : VC := .seq k126_10 k126_25
def k126_27 : VC := .seq k126_5 k126_26
def k126_28 : VC := .seq k126_0 k126_27
def fn126 : VFn := ⟨40, k126_28, [.cell 6 [.bool, (.int .i64)] true, .tmp 7]⟩
def k144_0 : VC := .reg [⟨(some 2), .box (.tmp 0), none⟩,
    ⟨(some 3), .box (.tmp 1), none⟩,
    ⟨(some 4), .mv (.const (.bool false)), none⟩]
def k144_1 : VC := .reg [⟨(some 5), .loadN [(.int .i64), (.int .i64)] (.tmp 2), none⟩,
    ⟨(some 6), .callF 25 [(.tmp 5)], none⟩,
    ⟨(some 7), .mv (.tmp 6), none⟩,
    ⟨(some 8), .fieldA 1 (.tmp 3), (some (7, true))⟩,
    ⟨(some 9), .load1 (.int .i64) (.tmp 8), (some (7, true))⟩,
    ⟨(some 10), .bin .geq (.tmp 9) (.const (.int .i64 0)), (some (7, true))⟩,
    ⟨(some 11), .pick (.tmp 7) (.tmp 10) (.const (.bool false)), none⟩,
    ⟨(some 12), .mv (.tmp 11), none⟩,
    ⟨(some 13), .fieldA 1 (.tmp 3), (some (12, true))⟩,
    ⟨(some 14), .load1 (.int .i64) (.tmp 13), (some (12, true))⟩,
    ⟨(some 15), .bin .leq (.tmp 14) (.const (.int .i64 1048576)), (some (12, true))⟩,
    ⟨(some 16), .pick (.tmp 12) (.tmp 15) (.const (.bool false)), none⟩,
    ⟨(some 4), .mv (.tmp 16), none⟩]
def k144_2 : VC := .seq k144_1 .ret
def k144_3 : VC := .seq k144_0 k144_2
def fn144 : VFn := ⟨17, k144_3, [.tmp 4]⟩
def k80_0 : VC := .reg [⟨(some 2), .mv (.const (.slice none 0 0)), none⟩]
def k80_1 : VC := .reg [⟨(some 3), .mv (.const (.int .i64 0)), none⟩]
def k80_2 : VC := .reg [⟨(some 5), .mv (.tmp 3), none⟩,
    ⟨(some 6), .mv (.tmp 0), none⟩,
    ⟨(some 7), .nilCheck (.tmp 6), none⟩,
    ⟨(some 8), .fieldA 2 (.tmp 7), none⟩,
    ⟨(some 9), .load1 .oth (.tmp 8), none⟩,
    ⟨(some 10), .lenL (.tmp 9), none⟩,
    ⟨(some 11), .bin .lss (.tmp 5) (.tmp 10), none⟩]
def k80_3 : VC := .cond (.tmp 11) .skip (.exit 0)
def k80_4 : VC := .seq k80_2 k80_3
def k80_5 : VC := .reg [⟨(some 14), .mv (.tmp 0), none⟩,
    ⟨(some 15), .nilCheck (.tmp 14), none⟩,
    ⟨(some 16), .fieldA 2 (.tmp 15), none⟩,
    ⟨(some 17), .load1 .oth (.tmp 16), none⟩,
    ⟨(some 18), .mv (.tmp 3), none⟩,
    ⟨(some 19), .idxAL 8 (.tmp 17) (.tmp 18), none⟩,
    ⟨(some 20), .loadN [(.int .i64), (.int .i64), .bool, (.int .u64), (.int .u64), .bool, .bool, (.int .i64)] (.tmp 19), none⟩,
    ⟨(some 4), .alloc [(.int .i64 0), (.int .i64 0), (.bool false), (.int .u64 0), (.int .u64 0), (.bool false), (.bool false), (.int .i64 0)], none⟩,
    ⟨none, .store 8 (.tmp 4) (.tmp 20), none⟩]
def k80_6 : VC := .reg [⟨(some 21), .build [(.bool false), (.int .i64 0)] [(0, 1, (.const (.bool true)))], none⟩,
    ⟨(some 22), .fieldA 6 (.tmp 4), none⟩,
    ⟨none, .store 2 (.tmp 22) (.tmp 21), none⟩]
def k80_7 : VC := .reg [⟨(some 23), .mv (.tmp 2), none⟩,
    ⟨(some 24), .loadN [(.int .i64), (.int .i64), .bool, (.int .u64), (.int .u64), .bool, .bool, (.int .i64)] (.tmp 4), none⟩,
    ⟨(some 25), .buildSl 1 8 [(.int .i64 0), (.int .i64 0), (.bool false), (.int .u64 0), (.int .u64 0), (.bool false), (.bool false), (.int .i64 0)] [(0, 8, (.tmp 24))], none⟩,
    ⟨(some 26), .app 136 8 64 (.tmp 23) (.tmp 25), none⟩,
    ⟨(some 2), .mv (.tmp 26), none⟩]
def k80_8 : VC := .seq k80_6 k80_7
def k80_9 : VC := .seq k80_5 k80_8
def k80_10 : VC := .block 1 k80_9
def k80_11 : VC := .reg [⟨(some 12), .mv (.tmp 3), none⟩,
    ⟨(some 13), .bin .add (.tmp 12) (.const (.int .i64 1)), none⟩,
    ⟨(some 3), .mv (.tmp 13), none⟩]
def k80_12 : VC := .seq k80_10 k80_11
def k80_13 : VC := .seq k80_4 k80_12
def k80_14 : VC := .loop k80_13
def k80_15 : VC := .block 0 k80_14
def k80_16 : VC := .seq k80_1 k80_15
def k80_17 : VC := .reg [⟨(some 27), .mv (.tmp 0), none⟩,
    ⟨(some 28), .mv (.tmp 2), none⟩,
    ⟨(some 29), .nilCheck (.tmp 27), none⟩,
    ⟨(some 30), .fieldA 2 (.tmp 29), none⟩,
    ⟨none, .store 1 (.tmp 30) (.tmp 28), none⟩]
def k80_18 : VC := .reg [⟨(some 31), .mv (.tmp 0), none⟩,
    ⟨(some 32), .nilCheck (.tmp 31), none⟩,
    ⟨(some 33), .fieldA 4 (.tmp 32), none⟩,
    ⟨(some 34), .load1 (.int .i64) (.tmp 33), none⟩,
    ⟨(some 35), .bin .add (.tmp 34) (.const (.int .i64 1)), none⟩,
    ⟨(some 36), .nilCheck (.tmp 31), none⟩,
    ⟨(some 37), .fieldA 4 (.tmp 36), none⟩,
    ⟨none, .store 1 (.tmp 37) (.tmp 35), none⟩]
def k80_19 : VC := .seq k80_17 k80_18
def k80_20 : VC := .seq k80_16 k80_19
def k80_21 : VC := .seq k80_0 k80_20
def fn80 : VFn := ⟨38, k80_21, []⟩
def k23_0 : VC := .reg [⟨(some 2), .mv (.const (.slice none 0 0)), none⟩]
def k23_1 : VC := .reg [⟨(some 3), .mv (.const (.slice none 0 0)), none⟩]
def k23_2 : VC := .reg [⟨(some 4), .mv (.const (.int .i64 0)), none⟩]
def k23_3 : VC := .reg [⟨(some 5), .mv (.tmp 4), none⟩,
    ⟨(some 6), .mv (.tmp 0), none⟩,
    ⟨(some 7), .nilCheck (.tmp 6), none⟩,
    ⟨(some 8), .fieldA 2 (.tmp 7), none⟩,
    ⟨(some 9), .load1 .oth (.tmp 8), none⟩,
    ⟨(some 10), .lenL (.tmp 9), none⟩,
    ⟨(some 11), .bin .lss (.tmp 5) (.tmp 10), none⟩]
def k23_4 : VC := .cond (.tmp 11) .skip (.exit 0)
def k23_5 : VC := .seq k23_3 k23_4
def k23_6 : VC := .reg [⟨(some 14), .mv (.tmp 3), none⟩,
    ⟨(some 15), .mv (.tmp 0), none⟩,
    ⟨(some 16), .nilCheck (.tmp 15), none⟩,
    ⟨(some 17), .fieldA 2 (.tmp 16), none⟩,
    ⟨(some 18), .load1 .oth (.tmp 17), none⟩,
    ⟨(some 19), .mv (.tmp 4), none⟩,
    ⟨(some 20), .idxAL 8 (.tmp 18) (.tmp 19), none⟩,
    ⟨(some 21), .loadN [(.int .i64), (.int .i64), .bool, (.int .u64), (.int .u64), .bool, .bool, (.int .i64)] (.tmp 20), none⟩,
    ⟨(some 22), .callF 74 [(.tmp 21)], none⟩,
    ⟨(some 23), .buildSl 1 6 [(.int .i64 0), (.int .i64 0), (.int .i64 0), (.bool false), (.int .u64 0), (.int .u64 0)] [(0, 6, (.tmp 22))], none⟩,
    ⟨(some 24), .app 37 6 48 (.tmp 14) (.tmp 23), none⟩,
    ⟨(some 3), .mv (.tmp 24), none⟩]
def k23_7 : VC := .block 1 k23_6
def k23_8 : VC := .reg [⟨(some 12), .mv (.tmp 4), none⟩,
    ⟨(some 13), .bin .add (.tmp 12) (.const (.int .i64 1)), none⟩,
    ⟨(some 4), .mv (.tmp 13), none⟩]
def k23_9 : VC := .seq k23_7 k23_8
def k23_10 : VC := .seq k23_5 k23_9
def k23_11 : VC := .loop k23_10
def k23_12 : VC := .block 0 k23_11
def k23_13 : VC := .seq k23_2 k23_12
def k23_14 : VC := .reg [⟨(some 25), .mv (.tmp 3), none⟩,
    ⟨(some 2), .mv (.tmp 25), none⟩]
def k23_15 : VC := .seq k23_14 .ret
def k23_16 : VC := .seq k23_13 k23_15
def k23_17 : VC := .seq k23_1 k23_16
def k23_18 : VC := .seq k23_0 k23_17
def fn23 : VFn := ⟨26, k23_18, [.tmp 2]⟩
def k21_0 : VC := .reg [⟨(some 4), .mv (.const (.bool false)), none⟩]
def k21_1 : VC := .reg [⟨(some 6), .mv (.tmp 0), none⟩,
    ⟨(some 7), .lenL (.tmp 6), none⟩,
    ⟨(some 8), .mv (.tmp 1), none⟩,
    ⟨(some 9), .lenL (.tmp 8), none⟩,
    ⟨(some 10), .bin .neq (.tmp 7) (.tmp 9), none⟩]
def k21_2 : VC := .reg [⟨(some 4), .mv (.const (.bool false)), none⟩]
def k21_3 : VC := .seq k21_2 .ret
def k21_4 : VC := .cond (.tmp 10) k21_3 .skip
def k21_5 : VC := .seq k21_1 k21_4
def k21_6 : VC := .reg [⟨(some 5), .mv (.const (.int .i64 0)), none⟩]
def k21_7 : VC := .reg [⟨(some 11), .mv (.tmp 5), none⟩,
    ⟨(some 12), .mv (.tmp 0), none⟩,
    ⟨(some 13), .lenL (.tmp 12), none⟩,
    ⟨(some 14), .bin .lss (.tmp 11) (.tmp 13), none⟩]
def k21_8 : VC := .cond (.tmp 14) .skip (.exit 0)
def k21_9 : VC := .seq k21_7 k21_8
def k21_10 : VC := .regD [⟨(some 17), .mv (.tmp 0), none⟩,
    ⟨(some 18), .mv (.tmp 5), none⟩,
    ⟨(some 19), .idxAL 6 (.tmp 17) (.tmp 18), none⟩,
    ⟨(some 20), .loadN [(.int .i64), (.int .i64), (.int .i64), .bool, (.int .u64), (.int .u64)] (.tmp 19), none⟩,
    ⟨(some 21), .mv (.tmp 1), none⟩,
    ⟨(some 22), .mv (.tmp 5), none⟩,
    ⟨(some 23), .idxAL 6 (.tmp 21) (.tmp 22), none⟩,
    ⟨(some 24), .loadN [(.int .i64), (.int .i64), (.int .i64), .bool, (.int .u64), (.int .u64)] (.tmp 23), none⟩] [] [⟨(some 25), .eqAgg true [(0, (.int .i64)), (1, (.int .i64)), (2, (.int .i64)), (3, .bool), (4, (.int .u64)), (5, (.int .u64))] (.tmp 20) (.tmp 24), none⟩]
def k21_11 : VC := .reg [⟨(some 4), .mv (.const (.bool false)), none⟩]
def k21_12 : VC := .seq k21_11 .ret
def k21_13 : VC := .cond (.tmp 25) k21_12 .skip
def k21_14 : VC := .seq k21_10 k21_13
def k21_15 : VC := .block 1 k21_14
def k21_16 : VC := .reg [⟨(some 15), .mv (.tmp 5), none⟩,
    ⟨(some 16), .bin .add (.tmp 15) (.const (.int .i64 1)), none⟩,
    ⟨(some 5), .mv (.tmp 16), none⟩]
def k21_17 : VC := .seq k21_15 k21_16
def k21_18 : VC := .seq k21_9 k21_17
def k21_19 : VC := .loop k21_18
def k21_20 : VC := .block 0 k21_19
def k21_21 : VC := .seq k21_6 k21_20
def k21_22 : VC := .reg [⟨(some 4), .mv (.const (.bool true)), none⟩]
def k21_23 : VC := .seq k21_22 .ret
def k21_24 : VC := .seq k21_21 k21_23
def k21_25 : VC := .seq k21_5 k21_24
def k21_26 : VC := .seq k21_0 k21_25
def fn21 : VFn := ⟨26, k21_26, [.tmp 4]⟩
def k4_0 : VC := .reg [⟨(some 2), .box (.tmp 0), none⟩,
    ⟨(some 4), .mv (.const (.bool false)), none⟩]
def k4_1 : VC := .reg [⟨(some 22), .loadN [(.int .i64), (.int .i64)] (.tmp 2), none⟩,
    ⟨(some 23), .callF 25 [(.tmp 22)], none⟩,
    ⟨(some 24), .not (.tmp 23), none⟩,
    ⟨(some 25), .mv (.tmp 24), none⟩,
    ⟨(some 26), .mv (.tmp 1), (some (25, false))⟩,
    ⟨(some 27), .lenL (.tmp 26), (some (25, false))⟩,
    ⟨(some 28), .bin .gtr (.tmp 27) (.const (.int .i64 100)), (some (25, false))⟩,
    ⟨(some 29), .pick (.tmp 25) (.const (.bool true)) (.tmp 28), none⟩]
def k4_2 : VC := .reg [⟨(some 30), .callF 15 [], none⟩,
    ⟨(some 4), .mv (.tmp 30), none⟩]
def k4_3 : VC := .seq k4_2 .ret
def k4_4 : VC := .cond (.tmp 29) k4_3 .skip
def k4_5 : VC := .seq k4_1 k4_4
def k4_6 : VC := .reg [⟨(some 32), .fieldA 0 (.tmp 2), none⟩,
    ⟨(some 33), .load1 (.int .i64) (.tmp 32), none⟩,
    ⟨(some 34), .fieldA 1 (.tmp 2), none⟩,
    ⟨(some 35), .load1 (.int .i64) (.tmp 34), none⟩,
    ⟨(some 36), .build [(.int .i64 0), (.int .i64 0)] [(0, 1, (.tmp 33)), (1, 1, (.tmp 35))], none⟩,
    ⟨(some 37), .callF 16 [(.tmp 36)], none⟩,
    ⟨(some 31), .mv (.tmp 37), none⟩,
    ⟨(some 38), .extract 0 (.tmp 31), none⟩,
    ⟨(some 39), .extract 1 (.tmp 31), none⟩,
    ⟨(some 5), .mv (.tmp 38), none⟩,
    ⟨(some 6), .mv (.tmp 39), none⟩]
def k4_7 : VC := .reg [⟨(some 40), .mv (.tmp 6), none⟩,
    ⟨(some 41), .bin .neq (.tmp 40) (.const (.int .i64 0)), none⟩]
def k4_8 : VC := .reg [⟨(some 4), .mv (.const (.bool false)), none⟩]
def k4_9 : VC := .seq k4_8 .ret
def k4_10 : VC := .cond (.tmp 41) k4_9 .skip
def k4_11 : VC := .seq k4_7 k4_10
def k4_12 : VC := .reg [⟨(some 7), .mv (.const (.int .i64 0)), none⟩]
def k4_13 : VC := .reg [⟨(some 8), .mv (.const (.int .i64 0)), none⟩]
def k4_14 : VC := .reg [⟨(some 42), .mv (.tmp 8), none⟩,
    ⟨(some 43), .mv (.tmp 1), none⟩,
    ⟨(some 44), .lenL (.tmp 43), none⟩,
    ⟨(some 45), .bin .lss (.tmp 42) (.tmp 44), none⟩]
def k4_15 : VC := .cond (.tmp 45) .skip (.exit 0)
def k4_16 : VC := .seq k4_14 k4_15
def k4_17 : VC := .reg [⟨(some 48), .mv (.tmp 5), none⟩,
    ⟨(some 49), .callF 22 [(.tmp 48)], none⟩,
    ⟨(some 50), .mv (.tmp 5), none⟩,
    ⟨(some 51), .callF 24 [(.tmp 50)], none⟩,
    ⟨(some 9), .mv (.tmp 49), none⟩,
    ⟨(some 10), .mv (.tmp 51), none⟩]
def k4_18 : VC := .reg [⟨(some 52), .mv (.tmp 1), none⟩,
    ⟨(some 53), .mv (.tmp 8), none⟩,
    ⟨(some 54), .idxAL 7 (.tmp 52) (.tmp 53), none⟩,
    ⟨(some 55), .loadN [(.int .i64), (.int .i64), (.int .i64), .bool, (.int .u64), (.int .u64), .bool] (.tmp 54), none⟩,
    ⟨(some 11), .alloc [(.int .i64 0), (.int .i64 0), (.int .i64 0), (.bool false), (.int .u64 0), (.int .u64 0), (.bool false)], none⟩,
    ⟨none, .store 7 (.tmp 11) (.tmp 55), none⟩]
def k4_19 : VC := .reg [⟨(some 12), .mv (.const (.bool false)), none⟩]
def k4_20 : VC := .reg [⟨(some 56), .fieldA 0 (.tmp 11), none⟩,
    ⟨(some 57), .load1 (.int .i64) (.tmp 56), none⟩]
def k4_21 : VC := .reg [⟨(some 59), .bin .eql (.tmp 57) (.const (.int .i64 0)), none⟩,
    ⟨(some 58), .mv (.tmp 59), none⟩]
def k4_22 : VC := .reg [⟨(some 61), .mv (.tmp 5), none⟩,
    ⟨(some 62), .fieldA 2 (.tmp 11), none⟩,
    ⟨(some 63), .load1 (.int .i64) (.tmp 62), none⟩,
    ⟨(some 64), .fieldA 3 (.tmp 11), none⟩,
    ⟨(some 65), .loadN [.bool, (.int .u64), (.int .u64)] (.tmp 64), none⟩,
    ⟨(some 66), .callF 26 [(.tmp 61), (.tmp 63), (.tmp 65)], none⟩,
    ⟨(some 60), .mv (.tmp 66), none⟩,
    ⟨(some 67), .extract 0 (.tmp 60), none⟩,
    ⟨(some 68), .extract 1 (.tmp 60), none⟩,
    ⟨(some 13), .mv (.tmp 67), none⟩,
    ⟨(some 14), .mv (.tmp 68), none⟩]
def k4_23 : VC := .reg [⟨(some 69), .mv (.tmp 14), none⟩,
    ⟨(some 70), .bin .eql (.tmp 69) (.const (.int .i64 0)), none⟩,
    ⟨(some 71), .mv (.tmp 70), none⟩,
    ⟨(some 72), .mv (.tmp 13), (some (71, true))⟩,
    ⟨(some 73), .mv (.tmp 7), (some (71, true))⟩,
    ⟨(some 74), .bin .add (.tmp 73) (.const (.int .i64 1)), (some (71, true))⟩,
    ⟨(some 75), .bin .neq (.tmp 72) (.tmp 74), (some (71, true))⟩,
    ⟨(some 76), .pick (.tmp 71) (.tmp 75) (.const (.bool false)), none⟩]
def k4_24 : VC := .reg [⟨(some 4), .mv (.const (.bool false)), none⟩]
def k4_25 : VC := .seq k4_24 .ret
def k4_26 : VC := .cond (.tmp 76) k4_25 .skip
def k4_27 : VC := .seq k4_23 k4_26
def k4_28 : VC := .reg [⟨(some 77), .mv (.tmp 14), none⟩,
    ⟨(some 78), .bin .eql (.tmp 77) (.const (.int .i64 0)), none⟩]
def k4_29 : VC := .reg [⟨(some 79), .mv (.tmp 13), none⟩,
    ⟨(some 7), .mv (.tmp 79), none⟩]
def k4_30 : VC := .cond (.tmp 78) k4_29 .skip
def k4_31 : VC := .seq k4_28 k4_30
def k4_32 : VC := .reg [⟨(some 80), .mv (.tmp 14), none⟩,
    ⟨(some 81), .bin .eql (.tmp 80) (.const (.int .i64 0)), none⟩,
    ⟨(some 12), .mv (.tmp 81), none⟩]
def k4_33 : VC := .seq k4_31 k4_32
def k4_34 : VC := .seq k4_27 k4_33
def k4_35 : VC := .seq k4_22 k4_34
def k4_36 : VC := .reg [⟨(some 83), .bin .eql (.tmp 57) (.const (.int .i64 1)), none⟩,
    ⟨(some 82), .mv (.tmp 83), none⟩]
def k4_37 : VC := .reg [⟨(some 84), .mv (.tmp 5), none⟩,
    ⟨(some 85), .fieldA 1 (.tmp 11), none⟩,
    ⟨(some 86), .load1 (.int .i64) (.tmp 85), none⟩,
    ⟨(some 87), .callF 27 [(.tmp 84), (.tmp 86)], none⟩,
    ⟨(some 15), .mv (.tmp 87), none⟩]
def k4_38 : VC := .reg [⟨(some 89), .mv (.tmp 5), none⟩,
    ⟨(some 90), .fieldA 1 (.tmp 11), none⟩,
    ⟨(some 91), .load1 (.int .i64) (.tmp 90), none⟩,
    ⟨(some 92), .callF 18 [(.tmp 89), (.tmp 91)], none⟩,
    ⟨(some 88), .mv (.tmp 92), none⟩,
    ⟨(some 93), .extract 0 (.tmp 88), none⟩,
    ⟨(some 94), .extract 1 (.tmp 88), none⟩,
    ⟨(some 16), .alloc [(.int .i64 0), (.int .i64 0), (.int .i64 0), (.bool false), (.int .u64 0), (.int .u64 0)], none⟩,
    ⟨none, .store 6 (.tmp 16) (.tmp 93), none⟩,
    ⟨(some 17), .mv (.tmp 94), none⟩]
def k4_39 : VC := .reg [⟨(some 95), .mv (.tmp 15), none⟩,
    ⟨(some 96), .bin .eql (.tmp 95) (.const (.int .i64 0)), none⟩,
    ⟨(some 97), .mv (.tmp 96), none⟩,
    ⟨(some 98), .mv (.tmp 17), (some (97, true))⟩,
    ⟨(some 99), .not (.tmp 98), (some (97, true))⟩,
    ⟨(some 100), .mv (.tmp 99), (some (97, true))⟩,
    ⟨(some 101), .loadN [(.int .i64), (.int .i64), (.int .i64), .bool, (.int .u64), (.int .u64)] (.tmp 16), (some (100, false))⟩,
    ⟨(some 102), .fieldA 1 (.tmp 11), (some (100, false))⟩,
    ⟨(some 103), .load1 (.int .i64) (.tmp 102), (some (100, false))⟩,
    ⟨(some 104), .build [(.int .i64 0), (.int .i64 0), (.int .i64 0), (.bool false), (.int .u64 0), (.int .u64 0)] [(0, 1, (.tmp 103)), (2, 1, (.const (.int .i64 4)))], (some (100, false))⟩,
    ⟨(some 105), .eqAgg true [(0, (.int .i64)), (1, (.int .i64)), (2, (.int .i64)), (3, .bool), (4, (.int .u64)), (5, (.int .u64))] (.tmp 101) (.tmp 104), (some (100, false))⟩,
    ⟨(some 106), .pick (.tmp 100) (.const (.bool true)) (.tmp 105), (some (97, true))⟩,
    ⟨(some 107), .pick (.tmp 97) (.tmp 106) (.const (.bool false)), none⟩]
def k4_40 : VC := .reg [⟨(some 4), .mv (.const (.bool false)), none⟩]
def k4_41 : VC := .seq k4_40 .ret
def k4_42 : VC := .cond (.tmp 107) k4_41 .skip
def k4_43 : VC := .seq k4_39 k4_42
def k4_44 : VC := .reg [⟨(some 108), .mv (.tmp 15), none⟩,
    ⟨(some 109), .bin .eql (.tmp 108) (.const (.int .i64 0)), none⟩,
    ⟨(some 12), .mv (.tmp 109), none⟩]
def k4_45 : VC := .seq k4_43 k4_44
def k4_46 : VC := .seq k4_38 k4_45
def k4_47 : VC := .seq k4_37 k4_46
def k4_48 : VC := .reg [⟨(some 111), .bin .eql (.tmp 57) (.const (.int .i64 2)), none⟩,
    ⟨(some 110), .mv (.tmp 111), none⟩]
def k4_49 : VC := .reg [⟨(some 112), .mv (.tmp 5), none⟩,
    ⟨(some 113), .fieldA 1 (.tmp 11), none⟩,
    ⟨(some 114), .load1 (.int .i64) (.tmp 113), none⟩,
    ⟨(some 115), .fieldA 6 (.tmp 11), none⟩,
    ⟨(some 116), .load1 .bool (.tmp 115), none⟩,
    ⟨(some 117), .callF 28 [(.tmp 112), (.tmp 114), (.tmp 116)], none⟩,
    ⟨(some 118), .bin .eql (.tmp 117) (.const (.int .i64 0)), none⟩,
    ⟨(some 12), .mv (.tmp 118), none⟩]
def k4_50 : VC := .reg [⟨(some 120), .bin .eql (.tmp 57) (.const (.int .i64 3)), none⟩,
    ⟨(some 119), .mv (.tmp 120), none⟩]
def k4_51 : VC := .reg [⟨(some 121), .mv (.tmp 5), none⟩,
    ⟨(some 122), .fieldA 1 (.tmp 11), none⟩,
    ⟨(some 123), .load1 (.int .i64) (.tmp 122), none⟩,
    ⟨(some 124), .fieldA 2 (.tmp 11), none⟩,
    ⟨(some 125), .load1 (.int .i64) (.tmp 124), none⟩,
    ⟨(some 126), .callF 29 [(.tmp 121), (.tmp 123), (.tmp 125)], none⟩,
    ⟨(some 127), .bin .eql (.tmp 126) (.const (.int .i64 0)), none⟩,
    ⟨(some 12), .mv (.tmp 127), none⟩]
def k4_52 : VC := .reg [⟨(some 129), .bin .eql (.tmp 57) (.const (.int .i64 4)), none⟩,
    ⟨(some 128), .mv (.tmp 129), none⟩]
def k4_53 : VC := .reg [⟨(some 131), .mv (.tmp 5), none⟩,
    ⟨(some 132), .fieldA 1 (.tmp 11), none⟩,
    ⟨(some 133), .load1 (.int .i64) (.tmp 132), none⟩,
    ⟨(some 134), .fieldA 6 (.tmp 11), none⟩,
    ⟨(some 135), .load1 .bool (.tmp 134), none⟩,
    ⟨(some 136), .callF 30 [(.tmp 131), (.tmp 133), (.tmp 135)], none⟩,
    ⟨(some 130), .mv (.tmp 136), none⟩,
    ⟨(some 137), .extract 0 (.tmp 130), none⟩,
    ⟨(some 138), .extract 1 (.tmp 130), none⟩,
    ⟨(some 18), .mv (.tmp 137), none⟩,
    ⟨(some 19), .mv (.tmp 138), none⟩]
def k4_54 : VC := .reg [⟨(some 139), .mv (.tmp 18), none⟩,
    ⟨(some 140), .mv (.tmp 139), none⟩,
    ⟨(some 141), .mv (.tmp 19), (some (140, true))⟩,
    ⟨(some 142), .bin .neq (.tmp 141) (.const (.int .i64 0)), (some (140, true))⟩,
    ⟨(some 143), .pick (.tmp 140) (.tmp 142) (.const (.bool false)), none⟩]
def k4_55 : VC := .reg [⟨(some 4), .mv (.const (.bool false)), none⟩]
def k4_56 : VC := .seq k4_55 .ret
def k4_57 : VC := .cond (.tmp 143) k4_56 .skip
def k4_58 : VC := .seq k4_54 k4_57
def k4_59 : VC := .reg [⟨(some 144), .mv (.tmp 18), none⟩,
    ⟨(some 12), .mv (.tmp 144), none⟩]
def k4_60 : VC := .seq k4_58 k4_59
def k4_61 : VC := .seq k4_53 k4_60
def k4_62 : VC := .reg [⟨(some 146), .bin .eql (.tmp 57) (.const (.int .i64 5)), none⟩,
    ⟨(some 145), .mv (.tmp 146), none⟩]
def k4_63 : VC := .reg [⟨(some 147), .mv (.tmp 5), none⟩,
    ⟨(some 148), .callF 31 [(.tmp 147)], none⟩]
def k4_64 : VC := .reg [⟨(some 12), .mv (.const (.bool true)), none⟩]
def k4_65 : VC := .seq k4_63 k4_64
def k4_66 : VC := .cond (.tmp 145) k4_65 .skip
def k4_67 : VC := .seq k4_62 k4_66
def k4_68 : VC := .cond (.tmp 128) k4_61 k4_67
def k4_69 : VC := .seq k4_52 k4_68
def k4_70 : VC := .cond (.tmp 119) k4_51 k4_69
def k4_71 : VC := .seq k4_50 k4_70
def k4_72 : VC := .cond (.tmp 110) k4_49 k4_71
def k4_73 : VC := .seq k4_48 k4_72
def k4_74 : VC := .cond (.tmp 82) k4_47 k4_73
def k4_75 : VC := .seq k4_36 k4_74
def k4_76 : VC := .cond (.tmp 58) k4_35 k4_75
def k4_77 : VC := .seq k4_21 k4_76
def k4_78 : VC := .block 2 k4_77
def k4_79 : VC := .seq k4_20 k4_78
def k4_80 : VC := .reg [⟨(some 149), .mv (.tmp 5), none⟩,
    ⟨(some 150), .callF 22 [(.tmp 149)], none⟩,
    ⟨(some 20), .mv (.tmp 150), none⟩]
def k4_81 : VC := .reg [⟨(some 151), .mv (.tmp 12), none⟩,
    ⟨(some 152), .mv (.tmp 151), none⟩,
    ⟨(some 153), .mv (.tmp 5), (some (152, true))⟩,
    ⟨(some 154), .callF 24 [(.tmp 153)], (some (152, true))⟩,
    ⟨(some 155), .mv (.tmp 10), (some (152, true))⟩,
    ⟨(some 156), .bin .add (.tmp 155) (.const (.int .i64 1)), (some (152, true))⟩,
    ⟨(some 157), .bin .neq (.tmp 154) (.tmp 156), (some (152, true))⟩,
    ⟨(some 158), .pick (.tmp 152) (.tmp 157) (.const (.bool false)), none⟩,
    ⟨(some 159), .mv (.tmp 158), none⟩,
    ⟨(some 160), .mv (.tmp 12), (some (159, false))⟩,
    ⟨(some 161), .not (.tmp 160), (some (159, false))⟩,
    ⟨(some 162), .mv (.tmp 161), (some (159, false))⟩,
    ⟨(some 163), .mv (.tmp 5), (some (162, true))⟩,
    ⟨(some 164), .callF 24 [(.tmp 163)], (some (162, true))⟩,
    ⟨(some 165), .mv (.tmp 10), (some (162, true))⟩,
    ⟨(some 166), .bin .neq (.tmp 164) (.tmp 165), (some (162, true))⟩,
    ⟨(some 167), .mv (.tmp 166), (some (162, true))⟩,
    ⟨(some 168), .mv (.tmp 20), (some (167, false))⟩,
    ⟨(some 169), .mv (.tmp 9), (some (167, false))⟩,
    ⟨(some 170), .callF 21 [(.tmp 168), (.tmp 169)], (some (167, false))⟩,
    ⟨(some 171), .not (.tmp 170), (some (167, false))⟩,
    ⟨(some 172), .pick (.tmp 167) (.const (.bool true)) (.tmp 171), (some (162, true))⟩,
    ⟨(some 173), .pick (.tmp 162) (.tmp 172) (.const (.bool false)), (some (159, false))⟩,
    ⟨(some 174), .pick (.tmp 159) (.const (.bool true)) (.tmp 173), none⟩]
def k4_82 : VC := .reg [⟨(some 4), .mv (.const (.bool false)), none⟩]
def k4_83 : VC := .seq k4_82 .ret
def k4_84 : VC := .cond (.tmp 174) k4_83 .skip
def k4_85 : VC := .seq k4_81 k4_84
def k4_86 : VC := .reg [⟨(some 21), .mv (.const (.int .i64 0)), none⟩]
def k4_87 : VC := .reg [⟨(some 175), .mv (.tmp 21), none⟩,
    ⟨(some 176), .mv (.tmp 20), none⟩,
    ⟨(some 177), .lenL (.tmp 176), none⟩,
    ⟨(some 178), .bin .lss (.tmp 175) (.tmp 177), none⟩]
def k4_88 : VC := .cond (.tmp 178) .skip (.exit 3)
def k4_89 : VC := .seq k4_87 k4_88
def k4_90 : VC := .regD [⟨(some 181), .mv (.tmp 20), none⟩,
    ⟨(some 182), .mv (.tmp 21), none⟩,
    ⟨(some 183), .idxAL 6 (.tmp 181) (.tmp 182), none⟩,
    ⟨(some 184), .fieldA 0 (.tmp 183), none⟩,
    ⟨(some 185), .load1 (.int .i64) (.tmp 184), none⟩,
    ⟨(some 186), .bin .lss (.tmp 185) (.const (.int .i64 1)), none⟩,
    ⟨(some 187), .mv (.tmp 186), none⟩,
    ⟨(some 188), .mv (.tmp 20), (some (187, false))⟩,
    ⟨(some 189), .mv (.tmp 21), (some (187, false))⟩,
    ⟨(some 190), .idxAL 6 (.tmp 188) (.tmp 189), (some (187, false))⟩,
    ⟨(some 191), .fieldA 0 (.tmp 190), (some (187, false))⟩,
    ⟨(some 192), .load1 (.int .i64) (.tmp 191), (some (187, false))⟩,
    ⟨(some 193), .mv (.tmp 7), (some (187, false))⟩,
    ⟨(some 194), .bin .gtr (.tmp 192) (.tmp 193), (some (187, false))⟩,
    ⟨(some 195), .pick (.tmp 187) (.const (.bool true)) (.tmp 194), none⟩,
    ⟨(some 196), .mv (.tmp 195), none⟩,
    ⟨(some 197), .mv (.tmp 21), (some (196, false))⟩,
    ⟨(some 198), .bin .gtr (.tmp 197) (.const (.int .i64 0)), (some (196, false))⟩,
    ⟨(some 199), .mv (.tmp 198), (some (196, false))⟩,
    ⟨(some 200), .mv (.tmp 20), (some (199, true))⟩,
    ⟨(some 201), .mv (.tmp 21), (some (199, true))⟩,
    ⟨(some 202), .idxAL 6 (.tmp 200) (.tmp 201), (some (199, true))⟩,
    ⟨(some 203), .fieldA 0 (.tmp 202), (some (199, true))⟩,
    ⟨(some 204), .load1 (.int .i64) (.tmp 203), (some (199, true))⟩,
    ⟨(some 205), .mv (.tmp 20), (some (199, true))⟩,
    ⟨(some 206), .mv (.tmp 21), (some (199, true))⟩,
    ⟨(some 207), .bin .sub (.tmp 206) (.const (.int .i64 1)), (some (199, true))⟩,
    ⟨(some 208), .idxAL 6 (.tmp 205) (.tmp 207), (some (199, true))⟩,
    ⟨(some 209), .fieldA 0 (.tmp 208), (some (199, true))⟩,
    ⟨(some 210), .load1 (.int .i64) (.tmp 209), (some (199, true))⟩,
    ⟨(some 211), .bin .leq (.tmp 204) (.tmp 210), (some (199, true))⟩,
    ⟨(some 212), .pick (.tmp 199) (.tmp 211) (.const (.bool false)), (some (196, false))⟩,
    ⟨(some 213), .pick (.tmp 196) (.const (.bool true)) (.tmp 212), none⟩,
    ⟨(some 214), .mv (.tmp 213), none⟩,
    ⟨(some 215), .mv (.tmp 20), (some (214, false))⟩,
    ⟨(some 216), .mv (.tmp 21), (some (214, false))⟩,
    ⟨(some 217), .idxAL 6 (.tmp 215) (.tmp 216), (some (214, false))⟩,
    ⟨(some 218), .fieldA 2 (.tmp 217), (some (214, false))⟩,
    ⟨(some 219), .load1 (.int .i64) (.tmp 218), (some (214, false))⟩,
    ⟨(some 220), .bin .lss (.tmp 219) (.const (.int .i64 1)), (some (214, false))⟩,
    ⟨(some 221), .pick (.tmp 214) (.const (.bool true)) (.tmp 220), none⟩,
    ⟨(some 222), .mv (.tmp 221), none⟩,
    ⟨(some 223), .mv (.tmp 20), (some (222, false))⟩,
    ⟨(some 224), .mv (.tmp 21), (some (222, false))⟩] [] [⟨(some 225), .idxAL 6 (.tmp 223) (.tmp 224), (some (222, false))⟩,
    ⟨(some 226), .fieldA 2 (.tmp 225), (some (222, false))⟩,
    ⟨(some 227), .load1 (.int .i64) (.tmp 226), (some (222, false))⟩,
    ⟨(some 228), .bin .gtr (.tmp 227) (.const (.int .i64 3)), (some (222, false))⟩,
    ⟨(some 229), .pick (.tmp 222) (.const (.bool true)) (.tmp 228), none⟩]
def k4_91 : VC := .reg [⟨(some 4), .mv (.const (.bool false)), none⟩]
def k4_92 : VC := .seq k4_91 .ret
def k4_93 : VC := .cond (.tmp 229) k4_92 .skip
def k4_94 : VC := .seq k4_90 k4_93
def k4_95 : VC := .block 4 k4_94
def k4_96 : VC := .reg [⟨(some 179), .mv (.tmp 21), none⟩,
    ⟨(some 180), .bin .add (.tmp 179) (.const (.int .i64 1)), none⟩,
    ⟨(some 21), .mv (.tmp 180), none⟩]
def k4_97 : VC := .seq k4_95 k4_96
def k4_98 : VC := .seq k4_89 k4_97
def k4_99 : VC := .loop k4_98
def k4_100 : VC := .block 3 k4_99
def k4_101 : VC := .seq k4_86 k4_100
def k4_102 : VC := .seq k4_85 k4_101
def k4_103 : VC := .seq k4_80 k4_102
def k4_104 : VC := .seq k4_79 k4_103
def k4_105 : VC := .seq k4_19 k4_104
def k4_106 : VC := .seq k4_18 k4_105
def k4_107 : VC := .seq k4_17 k4_106
def k4_108 : VC := .block 1 k4_107
def k4_109 : VC := .reg [⟨(some 46), .mv (.tmp 8), none⟩,
    ⟨(some 47), .bin .add (.tmp 46) (.const (.int .i64 1)), none⟩,
    ⟨(some 8), .mv (.tmp 47), none⟩]
def k4_110 : VC := .seq k4_108 k4_109
def k4_111 : VC := .seq k4_16 k4_110
def k4_112 : VC := .loop k4_111
def k4_113 : VC := .block 0 k4_112
def k4_114 : VC := .seq k4_13 k4_113
def k4_115 : VC := .reg [⟨(some 230), .callF 15 [], none⟩,
    ⟨(some 4), .mv (.tmp 230), none⟩]
def k4_116 : VC := .seq k4_115 .ret
def k4_117 : VC := .seq k4_114 k4_116
def k4_118 : VC := .seq k4_12 k4_117
def k4_119 : VC := .seq k4_11 k4_118
def k4_120 : VC := .seq k4_6 k4_119
def k4_121 : VC := .seq k4_5 k4_120
def k4_122 : VC := .seq k4_0 k4_121
def fn4 : VFn := ⟨231, k4_122, [.tmp 4]⟩
def k5_0 : VC := .reg [⟨(some 2), .box (.tmp 0), none⟩,
    ⟨(some 4), .mv (.const (.bool false)), none⟩]
def k5_1 : VC := .reg [⟨(some 18), .loadN [(.int .i64), (.int .i64)] (.tmp 2), none⟩,
    ⟨(some 19), .callF 25 [(.tmp 18)], none⟩,
    ⟨(some 20), .not (.tmp 19), none⟩,
    ⟨(some 21), .mv (.tmp 20), none⟩,
    ⟨(some 22), .mv (.tmp 1), (some (21, false))⟩,
    ⟨(some 23), .lenL (.tmp 22), (some (21, false))⟩,
    ⟨(some 24), .bin .gtr (.tmp 23) (.const (.int .i64 100)), (some (21, false))⟩,
    ⟨(some 25), .pick (.tmp 21) (.const (.bool true)) (.tmp 24), none⟩]
def k5_2 : VC := .reg [⟨(some 26), .callF 15 [], none⟩,
    ⟨(some 4), .mv (.tmp 26), none⟩]
def k5_3 : VC := .seq k5_2 .ret
def k5_4 : VC := .cond (.tmp 25) k5_3 .skip
def k5_5 : VC := .seq k5_1 k5_4
def k5_6 : VC := .reg [⟨(some 28), .fieldA 0 (.tmp 2), none⟩,
    ⟨(some 29), .load1 (.int .i64) (.tmp 28), none⟩,
    ⟨(some 30), .fieldA 1 (.tmp 2), none⟩,
    ⟨(some 31), .load1 (.int .i64) (.tmp 30), none⟩,
    ⟨(some 32), .build [(.int .i64 0), (.int .i64 0)] [(0, 1, (.tmp 29)), (1, 1, (.tmp 31))], none⟩,
    ⟨(some 33), .callF 16 [(.tmp 32)], none⟩,
    ⟨(some 27), .mv (.tmp 33), none⟩,
    ⟨(some 34), .extract 0 (.tmp 27), none⟩,
    ⟨(some 35), .extract 1 (.tmp 27), none⟩,
    ⟨(some 5), .mv (.tmp 34), none⟩,
    ⟨(some 6), .mv (.tmp 35), none⟩]
def k5_7 : VC := .reg [⟨(some 36), .mv (.tmp 6), none⟩,
    ⟨(some 37), .bin .neq (.tmp 36) (.const (.int .i64 0)), none⟩]
def k5_8 : VC := .reg [⟨(some 4), .mv (.const (.bool false)), none⟩]
def k5_9 : VC := .seq k5_8 .ret
def k5_10 : VC := .cond (.tmp 37) k5_9 .skip
def k5_11 : VC := .seq k5_7 k5_10
def k5_12 : VC := .reg [⟨(some 7), .mv (.const (.int .i64 0)), none⟩]
def k5_13 : VC := .reg [⟨(some 38), .mv (.tmp 7), none⟩,
    ⟨(some 39), .mv (.tmp 1), none⟩,
    ⟨(some 40), .lenL (.tmp 39), none⟩,
    ⟨(some 41), .bin .lss (.tmp 38) (.tmp 40), none⟩]
def k5_14 : VC := .cond (.tmp 41) .skip (.exit 0)
def k5_15 : VC := .seq k5_13 k5_14
def k5_16 : VC := .reg [⟨(some 44), .mv (.tmp 1), none⟩,
    ⟨(some 45), .mv (.tmp 7), none⟩,
    ⟨(some 46), .idxAL 7 (.tmp 44) (.tmp 45), none⟩,
    ⟨(some 47), .loadN [(.int .i64), (.int .i64), (.int .i64), .bool, (.int .u64), (.int .u64), .bool] (.tmp 46), none⟩,
    ⟨(some 8), .alloc [(.int .i64 0), (.int .i64 0), (.int .i64 0), (.bool false), (.int .u64 0), (.int .u64 0), (.bool false)], none⟩,
    ⟨none, .store 7 (.tmp 8) (.tmp 47), none⟩]
def k5_17 : VC := .reg [⟨(some 48), .mv (.tmp 5), none⟩,
    ⟨(some 49), .callF 22 [(.tmp 48)], none⟩,
    ⟨(some 9), .mv (.tmp 49), none⟩]
def k5_18 : VC := .reg [⟨(some 10), .mv (.const (.int .i64 0)), none⟩]
def k5_19 : VC := .reg [⟨(some 50), .fieldA 0 (.tmp 8), none⟩,
    ⟨(some 51), .load1 (.int .i64) (.tmp 50), none⟩]
def k5_20 : VC := .reg [⟨(some 53), .bin .eql (.tmp 51) (.const (.int .i64 0)), none⟩,
    ⟨(some 52), .mv (.tmp 53), none⟩]
def k5_21 : VC := .reg [⟨(some 55), .mv (.tmp 5), none⟩,
    ⟨(some 56), .fieldA 2 (.tmp 8), none⟩,
    ⟨(some 57), .load1 (.int .i64) (.tmp 56), none⟩,
    ⟨(some 58), .fieldA 3 (.tmp 8), none⟩,
    ⟨(some 59), .loadN [.bool, (.int .u64), (.int .u64)] (.tmp 58), none⟩,
    ⟨(some 60), .callF 26 [(.tmp 55), (.tmp 57), (.tmp 59)], none⟩,
    ⟨(some 54), .mv (.tmp 60), none⟩,
    ⟨(some 61), .extract 0 (.tmp 54), none⟩,
    ⟨(some 62), .extract 1 (.tmp 54), none⟩,
    ⟨(some 11), .mv (.tmp 61), none⟩,
    ⟨(some 12), .mv (.tmp 62), none⟩]
def k5_22 : VC := .reg [⟨(some 63), .mv (.tmp 12), none⟩,
    ⟨(some 64), .bin .eql (.tmp 63) (.const (.int .i64 0)), none⟩]
def k5_23 : VC := .reg [⟨(some 10), .mv (.const (.int .i64 1)), none⟩]
def k5_24 : VC := .cond (.tmp 64) k5_23 .skip
def k5_25 : VC := .seq k5_22 k5_24
def k5_26 : VC := .seq k5_21 k5_25
def k5_27 : VC := .reg [⟨(some 66), .bin .eql (.tmp 51) (.const (.int .i64 1)), none⟩,
    ⟨(some 65), .mv (.tmp 66), none⟩]
def k5_28 : VC := .reg [⟨(some 67), .mv (.tmp 5), none⟩,
    ⟨(some 68), .fieldA 1 (.tmp 8), none⟩,
    ⟨(some 69), .load1 (.int .i64) (.tmp 68), none⟩,
    ⟨(some 70), .callF 27 [(.tmp 67), (.tmp 69)], none⟩,
    ⟨(some 71), .bin .eql (.tmp 70) (.const (.int .i64 0)), none⟩]
def k5_29 : VC := .reg [⟨(some 10), .mv (.const (.int .i64 (-1))), none⟩]
def k5_30 : VC := .cond (.tmp 71) k5_29 .skip
def k5_31 : VC := .seq k5_28 k5_30
def k5_32 : VC := .reg [⟨(some 73), .bin .eql (.tmp 51) (.const (.int .i64 2)), none⟩,
    ⟨(some 72), .mv (.tmp 73), none⟩]
def k5_33 : VC := .reg [⟨(some 74), .mv (.tmp 5), none⟩,
    ⟨(some 75), .fieldA 1 (.tmp 8), none⟩,
    ⟨(some 76), .load1 (.int .i64) (.tmp 75), none⟩,
    ⟨(some 77), .fieldA 6 (.tmp 8), none⟩,
    ⟨(some 78), .load1 .bool (.tmp 77), none⟩,
    ⟨(some 79), .callF 28 [(.tmp 74), (.tmp 76), (.tmp 78)], none⟩]
def k5_34 : VC := .reg [⟨(some 81), .bin .eql (.tmp 51) (.const (.int .i64 3)), none⟩,
    ⟨(some 80), .mv (.tmp 81), none⟩]
def k5_35 : VC := .reg [⟨(some 82), .mv (.tmp 5), none⟩,
    ⟨(some 83), .fieldA 1 (.tmp 8), none⟩,
    ⟨(some 84), .load1 (.int .i64) (.tmp 83), none⟩,
    ⟨(some 85), .fieldA 2 (.tmp 8), none⟩,
    ⟨(some 86), .load1 (.int .i64) (.tmp 85), none⟩,
    ⟨(some 87), .callF 29 [(.tmp 82), (.tmp 84), (.tmp 86)], none⟩]
def k5_36 : VC := .reg [⟨(some 89), .bin .eql (.tmp 51) (.const (.int .i64 4)), none⟩,
    ⟨(some 88), .mv (.tmp 89), none⟩]
def k5_37 : VC := .reg [⟨(some 90), .mv (.tmp 5), none⟩,
    ⟨(some 91), .fieldA 1 (.tmp 8), none⟩,
    ⟨(some 92), .load1 (.int .i64) (.tmp 91), none⟩,
    ⟨(some 93), .fieldA 6 (.tmp 8), none⟩,
    ⟨(some 94), .load1 .bool (.tmp 93), none⟩,
    ⟨(some 95), .callF 30 [(.tmp 90), (.tmp 92), (.tmp 94)], none⟩]
def k5_38 : VC := .reg [⟨(some 97), .bin .eql (.tmp 51) (.const (.int .i64 5)), none⟩,
    ⟨(some 96), .mv (.tmp 97), none⟩]
def k5_39 : VC := .reg [⟨(some 98), .mv (.tmp 5), none⟩,
    ⟨(some 99), .callF 31 [(.tmp 98)], none⟩]
def k5_40 : VC := .cond (.tmp 96) k5_39 .skip
def k5_41 : VC := .seq k5_38 k5_40
def k5_42 : VC := .cond (.tmp 88) k5_37 k5_41
def k5_43 : VC := .seq k5_36 k5_42
def k5_44 : VC := .cond (.tmp 80) k5_35 k5_43
def k5_45 : VC := .seq k5_34 k5_44
def k5_46 : VC := .cond (.tmp 72) k5_33 k5_45
def k5_47 : VC := .seq k5_32 k5_46
def k5_48 : VC := .cond (.tmp 65) k5_31 k5_47
def k5_49 : VC := .seq k5_27 k5_48
def k5_50 : VC := .cond (.tmp 52) k5_26 k5_49
def k5_51 : VC := .seq k5_20 k5_50
def k5_52 : VC := .block 2 k5_51
def k5_53 : VC := .seq k5_19 k5_52
def k5_54 : VC := .reg [⟨(some 100), .mv (.tmp 5), none⟩,
    ⟨(some 101), .callF 22 [(.tmp 100)], none⟩,
    ⟨(some 13), .mv (.tmp 101), none⟩]
def k5_55 : VC := .reg [⟨(some 102), .mv (.tmp 13), none⟩,
    ⟨(some 103), .lenL (.tmp 102), none⟩,
    ⟨(some 104), .mv (.tmp 9), none⟩,
    ⟨(some 105), .lenL (.tmp 104), none⟩,
    ⟨(some 106), .mv (.tmp 10), none⟩,
    ⟨(some 107), .bin .add (.tmp 105) (.tmp 106), none⟩,
    ⟨(some 108), .bin .neq (.tmp 103) (.tmp 107), none⟩]
def k5_56 : VC := .reg [⟨(some 4), .mv (.const (.bool false)), none⟩]
def k5_57 : VC := .seq k5_56 .ret
def k5_58 : VC := .cond (.tmp 108) k5_57 .skip
def k5_59 : VC := .seq k5_55 k5_58
def k5_60 : VC := .reg [⟨(some 14), .mv (.const (.int .i64 0)), none⟩]
def k5_61 : VC := .reg [⟨(some 109), .mv (.tmp 14), none⟩,
    ⟨(some 110), .mv (.tmp 9), none⟩,
    ⟨(some 111), .lenL (.tmp 110), none⟩,
    ⟨(some 112), .bin .lss (.tmp 109) (.tmp 111), none⟩]
def k5_62 : VC := .cond (.tmp 112) .skip (.exit 3)
def k5_63 : VC := .seq k5_61 k5_62
def k5_64 : VC := .reg [⟨(some 116), .mv (.tmp 5), none⟩,
    ⟨(some 117), .mv (.tmp 9), none⟩,
    ⟨(some 118), .mv (.tmp 14), none⟩,
    ⟨(some 119), .idxAL 6 (.tmp 117) (.tmp 118), none⟩,
    ⟨(some 120), .fieldA 0 (.tmp 119), none⟩,
    ⟨(some 121), .load1 (.int .i64) (.tmp 120), none⟩,
    ⟨(some 122), .callF 18 [(.tmp 116), (.tmp 121)], none⟩,
    ⟨(some 115), .mv (.tmp 122), none⟩,
    ⟨(some 123), .extract 0 (.tmp 115), none⟩,
    ⟨(some 124), .extract 1 (.tmp 115), none⟩,
    ⟨(some 15), .alloc [(.int .i64 0), (.int .i64 0), (.int .i64 0), (.bool false), (.int .u64 0), (.int .u64 0)], none⟩,
    ⟨none, .store 6 (.tmp 15) (.tmp 123), none⟩,
    ⟨(some 16), .mv (.tmp 124), none⟩]
def k5_65 : VC := .reg [⟨(some 125), .mv (.tmp 9), none⟩,
    ⟨(some 126), .mv (.tmp 14), none⟩,
    ⟨(some 127), .idxAL 6 (.tmp 125) (.tmp 126), none⟩,
    ⟨(some 128), .loadN [(.int .i64), (.int .i64), (.int .i64), .bool, (.int .u64), (.int .u64)] (.tmp 127), none⟩,
    ⟨(some 17), .alloc [(.int .i64 0), (.int .i64 0), (.int .i64 0), (.bool false), (.int .u64 0), (.int .u64 0)], none⟩,
    ⟨none, .store 6 (.tmp 17) (.tmp 128), none⟩]
def k5_66 : VC := .reg [⟨(some 129), .fieldA 0 (.tmp 8), none⟩,
    ⟨(some 130), .load1 (.int .i64) (.tmp 129), none⟩,
    ⟨(some 131), .bin .eql (.tmp 130) (.const (.int .i64 5)), none⟩,
    ⟨(some 132), .mv (.tmp 131), none⟩,
    ⟨(some 133), .fieldA 2 (.tmp 17), (some (132, true))⟩,
    ⟨(some 134), .load1 (.int .i64) (.tmp 133), (some (132, true))⟩,
    ⟨(some 135), .bin .eql (.tmp 134) (.const (.int .i64 2)), (some (132, true))⟩,
    ⟨(some 136), .pick (.tmp 132) (.tmp 135) (.const (.bool false)), none⟩]
def k5_67 : VC := .reg [⟨(some 137), .fieldA 2 (.tmp 17), none⟩,
    ⟨none, .store 1 (.tmp 137) (.const (.int .i64 1)), none⟩]
def k5_68 : VC := .cond (.tmp 136) k5_67 .skip
def k5_69 : VC := .seq k5_66 k5_68
def k5_70 : VC := .reg [⟨(some 138), .mv (.tmp 16), none⟩,
    ⟨(some 139), .not (.tmp 138), none⟩,
    ⟨(some 140), .mv (.tmp 139), none⟩,
    ⟨(some 141), .loadN [(.int .i64), (.int .i64), (.int .i64), .bool, (.int .u64), (.int .u64)] (.tmp 15), (some (140, false))⟩,
    ⟨(some 142), .loadN [(.int .i64), (.int .i64), (.int .i64), .bool, (.int .u64), (.int .u64)] (.tmp 17), (some (140, false))⟩,
    ⟨(some 143), .eqAgg true [(0, (.int .i64)), (1, (.int .i64)), (2, (.int .i64)), (3, .bool), (4, (.int .u64)), (5, (.int .u64))] (.tmp 141) (.tmp 142), (some (140, false))⟩,
    ⟨(some 144), .mv (.tmp 143), (some (140, false))⟩,
    ⟨(some 145), .fieldA 0 (.tmp 8), (some (144, true))⟩,
    ⟨(some 146), .load1 (.int .i64) (.tmp 145), (some (144, true))⟩,
    ⟨(some 147), .bin .lss (.tmp 146) (.const (.int .i64 1)), (some (144, true))⟩,
    ⟨(some 148), .mv (.tmp 147), (some (144, true))⟩,
    ⟨(some 149), .fieldA 0 (.tmp 8), (some (148, false))⟩,
    ⟨(some 150), .load1 (.int .i64) (.tmp 149), (some (148, false))⟩,
    ⟨(some 151), .bin .gtr (.tmp 150) (.const (.int .i64 4)), (some (148, false))⟩,
    ⟨(some 152), .pick (.tmp 148) (.const (.bool true)) (.tmp 151), (some (144, true))⟩,
    ⟨(some 153), .mv (.tmp 152), (some (144, true))⟩,
    ⟨(some 154), .fieldA 1 (.tmp 8), (some (153, false))⟩,
    ⟨(some 155), .load1 (.int .i64) (.tmp 154), (some (153, false))⟩,
    ⟨(some 156), .fieldA 0 (.tmp 17), (some (153, false))⟩,
    ⟨(some 157), .load1 (.int .i64) (.tmp 156), (some (153, false))⟩,
    ⟨(some 158), .bin .neq (.tmp 155) (.tmp 157), (some (153, false))⟩,
    ⟨(some 159), .pick (.tmp 153) (.const (.bool true)) (.tmp 158), (some (144, true))⟩,
    ⟨(some 160), .pick (.tmp 144) (.tmp 159) (.const (.bool false)), (some (140, false))⟩,
    ⟨(some 161), .pick (.tmp 140) (.const (.bool true)) (.tmp 160), none⟩]
def k5_71 : VC := .reg [⟨(some 4), .mv (.const (.bool false)), none⟩]
def k5_72 : VC := .seq k5_71 .ret
def k5_73 : VC := .cond (.tmp 161) k5_72 .skip
def k5_74 : VC := .seq k5_70 k5_73
def k5_75 : VC := .seq k5_69 k5_74
def k5_76 : VC := .seq k5_65 k5_75
def k5_77 : VC := .seq k5_64 k5_76
def k5_78 : VC := .block 4 k5_77
def k5_79 : VC := .reg [⟨(some 113), .mv (.tmp 14), none⟩,
    ⟨(some 114), .bin .add (.tmp 113) (.const (.int .i64 1)), none⟩,
    ⟨(some 14), .mv (.tmp 114), none⟩]
def k5_80 : VC := .seq k5_78 k5_79
def k5_81 : VC := .seq k5_63 k5_80
def k5_82 : VC := .loop k5_81
def k5_83 : VC := .block 3 k5_82
def k5_84 : VC := .seq k5_60 k5_83
def k5_85 : VC := .seq k5_59 k5_84
def k5_86 : VC := .seq k5_54 k5_85
def k5_87 : VC := .seq k5_53 k5_86
def k5_88 : VC := .seq k5_18 k5_87
def k5_89 : VC := .seq k5_17 k5_88
def k5_90 : VC := .seq k5_16 k5_89
def k5_91 : VC := .block 1 k5_90
def k5_92 : VC := .reg [⟨(some 42), .mv (.tmp 7), none⟩,
    ⟨(some 43), .bin .add (.tmp 42) (.const (.int .i64 1)), none⟩,
    ⟨(some 7), .mv (.tmp 43), none⟩]
def k5_93 : VC := .seq k5_91 k5_92
def k5_94 : VC := .seq k5_15 k5_93
def k5_95 : VC := .loop k5_94
def k5_96 : VC := .block 0 k5_95
def k5_97 : VC := .seq k5_12 k5_96
def k5_98 : VC := .reg [⟨(some 162), .callF 15 [], none⟩,
    ⟨(some 4), .mv (.tmp 162), none⟩]
def k5_99 : VC := .seq k5_98 .ret
def k5_100 : VC := .seq k5_97 k5_99
def k5_101 : VC := .seq k5_11 k5_100
def k5_102 : VC := .seq k5_6 k5_101
def k5_103 : VC := .seq k5_5 k5_102
def k5_104 : VC := .seq k5_0 k5_103
def fn5 : VFn := ⟨163, k5_104, [.tmp 4]⟩
theorem fn3_ok : (Try.prog.funcs[3]?).bind (compFn Try.prog) = some fn3 := by kernel_rfl
theorem fn15_ok : (Try.prog.funcs[15]?).bind (compFn Try.prog) = some fn15 := by kernel_rfl
theorem fn16_ok : (Try.prog.funcs[16]?).bind (compFn Try.prog) = some fn16 := by kernel_rfl
theorem fn69_ok : (Try.prog.funcs[69]?).bind (compFn Try.prog) = some fn69 := by kernel_rfl
theorem fn121_ok : (Try.prog.funcs[121]?).bind (compFn Try.prog) = some fn121 := by kernel_rfl
theorem fn26_ok : (Try.prog.funcs[26]?).bind (compFn Try.prog) = some fn26 := by kernel_rfl
theorem fn70_ok : (Try.prog.funcs[70]?).bind (compFn Try.prog) = some fn70 := by kernel_rfl
theorem fn81_ok : (Try.prog.funcs[81]?).bind (compFn Try.prog) = some fn81 := by kernel_rfl
theorem fn82_ok : (Try.prog.funcs[82]?).bind (compFn Try.prog) = some fn82 := by kernel_rfl
theorem fn27_ok : (Try.prog.funcs[27]?).bind (compFn Try.prog) = some fn27 := by kernel_rfl
theorem fn83_ok : (Try.prog.funcs[83]?).bind (compFn Try.prog) = some fn83 := by kernel_rfl
theorem fn71_ok : (Try.prog.funcs[71]?).bind (compFn Try.prog) = some fn71 := by kernel_rfl
theorem fn122_ok : (Try.prog.funcs[122]?).bind (compFn Try.prog) = some fn122 := by kernel_rfl
theorem fn123_ok : (Try.prog.funcs[123]?).bind (compFn Try.prog) = some fn123 := by kernel_rfl
theorem fn84_ok : (Try.prog.funcs[84]?).bind (compFn Try.prog) = some fn84 := by kernel_rfl
theorem fn86_ok : (Try.prog.funcs[86]?).bind (compFn Try.prog) = some fn86 := by kernel_rfl
theorem fn85_ok : (Try.prog.funcs[85]?).bind (compFn Try.prog) = some fn85 := by kernel_rfl
theorem fn127_ok : (Try.prog.funcs[127]?).bind (compFn Try.prog) = some fn127 := by kernel_rfl
theorem fn31_ok : (Try.prog.funcs[31]?).bind (compFn Try.prog) = some fn31 := by kernel_rfl
theorem fn18_ok : (Try.prog.funcs[18]?).bind (compFn Try.prog) = some fn18 := by kernel_rfl
theorem fn72_ok : (Try.prog.funcs[72]?).bind (compFn Try.prog) = some fn72 := by kernel_rfl
theorem fn24_ok : (Try.prog.funcs[24]?).bind (compFn Try.prog) = some fn24 := by kernel_rfl
theorem fn22_ok : (Try.prog.funcs[22]?).bind (compFn Try.prog) = some fn22 := by kernel_rfl
theorem fn17_ok : (Try.prog.funcs[17]?).bind (compFn Try.prog) = some fn17 := by kernel_rfl
theorem fn25_ok : (Try.prog.funcs[25]?).bind (compFn Try.prog) = some fn25 := by kernel_rfl
theorem fn19_ok : (Try.prog.funcs[19]?).bind (compFn Try.prog) = some fn19 := by kernel_rfl
theorem fn73_ok : (Try.prog.funcs[73]?).bind (compFn Try.prog) = some fn73 := by kernel_rfl
theorem fn74_ok : (Try.prog.funcs[74]?).bind (compFn Try.prog) = some fn74 := by kernel_rfl
theorem fn20_ok : (Try.prog.funcs[20]?).bind (compFn Try.prog) = some fn20 := by kernel_rfl
theorem fn75_ok : (Try.prog.funcs[75]?).bind (compFn Try.prog) = some fn75 := by kernel_rfl
theorem fn124_ok : (Try.prog.funcs[124]?).bind (compFn Try.prog) = some fn124 := by kernel_rfl
theorem fn115_ok : (Try.prog.funcs[115]?).bind (compFn Try.prog) = some fn115 := by kernel_rfl
theorem fn76_ok : (Try.prog.funcs[76]?).bind (compFn Try.prog) = some fn76 := by kernel_rfl
theorem fn28_ok : (Try.prog.funcs[28]?).bind (compFn Try.prog) = some fn28 := by kernel_rfl
theorem fn87_ok : (Try.prog.funcs[87]?).bind (compFn Try.prog) = some fn87 := by kernel_rfl
theorem fn77_ok : (Try.prog.funcs[77]?).bind (compFn Try.prog) = some fn77 := by kernel_rfl
theorem fn125_ok : (Try.prog.funcs[125]?).bind (compFn Try.prog) = some fn125 := by kernel_rfl
theorem fn29_ok : (Try.prog.funcs[29]?).bind (compFn Try.prog) = some fn29 := by kernel_rfl
theorem fn88_ok : (Try.prog.funcs[88]?).bind (compFn Try.prog) = some fn88 := by kernel_rfl
theorem fn78_ok : (Try.prog.funcs[78]?).bind (compFn Try.prog) = some fn78 := by kernel_rfl
theorem fn30_ok : (Try.prog.funcs[30]?).bind (compFn Try.prog) = some fn30 := by kernel_rfl
theorem fn89_ok : (Try.prog.funcs[89]?).bind (compFn Try.prog) = some fn89 := by kernel_rfl
theorem fn90_ok : (Try.prog.funcs[90]?).bind (compFn Try.prog) = some fn90 := by kernel_rfl
theorem fn128_ok : (Try.prog.funcs[128]?).bind (compFn Try.prog) = some fn128 := by kernel_rfl
theorem fn79_ok : (Try.prog.funcs[79]?).bind (compFn Try.prog) = some fn79 := by kernel_rfl
theorem fn126_ok : (Try.prog.funcs[126]?).bind (compFn Try.prog) = some fn126 := by kernel_rfl
theorem fn144_ok : (Try.prog.funcs[144]?).bind (compFn Try.prog) = some fn144 := by kernel_rfl
theorem fn80_ok : (Try.prog.funcs[80]?).bind (compFn Try.prog) = some fn80 := by kernel_rfl
theorem fn23_ok : (Try.prog.funcs[23]?).bind (compFn Try.prog) = some fn23 := by kernel_rfl
theorem fn21_ok : (Try.prog.funcs[21]?).bind (compFn Try.prog) = some fn21 := by kernel_rfl
theorem fn4_ok : (Try.prog.funcs[4]?).bind (compFn Try.prog) = some fn4 := by kernel_rfl
theorem fn5_ok : (Try.prog.funcs[5]?).bind (compFn Try.prog) = some fn5 := by kernel_rfl
def tab : List (Nat × VFn) := [(3, fn3), (15, fn15), (16, fn16), (69, fn69), (121, fn121), (26, fn26), (70, fn70), (81, fn81), (82, fn82), (27, fn27), (83, fn83), (71, fn71), (122, fn122), (123, fn123), (84, fn84), (86, fn86), (85, fn85), (127, fn127), (31, fn31), (18, fn18), (72, fn72), (24, fn24), (22, fn22), (17, fn17), (25, fn25), (19, fn19), (73, fn73), (74, fn74), (20, fn20), (75, fn75), (124, fn124), (115, fn115), (76, fn76), (28, fn28), (87, fn87), (77, fn77), (125, fn125), (29, fn29), (88, fn88), (78, fn78), (30, fn30), (89, fn89), (90, fn90), (128, fn128), (79, fn79), (126, fn126), (144, fn144), (80, fn80), (23, fn23), (21, fn21), (4, fn4), (5, fn5)]
theorem tab_ok : FnsOK Try.prog (aget tab) := FnsOK.of_tab ⟨fn3_ok, fn15_ok, fn16_ok, fn69_ok, fn121_ok, fn26_ok, fn70_ok, fn81_ok, fn82_ok, fn27_ok, fn83_ok, fn71_ok, fn122_ok, fn123_ok, fn84_ok, fn86_ok, fn85_ok, fn127_ok, fn31_ok, fn18_ok, fn72_ok, fn24_ok, fn22_ok, fn17_ok, fn25_ok, fn19_ok, fn73_ok, fn74_ok, fn20_ok, fn75_ok, fn124_ok, fn115_ok, fn76_ok, fn28_ok, fn87_ok, fn77_ok, fn125_ok, fn29_ok, fn88_ok, fn78_ok, fn30_ok, fn89_ok, fn90_ok, fn128_ok, fn79_ok, fn126_ok, fn144_ok, fn80_ok, fn23_ok, fn21_ok, fn4_ok, fn5_ok, trivial⟩
end Go.Vm.Code
namespace Go.Vm.Code
open Go Go.Vm Go.Proofs
set_option maxRecDepth 100000
set_option maxHeartbeats 4000000
set_option linter.unusedVariables false
@[ext] structure health_Rule where
  Rise : Int
  Fall : Int
  deriving DecidableEq
@[ext] structure api_Addr where
  V6 : Bool
  Hi : Int
  Lo : Int
  deriving DecidableEq
@[ext] structure R23_Step where
  Kind : Int
  ID : Int
  N : Int
  Addr : api_Addr
  On : Bool
  deriving DecidableEq
@[ext] structure api_Backend where
  ID : Int
  Weight : Int
  State : Int
  Addr : api_Addr
  deriving DecidableEq
@[ext] structure health_State where
  Up : Bool
  Run : Int
  deriving DecidableEq
@[ext] structure registry_row where
  Backend : api_Backend
  drains : Bool
  health : health_State
  deriving DecidableEq
@[ext] structure registry_Registry where
  rule : health_Rule
  rows : List registry_row
  last : Int
  version : Int
  deriving DecidableEq
@[ext] structure R23_Row where
  ID : Int
  Weight : Int
  Addr : api_Addr
  Drain : Bool
  Health : health_State
  deriving DecidableEq
@[ext] structure R23_Registry where
  Rule : health_Rule
  L : List R23_Row
  Last : Int
  Version : Int
  deriving DecidableEq
def chealth_Rule (x : health_Rule) : List Value := [.int .i64 x.Rise, .int .i64 x.Fall]
theorem chealth_Rule_len (x : health_Rule) : (chealth_Rule x).length = 2 := rfl
theorem chealth_Rule_flat (x : health_Rule) : flatV.flatL (chealth_Rule x) = true := rfl
theorem chealth_Rule_one (x : health_Rule) : (chealth_Rule x).all oneC = true := rfl
@[simp] theorem chealth_Rule_lens (xs : List health_Rule) : (vT chealth_Rule xs).length = xs.length * 2 := vT_len chealth_Rule_len xs
@[simp] theorem chealth_Rule_take (xs : List health_Rule) (n : Nat) : (vT chealth_Rule xs).take (n * 2) = vT chealth_Rule (xs.take n) := vT_take chealth_Rule_len xs n
@[simp] theorem chealth_Rule_drop (xs : List health_Rule) (n : Nat) : (vT chealth_Rule xs).drop (n * 2) = vT chealth_Rule (xs.drop n) := vT_drop chealth_Rule_len xs n
def unhealth_Rule : List Value → Option health_Rule
  | [.int .i64 a1, .int .i64 a2] => some (health_Rule.mk a1 a2)
  | _ => none
theorem unhealth_Rule_eq (cs : List Value) (x : health_Rule) (h : unhealth_Rule cs = some x) : cs = chealth_Rule x := by
  unfold unhealth_Rule at h; split at h
  · cases h; rfl
  · cases h
def uvhealth_Rule : Value → Option health_Rule
  | .agg ⟨cs⟩ => unhealth_Rule cs
  | _ => none
theorem uvhealth_Rule_eq (v : Value) (x : health_Rule) (h : uvhealth_Rule v = some x) : v = .agg ⟨chealth_Rule x⟩ := by
  unfold uvhealth_Rule at h; split at h
  · rw [unhealth_Rule_eq _ _ h]
  · cases h
theorem uvhealth_Rule_c (x : health_Rule) : uvhealth_Rule (.agg ⟨chealth_Rule x⟩) = some x := rfl
def capi_Addr (x : api_Addr) : List Value := [.bool x.V6, .int .u64 x.Hi, .int .u64 x.Lo]
theorem capi_Addr_len (x : api_Addr) : (capi_Addr x).length = 3 := rfl
theorem capi_Addr_flat (x : api_Addr) : flatV.flatL (capi_Addr x) = true := rfl
theorem capi_Addr_one (x : api_Addr) : (capi_Addr x).all oneC = true := rfl
@[simp] theorem capi_Addr_lens (xs : List api_Addr) : (vT capi_Addr xs).length = xs.length * 3 := vT_len capi_Addr_len xs
@[simp] theorem capi_Addr_take (xs : List api_Addr) (n : Nat) : (vT capi_Addr xs).take (n * 3) = vT capi_Addr (xs.take n) := vT_take capi_Addr_len xs n
@[simp] theorem capi_Addr_drop (xs : List api_Addr) (n : Nat) : (vT capi_Addr xs).drop (n * 3) = vT capi_Addr (xs.drop n) := vT_drop capi_Addr_len xs n
def unapi_Addr : List Value → Option api_Addr
  | [.bool a1, .int .u64 a2, .int .u64 a3] => some (api_Addr.mk a1 a2 a3)
  | _ => none
theorem unapi_Addr_eq (cs : List Value) (x : api_Addr) (h : unapi_Addr cs = some x) : cs = capi_Addr x := by
  unfold unapi_Addr at h; split at h
  · cases h; rfl
  · cases h
def uvapi_Addr : Value → Option api_Addr
  | .agg ⟨cs⟩ => unapi_Addr cs
  | _ => none
theorem uvapi_Addr_eq (v : Value) (x : api_Addr) (h : uvapi_Addr v = some x) : v = .agg ⟨capi_Addr x⟩ := by
  unfold uvapi_Addr at h; split at h
  · rw [unapi_Addr_eq _ _ h]
  · cases h
theorem uvapi_Addr_c (x : api_Addr) : uvapi_Addr (.agg ⟨capi_Addr x⟩) = some x := rfl
def cR23_Step (x : R23_Step) : List Value := [.int .i64 x.Kind, .int .i64 x.ID, .int .i64 x.N, .bool x.Addr.V6, .int .u64 x.Addr.Hi, .int .u64 x.Addr.Lo, .bool x.On]
theorem cR23_Step_len (x : R23_Step) : (cR23_Step x).length = 7 := rfl
theorem cR23_Step_flat (x : R23_Step) : flatV.flatL (cR23_Step x) = true := rfl
theorem cR23_Step_one (x : R23_Step) : (cR23_Step x).all oneC = true := rfl
@[simp] theorem cR23_Step_lens (xs : List R23_Step) : (vT cR23_Step xs).length = xs.length * 7 := vT_len cR23_Step_len xs
@[simp] theorem cR23_Step_take (xs : List R23_Step) (n : Nat) : (vT cR23_Step xs).take (n * 7) = vT cR23_Step (xs.take n) := vT_take cR23_Step_len xs n
@[simp] theorem cR23_Step_drop (xs : List R23_Step) (n : Nat) : (vT cR23_Step xs).drop (n * 7) = vT cR23_Step (xs.drop n) := vT_drop cR23_Step_len xs n
def unR23_Step : List Value → Option R23_Step
  | [.int .i64 a1, .int .i64 a2, .int .i64 a3, .bool a4, .int .u64 a5, .int .u64 a6, .bool a7] => some (R23_Step.mk a1 a2 a3 (api_Addr.mk a4 a5 a6) a7)
  | _ => none
theorem unR23_Step_eq (cs : List Value) (x : R23_Step) (h : unR23_Step cs = some x) : cs = cR23_Step x := by
  unfold unR23_Step at h; split at h
  · cases h; rfl
  · cases h
def uvR23_Step : Value → Option R23_Step
  | .agg ⟨cs⟩ => unR23_Step cs
  | _ => none
theorem uvR23_Step_eq (v : Value) (x : R23_Step) (h : uvR23_Step v = some x) : v = .agg ⟨cR23_Step x⟩ := by
  unfold uvR23_Step at h; split at h
  · rw [unR23_Step_eq _ _ h]
  · cases h
theorem uvR23_Step_c (x : R23_Step) : uvR23_Step (.agg ⟨cR23_Step x⟩) = some x := rfl
def capi_Backend (x : api_Backend) : List Value := [.int .i64 x.ID, .int .i64 x.Weight, .int .i64 x.State, .bool x.Addr.V6, .int .u64 x.Addr.Hi, .int .u64 x.Addr.Lo]
theorem capi_Backend_len (x : api_Backend) : (capi_Backend x).length = 6 := rfl
theorem capi_Backend_flat (x : api_Backend) : flatV.flatL (capi_Backend x) = true := rfl
theorem capi_Backend_one (x : api_Backend) : (capi_Backend x).all oneC = true := rfl
@[simp] theorem capi_Backend_lens (xs : List api_Backend) : (vT capi_Backend xs).length = xs.length * 6 := vT_len capi_Backend_len xs
@[simp] theorem capi_Backend_take (xs : List api_Backend) (n : Nat) : (vT capi_Backend xs).take (n * 6) = vT capi_Backend (xs.take n) := vT_take capi_Backend_len xs n
@[simp] theorem capi_Backend_drop (xs : List api_Backend) (n : Nat) : (vT capi_Backend xs).drop (n * 6) = vT capi_Backend (xs.drop n) := vT_drop capi_Backend_len xs n
def unapi_Backend : List Value → Option api_Backend
  | [.int .i64 a1, .int .i64 a2, .int .i64 a3, .bool a4, .int .u64 a5, .int .u64 a6] => some (api_Backend.mk a1 a2 a3 (api_Addr.mk a4 a5 a6))
  | _ => none
theorem unapi_Backend_eq (cs : List Value) (x : api_Backend) (h : unapi_Backend cs = some x) : cs = capi_Backend x := by
  unfold unapi_Backend at h; split at h
  · cases h; rfl
  · cases h
theorem unapi_Backend_c (x : api_Backend) : unapi_Backend (capi_Backend x) = some x := rfl
def chealth_State (x : health_State) : List Value := [.bool x.Up, .int .i64 x.Run]
theorem chealth_State_len (x : health_State) : (chealth_State x).length = 2 := rfl
theorem chealth_State_flat (x : health_State) : flatV.flatL (chealth_State x) = true := rfl
theorem chealth_State_one (x : health_State) : (chealth_State x).all oneC = true := rfl
@[simp] theorem chealth_State_lens (xs : List health_State) : (vT chealth_State xs).length = xs.length * 2 := vT_len chealth_State_len xs
@[simp] theorem chealth_State_take (xs : List health_State) (n : Nat) : (vT chealth_State xs).take (n * 2) = vT chealth_State (xs.take n) := vT_take chealth_State_len xs n
@[simp] theorem chealth_State_drop (xs : List health_State) (n : Nat) : (vT chealth_State xs).drop (n * 2) = vT chealth_State (xs.drop n) := vT_drop chealth_State_len xs n
def unhealth_State : List Value → Option health_State
  | [.bool a1, .int .i64 a2] => some (health_State.mk a1 a2)
  | _ => none
theorem unhealth_State_eq (cs : List Value) (x : health_State) (h : unhealth_State cs = some x) : cs = chealth_State x := by
  unfold unhealth_State at h; split at h
  · cases h; rfl
  · cases h
def uvhealth_State : Value → Option health_State
  | .agg ⟨cs⟩ => unhealth_State cs
  | _ => none
theorem uvhealth_State_eq (v : Value) (x : health_State) (h : uvhealth_State v = some x) : v = .agg ⟨chealth_State x⟩ := by
  unfold uvhealth_State at h; split at h
  · rw [unhealth_State_eq _ _ h]
  · cases h
theorem uvhealth_State_c (x : health_State) : uvhealth_State (.agg ⟨chealth_State x⟩) = some x := rfl
def cregistry_row (x : registry_row) : List Value := [.int .i64 x.Backend.ID, .int .i64 x.Backend.Weight, .int .i64 x.Backend.State, .bool x.Backend.Addr.V6, .int .u64 x.Backend.Addr.Hi, .int .u64 x.Backend.Addr.Lo, .bool x.drains, .bool x.health.Up, .int .i64 x.health.Run]
theorem cregistry_row_len (x : registry_row) : (cregistry_row x).length = 9 := rfl
theorem cregistry_row_flat (x : registry_row) : flatV.flatL (cregistry_row x) = true := rfl
theorem cregistry_row_one (x : registry_row) : (cregistry_row x).all oneC = true := rfl
@[simp] theorem cregistry_row_lens (xs : List registry_row) : (vT cregistry_row xs).length = xs.length * 9 := vT_len cregistry_row_len xs
@[simp] theorem cregistry_row_take (xs : List registry_row) (n : Nat) : (vT cregistry_row xs).take (n * 9) = vT cregistry_row (xs.take n) := vT_take cregistry_row_len xs n
@[simp] theorem cregistry_row_drop (xs : List registry_row) (n : Nat) : (vT cregistry_row xs).drop (n * 9) = vT cregistry_row (xs.drop n) := vT_drop cregistry_row_len xs n
def unregistry_row : List Value → Option registry_row
  | [.int .i64 a1, .int .i64 a2, .int .i64 a3, .bool a4, .int .u64 a5, .int .u64 a6, .bool a7, .bool a8, .int .i64 a9] => some (registry_row.mk (api_Backend.mk a1 a2 a3 (api_Addr.mk a4 a5 a6)) a7 (health_State.mk a8 a9))
  | _ => none
theorem unregistry_row_eq (cs : List Value) (x : registry_row) (h : unregistry_row cs = some x) : cs = cregistry_row x := by
  unfold unregistry_row at h; split at h
  · cases h; rfl
  · cases h
theorem unregistry_row_c (x : registry_row) : unregistry_row (cregistry_row x) = some x := rfl
def uvregistry_row : Value → Option registry_row
  | .agg ⟨cs⟩ => unregistry_row cs
  | _ => none
theorem uvregistry_row_eq (v : Value) (x : registry_row) (h : uvregistry_row v = some x) : v = .agg ⟨cregistry_row x⟩ := by
  unfold uvregistry_row at h; split at h
  · rw [unregistry_row_eq _ _ h]
  · cases h
theorem uvregistry_row_c (x : registry_row) : uvregistry_row (.agg ⟨cregistry_row x⟩) = some x := rfl
def cR23_Row (x : R23_Row) : List Value := [.int .i64 x.ID, .int .i64 x.Weight, .bool x.Addr.V6, .int .u64 x.Addr.Hi, .int .u64 x.Addr.Lo, .bool x.Drain, .bool x.Health.Up, .int .i64 x.Health.Run]
theorem cR23_Row_len (x : R23_Row) : (cR23_Row x).length = 8 := rfl
theorem cR23_Row_flat (x : R23_Row) : flatV.flatL (cR23_Row x) = true := rfl
theorem cR23_Row_one (x : R23_Row) : (cR23_Row x).all oneC = true := rfl
@[simp] theorem cR23_Row_lens (xs : List R23_Row) : (vT cR23_Row xs).length = xs.length * 8 := vT_len cR23_Row_len xs
@[simp] theorem cR23_Row_take (xs : List R23_Row) (n : Nat) : (vT cR23_Row xs).take (n * 8) = vT cR23_Row (xs.take n) := vT_take cR23_Row_len xs n
@[simp] theorem cR23_Row_drop (xs : List R23_Row) (n : Nat) : (vT cR23_Row xs).drop (n * 8) = vT cR23_Row (xs.drop n) := vT_drop cR23_Row_len xs n
def unR23_Row : List Value → Option R23_Row
  | [.int .i64 a1, .int .i64 a2, .bool a3, .int .u64 a4, .int .u64 a5, .bool a6, .bool a7, .int .i64 a8] => some (R23_Row.mk a1 a2 (api_Addr.mk a3 a4 a5) a6 (health_State.mk a7 a8))
  | _ => none
theorem unR23_Row_eq (cs : List Value) (x : R23_Row) (h : unR23_Row cs = some x) : cs = cR23_Row x := by
  unfold unR23_Row at h; split at h
  · cases h; rfl
  · cases h
theorem unR23_Row_c (x : R23_Row) : unR23_Row (cR23_Row x) = some x := rfl
def uvR23_Row : Value → Option R23_Row
  | .agg ⟨cs⟩ => unR23_Row cs
  | _ => none
theorem uvR23_Row_eq (v : Value) (x : R23_Row) (h : uvR23_Row v = some x) : v = .agg ⟨cR23_Row x⟩ := by
  unfold uvR23_Row at h; split at h
  · rw [unR23_Row_eq _ _ h]
  · cases h
theorem uvR23_Row_c (x : R23_Row) : uvR23_Row (.agg ⟨cR23_Row x⟩) = some x := rfl
def udregistry_Registry (k : Nat) : Value → List (Option (List Value)) → Option registry_Registry
  | .pointer (some ⟨k0, 0, none⟩), [some [.int .i64 a1, .int .i64 a2, .slice (some ⟨k1, 0, none⟩) n1 s1, .int .i64 a3, .int .i64 a4], some c1] => match (unR 9 unregistry_row) c1 with | some x1 => (if k0 = k + 0 ∧ k1 = k + 1 ∧ n1 = x1.length ∧ s1 = 9 then some (registry_Registry.mk (health_Rule.mk a1 a2) x1 a3 a4) else none) | none => none
  | _, _ => none
theorem udregistry_Registry_eq {k : Nat} {v : Value} {cs : List (Option (List Value))} {x : registry_Registry} (h : udregistry_Registry k v cs = some x) : v = .pointer (some ⟨k + 0, 0, none⟩) ∧ cs = [some [.int .i64 x.rule.Rise, .int .i64 x.rule.Fall, .slice (some ⟨k + 1, 0, none⟩) x.rows.length 9, .int .i64 x.last, .int .i64 x.version], some (vT cregistry_row x.rows)] := by
  unfold udregistry_Registry at h; split at h <;> try (cases h; done)
  split at h <;> try (cases h; done)
  rename_i x1 e1
  split at h <;> cases h
  rename_i hk
  obtain ⟨rfl, rfl, rfl, rfl⟩ := hk
  obtain rfl := unT_eq unregistry_row_eq e1
  exact ⟨rfl, rfl⟩
theorem udregistry_Registry_c (k : Nat) (x : registry_Registry) : udregistry_Registry k (.pointer (some ⟨k + 0, 0, none⟩)) [some [.int .i64 x.rule.Rise, .int .i64 x.rule.Fall, .slice (some ⟨k + 1, 0, none⟩) x.rows.length 9, .int .i64 x.last, .int .i64 x.version], some (vT cregistry_row x.rows)] = some x := by
  simp only [udregistry_Registry, unR_vT cregistry_row_len (by decide) unregistry_row_c]; simp
def udR23_Registry (k : Nat) : Value → List (Option (List Value)) → Option R23_Registry
  | .pointer (some ⟨k0, 0, none⟩), [some [.int .i64 a1, .int .i64 a2, .slice (some ⟨k1, 0, none⟩) n1 s1, .int .i64 a3, .int .i64 a4], some c1] => match (unR 8 unR23_Row) c1 with | some x1 => (if k0 = k + 0 ∧ k1 = k + 1 ∧ n1 = x1.length ∧ s1 = 8 then some (R23_Registry.mk (health_Rule.mk a1 a2) x1 a3 a4) else none) | none => none
  | _, _ => none
theorem udR23_Registry_eq {k : Nat} {v : Value} {cs : List (Option (List Value))} {x : R23_Registry} (h : udR23_Registry k v cs = some x) : v = .pointer (some ⟨k + 0, 0, none⟩) ∧ cs = [some [.int .i64 x.Rule.Rise, .int .i64 x.Rule.Fall, .slice (some ⟨k + 1, 0, none⟩) x.L.length 8, .int .i64 x.Last, .int .i64 x.Version], some (vT cR23_Row x.L)] := by
  unfold udR23_Registry at h; split at h <;> try (cases h; done)
  split at h <;> try (cases h; done)
  rename_i x1 e1
  split at h <;> cases h
  rename_i hk
  obtain ⟨rfl, rfl, rfl, rfl⟩ := hk
  obtain rfl := unT_eq unR23_Row_eq e1
  exact ⟨rfl, rfl⟩
theorem udR23_Registry_c (k : Nat) (x : R23_Registry) : udR23_Registry k (.pointer (some ⟨k + 0, 0, none⟩)) [some [.int .i64 x.Rule.Rise, .int .i64 x.Rule.Fall, .slice (some ⟨k + 1, 0, none⟩) x.L.length 8, .int .i64 x.Last, .int .i64 x.Version], some (vT cR23_Row x.L)] = some x := by
  simp only [udR23_Registry, unR_vT cR23_Row_len (by decide) unR23_Row_c]; simp
def health_withinF (n : Int) (low : Int) (high : Int) : Option Bool :=
  cond (decide (low ≤ n))
    (
    some (decide (n ≤ high)))
    (
    some (false))
def rx121 (x : Bool) : SRes := ⟨.bool x, [], []⟩
def r121 (g : Int → Int → Int → Option Bool) : Dec := dV (asI .i64) fun (y0 : Int) => dV (asI .i64) fun (y1 : Int) => dV (asI .i64) fun (y2 : Int) => dEnd (ofG (g y0 y1 y2) rx121)
theorem r121_c {g : Int → Int → Int → Option Bool} {y0 : Int} {y1 : Int} {y2 : Int} {x : Bool} (hx : g y0 y1 y2 = some x) : r121 g [.int .i64 y0, .int .i64 y1, .int .i64 y2] [] = some (rx121 x) := (dV_eq (asI_c _)).trans ((dV_eq (asI_c _)).trans ((dV_eq (asI_c _)).trans (ofG_eq hx)))
def s121 (g : Int → Int → Int → Option Bool) : Summ := ⟨[.v, .v, .v], r121 g⟩
theorem r121_eq {g : Int → Int → Int → Option Bool} {y0 : Int} {y1 : Int} {y2 : Int} {x : Bool} (hx : g y0 y1 y2 = some x) : (s121 g).run [.int .i64 y0, .int .i64 y1, .int .i64 y2] [] = some (rx121 x) := r121_c hx
abbrev sums121 : List (Nat × Summ) := []
theorem leads121 (hS : SumsOK Try.prog (aget (sums121))) (n : Int) (low : Int) (high : Int) (res : Bool) (h : health_withinF n low high = some res) :
    Leads Try.prog 121 0 ⟨⟨121, 15, [(0, .int .i64 n), (1, .int .i64 low), (2, .int .i64 high)], [.code k121_3], [], false, none⟩, [], [], 0⟩ (fun v H _ => Res 0 (rx121 res) v H) := by
  unfold health_withinF at h
  refine ev_ok tab_ok hS true 3000 ?_
  conv => whnf
  refine br.h h ?_ ?_ ?_
  · rfl
  · clear h; intro hb h; conv => whnf
    all_goals (cases h; exact Res.z rfl rfl rfl)
  clear h; intro hb h; conv => whnf
  all_goals (cases h; exact Res.z rfl rfl rfl)
theorem ok121 (hS : SumsOK Try.prog (aget (sums121))) : SumOK Try.prog 121 (s121 (health_withinF)) := by
  refine SumOK.of_leads tab_ok (fun ar os r ha hr => ?_) ⟨Try.f121, rfl, by decide, rfl⟩
  replace hr : r121 (health_withinF) ar (conts os) = some r := hr
  unfold r121 at hr
  generalize hc : conts os = C at hr
  replace hr := dV.elim hr; obtain ⟨v0, l1, y0, rfl, e0, hr⟩ := hr; obtain rfl := asI_eq _ _ _ e0
  replace hr := dV.elim hr; obtain ⟨v1, l2, y1, rfl, e1, hr⟩ := hr; obtain rfl := asI_eq _ _ _ e1
  replace hr := dV.elim hr; obtain ⟨v2, l3, y2, rfl, e2, hr⟩ := hr; obtain rfl := asI_eq _ _ _ e2
  replace hr := dFin hr; obtain ⟨rfl, rfl, x, h, rfl⟩ := hr
  obtain rfl := kinds_nil hc
  exact ⟨_, rfl, leads121 hS _ _ _ x h⟩
def health_within : Int → Int → Int → Option Bool := health_withinF
theorem lift121 : SumOK Try.prog 121 (s121 health_within) := ok121 (SumsOK.of_tab trivial)
def health_RightF (health_within : Int → Int → Int → Option Bool) (ra0 : health_Rule) : Option Bool :=
  (health_within ra0.Rise 1 100).bind fun w =>
  cond (w)
    (
    (health_within ra0.Fall 1 100).bind fun w1 =>
    some (w1))
    (
    some (false))
def rx69 (x : Bool) : SRes := ⟨.bool x, [], []⟩
def r69 (g : health_Rule → Option Bool) : Dec := dV uvhealth_Rule fun (y0 : health_Rule) => dEnd (ofG (g y0) rx69)
theorem r69_c {g : health_Rule → Option Bool} {y0 : health_Rule} {x : Bool} (hx : g y0 = some x) : r69 g [.agg ⟨[.int .i64 y0.Rise, .int .i64 y0.Fall]⟩] [] = some (rx69 x) := (dV_eq (uvhealth_Rule_c _)).trans (ofG_eq hx)
def s69 (g : health_Rule → Option Bool) : Summ := ⟨[.v], r69 g⟩
theorem r69_eq {g : health_Rule → Option Bool} {y0 : health_Rule} {x : Bool} (hx : g y0 = some x) : (s69 g).run [.agg ⟨[.int .i64 y0.Rise, .int .i64 y0.Fall]⟩] [] = some (rx69 x) := r69_c hx
abbrev sums69 (health_within : Int → Int → Int → Option Bool) : List (Nat × Summ) := [(121, s121 health_within)]
theorem leads69 (health_within : Int → Int → Int → Option Bool) (hS : SumsOK Try.prog (aget (sums69 health_within))) (ra0 : health_Rule) (res : Bool) (h : health_RightF health_within ra0 = some res) :
    Leads Try.prog 69 0 ⟨⟨69, 11, [(0, .agg ⟨[.int .i64 ra0.Rise, .int .i64 ra0.Fall]⟩)], [.code k69_3], [], false, none⟩, [], [], 0⟩ (fun v H _ => Res 0 (rx69 res) v H) := by
  unfold health_RightF at h
  refine ev_ok tab_ok hS true 3000 ?_
  conv => whnf
  replace h := obind.elim h; obtain ⟨w, hy, h⟩ := h
  refine sumK.q rfl rfl (r121_eq hy) rfl rfl rfl ?_
  conv => whnf
  refine br.h2 h ?_ ?_ ?_
  · rfl
  · clear h; intro hb h; conv => whnf
    all_goals (cases h; exact Res.z rfl rfl rfl)
  clear h; intro hb h; conv => whnf
  replace h := obind.elim h; obtain ⟨w1, hy, h⟩ := h
  refine sumK.q rfl rfl (r121_eq hy) rfl rfl rfl ?_
  conv => whnf
  all_goals (cases h; exact Res.z rfl rfl rfl)
theorem ok69 (health_within : Int → Int → Int → Option Bool) (hS : SumsOK Try.prog (aget (sums69 health_within))) : SumOK Try.prog 69 (s69 (health_RightF health_within)) := by
  refine SumOK.of_leads tab_ok (fun ar os r ha hr => ?_) ⟨Try.f69, rfl, by decide, rfl⟩
  replace hr : r69 (health_RightF health_within) ar (conts os) = some r := hr
  unfold r69 at hr
  generalize hc : conts os = C at hr
  replace hr := dV.elim hr; obtain ⟨v0, l1, y0, rfl, e0, hr⟩ := hr; obtain rfl := uvhealth_Rule_eq _ _ e0
  replace hr := dFin hr; obtain ⟨rfl, rfl, x, h, rfl⟩ := hr
  obtain rfl := kinds_nil hc
  exact ⟨_, rfl, leads69 health_within hS _ x h⟩
def health_Right : health_Rule → Option Bool := health_RightF health_within
theorem lift69 : SumOK Try.prog 69 (s69 health_Right) := ok69 health_within (SumsOK.of_tab ⟨lift121, trivial⟩)
def registry_Registry_given_nilF : Option Bool :=
  some (false)
def rx70n (x : Bool) : SRes := ⟨.bool x, [], [none, none]⟩
def r70n (g : Option Bool) : Dec := dNl 2 <| dEnd (ofG (g) rx70n)
theorem r70n_c {g : Option Bool} {x : Bool} (hx : g = some x) : r70n g [.pointer none] [none, none] = some (rx70n x) := (dNl_2).trans (ofG_eq hx)
abbrev sums70n : List (Nat × Summ) := []
theorem leads70n (hS : SumsOK Try.prog (aget (sums70n))) (res : Bool) (h : registry_Registry_given_nilF = some res) :
    Leads Try.prog 70 2 ⟨⟨70, 12, [(0, .pointer none)], [.code k70_3], [], false, none⟩, [], [], 2⟩ (fun v H _ => Res 2 (rx70n res) v H) := by
  unfold registry_Registry_given_nilF at h
  refine ev_ok tab_ok hS true 3000 ?_
  conv => whnf
  all_goals (cases h)
  all_goals exact Res.of [] rfl nw_0 (by decide) js_0 (wr_n (wr_n wr_0))
def registry_Registry_givenF (health_Right : health_Rule → Option Bool) (ga0 : registry_Registry) : Option Bool :=
  (health_Right ga0.rule).bind fun xr =>
  some (xr)
def rx70 (x : Bool) : SRes := ⟨.bool x, [], [none, none]⟩
def r70 (g : registry_Registry → Option Bool) : Dec := dTr 2 (udregistry_Registry 0) fun (y0 : registry_Registry) => dEnd (ofG (g y0) rx70)
theorem r70_c {g : registry_Registry → Option Bool} {y0 : registry_Registry} {x : Bool} (hx : g y0 = some x) : r70 g [.pointer (some ⟨0, 0, none⟩)] [some [.int .i64 y0.rule.Rise, .int .i64 y0.rule.Fall, .slice (some ⟨1, 0, none⟩) y0.rows.length 9, .int .i64 y0.last, .int .i64 y0.version], some (vT cregistry_row y0.rows)] = some (rx70 x) := (dTr_eq rfl rfl (udregistry_Registry_c 0 _)).trans (ofG_eq hx)
def s70 (g : registry_Registry → Option Bool) (g2 : Option Bool) : Summ := ⟨[.tr [⟨none, 0, 0, 0, none⟩, ⟨some 0, 2, 0, 0, some 9⟩]], pickN 0 (r70 g) (r70n g2)⟩
theorem r70_eq {g : registry_Registry → Option Bool} {g2 : Option Bool} {y0 : registry_Registry} {x : Bool} (hx : g y0 = some x) : (s70 g g2).run [.pointer (some ⟨0, 0, none⟩)] [some [.int .i64 y0.rule.Rise, .int .i64 y0.rule.Fall, .slice (some ⟨1, 0, none⟩) y0.rows.length 9, .int .i64 y0.last, .int .i64 y0.version], some (vT cregistry_row y0.rows)] = some (rx70 x) := r70_c hx
theorem r70n_eq {g2 : registry_Registry → Option Bool} {g : Option Bool} {x : Bool} (hx : g = some x) : (s70 g2 g).run [.pointer none] [none, none] = some (rx70n x) := r70n_c hx
abbrev sums70 (health_Right : health_Rule → Option Bool) : List (Nat × Summ) := [(69, s69 health_Right)]
theorem leads70 (health_Right : health_Rule → Option Bool) (hS : SumsOK Try.prog (aget (sums70 health_Right))) (ga0 : registry_Registry) (res : Bool) (h : registry_Registry_givenF health_Right ga0 = some res) :
    Leads Try.prog 70 2 ⟨⟨70, 12, [(0, .pointer (some ⟨0, 0, none⟩))], [.code k70_3], [], false, none⟩, [], [(0, .row false [.int .i64 ga0.rule.Rise, .int .i64 ga0.rule.Fall, .slice (some ⟨1, 0, none⟩) ga0.rows.length 9, .int .i64 ga0.last, .int .i64 ga0.version]), (1, .row false (vT cregistry_row ga0.rows))], 2⟩ (fun v H _ => Res 2 (rx70 res) v H) := by
  unfold registry_Registry_givenF at h
  refine ev_ok tab_ok hS true 3000 ?_
  conv => whnf
  replace h := obind.elim h; obtain ⟨xr, hy, h⟩ := h
  refine sumK.q rfl rfl (r69_eq hy) rfl rfl rfl ?_
  conv => whnf
  all_goals (cases h)
  all_goals exact Res.of [] rfl nw_0 (by decide) js_0 (wr_n (wr_n wr_0))
theorem ok70 (health_Right : health_Rule → Option Bool) (hS : SumsOK Try.prog (aget (sums70 health_Right))) (hS2 : SumsOK Try.prog (aget (sums70n))) : SumOK Try.prog 70 (s70 (registry_Registry_givenF health_Right) (registry_Registry_given_nilF)) := by
  refine SumOK.of_leads tab_ok (fun ar os r ha hr => ?_) ⟨Try.f70, rfl, by decide, rfl⟩
  have hp := pickN.elim hr; clear hr; rcases hp with hr | hr
  · skip
    replace hr : r70 (registry_Registry_givenF health_Right) ar (conts os) = some r := hr
    unfold r70 at hr
    generalize hc : conts os = C at hr
    have hq := dTr.elim hr; clear hr; obtain ⟨v0, l1, c0, C, y0, rfl, rfl, e0, hr⟩ := hq; obtain ⟨rfl, rfl⟩ := udregistry_Registry_eq e0; simp only [List.nil_append, List.cons_append] at hc
    replace hr := dFin hr; obtain ⟨rfl, rfl, x, h, rfl⟩ := hr
    obtain ⟨os, rfl, ha, hc⟩ := kinds_some ha hc
    obtain ⟨os, rfl, ha, hc⟩ := kinds_some ha hc
    obtain rfl := kinds_nil hc
    exact ⟨_, rfl, leads70 health_Right hS _ x h⟩
  · skip
    replace hr : r70n (registry_Registry_given_nilF) ar (conts os) = some r := hr
    unfold r70n at hr
    generalize hc : conts os = C at hr
    have hq := dNl.elim hr; clear hr; obtain ⟨l1, C, rfl, rfl, hr⟩ := hq; simp only [List.replicate, List.nil_append, List.cons_append] at hc
    replace hr := dFin hr; obtain ⟨rfl, rfl, x, h, rfl⟩ := hr
    obtain ⟨os, rfl, ha, hc⟩ := kinds_none ha hc
    obtain ⟨os, rfl, ha, hc⟩ := kinds_none ha hc
    obtain rfl := kinds_nil hc
    exact ⟨_, rfl, leads70n hS2 x h⟩
def registry_Registry_given : registry_Registry → Option Bool := registry_Registry_givenF health_Right
def registry_Registry_given_nil : Option Bool := registry_Registry_given_nilF
theorem lift70 : SumOK Try.prog 70 (s70 registry_Registry_given registry_Registry_given_nil) := ok70 health_Right (SumsOK.of_tab ⟨lift69, trivial⟩) (SumsOK.of_tab trivial)
def registry_weighsF (n : Int) : Option Bool :=
  cond (decide (0 ≤ n))
    (
    some (decide (n ≤ 1000)))
    (
    some (false))
def rx81 (x : Bool) : SRes := ⟨.bool x, [], []⟩
def r81 (g : Int → Option Bool) : Dec := dV (asI .i64) fun (y0 : Int) => dEnd (ofG (g y0) rx81)
theorem r81_c {g : Int → Option Bool} {y0 : Int} {x : Bool} (hx : g y0 = some x) : r81 g [.int .i64 y0] [] = some (rx81 x) := (dV_eq (asI_c _)).trans (ofG_eq hx)
def s81 (g : Int → Option Bool) : Summ := ⟨[.v], r81 g⟩
theorem r81_eq {g : Int → Option Bool} {y0 : Int} {x : Bool} (hx : g y0 = some x) : (s81 g).run [.int .i64 y0] [] = some (rx81 x) := r81_c hx
abbrev sums81 : List (Nat × Summ) := []
theorem leads81 (hS : SumsOK Try.prog (aget (sums81))) (n : Int) (res : Bool) (h : registry_weighsF n = some res) :
    Leads Try.prog 81 0 ⟨⟨81, 9, [(0, .int .i64 n)], [.code k81_3], [], false, none⟩, [], [], 0⟩ (fun v H _ => Res 0 (rx81 res) v H) := by
  unfold registry_weighsF at h
  refine ev_ok tab_ok hS true 3000 ?_
  conv => whnf
  refine br.h h ?_ ?_ ?_
  · rfl
  · clear h; intro hb h; conv => whnf
    all_goals (cases h; exact Res.z rfl rfl rfl)
  clear h; intro hb h; conv => whnf
  all_goals (cases h; exact Res.z rfl rfl rfl)
theorem ok81 (hS : SumsOK Try.prog (aget (sums81))) : SumOK Try.prog 81 (s81 (registry_weighsF)) := by
  refine SumOK.of_leads tab_ok (fun ar os r ha hr => ?_) ⟨Try.f81, rfl, by decide, rfl⟩
  replace hr : r81 (registry_weighsF) ar (conts os) = some r := hr
  unfold r81 at hr
  generalize hc : conts os = C at hr
  replace hr := dV.elim hr; obtain ⟨v0, l1, y0, rfl, e0, hr⟩ := hr; obtain rfl := asI_eq _ _ _ e0
  replace hr := dFin hr; obtain ⟨rfl, rfl, x, h, rfl⟩ := hr
  obtain rfl := kinds_nil hc
  exact ⟨_, rfl, leads81 hS _ x h⟩
def registry_weighs : Int → Option Bool := registry_weighsF
theorem lift81 : SumOK Try.prog 81 (s81 registry_weighs) := ok81 (SumsOK.of_tab trivial)
def addr_RightF (a : api_Addr) : Option Bool :=
  cond (a.V6)
    (
    some (true))
    (
    cond (a.Hi == 0)
      (
      some (decide (a.Lo < 4294967296)))
      (
      some (false)))
def rx82 (x : Bool) : SRes := ⟨.bool x, [], []⟩
def r82 (g : api_Addr → Option Bool) : Dec := dV uvapi_Addr fun (y0 : api_Addr) => dEnd (ofG (g y0) rx82)
theorem r82_c {g : api_Addr → Option Bool} {y0 : api_Addr} {x : Bool} (hx : g y0 = some x) : r82 g [.agg ⟨[.bool y0.V6, .int .u64 y0.Hi, .int .u64 y0.Lo]⟩] [] = some (rx82 x) := (dV_eq (uvapi_Addr_c _)).trans (ofG_eq hx)
def s82 (g : api_Addr → Option Bool) : Summ := ⟨[.v], r82 g⟩
theorem r82_eq {g : api_Addr → Option Bool} {y0 : api_Addr} {x : Bool} (hx : g y0 = some x) : (s82 g).run [.agg ⟨[.bool y0.V6, .int .u64 y0.Hi, .int .u64 y0.Lo]⟩] [] = some (rx82 x) := r82_c hx
abbrev sums82 : List (Nat × Summ) := []
theorem leads82 (hS : SumsOK Try.prog (aget (sums82))) (a : api_Addr) (res : Bool) (h : addr_RightF a = some res) :
    Leads Try.prog 82 0 ⟨⟨82, 15, [(0, .agg ⟨[.bool a.V6, .int .u64 a.Hi, .int .u64 a.Lo]⟩)], [.code k82_3], [], false, none⟩, [], [], 0⟩ (fun v H _ => Res 0 (rx82 res) v H) := by
  unfold addr_RightF at h
  refine ev_ok tab_ok hS true 3000 ?_
  conv => whnf
  refine br.h h ?_ ?_ ?_
  · rfl
  · clear h; intro hb h; conv => whnf
    all_goals (cases h; exact Res.z rfl rfl rfl)
  clear h; intro hb h; conv => whnf
  refine br.h h ?_ ?_ ?_
  · rfl
  · clear h; intro hb h; conv => whnf
    all_goals (cases h; exact Res.z rfl rfl rfl)
  clear h; intro hb h; conv => whnf
  all_goals (cases h; exact Res.z rfl rfl rfl)
theorem ok82 (hS : SumsOK Try.prog (aget (sums82))) : SumOK Try.prog 82 (s82 (addr_RightF)) := by
  refine SumOK.of_leads tab_ok (fun ar os r ha hr => ?_) ⟨Try.f82, rfl, by decide, rfl⟩
  replace hr : r82 (addr_RightF) ar (conts os) = some r := hr
  unfold r82 at hr
  generalize hc : conts os = C at hr
  replace hr := dV.elim hr; obtain ⟨v0, l1, y0, rfl, e0, hr⟩ := hr; obtain rfl := uvapi_Addr_eq _ _ e0
  replace hr := dFin hr; obtain ⟨rfl, rfl, x, h, rfl⟩ := hr
  obtain rfl := kinds_nil hc
  exact ⟨_, rfl, leads82 hS _ x h⟩
def addr_Right : api_Addr → Option Bool := addr_RightF
theorem lift82 : SumOK Try.prog 82 (s82 addr_Right) := ok82 (SumsOK.of_tab trivial)
def registry_Registry_Add_nilF (addr_Right : api_Addr → Option Bool) (registry_Registry_given : registry_Registry → Option Bool) (registry_Registry_given_nil : Option Bool) (registry_weighs : Int → Option Bool) (weight : Int) (a : api_Addr) : Option (Int × Int) :=
  (registry_Registry_given_nil).bind fun n =>
  cond (!n)
    (
    some ((0, 1)))
    (
    (registry_weighs weight).bind fun w =>
    cond (!w)
      (
      some ((0, 1)))
      (
      (addr_Right a).bind fun xr =>
      cond (!xr)
        (
        some ((0, 1)))
        (
        none)))
def rx26n (x : Int × Int) : SRes := ⟨.tuple ⟨[.int .i64 x.1, .int .i64 x.2]⟩, [], [none, none]⟩
def r26n (g : Int → api_Addr → Option (Int × Int)) : Dec := dNl 2 <| dV (asI .i64) fun (y1 : Int) => dV uvapi_Addr fun (y2 : api_Addr) => dEnd (ofG (g y1 y2) rx26n)
theorem r26n_c {g : Int → api_Addr → Option (Int × Int)} {y1 : Int} {y2 : api_Addr} {x : Int × Int} (hx : g y1 y2 = some x) : r26n g [.pointer none, .int .i64 y1, .agg ⟨[.bool y2.V6, .int .u64 y2.Hi, .int .u64 y2.Lo]⟩] [none, none] = some (rx26n x) := (dNl_2).trans ((dV_eq (asI_c _)).trans ((dV_eq (uvapi_Addr_c _)).trans (ofG_eq hx)))
abbrev sums26n (addr_Right : api_Addr → Option Bool) (registry_Registry_given : registry_Registry → Option Bool) (registry_Registry_given_nil : Option Bool) (registry_weighs : Int → Option Bool) : List (Nat × Summ) := [(82, s82 addr_Right), (70, s70 registry_Registry_given registry_Registry_given_nil), (81, s81 registry_weighs)]
theorem leads26n (addr_Right : api_Addr → Option Bool) (registry_Registry_given : registry_Registry → Option Bool) (registry_Registry_given_nil : Option Bool) (registry_weighs : Int → Option Bool) (hS : SumsOK Try.prog (aget (sums26n addr_Right registry_Registry_given registry_Registry_given_nil registry_weighs))) (weight : Int) (a : api_Addr) (res : Int × Int) (h : registry_Registry_Add_nilF addr_Right registry_Registry_given registry_Registry_given_nil registry_weighs weight a = some res) :
    Leads Try.prog 26 2 ⟨⟨26, 72, [(0, .pointer none), (1, .int .i64 weight), (2, .agg ⟨[.bool a.V6, .int .u64 a.Hi, .int .u64 a.Lo]⟩)], [.code k26_21], [], false, none⟩, [], [], 2⟩ (fun v H _ => Res 2 (rx26n res) v H) := by
  unfold registry_Registry_Add_nilF at h
  refine ev_ok tab_ok hS true 3000 ?_
  conv => whnf
  replace h := obind.elim h; obtain ⟨n, hy, h⟩ := h
  refine sumK.introF [] (sumRun_of (aqs := [.pointer none]) (ws := [.no, .no]) (n := 0) (m := 0) (t' := 3) (ra_cons rfl rfl ra_nil) rfl (by rfl) (r70n_eq hy) rfl rfl rfl rfl (wb_skip rfl (wb_skip rfl wb_nil)) an_nil rfl) ?_
  conv => whnf
  refine br.h h ?_ ?_ ?_
  · rfl
  · clear h; intro hb h; conv => whnf
    all_goals (cases h)
    all_goals exact Res.of [] rfl nw_0 (by decide) js_0 (wr_n (wr_n wr_0))
  clear h; intro hb h; conv => whnf
  replace h := obind.elim h; obtain ⟨w, hy, h⟩ := h
  refine sumK.q rfl rfl (r81_eq hy) rfl rfl rfl ?_
  conv => whnf
  refine br.h h ?_ ?_ ?_
  · rfl
  · clear h; intro hb h; conv => whnf
    all_goals (cases h)
    all_goals exact Res.of [] rfl nw_0 (by decide) js_0 (wr_n (wr_n wr_0))
  clear h; intro hb h; conv => whnf
  replace h := obind.elim h; obtain ⟨xr, hy, h⟩ := h
  refine sumK.q rfl rfl (r82_eq hy) rfl rfl rfl ?_
  conv => whnf
  refine br.h h ?_ ?_ ?_
  · rfl
  · clear h; intro hb h; conv => whnf
    all_goals (cases h)
    all_goals exact Res.of [] rfl nw_0 (by decide) js_0 (wr_n (wr_n wr_0))
  clear h; intro hb h; conv => whnf
  cases h
def registry_Registry_AddF (addr_Right : api_Addr → Option Bool) (registry_Registry_given : registry_Registry → Option Bool) (registry_Registry_given_nil : Option Bool) (registry_weighs : Int → Option Bool) (ga0 : registry_Registry) (weight : Int) (a : api_Addr) : Option (Int × Int × registry_Registry) :=
  (registry_Registry_given ga0).bind fun xg =>
  cond (!xg)
    (
    some ((0, 1, ga0)))
    (
    (registry_weighs weight).bind fun w =>
    cond (!w)
      (
      some ((0, 1, ga0)))
      (
      (addr_Right a).bind fun xr =>
      cond (!xr)
        (
        some ((0, 1, ga0)))
        (
        cond ((ga0.rows.length : Int) == 64)
          (
          some ((0, 9, ga0)))
          (
          cond (ga0.last == 65535)
            (
            some ((0, 9, ga0)))
            (
            oreq (decide ((ga0.rows.length + 1) * 72 ≤ 2 ^ 47)) <|
            let row := ga0.rows ++ [registry_row.mk (api_Backend.mk (wI .i64 (ga0.last + 1)) weight 0 a) false (health_State.mk true 0)]
            some ((wI .i64 (ga0.last + 1), 0, registry_Registry.mk ga0.rule row (wI .i64 (ga0.last + 1)) (wI .i64 (ga0.version + 1)))))))))
def rx26 (x : Int × Int × registry_Registry) : SRes := ⟨.tuple ⟨[.int .i64 x.1, .int .i64 x.2.1]⟩, [(vT cregistry_row x.2.2.rows)], [some [.int .i64 x.2.2.rule.Rise, .int .i64 x.2.2.rule.Fall, .slice (some ⟨0, 0, none⟩) x.2.2.rows.length 9, .int .i64 x.2.2.last, .int .i64 x.2.2.version], none]⟩
def r26 (g : registry_Registry → Int → api_Addr → Option (Int × Int × registry_Registry)) : Dec := dTr 2 (udregistry_Registry 0) fun (y0 : registry_Registry) => dV (asI .i64) fun (y1 : Int) => dV uvapi_Addr fun (y2 : api_Addr) => dEnd (ofG (g y0 y1 y2) rx26)
theorem r26_c {g : registry_Registry → Int → api_Addr → Option (Int × Int × registry_Registry)} {y0 : registry_Registry} {y1 : Int} {y2 : api_Addr} {x : Int × Int × registry_Registry} (hx : g y0 y1 y2 = some x) : r26 g [.pointer (some ⟨0, 0, none⟩), .int .i64 y1, .agg ⟨[.bool y2.V6, .int .u64 y2.Hi, .int .u64 y2.Lo]⟩] [some [.int .i64 y0.rule.Rise, .int .i64 y0.rule.Fall, .slice (some ⟨1, 0, none⟩) y0.rows.length 9, .int .i64 y0.last, .int .i64 y0.version], some (vT cregistry_row y0.rows)] = some (rx26 x) := (dTr_eq rfl rfl (udregistry_Registry_c 0 _)).trans ((dV_eq (asI_c _)).trans ((dV_eq (uvapi_Addr_c _)).trans (ofG_eq hx)))
def s26 (g : registry_Registry → Int → api_Addr → Option (Int × Int × registry_Registry)) (g2 : Int → api_Addr → Option (Int × Int)) : Summ := ⟨[.tr [⟨none, 0, 0, 1, none⟩, ⟨some 0, 2, 0, 2, some 9⟩], .v, .v], pickN 0 (r26 g) (r26n g2)⟩
theorem r26_eq {g : registry_Registry → Int → api_Addr → Option (Int × Int × registry_Registry)} {g2 : Int → api_Addr → Option (Int × Int)} {y0 : registry_Registry} {y1 : Int} {y2 : api_Addr} {x : Int × Int × registry_Registry} (hx : g y0 y1 y2 = some x) : (s26 g g2).run [.pointer (some ⟨0, 0, none⟩), .int .i64 y1, .agg ⟨[.bool y2.V6, .int .u64 y2.Hi, .int .u64 y2.Lo]⟩] [some [.int .i64 y0.rule.Rise, .int .i64 y0.rule.Fall, .slice (some ⟨1, 0, none⟩) y0.rows.length 9, .int .i64 y0.last, .int .i64 y0.version], some (vT cregistry_row y0.rows)] = some (rx26 x) := r26_c hx
theorem r26n_eq {g2 : registry_Registry → Int → api_Addr → Option (Int × Int × registry_Registry)} {g : Int → api_Addr → Option (Int × Int)} {y1 : Int} {y2 : api_Addr} {x : Int × Int} (hx : g y1 y2 = some x) : (s26 g2 g).run [.pointer none, .int .i64 y1, .agg ⟨[.bool y2.V6, .int .u64 y2.Hi, .int .u64 y2.Lo]⟩] [none, none] = some (rx26n x) := r26n_c hx
abbrev sums26 (addr_Right : api_Addr → Option Bool) (registry_Registry_given : registry_Registry → Option Bool) (registry_Registry_given_nil : Option Bool) (registry_weighs : Int → Option Bool) : List (Nat × Summ) := [(82, s82 addr_Right), (70, s70 registry_Registry_given registry_Registry_given_nil), (81, s81 registry_weighs)]
theorem leads26 (addr_Right : api_Addr → Option Bool) (registry_Registry_given : registry_Registry → Option Bool) (registry_Registry_given_nil : Option Bool) (registry_weighs : Int → Option Bool) (hS : SumsOK Try.prog (aget (sums26 addr_Right registry_Registry_given registry_Registry_given_nil registry_weighs))) (ga0 : registry_Registry) (weight : Int) (a : api_Addr) (res : Int × Int × registry_Registry) (h : registry_Registry_AddF addr_Right registry_Registry_given registry_Registry_given_nil registry_weighs ga0 weight a = some res) :
    Leads Try.prog 26 2 ⟨⟨26, 72, [(0, .pointer (some ⟨0, 0, none⟩)), (1, .int .i64 weight), (2, .agg ⟨[.bool a.V6, .int .u64 a.Hi, .int .u64 a.Lo]⟩)], [.code k26_21], [], false, none⟩, [], [(0, .cells [.int .i64 ga0.rule.Rise, .int .i64 ga0.rule.Fall, .slice (some ⟨1, 0, none⟩) ga0.rows.length 9, .int .i64 ga0.last, .int .i64 ga0.version]), (1, .row true (vT cregistry_row ga0.rows))], 2⟩ (fun v H _ => Res 2 (rx26 res) v H) := by
  unfold registry_Registry_AddF at h
  refine ev_ok tab_ok hS true 3000 ?_
  conv => whnf
  replace h := obind.elim h; obtain ⟨xg, hy, h⟩ := h
  refine sumK.introF [] (sumRun_of (aqs := [.pointer (some ⟨0, 0, none⟩)]) (ws := [.blk 0 false, .blk 1 false]) (n := 0) (m := 0) (t' := 3) (ra_cons (ra_tr rfl rfl (vp_at rfl rfl rfl rfl (vp_at rfl rfl (rn_T cregistry_row_flat) rfl vp_nil)) rfl) rfl ra_nil) rfl (by rfl) (r70_eq hy) rfl rfl rfl rfl (wb_skip rfl (wb_skip rfl wb_nil)) an_nil rfl) ?_
  conv => whnf
  refine br.h h ?_ ?_ ?_
  · rfl
  · clear h; intro hb h; conv => whnf
    all_goals (cases h)
    all_goals exact Res.of [1] rfl (nw_s (rn_T cregistry_row_flat) (hs_row rfl) nw_0) (by decide) (js_r rfl js_0) (wr_s (rfl) (hs_cells rfl) (wr_n wr_0))
  clear h; intro hb h; conv => whnf
  replace h := obind.elim h; obtain ⟨w, hy, h⟩ := h
  refine sumK.q rfl rfl (r81_eq hy) rfl rfl rfl ?_
  conv => whnf
  refine br.h h ?_ ?_ ?_
  · rfl
  · clear h; intro hb h; conv => whnf
    all_goals (cases h)
    all_goals exact Res.of [1] rfl (nw_s (rn_T cregistry_row_flat) (hs_row rfl) nw_0) (by decide) (js_r rfl js_0) (wr_s (rfl) (hs_cells rfl) (wr_n wr_0))
  clear h; intro hb h; conv => whnf
  replace h := obind.elim h; obtain ⟨xr, hy, h⟩ := h
  refine sumK.q rfl rfl (r82_eq hy) rfl rfl rfl ?_
  conv => whnf
  refine br.h h ?_ ?_ ?_
  · rfl
  · clear h; intro hb h; conv => whnf
    all_goals (cases h)
    all_goals exact Res.of [1] rfl (nw_s (rn_T cregistry_row_flat) (hs_row rfl) nw_0) (by decide) (js_r rfl js_0) (wr_s (rfl) (hs_cells rfl) (wr_n wr_0))
  clear h; intro hb h; conv => whnf
  refine br.h h ?_ ?_ ?_
  · rfl
  · clear h; intro hb h; conv => whnf
    all_goals (cases h)
    all_goals exact Res.of [1] rfl (nw_s (rn_T cregistry_row_flat) (hs_row rfl) nw_0) (by decide) (js_r rfl js_0) (wr_s (rfl) (hs_cells rfl) (wr_n wr_0))
  clear h; intro hb h; conv => whnf
  refine br.h h ?_ ?_ ?_
  · rfl
  · clear h; intro hb h; conv => whnf
    all_goals (cases h)
    all_goals exact Res.of [1] rfl (nw_s (rn_T cregistry_row_flat) (hs_row rfl) nw_0) (by decide) (js_r rfl js_0) (wr_s (rfl) (hs_cells rfl) (wr_n wr_0))
  clear h; intro hb h; conv => whnf
  replace h := oreq.elim h; obtain ⟨hb, h⟩ := h
  refine req.intro (ap_req (of_decide_eq_true hb) (by first | rfl | omega | (simp; done) | (simp; omega) | (simp at *; omega)) rfl (by first | rfl | omega | (simp; done) | (simp; omega) | (simp at *; omega)) (by first | rfl | exact vI_one _ _ | exact vS_one _ | exact vB_one _ | exact vT_one (by first | exact chealth_Rule_one | exact capi_Addr_one | exact cR23_Step_one | exact capi_Backend_one | exact chealth_State_one | exact cregistry_row_one | exact cR23_Row_one) _ | (rw [ofBytes_vI]; exact vI_one _ _) | (simp [vI_one, vS_one, vB_one, vI_drop, vI_take, vS_drop, vS_take]; done) | (simp; exact List.all_eq_true.1 (vT_one (by first | exact chealth_Rule_one | exact capi_Addr_one | exact cR23_Step_one | exact capi_Backend_one | exact chealth_State_one | exact cregistry_row_one | exact cR23_Row_one) _))) rfl) ?_
  conv => whnf
  let row : List registry_row := ga0.rows ++ [registry_row.mk (api_Backend.mk (wI .i64 (ga0.last + 1)) weight 0 a) false (health_State.mk true 0)]
  refine pk_apT cregistry_row_len (xs := ga0.rows) (ys := [registry_row.mk (api_Backend.mk (wI .i64 (ga0.last + 1)) weight 0 a) false (health_State.mk true 0)]) rfl (by first | rfl | omega) (by first | rfl | omega | (simp; done) | (simp; omega) | (simp at *; omega)) (by first | rfl | omega | (simp; done) | (simp; omega) | (simp at *; omega)) ?_
  conv => whnf
  all_goals (cases h)
  all_goals exact Res.of [19] rfl (nw_s (rn_T cregistry_row_flat) (hs_row rfl) nw_0) (by decide) (js_l (by decide) js_0) (wr_s (rfl) (hs_cells rfl) (wr_n wr_0))
theorem ok26 (addr_Right : api_Addr → Option Bool) (registry_Registry_given : registry_Registry → Option Bool) (registry_Registry_given_nil : Option Bool) (registry_weighs : Int → Option Bool) (hS : SumsOK Try.prog (aget (sums26 addr_Right registry_Registry_given registry_Registry_given_nil registry_weighs))) (hS2 : SumsOK Try.prog (aget (sums26n addr_Right registry_Registry_given registry_Registry_given_nil registry_weighs))) : SumOK Try.prog 26 (s26 (registry_Registry_AddF addr_Right registry_Registry_given registry_Registry_given_nil registry_weighs) (registry_Registry_Add_nilF addr_Right registry_Registry_given registry_Registry_given_nil registry_weighs)) := by
  refine SumOK.of_leads tab_ok (fun ar os r ha hr => ?_) ⟨Try.f26, rfl, by decide, rfl⟩
  have hp := pickN.elim hr; clear hr; rcases hp with hr | hr
  · skip
    replace hr : r26 (registry_Registry_AddF addr_Right registry_Registry_given registry_Registry_given_nil registry_weighs) ar (conts os) = some r := hr
    unfold r26 at hr
    generalize hc : conts os = C at hr
    have hq := dTr.elim hr; clear hr; obtain ⟨v0, l1, c0, C, y0, rfl, rfl, e0, hr⟩ := hq; obtain ⟨rfl, rfl⟩ := udregistry_Registry_eq e0; simp only [List.nil_append, List.cons_append] at hc
    replace hr := dV.elim hr; obtain ⟨v1, l2, y1, rfl, e1, hr⟩ := hr; obtain rfl := asI_eq _ _ _ e1
    replace hr := dV.elim hr; obtain ⟨v2, l3, y2, rfl, e2, hr⟩ := hr; obtain rfl := uvapi_Addr_eq _ _ e2
    replace hr := dFin hr; obtain ⟨rfl, rfl, x, h, rfl⟩ := hr
    obtain ⟨os, rfl, ha, hc⟩ := kinds_some ha hc
    obtain ⟨os, rfl, ha, hc⟩ := kinds_some ha hc
    obtain rfl := kinds_nil hc
    exact ⟨_, rfl, leads26 addr_Right registry_Registry_given registry_Registry_given_nil registry_weighs hS _ _ _ x h⟩
  · skip
    replace hr : r26n (registry_Registry_Add_nilF addr_Right registry_Registry_given registry_Registry_given_nil registry_weighs) ar (conts os) = some r := hr
    unfold r26n at hr
    generalize hc : conts os = C at hr
    have hq := dNl.elim hr; clear hr; obtain ⟨l1, C, rfl, rfl, hr⟩ := hq; simp only [List.replicate, List.nil_append, List.cons_append] at hc
    replace hr := dV.elim hr; obtain ⟨v1, l2, y1, rfl, e1, hr⟩ := hr; obtain rfl := asI_eq _ _ _ e1
    replace hr := dV.elim hr; obtain ⟨v2, l3, y2, rfl, e2, hr⟩ := hr; obtain rfl := uvapi_Addr_eq _ _ e2
    replace hr := dFin hr; obtain ⟨rfl, rfl, x, h, rfl⟩ := hr
    obtain ⟨os, rfl, ha, hc⟩ := kinds_none ha hc
    obtain ⟨os, rfl, ha, hc⟩ := kinds_none ha hc
    obtain rfl := kinds_nil hc
    exact ⟨_, rfl, leads26n addr_Right registry_Registry_given registry_Registry_given_nil registry_weighs hS2 _ _ x h⟩
def registry_Registry_Add : registry_Registry → Int → api_Addr → Option (Int × Int × registry_Registry) := registry_Registry_AddF addr_Right registry_Registry_given registry_Registry_given_nil registry_weighs
def registry_Registry_Add_nil : Int → api_Addr → Option (Int × Int) := registry_Registry_Add_nilF addr_Right registry_Registry_given registry_Registry_given_nil registry_weighs
theorem lift26 : SumOK Try.prog 26 (s26 registry_Registry_Add registry_Registry_Add_nil) := ok26 addr_Right registry_Registry_given registry_Registry_given_nil registry_weighs (SumsOK.of_tab ⟨lift82, lift70, lift81, trivial⟩) (SumsOK.of_tab ⟨lift82, lift70, lift81, trivial⟩)
def registry_Registry_find_1F (ra0 : registry_row) (ida1 : Int) : Option Int :=
  let t := if (if 65536 < ida1 then 65536 else ida1) > 0 then if 65536 < ida1 then 65536 else ida1 else 0
  some (wI .i64 (ra0.Backend.ID - t))
def rx123 (x : Int) : SRes := ⟨.int .i64 x, [], []⟩
def r123 (g : registry_row → Int → Option Int) : Dec := dV uvregistry_row fun (y0 : registry_row) => dV (asI .i64) fun (y1 : Int) => dEnd (ofG (g y0 y1) rx123)
theorem r123_c {g : registry_row → Int → Option Int} {y0 : registry_row} {y1 : Int} {x : Int} (hx : g y0 y1 = some x) : r123 g [.agg ⟨[.int .i64 y0.Backend.ID, .int .i64 y0.Backend.Weight, .int .i64 y0.Backend.State, .bool y0.Backend.Addr.V6, .int .u64 y0.Backend.Addr.Hi, .int .u64 y0.Backend.Addr.Lo, .bool y0.drains, .bool y0.health.Up, .int .i64 y0.health.Run]⟩, .int .i64 y1] [] = some (rx123 x) := (dV_eq (uvregistry_row_c _)).trans ((dV_eq (asI_c _)).trans (ofG_eq hx))
def s123 (g : registry_row → Int → Option Int) : Summ := ⟨[.v, .v], r123 g⟩
theorem r123_eq {g : registry_row → Int → Option Int} {y0 : registry_row} {y1 : Int} {x : Int} (hx : g y0 y1 = some x) : (s123 g).run [.agg ⟨[.int .i64 y0.Backend.ID, .int .i64 y0.Backend.Weight, .int .i64 y0.Backend.State, .bool y0.Backend.Addr.V6, .int .u64 y0.Backend.Addr.Hi, .int .u64 y0.Backend.Addr.Lo, .bool y0.drains, .bool y0.health.Up, .int .i64 y0.health.Run]⟩, .int .i64 y1] [] = some (rx123 x) := r123_c hx
abbrev sums123 : List (Nat × Summ) := []
theorem leads123 (hS : SumsOK Try.prog (aget (sums123))) (ra0 : registry_row) (ida1 : Int) (res : Int) (h : registry_Registry_find_1F ra0 ida1 = some res) :
    Leads Try.prog 123 0 ⟨⟨123, 12, [(0, .agg ⟨[.int .i64 ra0.Backend.ID, .int .i64 ra0.Backend.Weight, .int .i64 ra0.Backend.State, .bool ra0.Backend.Addr.V6, .int .u64 ra0.Backend.Addr.Hi, .int .u64 ra0.Backend.Addr.Lo, .bool ra0.drains, .bool ra0.health.Up, .int .i64 ra0.health.Run]⟩), (1, .int .i64 ida1)], [.code k123_3], [], false, none⟩, [], [], 0⟩ (fun v H _ => Res 0 (rx123 res) v H) := by
  unfold registry_Registry_find_1F at h
  refine ev_ok tab_ok hS true 3000 ?_
  conv => whnf
  let t : Int := if (if 65536 < ida1 then 65536 else ida1) > 0 then if 65536 < ida1 then 65536 else ida1 else 0
  all_goals (cases h; exact Res.z rfl rfl rfl)
theorem ok123 (hS : SumsOK Try.prog (aget (sums123))) : SumOK Try.prog 123 (s123 (registry_Registry_find_1F)) := by
  refine SumOK.of_leads tab_ok (fun ar os r ha hr => ?_) ⟨Try.f123, rfl, by decide, rfl⟩
  replace hr : r123 (registry_Registry_find_1F) ar (conts os) = some r := hr
  unfold r123 at hr
  generalize hc : conts os = C at hr
  replace hr := dV.elim hr; obtain ⟨v0, l1, y0, rfl, e0, hr⟩ := hr; obtain rfl := uvregistry_row_eq _ _ e0
  replace hr := dV.elim hr; obtain ⟨v1, l2, y1, rfl, e1, hr⟩ := hr; obtain rfl := asI_eq _ _ _ e1
  replace hr := dFin hr; obtain ⟨rfl, rfl, x, h, rfl⟩ := hr
  obtain rfl := kinds_nil hc
  exact ⟨_, rfl, leads123 hS _ _ x h⟩
def registry_Registry_find_1 : registry_row → Int → Option Int := registry_Registry_find_1F
theorem lift123 : SumOK Try.prog 123 (s123 registry_Registry_find_1) := ok123 (SumsOK.of_tab trivial)
def registry_Registry_find_nilF (ida1 : Int) : Option (Int × Bool) :=
  none
def rx71n (x : Int × Bool) : SRes := ⟨.tuple ⟨[.int .i64 x.1, .bool x.2]⟩, [], [none, none]⟩
def r71n (g : Int → Option (Int × Bool)) : Dec := dNl 2 <| dV (asI .i64) fun (y1 : Int) => dEnd (ofG (g y1) rx71n)
theorem r71n_c {g : Int → Option (Int × Bool)} {y1 : Int} {x : Int × Bool} (hx : g y1 = some x) : r71n g [.pointer none, .int .i64 y1] [none, none] = some (rx71n x) := (dNl_2).trans ((dV_eq (asI_c _)).trans (ofG_eq hx))
abbrev sums71n : List (Nat × Summ) := []
theorem leads71n (hS : SumsOK Try.prog (aget (sums71n))) (ida1 : Int) (res : Int × Bool) (h : registry_Registry_find_nilF ida1 = some res) :
    Leads Try.prog 71 2 ⟨⟨71, 14, [(0, .pointer none), (1, .int .i64 ida1)], [.code k71_3], [], false, none⟩, [], [], 2⟩ (fun v H _ => Res 2 (rx71n res) v H) := by
  unfold registry_Registry_find_nilF at h
  refine ev_ok tab_ok hS true 3000 ?_
  conv => whnf
  cases h
def registry_Registry_find_s1 (registry_Registry_find_1 : registry_row → Int → Option Int) (ga0 : registry_Registry) (ida1 : Int) (i : Int) (xj : Int) : Option (Sum (Int × Int) (Int × Bool)) :=
  cond (decide (i < xj))
    (
    let t := (wI .u64 (wI .i64 (i + xj))).fdiv (2 ^ 1)
    oreq (decide ((0 : Int) ≤ (wI .i64 t) ∧ (wI .i64 t) < (ga0.rows.length : Int))) <|
    (ga0.rows[(wI .i64 t).toNat]?).bind fun (e : registry_row) =>
    (registry_Registry_find_1 e ida1).bind fun x1 =>
    cond (decide (x1 < 0))
      (
      some (.inl (wI .i64 ((wI .i64 t) + 1), xj)))
      (
      some (.inl (i, wI .i64 t))))
    (
    cond (decide (i < (ga0.rows.length : Int)))
      (
      oreq (decide ((0 : Int) ≤ i ∧ i < (ga0.rows.length : Int))) <|
      (ga0.rows[i.toNat]?).bind fun (e1 : registry_row) =>
      (registry_Registry_find_1 e1 ida1).bind fun x11 =>
      some (.inr ((i, x11 == 0))))
      (
      some (.inr ((i, false)))))
def registry_Registry_findF (registry_Registry_find_1 : registry_row → Int → Option Int) (ga0 : registry_Registry) (ida1 : Int) : Option (Int × Bool) :=
  iter (fun st => registry_Registry_find_s1 registry_Registry_find_1 ga0 ida1 st.1 st.2) FUEL (0, (ga0.rows.length : Int))
def rx71 (x : Int × Bool) : SRes := ⟨.tuple ⟨[.int .i64 x.1, .bool x.2]⟩, [], [none, none]⟩
def r71 (g : registry_Registry → Int → Option (Int × Bool)) : Dec := dTr 2 (udregistry_Registry 0) fun (y0 : registry_Registry) => dV (asI .i64) fun (y1 : Int) => dEnd (ofG (g y0 y1) rx71)
theorem r71_c {g : registry_Registry → Int → Option (Int × Bool)} {y0 : registry_Registry} {y1 : Int} {x : Int × Bool} (hx : g y0 y1 = some x) : r71 g [.pointer (some ⟨0, 0, none⟩), .int .i64 y1] [some [.int .i64 y0.rule.Rise, .int .i64 y0.rule.Fall, .slice (some ⟨1, 0, none⟩) y0.rows.length 9, .int .i64 y0.last, .int .i64 y0.version], some (vT cregistry_row y0.rows)] = some (rx71 x) := (dTr_eq rfl rfl (udregistry_Registry_c 0 _)).trans ((dV_eq (asI_c _)).trans (ofG_eq hx))
def s71 (g : registry_Registry → Int → Option (Int × Bool)) (g2 : Int → Option (Int × Bool)) : Summ := ⟨[.tr [⟨none, 0, 0, 0, none⟩, ⟨some 0, 2, 0, 0, some 9⟩], .v], pickN 0 (r71 g) (r71n g2)⟩
theorem r71_eq {g : registry_Registry → Int → Option (Int × Bool)} {g2 : Int → Option (Int × Bool)} {y0 : registry_Registry} {y1 : Int} {x : Int × Bool} (hx : g y0 y1 = some x) : (s71 g g2).run [.pointer (some ⟨0, 0, none⟩), .int .i64 y1] [some [.int .i64 y0.rule.Rise, .int .i64 y0.rule.Fall, .slice (some ⟨1, 0, none⟩) y0.rows.length 9, .int .i64 y0.last, .int .i64 y0.version], some (vT cregistry_row y0.rows)] = some (rx71 x) := r71_c hx
theorem r71n_eq {g2 : registry_Registry → Int → Option (Int × Bool)} {g : Int → Option (Int × Bool)} {y1 : Int} {x : Int × Bool} (hx : g y1 = some x) : (s71 g2 g).run [.pointer none, .int .i64 y1] [none, none] = some (rx71n x) := r71n_c hx
abbrev sums71 (registry_Registry_find_1 : registry_row → Int → Option Int) : List (Nat × Summ) := [(123, s123 registry_Registry_find_1)]
def head71_1 (ga0 : registry_Registry) (ida1 : Int) (i : Int) (xj : Int) : VM :=
  ⟨⟨122, 49, [(0, .slice (some ⟨1, 0, none⟩) ga0.rows.length 9), (1, .int .i64 ida1), (2, .func (.func 123) ⟨[]⟩ ⟨[]⟩), (8, .int .i64 (ga0.rows.length : Int)), (9, .int .i64 i), (10, .int .i64 xj)], [.code k122_14, .inLoop k122_14, .inBlock 0, .code k122_18], [], false, none⟩, [⟨71, 14, [], [.inReg (opsD k71_1 5), .code .ret], [], false, none⟩], [(0, .row false [.int .i64 ga0.rule.Rise, .int .i64 ga0.rule.Fall, .slice (some ⟨1, 0, none⟩) ga0.rows.length 9, .int .i64 ga0.last, .int .i64 ga0.version]), (1, .row false (vT cregistry_row ga0.rows))], 2⟩
theorem loop71_1 (registry_Registry_find_1 : registry_row → Int → Option Int) (hS : SumsOK Try.prog (aget (sums71 registry_Registry_find_1))) (ga0 : registry_Registry) (ida1 : Int) (res : Int × Bool) : ∀ fuel (st : Int × Int) (o : Int × Bool), iter (fun st => registry_Registry_find_s1 registry_Registry_find_1 ga0 ida1 st.1 st.2) fuel st = some o → (o = res) →
    Leads Try.prog 71 2 (head71_1 ga0 ida1 st.1 st.2) (fun v H _ => Res 2 (rx71 res) v H) := by
  intro fuel st o h hc
  refine iter_leads (head := fun st => head71_1 ga0 ida1 st.1 st.2) (C := fun o => (o = res)) ?_ fuel st o h hc
  clear h hc o st fuel
  intro st o h hc
  obtain ⟨i, xj⟩ := st
  replace h : registry_Registry_find_s1 registry_Registry_find_1 ga0 ida1 i xj = some o := h
  show Leads Try.prog 71 2 (head71_1 ga0 ida1 i xj) (fun v H _ => Res 2 (rx71 res) v H)
  unfold registry_Registry_find_s1 at h
  refine ev_ok tab_ok hS true 3000 ?_
  conv => whnf
  refine br.h2 h ?_ ?_ ?_
  · rfl
  · clear h; intro hb h; conv => whnf
    refine br.h2 h ?_ ?_ ?_
    · rfl
    · clear h; intro hb h; conv => whnf
      all_goals (cases h; cases hc)
      all_goals exact Res.of [] rfl nw_0 (by decide) js_0 (wr_n (wr_n wr_0))
    clear h; intro hb h; conv => whnf
    replace h := oreq.elim h; obtain ⟨hb, h⟩ := h
    first | (refine req.intro hb ?_; conv => whnf) | skip
    replace h := obind.elim h; obtain ⟨e1, hy, h⟩ := h
    refine ld_T cregistry_row_len hy (by first | omega | exact Nat.zero_add _ | exact congrArg (· + _) (Nat.zero_add _)) rfl ?_
    conv => whnf
    replace h := obind.elim h; obtain ⟨x11, hy, h⟩ := h
    refine sumK.q rfl rfl (r123_eq hy) rfl rfl rfl ?_
    conv => whnf
    all_goals (cases h; cases hc)
    all_goals exact Res.of [] rfl nw_0 (by decide) js_0 (wr_n (wr_n wr_0))
  clear h; intro hb h; conv => whnf
  let t : Int := (wI .u64 (wI .i64 (i + xj))).fdiv (2 ^ 1)
  replace h := oreq.elim h; obtain ⟨hb, h⟩ := h
  first | (refine req.intro hb ?_; conv => whnf) | skip
  replace h := obind.elim h; obtain ⟨e, hy, h⟩ := h
  refine ld_T cregistry_row_len hy (by first | omega | exact Nat.zero_add _ | exact congrArg (· + _) (Nat.zero_add _)) rfl ?_
  conv => whnf
  replace h := obind.elim h; obtain ⟨x1, hy, h⟩ := h
  refine sumK.q rfl rfl (r123_eq hy) rfl rfl rfl ?_
  conv => whnf
  refine br.h h ?_ ?_ ?_
  · rfl
  · clear h; intro hb h; conv => whnf
    cases h; simp only [Sum.elim_inl, head71_1] at hc
    refine Leads.re hc [(0, 0), (1, 1)] rfl ?_ ?_ (hu := by repeat' first | exact trivial | refine ⟨⟨rfl, rfl, rfl, rfl, rfl, ?_, rfl, rfl⟩, ?_⟩ | refine ⟨⟨_, rfl, rfl⟩, ?_⟩) <;> (repeat' first | exact trivial | refine ⟨⟨_, rfl, rfl⟩, ?_⟩ | refine ⟨⟨_, _, rfl, rfl, .rowF (vI_flat _ _) id⟩, ?_⟩ | refine ⟨⟨_, _, rfl, rfl, .rowF (vS_flat _) id⟩, ?_⟩ | refine ⟨⟨_, _, rfl, rfl, .rowF (vB_flat _) id⟩, ?_⟩ | refine ⟨⟨_, _, rfl, rfl, .rowF (vT_flat (by first | exact chealth_Rule_flat | exact capi_Addr_flat | exact cR23_Step_flat | exact capi_Backend_flat | exact chealth_State_flat | exact cregistry_row_flat | exact cR23_Row_flat) _) id⟩, ?_⟩ | refine ⟨⟨_, _, rfl, rfl, .tyF (vI_flat _ _)⟩, ?_⟩ | refine ⟨⟨_, _, rfl, rfl, .ty rfl⟩, ?_⟩ | refine ⟨⟨_, _, rfl, rfl, .cells rfl⟩, ?_⟩ | refine ⟨⟨_, _, rfl, rfl, .row rfl id⟩, ?_⟩ | refine ⟨⟨_, _, rfl, rfl, .cr rfl⟩, ?_⟩ | refine ⟨⟨_, _, rfl, rfl, .rc rfl⟩, ?_⟩ | refine ⟨⟨_, _, rfl, rfl, .marks⟩, ?_⟩ | refine ⟨⟨_, _, rfl, rfl, .siter _ _⟩, ?_⟩ | refine ⟨⟨_, _, rfl, rfl, .loop rfl rfl rfl rfl (by repeat' first | exact trivial | refine ⟨rfl, ?_⟩) rfl rfl rfl rfl⟩, ?_⟩)
  clear h; intro hb h; conv => whnf
  cases h; simp only [Sum.elim_inl, head71_1] at hc
  refine Leads.re hc [(0, 0), (1, 1)] rfl ?_ ?_ (hu := by repeat' first | exact trivial | refine ⟨⟨rfl, rfl, rfl, rfl, rfl, ?_, rfl, rfl⟩, ?_⟩ | refine ⟨⟨_, rfl, rfl⟩, ?_⟩) <;> (repeat' first | exact trivial | refine ⟨⟨_, rfl, rfl⟩, ?_⟩ | refine ⟨⟨_, _, rfl, rfl, .rowF (vI_flat _ _) id⟩, ?_⟩ | refine ⟨⟨_, _, rfl, rfl, .rowF (vS_flat _) id⟩, ?_⟩ | refine ⟨⟨_, _, rfl, rfl, .rowF (vB_flat _) id⟩, ?_⟩ | refine ⟨⟨_, _, rfl, rfl, .rowF (vT_flat (by first | exact chealth_Rule_flat | exact capi_Addr_flat | exact cR23_Step_flat | exact capi_Backend_flat | exact chealth_State_flat | exact cregistry_row_flat | exact cR23_Row_flat) _) id⟩, ?_⟩ | refine ⟨⟨_, _, rfl, rfl, .tyF (vI_flat _ _)⟩, ?_⟩ | refine ⟨⟨_, _, rfl, rfl, .ty rfl⟩, ?_⟩ | refine ⟨⟨_, _, rfl, rfl, .cells rfl⟩, ?_⟩ | refine ⟨⟨_, _, rfl, rfl, .row rfl id⟩, ?_⟩ | refine ⟨⟨_, _, rfl, rfl, .cr rfl⟩, ?_⟩ | refine ⟨⟨_, _, rfl, rfl, .rc rfl⟩, ?_⟩ | refine ⟨⟨_, _, rfl, rfl, .marks⟩, ?_⟩ | refine ⟨⟨_, _, rfl, rfl, .siter _ _⟩, ?_⟩ | refine ⟨⟨_, _, rfl, rfl, .loop rfl rfl rfl rfl (by repeat' first | exact trivial | refine ⟨rfl, ?_⟩) rfl rfl rfl rfl⟩, ?_⟩)
theorem leads71 (registry_Registry_find_1 : registry_row → Int → Option Int) (hS : SumsOK Try.prog (aget (sums71 registry_Registry_find_1))) (ga0 : registry_Registry) (ida1 : Int) (res : Int × Bool) (h : registry_Registry_findF registry_Registry_find_1 ga0 ida1 = some res) :
    Leads Try.prog 71 2 ⟨⟨71, 14, [(0, .pointer (some ⟨0, 0, none⟩)), (1, .int .i64 ida1)], [.code k71_3], [], false, none⟩, [], [(0, .row false [.int .i64 ga0.rule.Rise, .int .i64 ga0.rule.Fall, .slice (some ⟨1, 0, none⟩) ga0.rows.length 9, .int .i64 ga0.last, .int .i64 ga0.version]), (1, .row false (vT cregistry_row ga0.rows))], 2⟩ (fun v H _ => Res 2 (rx71 res) v H) := by
  unfold registry_Registry_findF at h
  refine ev_ok tab_ok hS true 3000 ?_
  conv => whnf
  have hl := loop71_1 registry_Registry_find_1 hS _ _ res _ _ _ h rfl; simp only [head71_1] at hl
  refine Leads.re hl [(0, 0), (1, 1)] rfl ?_ ?_ (hu := by repeat' first | exact trivial | refine ⟨⟨rfl, rfl, rfl, rfl, rfl, ?_, rfl, rfl⟩, ?_⟩ | refine ⟨⟨_, rfl, rfl⟩, ?_⟩) <;> (repeat' first | exact trivial | refine ⟨⟨_, rfl, rfl⟩, ?_⟩ | refine ⟨⟨_, _, rfl, rfl, .rowF (vI_flat _ _) id⟩, ?_⟩ | refine ⟨⟨_, _, rfl, rfl, .rowF (vS_flat _) id⟩, ?_⟩ | refine ⟨⟨_, _, rfl, rfl, .rowF (vB_flat _) id⟩, ?_⟩ | refine ⟨⟨_, _, rfl, rfl, .rowF (vT_flat (by first | exact chealth_Rule_flat | exact capi_Addr_flat | exact cR23_Step_flat | exact capi_Backend_flat | exact chealth_State_flat | exact cregistry_row_flat | exact cR23_Row_flat) _) id⟩, ?_⟩ | refine ⟨⟨_, _, rfl, rfl, .tyF (vI_flat _ _)⟩, ?_⟩ | refine ⟨⟨_, _, rfl, rfl, .ty rfl⟩, ?_⟩ | refine ⟨⟨_, _, rfl, rfl, .cells rfl⟩, ?_⟩ | refine ⟨⟨_, _, rfl, rfl, .row rfl id⟩, ?_⟩ | refine ⟨⟨_, _, rfl, rfl, .cr rfl⟩, ?_⟩ | refine ⟨⟨_, _, rfl, rfl, .rc rfl⟩, ?_⟩ | refine ⟨⟨_, _, rfl, rfl, .marks⟩, ?_⟩ | refine ⟨⟨_, _, rfl, rfl, .siter _ _⟩, ?_⟩ | refine ⟨⟨_, _, rfl, rfl, .loop rfl rfl rfl rfl (by repeat' first | exact trivial | refine ⟨rfl, ?_⟩) rfl rfl rfl rfl⟩, ?_⟩)
theorem ok71 (registry_Registry_find_1 : registry_row → Int → Option Int) (hS : SumsOK Try.prog (aget (sums71 registry_Registry_find_1))) (hS2 : SumsOK Try.prog (aget (sums71n))) : SumOK Try.prog 71 (s71 (registry_Registry_findF registry_Registry_find_1) (registry_Registry_find_nilF)) := by
  refine SumOK.of_leads tab_ok (fun ar os r ha hr => ?_) ⟨Try.f71, rfl, by decide, rfl⟩
  have hp := pickN.elim hr; clear hr; rcases hp with hr | hr
  · skip
    replace hr : r71 (registry_Registry_findF registry_Registry_find_1) ar (conts os) = some r := hr
    unfold r71 at hr
    generalize hc : conts os = C at hr
    have hq := dTr.elim hr; clear hr; obtain ⟨v0, l1, c0, C, y0, rfl, rfl, e0, hr⟩ := hq; obtain ⟨rfl, rfl⟩ := udregistry_Registry_eq e0; simp only [List.nil_append, List.cons_append] at hc
    replace hr := dV.elim hr; obtain ⟨v1, l2, y1, rfl, e1, hr⟩ := hr; obtain rfl := asI_eq _ _ _ e1
    replace hr := dFin hr; obtain ⟨rfl, rfl, x, h, rfl⟩ := hr
    obtain ⟨os, rfl, ha, hc⟩ := kinds_some ha hc
    obtain ⟨os, rfl, ha, hc⟩ := kinds_some ha hc
    obtain rfl := kinds_nil hc
    exact ⟨_, rfl, leads71 registry_Registry_find_1 hS _ _ x h⟩
  · skip
    replace hr : r71n (registry_Registry_find_nilF) ar (conts os) = some r := hr
    unfold r71n at hr
    generalize hc : conts os = C at hr
    have hq := dNl.elim hr; clear hr; obtain ⟨l1, C, rfl, rfl, hr⟩ := hq; simp only [List.replicate, List.nil_append, List.cons_append] at hc
    replace hr := dV.elim hr; obtain ⟨v1, l2, y1, rfl, e1, hr⟩ := hr; obtain rfl := asI_eq _ _ _ e1
    replace hr := dFin hr; obtain ⟨rfl, rfl, x, h, rfl⟩ := hr
    obtain ⟨os, rfl, ha, hc⟩ := kinds_none ha hc
    obtain ⟨os, rfl, ha, hc⟩ := kinds_none ha hc
    obtain rfl := kinds_nil hc
    exact ⟨_, rfl, leads71n hS2 _ x h⟩
def registry_Registry_find : registry_Registry → Int → Option (Int × Bool) := registry_Registry_findF registry_Registry_find_1
def registry_Registry_find_nil : Int → Option (Int × Bool) := registry_Registry_find_nilF
theorem lift71 : SumOK Try.prog 71 (s71 registry_Registry_find registry_Registry_find_nil) := ok71 registry_Registry_find_1 (SumsOK.of_tab ⟨lift123, trivial⟩) (SumsOK.of_tab trivial)
def registry_row_toldF (ra0 : registry_row) : Option api_Backend :=
  cond (ra0.drains)
    (
    some (api_Backend.mk ra0.Backend.ID ra0.Backend.Weight 3 ra0.Backend.Addr))
    (
    cond (ra0.health.Up)
      (
      some (api_Backend.mk ra0.Backend.ID ra0.Backend.Weight 1 ra0.Backend.Addr))
      (
      some (api_Backend.mk ra0.Backend.ID ra0.Backend.Weight 2 ra0.Backend.Addr)))
def rx72 (x : api_Backend) : SRes := ⟨.agg ⟨[.int .i64 x.ID, .int .i64 x.Weight, .int .i64 x.State, .bool x.Addr.V6, .int .u64 x.Addr.Hi, .int .u64 x.Addr.Lo]⟩, [], []⟩
def r72 (g : registry_row → Option api_Backend) : Dec := dV uvregistry_row fun (y0 : registry_row) => dEnd (ofG (g y0) rx72)
theorem r72_c {g : registry_row → Option api_Backend} {y0 : registry_row} {x : api_Backend} (hx : g y0 = some x) : r72 g [.agg ⟨[.int .i64 y0.Backend.ID, .int .i64 y0.Backend.Weight, .int .i64 y0.Backend.State, .bool y0.Backend.Addr.V6, .int .u64 y0.Backend.Addr.Hi, .int .u64 y0.Backend.Addr.Lo, .bool y0.drains, .bool y0.health.Up, .int .i64 y0.health.Run]⟩] [] = some (rx72 x) := (dV_eq (uvregistry_row_c _)).trans (ofG_eq hx)
def s72 (g : registry_row → Option api_Backend) : Summ := ⟨[.v], r72 g⟩
theorem r72_eq {g : registry_row → Option api_Backend} {y0 : registry_row} {x : api_Backend} (hx : g y0 = some x) : (s72 g).run [.agg ⟨[.int .i64 y0.Backend.ID, .int .i64 y0.Backend.Weight, .int .i64 y0.Backend.State, .bool y0.Backend.Addr.V6, .int .u64 y0.Backend.Addr.Hi, .int .u64 y0.Backend.Addr.Lo, .bool y0.drains, .bool y0.health.Up, .int .i64 y0.health.Run]⟩] [] = some (rx72 x) := r72_c hx
abbrev sums72 : List (Nat × Summ) := []
theorem leads72 (hS : SumsOK Try.prog (aget (sums72))) (ra0 : registry_row) (res : api_Backend) (h : registry_row_toldF ra0 = some res) :
    Leads Try.prog 72 0 ⟨⟨72, 17, [(0, .agg ⟨[.int .i64 ra0.Backend.ID, .int .i64 ra0.Backend.Weight, .int .i64 ra0.Backend.State, .bool ra0.Backend.Addr.V6, .int .u64 ra0.Backend.Addr.Hi, .int .u64 ra0.Backend.Addr.Lo, .bool ra0.drains, .bool ra0.health.Up, .int .i64 ra0.health.Run]⟩)], [.code k72_16], [], false, none⟩, [], [], 0⟩ (fun v H _ => Res 0 (rx72 res) v H) := by
  unfold registry_row_toldF at h
  refine ev_ok tab_ok hS true 3000 ?_
  conv => whnf
  refine br.h h ?_ ?_ ?_
  · rfl
  · clear h; intro hb h; conv => whnf
    all_goals (cases h; exact Res.z rfl rfl rfl)
  clear h; intro hb h; conv => whnf
  refine br.h h ?_ ?_ ?_
  · rfl
  · clear h; intro hb h; conv => whnf
    all_goals (cases h; exact Res.z rfl rfl rfl)
  clear h; intro hb h; conv => whnf
  all_goals (cases h; exact Res.z rfl rfl rfl)
theorem ok72 (hS : SumsOK Try.prog (aget (sums72))) : SumOK Try.prog 72 (s72 (registry_row_toldF)) := by
  refine SumOK.of_leads tab_ok (fun ar os r ha hr => ?_) ⟨Try.f72, rfl, by decide, rfl⟩
  replace hr : r72 (registry_row_toldF) ar (conts os) = some r := hr
  unfold r72 at hr
  generalize hc : conts os = C at hr
  replace hr := dV.elim hr; obtain ⟨v0, l1, y0, rfl, e0, hr⟩ := hr; obtain rfl := uvregistry_row_eq _ _ e0
  replace hr := dFin hr; obtain ⟨rfl, rfl, x, h, rfl⟩ := hr
  obtain rfl := kinds_nil hc
  exact ⟨_, rfl, leads72 hS _ x h⟩
def registry_row_told : registry_row → Option api_Backend := registry_row_toldF
theorem lift72 : SumOK Try.prog 72 (s72 registry_row_told) := ok72 (SumsOK.of_tab trivial)
def registry_Registry_GetF (registry_Registry_find : registry_Registry → Int → Option (Int × Bool)) (registry_Registry_find_nil : Int → Option (Int × Bool)) (registry_Registry_given : registry_Registry → Option Bool) (registry_Registry_given_nil : Option Bool) (registry_row_told : registry_row → Option api_Backend) (ga0 : registry_Registry) (ida1 : Int) : Option (api_Backend × Bool) :=
  (registry_Registry_given ga0).bind fun xg =>
  cond (!xg)
    (
    some ((api_Backend.mk 0 0 0 (api_Addr.mk false 0 0), false)))
    (
    (registry_Registry_find ga0 ida1).bind fun f =>
    cond (f.2)
      (
      oreq (decide ((0 : Int) ≤ f.1 ∧ f.1 < (ga0.rows.length : Int))) <|
      (ga0.rows[f.1.toNat]?).bind fun (e : registry_row) =>
      (registry_row_told e).bind fun t =>
      some ((t, true)))
      (
      cond (decide (ida1 < 1))
        (
        some ((api_Backend.mk 0 0 0 (api_Addr.mk false 0 0), false)))
        (
        cond (decide (ida1 > ga0.last))
          (
          some ((api_Backend.mk 0 0 0 (api_Addr.mk false 0 0), false)))
          (
          some ((api_Backend.mk ida1 0 4 (api_Addr.mk false 0 0), true))))))
def rx18 (x : api_Backend × Bool) : SRes := ⟨.tuple ⟨[.agg ⟨[.int .i64 x.1.ID, .int .i64 x.1.Weight, .int .i64 x.1.State, .bool x.1.Addr.V6, .int .u64 x.1.Addr.Hi, .int .u64 x.1.Addr.Lo]⟩, .bool x.2]⟩, [], [none, none]⟩
def r18 (g : registry_Registry → Int → Option (api_Backend × Bool)) : Dec := dTr 2 (udregistry_Registry 0) fun (y0 : registry_Registry) => dV (asI .i64) fun (y1 : Int) => dEnd (ofG (g y0 y1) rx18)
theorem r18_c {g : registry_Registry → Int → Option (api_Backend × Bool)} {y0 : registry_Registry} {y1 : Int} {x : api_Backend × Bool} (hx : g y0 y1 = some x) : r18 g [.pointer (some ⟨0, 0, none⟩), .int .i64 y1] [some [.int .i64 y0.rule.Rise, .int .i64 y0.rule.Fall, .slice (some ⟨1, 0, none⟩) y0.rows.length 9, .int .i64 y0.last, .int .i64 y0.version], some (vT cregistry_row y0.rows)] = some (rx18 x) := (dTr_eq rfl rfl (udregistry_Registry_c 0 _)).trans ((dV_eq (asI_c _)).trans (ofG_eq hx))
def s18 (g : registry_Registry → Int → Option (api_Backend × Bool)) : Summ := ⟨[.tr [⟨none, 0, 0, 0, none⟩, ⟨some 0, 2, 0, 0, some 9⟩], .v], r18 g⟩
theorem r18_eq {g : registry_Registry → Int → Option (api_Backend × Bool)} {y0 : registry_Registry} {y1 : Int} {x : api_Backend × Bool} (hx : g y0 y1 = some x) : (s18 g).run [.pointer (some ⟨0, 0, none⟩), .int .i64 y1] [some [.int .i64 y0.rule.Rise, .int .i64 y0.rule.Fall, .slice (some ⟨1, 0, none⟩) y0.rows.length 9, .int .i64 y0.last, .int .i64 y0.version], some (vT cregistry_row y0.rows)] = some (rx18 x) := r18_c hx
abbrev sums18 (registry_Registry_find : registry_Registry → Int → Option (Int × Bool)) (registry_Registry_find_nil : Int → Option (Int × Bool)) (registry_Registry_given : registry_Registry → Option Bool) (registry_Registry_given_nil : Option Bool) (registry_row_told : registry_row → Option api_Backend) : List (Nat × Summ) := [(71, s71 registry_Registry_find registry_Registry_find_nil), (70, s70 registry_Registry_given registry_Registry_given_nil), (72, s72 registry_row_told)]
theorem leads18 (registry_Registry_find : registry_Registry → Int → Option (Int × Bool)) (registry_Registry_find_nil : Int → Option (Int × Bool)) (registry_Registry_given : registry_Registry → Option Bool) (registry_Registry_given_nil : Option Bool) (registry_row_told : registry_row → Option api_Backend) (hS : SumsOK Try.prog (aget (sums18 registry_Registry_find registry_Registry_find_nil registry_Registry_given registry_Registry_given_nil registry_row_told))) (ga0 : registry_Registry) (ida1 : Int) (res : api_Backend × Bool) (h : registry_Registry_GetF registry_Registry_find registry_Registry_find_nil registry_Registry_given registry_Registry_given_nil registry_row_told ga0 ida1 = some res) :
    Leads Try.prog 18 2 ⟨⟨18, 40, [(0, .pointer (some ⟨0, 0, none⟩)), (1, .int .i64 ida1)], [.code k18_23], [], false, none⟩, [], [(0, .row false [.int .i64 ga0.rule.Rise, .int .i64 ga0.rule.Fall, .slice (some ⟨1, 0, none⟩) ga0.rows.length 9, .int .i64 ga0.last, .int .i64 ga0.version]), (1, .row false (vT cregistry_row ga0.rows))], 2⟩ (fun v H _ => Res 2 (rx18 res) v H) := by
  unfold registry_Registry_GetF at h
  refine ev_ok tab_ok hS true 3000 ?_
  conv => whnf
  replace h := obind.elim h; obtain ⟨xg, hy, h⟩ := h
  refine sumK.introF [] (sumRun_of (aqs := [.pointer (some ⟨0, 0, none⟩)]) (ws := [.blk 0 false, .blk 1 false]) (n := 0) (m := 0) (t' := 3) (ra_cons (ra_tr rfl rfl (vp_at rfl rfl rfl rfl (vp_at rfl rfl (rn_T cregistry_row_flat) rfl vp_nil)) rfl) rfl ra_nil) rfl (by rfl) (r70_eq hy) rfl rfl rfl rfl (wb_skip rfl (wb_skip rfl wb_nil)) an_nil rfl) ?_
  conv => whnf
  refine br.h h ?_ ?_ ?_
  · rfl
  · clear h; intro hb h; conv => whnf
    all_goals (cases h)
    all_goals exact Res.of [] rfl nw_0 (by decide) js_0 (wr_n (wr_n wr_0))
  clear h; intro hb h; conv => whnf
  replace h := obind.elim h; obtain ⟨f, hy, h⟩ := h
  refine sumK.introF [] (sumRun_of (aqs := [.pointer (some ⟨0, 0, none⟩), .int .i64 ida1]) (ws := [.blk 0 false, .blk 1 false]) (n := 0) (m := 0) (t' := 3) (ra_cons (ra_tr rfl rfl (vp_at rfl rfl rfl rfl (vp_at rfl rfl (rn_T cregistry_row_flat) rfl vp_nil)) rfl) rfl (ra_cons rfl rfl ra_nil)) rfl (by rfl) (r71_eq hy) rfl rfl rfl rfl (wb_skip rfl (wb_skip rfl wb_nil)) an_nil rfl) ?_
  conv => whnf
  refine br.h h ?_ ?_ ?_
  · rfl
  · clear h; intro hb h; conv => whnf
    replace h := oreq.elim h; obtain ⟨hb, h⟩ := h
    first | (refine req.intro hb ?_; conv => whnf) | skip
    replace h := obind.elim h; obtain ⟨e, hy, h⟩ := h
    refine ld_T cregistry_row_len hy (by first | omega | exact Nat.zero_add _ | exact congrArg (· + _) (Nat.zero_add _)) rfl ?_
    conv => whnf
    replace h := obind.elim h; obtain ⟨t, hy, h⟩ := h
    refine sumK.q rfl rfl (r72_eq hy) rfl rfl rfl ?_
    conv => whnf
    all_goals (cases h)
    all_goals exact Res.of [] rfl nw_0 (by decide) js_0 (wr_n (wr_n wr_0))
  clear h; intro hb h; conv => whnf
  refine br.h h ?_ ?_ ?_
  · rfl
  · clear h; intro hb h; conv => whnf
    all_goals (cases h)
    all_goals exact Res.of [] rfl nw_0 (by decide) js_0 (wr_n (wr_n wr_0))
  clear h; intro hb h; conv => whnf
  refine br.h h ?_ ?_ ?_
  · rfl
  · clear h; intro hb h; conv => whnf
    all_goals (cases h)
    all_goals exact Res.of [] rfl nw_0 (by decide) js_0 (wr_n (wr_n wr_0))
  clear h; intro hb h; conv => whnf
  all_goals (cases h)
  all_goals exact Res.of [] rfl nw_0 (by decide) js_0 (wr_n (wr_n wr_0))
theorem ok18 (registry_Registry_find : registry_Registry → Int → Option (Int × Bool)) (registry_Registry_find_nil : Int → Option (Int × Bool)) (registry_Registry_given : registry_Registry → Option Bool) (registry_Registry_given_nil : Option Bool) (registry_row_told : registry_row → Option api_Backend) (hS : SumsOK Try.prog (aget (sums18 registry_Registry_find registry_Registry_find_nil registry_Registry_given registry_Registry_given_nil registry_row_told))) : SumOK Try.prog 18 (s18 (registry_Registry_GetF registry_Registry_find registry_Registry_find_nil registry_Registry_given registry_Registry_given_nil registry_row_told)) := by
  refine SumOK.of_leads tab_ok (fun ar os r ha hr => ?_) ⟨Try.f18, rfl, by decide, rfl⟩
  replace hr : r18 (registry_Registry_GetF registry_Registry_find registry_Registry_find_nil registry_Registry_given registry_Registry_given_nil registry_row_told) ar (conts os) = some r := hr
  unfold r18 at hr
  generalize hc : conts os = C at hr
  have hq := dTr.elim hr; clear hr; obtain ⟨v0, l1, c0, C, y0, rfl, rfl, e0, hr⟩ := hq; obtain ⟨rfl, rfl⟩ := udregistry_Registry_eq e0; simp only [List.nil_append, List.cons_append] at hc
  replace hr := dV.elim hr; obtain ⟨v1, l2, y1, rfl, e1, hr⟩ := hr; obtain rfl := asI_eq _ _ _ e1
  replace hr := dFin hr; obtain ⟨rfl, rfl, x, h, rfl⟩ := hr
  obtain ⟨os, rfl, ha, hc⟩ := kinds_some ha hc
  obtain ⟨os, rfl, ha, hc⟩ := kinds_some ha hc
  obtain rfl := kinds_nil hc
  exact ⟨_, rfl, leads18 registry_Registry_find registry_Registry_find_nil registry_Registry_given registry_Registry_given_nil registry_row_told hS _ _ x h⟩
def registry_Registry_Get : registry_Registry → Int → Option (api_Backend × Bool) := registry_Registry_GetF registry_Registry_find registry_Registry_find_nil registry_Registry_given registry_Registry_given_nil registry_row_told
theorem lift18 : SumOK Try.prog 18 (s18 registry_Registry_Get) := ok18 registry_Registry_find registry_Registry_find_nil registry_Registry_given registry_Registry_given_nil registry_row_told (SumsOK.of_tab ⟨lift71, lift70, lift72, trivial⟩)
def registry_Registry_Remove_nilF (registry_Registry_find : registry_Registry → Int → Option (Int × Bool)) (registry_Registry_find_nil : Int → Option (Int × Bool)) (registry_Registry_given : registry_Registry → Option Bool) (registry_Registry_given_nil : Option Bool) (ida1 : Int) : Option Int :=
  (registry_Registry_given_nil).bind fun n =>
  cond (!n)
    (
    some (1))
    (
    (registry_Registry_find_nil ida1).bind fun n1 =>
    cond (!n1.2)
      (
      some (13))
      (
      none))
def rx27n (x : Int) : SRes := ⟨.int .i64 x, [], [none, none]⟩
def r27n (g : Int → Option Int) : Dec := dNl 2 <| dV (asI .i64) fun (y1 : Int) => dEnd (ofG (g y1) rx27n)
theorem r27n_c {g : Int → Option Int} {y1 : Int} {x : Int} (hx : g y1 = some x) : r27n g [.pointer none, .int .i64 y1] [none, none] = some (rx27n x) := (dNl_2).trans ((dV_eq (asI_c _)).trans (ofG_eq hx))
abbrev sums27n (registry_Registry_find : registry_Registry → Int → Option (Int × Bool)) (registry_Registry_find_nil : Int → Option (Int × Bool)) (registry_Registry_given : registry_Registry → Option Bool) (registry_Registry_given_nil : Option Bool) : List (Nat × Summ) := [(71, s71 registry_Registry_find registry_Registry_find_nil), (70, s70 registry_Registry_given registry_Registry_given_nil)]
theorem leads27n (registry_Registry_find : registry_Registry → Int → Option (Int × Bool)) (registry_Registry_find_nil : Int → Option (Int × Bool)) (registry_Registry_given : registry_Registry → Option Bool) (registry_Registry_given_nil : Option Bool) (hS : SumsOK Try.prog (aget (sums27n registry_Registry_find registry_Registry_find_nil registry_Registry_given registry_Registry_given_nil))) (ida1 : Int) (res : Int) (h : registry_Registry_Remove_nilF registry_Registry_find registry_Registry_find_nil registry_Registry_given registry_Registry_given_nil ida1 = some res) :
    Leads Try.prog 27 2 ⟨⟨27, 21, [(0, .pointer none), (1, .int .i64 ida1)], [.code k27_10], [], false, none⟩, [], [], 2⟩ (fun v H _ => Res 2 (rx27n res) v H) := by
  unfold registry_Registry_Remove_nilF at h
  refine ev_ok tab_ok hS true 3000 ?_
  conv => whnf
  replace h := obind.elim h; obtain ⟨n, hy, h⟩ := h
  refine sumK.introF [] (sumRun_of (aqs := [.pointer none]) (ws := [.no, .no]) (n := 0) (m := 0) (t' := 3) (ra_cons rfl rfl ra_nil) rfl (by rfl) (r70n_eq hy) rfl rfl rfl rfl (wb_skip rfl (wb_skip rfl wb_nil)) an_nil rfl) ?_
  conv => whnf
  refine br.h h ?_ ?_ ?_
  · rfl
  · clear h; intro hb h; conv => whnf
    all_goals (cases h)
    all_goals exact Res.of [] rfl nw_0 (by decide) js_0 (wr_n (wr_n wr_0))
  clear h; intro hb h; conv => whnf
  replace h := obind.elim h; obtain ⟨n1, hy, h⟩ := h
  refine sumK.introF [] (sumRun_of (aqs := [.pointer none, .int .i64 ida1]) (ws := [.no, .no]) (n := 0) (m := 0) (t' := 3) (ra_cons rfl rfl (ra_cons rfl rfl ra_nil)) rfl (by rfl) (r71n_eq hy) rfl rfl rfl rfl (wb_skip rfl (wb_skip rfl wb_nil)) an_nil rfl) ?_
  conv => whnf
  refine br.h h ?_ ?_ ?_
  · rfl
  · clear h; intro hb h; conv => whnf
    all_goals (cases h)
    all_goals exact Res.of [] rfl nw_0 (by decide) js_0 (wr_n (wr_n wr_0))
  clear h; intro hb h; conv => whnf
  cases h
def registry_Registry_Remove_s1 (ga0 : registry_Registry) (ida1 : Int) (i : Int) (xj : Int) (s1 : List registry_row) : Option (Sum (Int × Int × (List registry_row)) (Int × registry_Registry)) :=
  cond (decide (xj < (s1.length : Int)))
    (
    oreq (decide ((0 : Int) ≤ xj ∧ xj < (s1.length : Int))) <|
    (s1[xj.toNat]?).bind fun (e1 : registry_row) =>
    cond (!(e1.Backend.ID == ida1))
      (
      oreq (decide ((0 : Int) ≤ i ∧ i < (s1.length : Int))) <|
      oreq (decide (i.toNat < s1.length)) <|
      let row := s1.set i.toNat e1
      some (.inl (wI .i64 (i + 1), wI .i64 (xj + 1), row)))
      (
      some (.inl (i, wI .i64 (xj + 1), s1))))
    (
    oreq (decide ((0 : Int) ≤ i ∧ i ≤ (s1.length : Int))) <|
    oreq (decide (i.toNat + (s1.length - i.toNat) = s1.length)) <|
    let row1 := s1.take i.toNat
    oreq (decide ((0 : Int) ≤ i ∧ i ≤ (s1.length : Int))) <|
    some (.inr ((0, registry_Registry.mk ga0.rule row1 ga0.last (wI .i64 (ga0.version + 1))))))
def registry_Registry_Remove_s2 (ga0 : registry_Registry) (ida1 : Int) (t8 : Int) : Option (Sum Int (Int × registry_Registry)) :=
  cond (decide (t8 < (ga0.rows.length : Int)))
    (
    oreq (decide ((0 : Int) ≤ t8 ∧ t8 < (ga0.rows.length : Int))) <|
    (ga0.rows[t8.toNat]?).bind fun (e : registry_row) =>
    cond (e.Backend.ID == ida1)
      (
      cond (t8 == (-1))
        (
        some (.inr ((0, registry_Registry.mk ga0.rule ga0.rows ga0.last (wI .i64 (ga0.version + 1))))))
        (
        (iter (fun st => registry_Registry_Remove_s1 ga0 ida1 st.1 st.2.1 st.2.2) FUEL (t8, wI .i64 (t8 + 1), ga0.rows)).bind fun o => some (.inr (o))))
      (
      some (.inl (wI .i64 (t8 + 1)))))
    (
    some (.inr ((0, registry_Registry.mk ga0.rule ga0.rows ga0.last (wI .i64 (ga0.version + 1))))))
def registry_Registry_RemoveF (registry_Registry_find : registry_Registry → Int → Option (Int × Bool)) (registry_Registry_find_nil : Int → Option (Int × Bool)) (registry_Registry_given : registry_Registry → Option Bool) (registry_Registry_given_nil : Option Bool) (ga0 : registry_Registry) (ida1 : Int) : Option (Int × registry_Registry) :=
  (registry_Registry_given ga0).bind fun xg =>
  cond (!xg)
    (
    some ((1, ga0)))
    (
    (registry_Registry_find ga0 ida1).bind fun f =>
    cond (!f.2)
      (
      some ((13, ga0)))
      (
      oreq (decide ((0 : Int) ≤ f.1 ∧ f.1 < (ga0.rows.length : Int))) <|
      iter (fun st => registry_Registry_Remove_s2 ga0 ida1 st) FUEL 0))
def rx27 (x : Int × registry_Registry) : SRes := ⟨.int .i64 x.1, [(vT cregistry_row x.2.rows)], [some [.int .i64 x.2.rule.Rise, .int .i64 x.2.rule.Fall, .slice (some ⟨0, 0, none⟩) x.2.rows.length 9, .int .i64 x.2.last, .int .i64 x.2.version], none]⟩
def r27 (g : registry_Registry → Int → Option (Int × registry_Registry)) : Dec := dTr 2 (udregistry_Registry 0) fun (y0 : registry_Registry) => dV (asI .i64) fun (y1 : Int) => dEnd (ofG (g y0 y1) rx27)
theorem r27_c {g : registry_Registry → Int → Option (Int × registry_Registry)} {y0 : registry_Registry} {y1 : Int} {x : Int × registry_Registry} (hx : g y0 y1 = some x) : r27 g [.pointer (some ⟨0, 0, none⟩), .int .i64 y1] [some [.int .i64 y0.rule.Rise, .int .i64 y0.rule.Fall, .slice (some ⟨1, 0, none⟩) y0.rows.length 9, .int .i64 y0.last, .int .i64 y0.version], some (vT cregistry_row y0.rows)] = some (rx27 x) := (dTr_eq rfl rfl (udregistry_Registry_c 0 _)).trans ((dV_eq (asI_c _)).trans (ofG_eq hx))
def s27 (g : registry_Registry → Int → Option (Int × registry_Registry)) (g2 : Int → Option Int) : Summ := ⟨[.tr [⟨none, 0, 0, 1, none⟩, ⟨some 0, 2, 0, 2, some 9⟩], .v], pickN 0 (r27 g) (r27n g2)⟩
theorem r27_eq {g : registry_Registry → Int → Option (Int × registry_Registry)} {g2 : Int → Option Int} {y0 : registry_Registry} {y1 : Int} {x : Int × registry_Registry} (hx : g y0 y1 = some x) : (s27 g g2).run [.pointer (some ⟨0, 0, none⟩), .int .i64 y1] [some [.int .i64 y0.rule.Rise, .int .i64 y0.rule.Fall, .slice (some ⟨1, 0, none⟩) y0.rows.length 9, .int .i64 y0.last, .int .i64 y0.version], some (vT cregistry_row y0.rows)] = some (rx27 x) := r27_c hx
theorem r27n_eq {g2 : registry_Registry → Int → Option (Int × registry_Registry)} {g : Int → Option Int} {y1 : Int} {x : Int} (hx : g y1 = some x) : (s27 g2 g).run [.pointer none, .int .i64 y1] [none, none] = some (rx27n x) := r27n_c hx
abbrev sums27 (registry_Registry_find : registry_Registry → Int → Option (Int × Bool)) (registry_Registry_find_nil : Int → Option (Int × Bool)) (registry_Registry_given : registry_Registry → Option Bool) (registry_Registry_given_nil : Option Bool) : List (Nat × Summ) := [(71, s71 registry_Registry_find registry_Registry_find_nil), (70, s70 registry_Registry_given registry_Registry_given_nil)]
def head27_1 (ga0 : registry_Registry) (ida1 : Int) (i : Int) (xj : Int) (s1 : List registry_row) : VM :=
  ⟨⟨85, 42, [(0, .slice (some ⟨1, 0, none⟩) s1.length 9), (1, .func (.func 86) ⟨[]⟩ ⟨[.pointer (some ⟨2, 0, none⟩)]⟩), (5, .int .i64 i), (6, .int .i64 xj)], [.code k85_22, .inLoop k85_22, .inBlock 0, .code k85_29], [], false, none⟩, [⟨27, 21, [(5, .int .i64 0), (11, .pointer (some ⟨0, 0, none⟩))], [.inReg (opsD k27_3 6), .code k27_7], [], false, none⟩], [(0, .cells [.int .i64 ga0.rule.Rise, .int .i64 ga0.rule.Fall, .slice (some ⟨1, 0, none⟩) s1.length 9, .int .i64 ga0.last, .int .i64 (wI .i64 (ga0.version + 1))]), (1, .row true (vT cregistry_row s1)), (2, .cells [.int .i64 ida1])], 4⟩
def head27_2 (ga0 : registry_Registry) (ida1 : Int) (t8 : Int) : VM :=
  ⟨⟨127, 19, [(0, .slice (some ⟨1, 0, none⟩) ga0.rows.length 9), (1, .func (.func 86) ⟨[]⟩ ⟨[.pointer (some ⟨2, 0, none⟩)]⟩), (7, .int .i64 (ga0.rows.length : Int)), (8, .int .i64 t8)], [.code k127_15, .inLoop k127_15, .inBlock 0, .code k127_20], [], false, none⟩, [⟨85, 42, [(0, .slice (some ⟨1, 0, none⟩) ga0.rows.length 9), (1, .func (.func 86) ⟨[]⟩ ⟨[.pointer (some ⟨2, 0, none⟩)]⟩)], [.inReg (opsD k85_1 2), .code k85_31], [], false, none⟩, ⟨27, 21, [(5, .int .i64 0), (11, .pointer (some ⟨0, 0, none⟩))], [.inReg (opsD k27_3 6), .code k27_7], [], false, none⟩], [(0, .cells [.int .i64 ga0.rule.Rise, .int .i64 ga0.rule.Fall, .slice (some ⟨1, 0, none⟩) ga0.rows.length 9, .int .i64 ga0.last, .int .i64 (wI .i64 (ga0.version + 1))]), (1, .row true (vT cregistry_row ga0.rows)), (2, .cells [.int .i64 ida1])], 3⟩
theorem loop27_1 (registry_Registry_find : registry_Registry → Int → Option (Int × Bool)) (registry_Registry_find_nil : Int → Option (Int × Bool)) (registry_Registry_given : registry_Registry → Option Bool) (registry_Registry_given_nil : Option Bool) (hS : SumsOK Try.prog (aget (sums27 registry_Registry_find registry_Registry_find_nil registry_Registry_given registry_Registry_given_nil))) (ga0 : registry_Registry) (ida1 : Int) (res : Int × registry_Registry) : ∀ fuel (st : Int × Int × (List registry_row)) (o : Int × registry_Registry), iter (fun st => registry_Registry_Remove_s1 ga0 ida1 st.1 st.2.1 st.2.2) fuel st = some o → (o = res) →
    Leads Try.prog 27 2 (head27_1 ga0 ida1 st.1 st.2.1 st.2.2) (fun v H _ => Res 2 (rx27 res) v H) := by
  intro fuel st o h hc
  refine iter_leads (head := fun st => head27_1 ga0 ida1 st.1 st.2.1 st.2.2) (C := fun o => (o = res)) ?_ fuel st o h hc
  clear h hc o st fuel
  intro st o h hc
  obtain ⟨i, xj, s1⟩ := st
  replace h : registry_Registry_Remove_s1 ga0 ida1 i xj s1 = some o := h
  show Leads Try.prog 27 2 (head27_1 ga0 ida1 i xj s1) (fun v H _ => Res 2 (rx27 res) v H)
  unfold registry_Registry_Remove_s1 at h
  refine ev_ok tab_ok hS true 3000 ?_
  conv => whnf
  refine br.h2 h ?_ ?_ ?_
  · rfl
  · clear h; intro hb h; conv => whnf
    replace h := oreq.elim h; obtain ⟨hb, h⟩ := h
    first | (refine req.intro hb ?_; conv => whnf) | skip
    replace h := oreq.elim h; obtain ⟨hb, h⟩ := h
    refine clr_T cregistry_row_len hb (by first | rfl | omega) ⟨rfl, rfl, rfl⟩ ?_
    conv => whnf
    let row1 : List registry_row := s1.take i.toNat
    have hcut : i.toNat = row1.length := cut_len hb
    conv => whnf
    replace h := oreq.elim h; obtain ⟨hb, h⟩ := h
    first | (refine req.intro hb ?_; conv => whnf) | skip
    try rw [show i.toNat = row1.length from hcut]
    try rw [show s1.take row1.length = row1 from (congrArg (fun n => s1.take n) hcut).symm]
    conv => whnf
    all_goals (cases h; cases hc)
    all_goals exact Res.of [1] rfl (nw_s (rn_T cregistry_row_flat) (hs_row rfl) nw_0) (by decide) (js_r rfl js_0) (wr_s (rfl) (hs_cells rfl) (wr_n wr_0))
  clear h; intro hb h; conv => whnf
  replace h := oreq.elim h; obtain ⟨hb, h⟩ := h
  first | (refine req.intro hb ?_; conv => whnf) | skip
  replace h := obind.elim h; obtain ⟨e1, hy, h⟩ := h
  refine ld_T cregistry_row_len hy (by first | omega | exact Nat.zero_add _ | exact congrArg (· + _) (Nat.zero_add _)) rfl ?_
  conv => whnf
  refine br.h2 h ?_ ?_ ?_
  · rfl
  · clear h; intro hb h; conv => whnf
    cases h; simp only [Sum.elim_inl, head27_1] at hc
    refine Leads.re hc [(0, 0), (1, 1), (2, 2)] rfl ?_ ?_ (hu := by repeat' first | exact trivial | refine ⟨⟨rfl, rfl, rfl, rfl, rfl, ?_, rfl, rfl⟩, ?_⟩ | refine ⟨⟨_, rfl, rfl⟩, ?_⟩) <;> (repeat' first | exact trivial | refine ⟨⟨_, rfl, rfl⟩, ?_⟩ | refine ⟨⟨_, _, rfl, rfl, .rowF (vI_flat _ _) id⟩, ?_⟩ | refine ⟨⟨_, _, rfl, rfl, .rowF (vS_flat _) id⟩, ?_⟩ | refine ⟨⟨_, _, rfl, rfl, .rowF (vB_flat _) id⟩, ?_⟩ | refine ⟨⟨_, _, rfl, rfl, .rowF (vT_flat (by first | exact chealth_Rule_flat | exact capi_Addr_flat | exact cR23_Step_flat | exact capi_Backend_flat | exact chealth_State_flat | exact cregistry_row_flat | exact cR23_Row_flat) _) id⟩, ?_⟩ | refine ⟨⟨_, _, rfl, rfl, .tyF (vI_flat _ _)⟩, ?_⟩ | refine ⟨⟨_, _, rfl, rfl, .ty rfl⟩, ?_⟩ | refine ⟨⟨_, _, rfl, rfl, .cells rfl⟩, ?_⟩ | refine ⟨⟨_, _, rfl, rfl, .row rfl id⟩, ?_⟩ | refine ⟨⟨_, _, rfl, rfl, .cr rfl⟩, ?_⟩ | refine ⟨⟨_, _, rfl, rfl, .rc rfl⟩, ?_⟩ | refine ⟨⟨_, _, rfl, rfl, .marks⟩, ?_⟩ | refine ⟨⟨_, _, rfl, rfl, .siter _ _⟩, ?_⟩ | refine ⟨⟨_, _, rfl, rfl, .loop rfl rfl rfl rfl (by repeat' first | exact trivial | refine ⟨rfl, ?_⟩) rfl rfl rfl rfl⟩, ?_⟩)
  clear h; intro hb h; conv => whnf
  replace h := oreq.elim h; obtain ⟨hb, h⟩ := h
  first | (refine req.intro hb ?_; conv => whnf) | skip
  replace h := oreq.elim h; obtain ⟨hb, h⟩ := h
  refine st_TN cregistry_row_len hb (by omega) rfl rfl rfl ?_
  conv => whnf
  let row : List registry_row := s1.set i.toNat e1
  try rw [show s1.length = row.length from (List.length_set ..).symm]
  conv => whnf
  cases h; simp only [Sum.elim_inl, head27_1] at hc
  refine Leads.re hc [(0, 0), (1, 1), (2, 2)] rfl ?_ ?_ (hu := by repeat' first | exact trivial | refine ⟨⟨rfl, rfl, rfl, rfl, rfl, ?_, rfl, rfl⟩, ?_⟩ | refine ⟨⟨_, rfl, rfl⟩, ?_⟩) <;> (repeat' first | exact trivial | refine ⟨⟨_, rfl, rfl⟩, ?_⟩ | refine ⟨⟨_, _, rfl, rfl, .rowF (vI_flat _ _) id⟩, ?_⟩ | refine ⟨⟨_, _, rfl, rfl, .rowF (vS_flat _) id⟩, ?_⟩ | refine ⟨⟨_, _, rfl, rfl, .rowF (vB_flat _) id⟩, ?_⟩ | refine ⟨⟨_, _, rfl, rfl, .rowF (vT_flat (by first | exact chealth_Rule_flat | exact capi_Addr_flat | exact cR23_Step_flat | exact capi_Backend_flat | exact chealth_State_flat | exact cregistry_row_flat | exact cR23_Row_flat) _) id⟩, ?_⟩ | refine ⟨⟨_, _, rfl, rfl, .tyF (vI_flat _ _)⟩, ?_⟩ | refine ⟨⟨_, _, rfl, rfl, .ty rfl⟩, ?_⟩ | refine ⟨⟨_, _, rfl, rfl, .cells rfl⟩, ?_⟩ | refine ⟨⟨_, _, rfl, rfl, .row rfl id⟩, ?_⟩ | refine ⟨⟨_, _, rfl, rfl, .cr rfl⟩, ?_⟩ | refine ⟨⟨_, _, rfl, rfl, .rc rfl⟩, ?_⟩ | refine ⟨⟨_, _, rfl, rfl, .marks⟩, ?_⟩ | refine ⟨⟨_, _, rfl, rfl, .siter _ _⟩, ?_⟩ | refine ⟨⟨_, _, rfl, rfl, .loop rfl rfl rfl rfl (by repeat' first | exact trivial | refine ⟨rfl, ?_⟩) rfl rfl rfl rfl⟩, ?_⟩)
theorem loop27_2 (registry_Registry_find : registry_Registry → Int → Option (Int × Bool)) (registry_Registry_find_nil : Int → Option (Int × Bool)) (registry_Registry_given : registry_Registry → Option Bool) (registry_Registry_given_nil : Option Bool) (hS : SumsOK Try.prog (aget (sums27 registry_Registry_find registry_Registry_find_nil registry_Registry_given registry_Registry_given_nil))) (ga0 : registry_Registry) (ida1 : Int) (res : Int × registry_Registry) : ∀ fuel (st : Int) (o : Int × registry_Registry), iter (fun st => registry_Registry_Remove_s2 ga0 ida1 st) fuel st = some o → (o = res) →
    Leads Try.prog 27 2 (head27_2 ga0 ida1 st) (fun v H _ => Res 2 (rx27 res) v H) := by
  intro fuel st o h hc
  refine iter_leads (head := fun st => head27_2 ga0 ida1 st) (C := fun o => (o = res)) ?_ fuel st o h hc
  clear h hc o st fuel
  intro t8 o h hc
  replace h : registry_Registry_Remove_s2 ga0 ida1 t8 = some o := h
  show Leads Try.prog 27 2 (head27_2 ga0 ida1 t8) (fun v H _ => Res 2 (rx27 res) v H)
  unfold registry_Registry_Remove_s2 at h
  refine ev_ok tab_ok hS true 3000 ?_
  conv => whnf
  refine br.h2 h ?_ ?_ ?_
  · rfl
  · clear h; intro hb h; conv => whnf
    all_goals (cases h; cases hc)
    all_goals exact Res.of [1] rfl (nw_s (rn_T cregistry_row_flat) (hs_row rfl) nw_0) (by decide) (js_r rfl js_0) (wr_s (rfl) (hs_cells rfl) (wr_n wr_0))
  clear h; intro hb h; conv => whnf
  replace h := oreq.elim h; obtain ⟨hb, h⟩ := h
  first | (refine req.intro hb ?_; conv => whnf) | skip
  replace h := obind.elim h; obtain ⟨e, hy, h⟩ := h
  refine ld_T cregistry_row_len hy (by first | omega | exact Nat.zero_add _ | exact congrArg (· + _) (Nat.zero_add _)) rfl ?_
  conv => whnf
  refine br.h2 h ?_ ?_ ?_
  · rfl
  · clear h; intro hb h; conv => whnf
    cases h; simp only [Sum.elim_inl, head27_2] at hc
    refine Leads.re hc [(0, 0), (1, 1), (2, 2)] rfl ?_ ?_ (hu := by repeat' first | exact trivial | refine ⟨⟨rfl, rfl, rfl, rfl, rfl, ?_, rfl, rfl⟩, ?_⟩ | refine ⟨⟨_, rfl, rfl⟩, ?_⟩) <;> (repeat' first | exact trivial | refine ⟨⟨_, rfl, rfl⟩, ?_⟩ | refine ⟨⟨_, _, rfl, rfl, .rowF (vI_flat _ _) id⟩, ?_⟩ | refine ⟨⟨_, _, rfl, rfl, .rowF (vS_flat _) id⟩, ?_⟩ | refine ⟨⟨_, _, rfl, rfl, .rowF (vB_flat _) id⟩, ?_⟩ | refine ⟨⟨_, _, rfl, rfl, .rowF (vT_flat (by first | exact chealth_Rule_flat | exact capi_Addr_flat | exact cR23_Step_flat | exact capi_Backend_flat | exact chealth_State_flat | exact cregistry_row_flat | exact cR23_Row_flat) _) id⟩, ?_⟩ | refine ⟨⟨_, _, rfl, rfl, .tyF (vI_flat _ _)⟩, ?_⟩ | refine ⟨⟨_, _, rfl, rfl, .ty rfl⟩, ?_⟩ | refine ⟨⟨_, _, rfl, rfl, .cells rfl⟩, ?_⟩ | refine ⟨⟨_, _, rfl, rfl, .row rfl id⟩, ?_⟩ | refine ⟨⟨_, _, rfl, rfl, .cr rfl⟩, ?_⟩ | refine ⟨⟨_, _, rfl, rfl, .rc rfl⟩, ?_⟩ | refine ⟨⟨_, _, rfl, rfl, .marks⟩, ?_⟩ | refine ⟨⟨_, _, rfl, rfl, .siter _ _⟩, ?_⟩ | refine ⟨⟨_, _, rfl, rfl, .loop rfl rfl rfl rfl (by repeat' first | exact trivial | refine ⟨rfl, ?_⟩) rfl rfl rfl rfl⟩, ?_⟩)
  clear h; intro hb h; conv => whnf
  refine br.h h ?_ ?_ ?_
  · rfl
  · clear h; intro hb h; conv => whnf
    all_goals (cases h; cases hc)
    all_goals exact Res.of [1] rfl (nw_s (rn_T cregistry_row_flat) (hs_row rfl) nw_0) (by decide) (js_r rfl js_0) (wr_s (rfl) (hs_cells rfl) (wr_n wr_0))
  clear h; intro hb h; conv => whnf
  obtain ⟨y, hy, h2⟩ := obind.elim h; cases h2
  have hl := loop27_1 registry_Registry_find registry_Registry_find_nil registry_Registry_given registry_Registry_given_nil hS _ _ res _ _ _ hy hc; simp only [head27_1] at hl
  refine Leads.re hl [(0, 0), (1, 1), (2, 2)] rfl ?_ ?_ (hu := by repeat' first | exact trivial | refine ⟨⟨rfl, rfl, rfl, rfl, rfl, ?_, rfl, rfl⟩, ?_⟩ | refine ⟨⟨_, rfl, rfl⟩, ?_⟩) <;> (repeat' first | exact trivial | refine ⟨⟨_, rfl, rfl⟩, ?_⟩ | refine ⟨⟨_, _, rfl, rfl, .rowF (vI_flat _ _) id⟩, ?_⟩ | refine ⟨⟨_, _, rfl, rfl, .rowF (vS_flat _) id⟩, ?_⟩ | refine ⟨⟨_, _, rfl, rfl, .rowF (vB_flat _) id⟩, ?_⟩ | refine ⟨⟨_, _, rfl, rfl, .rowF (vT_flat (by first | exact chealth_Rule_flat | exact capi_Addr_flat | exact cR23_Step_flat | exact capi_Backend_flat | exact chealth_State_flat | exact cregistry_row_flat | exact cR23_Row_flat) _) id⟩, ?_⟩ | refine ⟨⟨_, _, rfl, rfl, .tyF (vI_flat _ _)⟩, ?_⟩ | refine ⟨⟨_, _, rfl, rfl, .ty rfl⟩, ?_⟩ | refine ⟨⟨_, _, rfl, rfl, .cells rfl⟩, ?_⟩ | refine ⟨⟨_, _, rfl, rfl, .row rfl id⟩, ?_⟩ | refine ⟨⟨_, _, rfl, rfl, .cr rfl⟩, ?_⟩ | refine ⟨⟨_, _, rfl, rfl, .rc rfl⟩, ?_⟩ | refine ⟨⟨_, _, rfl, rfl, .marks⟩, ?_⟩ | refine ⟨⟨_, _, rfl, rfl, .siter _ _⟩, ?_⟩ | refine ⟨⟨_, _, rfl, rfl, .loop rfl rfl rfl rfl (by repeat' first | exact trivial | refine ⟨rfl, ?_⟩) rfl rfl rfl rfl⟩, ?_⟩)
theorem leads27 (registry_Registry_find : registry_Registry → Int → Option (Int × Bool)) (registry_Registry_find_nil : Int → Option (Int × Bool)) (registry_Registry_given : registry_Registry → Option Bool) (registry_Registry_given_nil : Option Bool) (hS : SumsOK Try.prog (aget (sums27 registry_Registry_find registry_Registry_find_nil registry_Registry_given registry_Registry_given_nil))) (ga0 : registry_Registry) (ida1 : Int) (res : Int × registry_Registry) (h : registry_Registry_RemoveF registry_Registry_find registry_Registry_find_nil registry_Registry_given registry_Registry_given_nil ga0 ida1 = some res) :
    Leads Try.prog 27 2 ⟨⟨27, 21, [(0, .pointer (some ⟨0, 0, none⟩)), (1, .int .i64 ida1)], [.code k27_10], [], false, none⟩, [], [(0, .cells [.int .i64 ga0.rule.Rise, .int .i64 ga0.rule.Fall, .slice (some ⟨1, 0, none⟩) ga0.rows.length 9, .int .i64 ga0.last, .int .i64 ga0.version]), (1, .row true (vT cregistry_row ga0.rows))], 2⟩ (fun v H _ => Res 2 (rx27 res) v H) := by
  unfold registry_Registry_RemoveF at h
  refine ev_ok tab_ok hS true 3000 ?_
  conv => whnf
  replace h := obind.elim h; obtain ⟨xg, hy, h⟩ := h
  refine sumK.introF [] (sumRun_of (aqs := [.pointer (some ⟨0, 0, none⟩)]) (ws := [.blk 0 false, .blk 1 false]) (n := 0) (m := 0) (t' := 3) (ra_cons (ra_tr rfl rfl (vp_at rfl rfl rfl rfl (vp_at rfl rfl (rn_T cregistry_row_flat) rfl vp_nil)) rfl) rfl ra_nil) rfl (by rfl) (r70_eq hy) rfl rfl rfl rfl (wb_skip rfl (wb_skip rfl wb_nil)) an_nil rfl) ?_
  conv => whnf
  refine br.h h ?_ ?_ ?_
  · rfl
  · clear h; intro hb h; conv => whnf
    all_goals (cases h)
    all_goals exact Res.of [1] rfl (nw_s (rn_T cregistry_row_flat) (hs_row rfl) nw_0) (by decide) (js_r rfl js_0) (wr_s (rfl) (hs_cells rfl) (wr_n wr_0))
  clear h; intro hb h; conv => whnf
  replace h := obind.elim h; obtain ⟨f, hy, h⟩ := h
  refine sumK.introF [] (sumRun_of (aqs := [.pointer (some ⟨0, 0, none⟩), .int .i64 ida1]) (ws := [.blk 0 false, .blk 1 false]) (n := 0) (m := 0) (t' := 3) (ra_cons (ra_tr rfl rfl (vp_at rfl rfl rfl rfl (vp_at rfl rfl (rn_T cregistry_row_flat) rfl vp_nil)) rfl) rfl (ra_cons rfl rfl ra_nil)) rfl (by rfl) (r71_eq hy) rfl rfl rfl rfl (wb_skip rfl (wb_skip rfl wb_nil)) an_nil rfl) ?_
  conv => whnf
  refine br.h h ?_ ?_ ?_
  · rfl
  · clear h; intro hb h; conv => whnf
    all_goals (cases h)
    all_goals exact Res.of [1] rfl (nw_s (rn_T cregistry_row_flat) (hs_row rfl) nw_0) (by decide) (js_r rfl js_0) (wr_s (rfl) (hs_cells rfl) (wr_n wr_0))
  clear h; intro hb h; conv => whnf
  replace h := oreq.elim h; obtain ⟨hb, h⟩ := h
  first | (refine req.intro hb ?_; conv => whnf) | skip
  have hl := loop27_2 registry_Registry_find registry_Registry_find_nil registry_Registry_given registry_Registry_given_nil hS _ _ res _ _ _ h rfl; simp only [head27_2] at hl
  refine Leads.re hl [(0, 0), (1, 1), (2, 2)] rfl ?_ ?_ (hu := by repeat' first | exact trivial | refine ⟨⟨rfl, rfl, rfl, rfl, rfl, ?_, rfl, rfl⟩, ?_⟩ | refine ⟨⟨_, rfl, rfl⟩, ?_⟩) <;> (repeat' first | exact trivial | refine ⟨⟨_, rfl, rfl⟩, ?_⟩ | refine ⟨⟨_, _, rfl, rfl, .rowF (vI_flat _ _) id⟩, ?_⟩ | refine ⟨⟨_, _, rfl, rfl, .rowF (vS_flat _) id⟩, ?_⟩ | refine ⟨⟨_, _, rfl, rfl, .rowF (vB_flat _) id⟩, ?_⟩ | refine ⟨⟨_, _, rfl, rfl, .rowF (vT_flat (by first | exact chealth_Rule_flat | exact capi_Addr_flat | exact cR23_Step_flat | exact capi_Backend_flat | exact chealth_State_flat | exact cregistry_row_flat | exact cR23_Row_flat) _) id⟩, ?_⟩ | refine ⟨⟨_, _, rfl, rfl, .tyF (vI_flat _ _)⟩, ?_⟩ | refine ⟨⟨_, _, rfl, rfl, .ty rfl⟩, ?_⟩ | refine ⟨⟨_, _, rfl, rfl, .cells rfl⟩, ?_⟩ | refine ⟨⟨_, _, rfl, rfl, .row rfl id⟩, ?_⟩ | refine ⟨⟨_, _, rfl, rfl, .cr rfl⟩, ?_⟩ | refine ⟨⟨_, _, rfl, rfl, .rc rfl⟩, ?_⟩ | refine ⟨⟨_, _, rfl, rfl, .marks⟩, ?_⟩ | refine ⟨⟨_, _, rfl, rfl, .siter _ _⟩, ?_⟩ | refine ⟨⟨_, _, rfl, rfl, .loop rfl rfl rfl rfl (by repeat' first | exact trivial | refine ⟨rfl, ?_⟩) rfl rfl rfl rfl⟩, ?_⟩)
theorem ok27 (registry_Registry_find : registry_Registry → Int → Option (Int × Bool)) (registry_Registry_find_nil : Int → Option (Int × Bool)) (registry_Registry_given : registry_Registry → Option Bool) (registry_Registry_given_nil : Option Bool) (hS : SumsOK Try.prog (aget (sums27 registry_Registry_find registry_Registry_find_nil registry_Registry_given registry_Registry_given_nil))) (hS2 : SumsOK Try.prog (aget (sums27n registry_Registry_find registry_Registry_find_nil registry_Registry_given registry_Registry_given_nil))) : SumOK Try.prog 27 (s27 (registry_Registry_RemoveF registry_Registry_find registry_Registry_find_nil registry_Registry_given registry_Registry_given_nil) (registry_Registry_Remove_nilF registry_Registry_find registry_Registry_find_nil registry_Registry_given registry_Registry_given_nil)) := by
  refine SumOK.of_leads tab_ok (fun ar os r ha hr => ?_) ⟨Try.f27, rfl, by decide, rfl⟩
  have hp := pickN.elim hr; clear hr; rcases hp with hr | hr
  · skip
    replace hr : r27 (registry_Registry_RemoveF registry_Registry_find registry_Registry_find_nil registry_Registry_given registry_Registry_given_nil) ar (conts os) = some r := hr
    unfold r27 at hr
    generalize hc : conts os = C at hr
    have hq := dTr.elim hr; clear hr; obtain ⟨v0, l1, c0, C, y0, rfl, rfl, e0, hr⟩ := hq; obtain ⟨rfl, rfl⟩ := udregistry_Registry_eq e0; simp only [List.nil_append, List.cons_append] at hc
    replace hr := dV.elim hr; obtain ⟨v1, l2, y1, rfl, e1, hr⟩ := hr; obtain rfl := asI_eq _ _ _ e1
    replace hr := dFin hr; obtain ⟨rfl, rfl, x, h, rfl⟩ := hr
    obtain ⟨os, rfl, ha, hc⟩ := kinds_some ha hc
    obtain ⟨os, rfl, ha, hc⟩ := kinds_some ha hc
    obtain rfl := kinds_nil hc
    exact ⟨_, rfl, leads27 registry_Registry_find registry_Registry_find_nil registry_Registry_given registry_Registry_given_nil hS _ _ x h⟩
  · skip
    replace hr : r27n (registry_Registry_Remove_nilF registry_Registry_find registry_Registry_find_nil registry_Registry_given registry_Registry_given_nil) ar (conts os) = some r := hr
    unfold r27n at hr
    generalize hc : conts os = C at hr
    have hq := dNl.elim hr; clear hr; obtain ⟨l1, C, rfl, rfl, hr⟩ := hq; simp only [List.replicate, List.nil_append, List.cons_append] at hc
    replace hr := dV.elim hr; obtain ⟨v1, l2, y1, rfl, e1, hr⟩ := hr; obtain rfl := asI_eq _ _ _ e1
    replace hr := dFin hr; obtain ⟨rfl, rfl, x, h, rfl⟩ := hr
    obtain ⟨os, rfl, ha, hc⟩ := kinds_none ha hc
    obtain ⟨os, rfl, ha, hc⟩ := kinds_none ha hc
    obtain rfl := kinds_nil hc
    exact ⟨_, rfl, leads27n registry_Registry_find registry_Registry_find_nil registry_Registry_given registry_Registry_given_nil hS2 _ x h⟩
def registry_Registry_Remove : registry_Registry → Int → Option (Int × registry_Registry) := registry_Registry_RemoveF registry_Registry_find registry_Registry_find_nil registry_Registry_given registry_Registry_given_nil
def registry_Registry_Remove_nil : Int → Option Int := registry_Registry_Remove_nilF registry_Registry_find registry_Registry_find_nil registry_Registry_given registry_Registry_given_nil
theorem lift27 : SumOK Try.prog 27 (s27 registry_Registry_Remove registry_Registry_Remove_nil) := ok27 registry_Registry_find registry_Registry_find_nil registry_Registry_given registry_Registry_given_nil (SumsOK.of_tab ⟨lift71, lift70, trivial⟩) (SumsOK.of_tab ⟨lift71, lift70, trivial⟩)
def registry_Registry_List_nilF (registry_Registry_given : registry_Registry → Option Bool) (registry_Registry_given_nil : Option Bool) : Option (List api_Backend) :=
  (registry_Registry_given_nil).bind fun n =>
  cond (!n)
    (
    some ([]))
    (
    none)
def rx22n (x : List api_Backend) : SRes := ⟨.slice (some ⟨0, 0, none⟩) x.length 6, [(vT capi_Backend x)], [none, none]⟩
def r22n (g : Option (List api_Backend)) : Dec := dNl 2 <| dEnd (ofG (g) rx22n)
theorem r22n_c {g : Option (List api_Backend)} {x : List api_Backend} (hx : g = some x) : r22n g [.pointer none] [none, none] = some (rx22n x) := (dNl_2).trans (ofG_eq hx)
abbrev sums22n (registry_Registry_given : registry_Registry → Option Bool) (registry_Registry_given_nil : Option Bool) : List (Nat × Summ) := [(70, s70 registry_Registry_given registry_Registry_given_nil)]
theorem leads22n (registry_Registry_given : registry_Registry → Option Bool) (registry_Registry_given_nil : Option Bool) (hS : SumsOK Try.prog (aget (sums22n registry_Registry_given registry_Registry_given_nil))) (res : List api_Backend) (h : registry_Registry_List_nilF registry_Registry_given registry_Registry_given_nil = some res) :
    Leads Try.prog 22 2 ⟨⟨22, 25, [(0, .pointer none)], [.code k22_26], [], false, none⟩, [], [], 2⟩ (fun v H _ => Res 2 (rx22n res) v H) := by
  refine Leads.nilW (R := fun v' H' => Res 2 (rx22n res) v' H') ?_
  unfold registry_Registry_List_nilF at h
  refine ev_ok tab_ok hS true 3000 ?_
  conv => whnf
  replace h := obind.elim h; obtain ⟨n, hy, h⟩ := h
  refine sumK.introF [] (sumRun_of (aqs := [.pointer none]) (ws := [.no, .no]) (n := 0) (m := 0) (t' := 2) (ra_cons rfl rfl ra_nil) rfl (by rfl) (r70n_eq hy) rfl rfl rfl rfl (wb_skip rfl (wb_skip rfl wb_nil)) an_nil rfl) ?_
  conv => whnf
  refine br.h h ?_ ?_ ?_
  · rfl
  · clear h; intro hb h; conv => whnf
    all_goals (cases h)
    all_goals exact ⟨_, _, _, (.val (.nil _ _) (.refl _ _ _)), Res.of [2] rfl (nw_s (rn_T capi_Backend_flat) (hs_row rfl) nw_0) (by decide) (js_l (by decide) js_0) (wr_n (wr_n wr_0))⟩
  clear h; intro hb h; conv => whnf
  cases h
def registry_Registry_List_s1 (registry_row_told : registry_row → Option api_Backend) (ga0 : registry_Registry) (t14 : Int) (out1 : List api_Backend) : Option (Sum (Int × (List api_Backend)) (List api_Backend)) :=
  cond (decide (t14 < (ga0.rows.length : Int)))
    (
    oreq (decide ((0 : Int) ≤ t14 ∧ t14 < (ga0.rows.length : Int))) <|
    (ga0.rows[t14.toNat]?).bind fun (e : registry_row) =>
    (registry_row_told e).bind fun t =>
    oreq (decide ((out1.length + 1) * 48 ≤ 2 ^ 47)) <|
    let row := out1 ++ [t]
    some (.inl (wI .i64 (t14 + 1), row)))
    (
    some (.inr (out1)))
def registry_Registry_ListF (registry_Registry_given : registry_Registry → Option Bool) (registry_Registry_given_nil : Option Bool) (registry_row_told : registry_row → Option api_Backend) (ga0 : registry_Registry) : Option (List api_Backend) :=
  (registry_Registry_given ga0).bind fun xg =>
  cond (!xg)
    (
    some ([]))
    (
    iter (fun st => registry_Registry_List_s1 registry_row_told ga0 st.1 st.2) FUEL (0, []))
def rx22 (x : List api_Backend) : SRes := ⟨.slice (some ⟨0, 0, none⟩) x.length 6, [(vT capi_Backend x)], [none, none]⟩
def r22 (g : registry_Registry → Option (List api_Backend)) : Dec := dTr 2 (udregistry_Registry 0) fun (y0 : registry_Registry) => dEnd (ofG (g y0) rx22)
theorem r22_c {g : registry_Registry → Option (List api_Backend)} {y0 : registry_Registry} {x : List api_Backend} (hx : g y0 = some x) : r22 g [.pointer (some ⟨0, 0, none⟩)] [some [.int .i64 y0.rule.Rise, .int .i64 y0.rule.Fall, .slice (some ⟨1, 0, none⟩) y0.rows.length 9, .int .i64 y0.last, .int .i64 y0.version], some (vT cregistry_row y0.rows)] = some (rx22 x) := (dTr_eq rfl rfl (udregistry_Registry_c 0 _)).trans (ofG_eq hx)
def s22 (g : registry_Registry → Option (List api_Backend)) (g2 : Option (List api_Backend)) : Summ := ⟨[.tr [⟨none, 0, 0, 0, none⟩, ⟨some 0, 2, 0, 0, some 9⟩]], pickN 0 (r22 g) (r22n g2)⟩
theorem r22_eq {g : registry_Registry → Option (List api_Backend)} {g2 : Option (List api_Backend)} {y0 : registry_Registry} {x : List api_Backend} (hx : g y0 = some x) : (s22 g g2).run [.pointer (some ⟨0, 0, none⟩)] [some [.int .i64 y0.rule.Rise, .int .i64 y0.rule.Fall, .slice (some ⟨1, 0, none⟩) y0.rows.length 9, .int .i64 y0.last, .int .i64 y0.version], some (vT cregistry_row y0.rows)] = some (rx22 x) := r22_c hx
theorem r22n_eq {g2 : registry_Registry → Option (List api_Backend)} {g : Option (List api_Backend)} {x : List api_Backend} (hx : g = some x) : (s22 g2 g).run [.pointer none] [none, none] = some (rx22n x) := r22n_c hx
abbrev sums22 (registry_Registry_given : registry_Registry → Option Bool) (registry_Registry_given_nil : Option Bool) (registry_row_told : registry_row → Option api_Backend) : List (Nat × Summ) := [(70, s70 registry_Registry_given registry_Registry_given_nil), (72, s72 registry_row_told)]
def head22_1 (ga0 : registry_Registry) (t14 : Int) (out1 : List api_Backend) : VM :=
  ⟨⟨22, 25, [(3, .slice (some ⟨2, 0, none⟩) out1.length 6), (12, .slice (some ⟨1, 0, none⟩) ga0.rows.length 9), (13, .int .i64 (ga0.rows.length : Int)), (14, .int .i64 t14)], [.code k22_17, .inLoop k22_17, .inBlock 0, .code k22_22], [], false, none⟩, [], [(0, .row false [.int .i64 ga0.rule.Rise, .int .i64 ga0.rule.Fall, .slice (some ⟨1, 0, none⟩) ga0.rows.length 9, .int .i64 ga0.last, .int .i64 ga0.version]), (1, .row false (vT cregistry_row ga0.rows)), (2, .row true (vT capi_Backend out1))], 3⟩
theorem loop22_1 (registry_Registry_given : registry_Registry → Option Bool) (registry_Registry_given_nil : Option Bool) (registry_row_told : registry_row → Option api_Backend) (hS : SumsOK Try.prog (aget (sums22 registry_Registry_given registry_Registry_given_nil registry_row_told))) (ga0 : registry_Registry) (res : List api_Backend) : ∀ fuel (st : Int × (List api_Backend)) (o : List api_Backend), iter (fun st => registry_Registry_List_s1 registry_row_told ga0 st.1 st.2) fuel st = some o → (o = res) →
    Leads Try.prog 22 2 (head22_1 ga0 st.1 st.2) (fun v H t => ∃ v' H' t', NilW v H t v' H' t' ∧ Res 2 (rx22 res) v' H') := by
  intro fuel st o h hc
  refine iter_leads (head := fun st => head22_1 ga0 st.1 st.2) (C := fun o => (o = res)) ?_ fuel st o h hc
  clear h hc o st fuel
  intro st o h hc
  obtain ⟨t14, out1⟩ := st
  replace h : registry_Registry_List_s1 registry_row_told ga0 t14 out1 = some o := h
  show Leads Try.prog 22 2 (head22_1 ga0 t14 out1) (fun v H t => ∃ v' H' t', NilW v H t v' H' t' ∧ Res 2 (rx22 res) v' H')
  unfold registry_Registry_List_s1 at h
  refine ev_ok tab_ok hS true 3000 ?_
  conv => whnf
  refine br.h2 h ?_ ?_ ?_
  · rfl
  · clear h; intro hb h; conv => whnf
    all_goals (cases h; cases hc)
    all_goals exact ⟨_, _, _, (.refl _ _ _), Res.of [2] rfl (nw_s (rn_T capi_Backend_flat) (hs_row rfl) nw_0) (by decide) (js_l (by decide) js_0) (wr_n (wr_n wr_0))⟩
  clear h; intro hb h; conv => whnf
  replace h := oreq.elim h; obtain ⟨hb, h⟩ := h
  first | (refine req.intro hb ?_; conv => whnf) | skip
  replace h := obind.elim h; obtain ⟨e, hy, h⟩ := h
  refine ld_T cregistry_row_len hy (by first | omega | exact Nat.zero_add _ | exact congrArg (· + _) (Nat.zero_add _)) rfl ?_
  conv => whnf
  replace h := obind.elim h; obtain ⟨t, hy, h⟩ := h
  refine sumK.q rfl rfl (r72_eq hy) rfl rfl rfl ?_
  conv => whnf
  replace h := oreq.elim h; obtain ⟨hb, h⟩ := h
  refine req.intro (ap_req (of_decide_eq_true hb) (by first | rfl | omega | (simp; done) | (simp; omega) | (simp at *; omega)) rfl (by first | rfl | omega | (simp; done) | (simp; omega) | (simp at *; omega)) (by first | rfl | exact vI_one _ _ | exact vS_one _ | exact vB_one _ | exact vT_one (by first | exact chealth_Rule_one | exact capi_Addr_one | exact cR23_Step_one | exact capi_Backend_one | exact chealth_State_one | exact cregistry_row_one | exact cR23_Row_one) _ | (rw [ofBytes_vI]; exact vI_one _ _) | (simp [vI_one, vS_one, vB_one, vI_drop, vI_take, vS_drop, vS_take]; done) | (simp; exact List.all_eq_true.1 (vT_one (by first | exact chealth_Rule_one | exact capi_Addr_one | exact cR23_Step_one | exact capi_Backend_one | exact chealth_State_one | exact cregistry_row_one | exact cR23_Row_one) _))) rfl) ?_
  conv => whnf
  let row : List api_Backend := out1 ++ [t]
  refine pk_apT capi_Backend_len (xs := out1) (ys := [t]) rfl (by first | rfl | omega) (by first | rfl | omega | (simp; done) | (simp; omega) | (simp at *; omega)) (by first | rfl | omega | (simp; done) | (simp; omega) | (simp at *; omega)) ?_
  conv => whnf
  cases h; simp only [Sum.elim_inl, head22_1] at hc
  refine Leads.re hc [(0, 0), (1, 1), (2, 5)] rfl ?_ ?_ <;> (repeat' first | exact trivial | refine ⟨⟨_, rfl, rfl⟩, ?_⟩ | refine ⟨⟨_, _, rfl, rfl, .rowF (vI_flat _ _) id⟩, ?_⟩ | refine ⟨⟨_, _, rfl, rfl, .rowF (vS_flat _) id⟩, ?_⟩ | refine ⟨⟨_, _, rfl, rfl, .rowF (vB_flat _) id⟩, ?_⟩ | refine ⟨⟨_, _, rfl, rfl, .rowF (vT_flat (by first | exact chealth_Rule_flat | exact capi_Addr_flat | exact cR23_Step_flat | exact capi_Backend_flat | exact chealth_State_flat | exact cregistry_row_flat | exact cR23_Row_flat) _) id⟩, ?_⟩ | refine ⟨⟨_, _, rfl, rfl, .tyF (vI_flat _ _)⟩, ?_⟩ | refine ⟨⟨_, _, rfl, rfl, .ty rfl⟩, ?_⟩ | refine ⟨⟨_, _, rfl, rfl, .cells rfl⟩, ?_⟩ | refine ⟨⟨_, _, rfl, rfl, .row rfl id⟩, ?_⟩ | refine ⟨⟨_, _, rfl, rfl, .cr rfl⟩, ?_⟩ | refine ⟨⟨_, _, rfl, rfl, .rc rfl⟩, ?_⟩ | refine ⟨⟨_, _, rfl, rfl, .marks⟩, ?_⟩ | refine ⟨⟨_, _, rfl, rfl, .siter _ _⟩, ?_⟩ | refine ⟨⟨_, _, rfl, rfl, .loop rfl rfl rfl rfl (by repeat' first | exact trivial | refine ⟨rfl, ?_⟩) rfl rfl rfl rfl⟩, ?_⟩)
theorem leads22 (registry_Registry_given : registry_Registry → Option Bool) (registry_Registry_given_nil : Option Bool) (registry_row_told : registry_row → Option api_Backend) (hS : SumsOK Try.prog (aget (sums22 registry_Registry_given registry_Registry_given_nil registry_row_told))) (ga0 : registry_Registry) (res : List api_Backend) (h : registry_Registry_ListF registry_Registry_given registry_Registry_given_nil registry_row_told ga0 = some res) :
    Leads Try.prog 22 2 ⟨⟨22, 25, [(0, .pointer (some ⟨0, 0, none⟩))], [.code k22_26], [], false, none⟩, [], [(0, .row false [.int .i64 ga0.rule.Rise, .int .i64 ga0.rule.Fall, .slice (some ⟨1, 0, none⟩) ga0.rows.length 9, .int .i64 ga0.last, .int .i64 ga0.version]), (1, .row false (vT cregistry_row ga0.rows))], 2⟩ (fun v H _ => Res 2 (rx22 res) v H) := by
  refine Leads.nilW (R := fun v' H' => Res 2 (rx22 res) v' H') ?_
  unfold registry_Registry_ListF at h
  refine ev_ok tab_ok hS true 3000 ?_
  conv => whnf
  replace h := obind.elim h; obtain ⟨xg, hy, h⟩ := h
  refine sumK.introF [] (sumRun_of (aqs := [.pointer (some ⟨0, 0, none⟩)]) (ws := [.blk 0 false, .blk 1 false]) (n := 0) (m := 0) (t' := 2) (ra_cons (ra_tr rfl rfl (vp_at rfl rfl rfl rfl (vp_at rfl rfl (rn_T cregistry_row_flat) rfl vp_nil)) rfl) rfl ra_nil) rfl (by rfl) (r70_eq hy) rfl rfl rfl rfl (wb_skip rfl (wb_skip rfl wb_nil)) an_nil rfl) ?_
  conv => whnf
  refine br.h h ?_ ?_ ?_
  · rfl
  · clear h; intro hb h; conv => whnf
    all_goals (cases h)
    all_goals exact ⟨_, _, _, (.val (.nil _ _) (.refl _ _ _)), Res.of [2] rfl (nw_s (rn_T capi_Backend_flat) (hs_row rfl) nw_0) (by decide) (js_l (by decide) js_0) (wr_n (wr_n wr_0))⟩
  clear h; intro hb h; conv => whnf
  have hl := loop22_1 registry_Registry_given registry_Registry_given_nil registry_row_told hS _ res _ _ _ h rfl; simp only [head22_1] at hl
  refine Leads.nilT 3 6 ?_
  refine Leads.re hl [(0, 0), (1, 1), (2, 2)] rfl ?_ ?_ <;> (repeat' first | exact trivial | refine ⟨⟨_, rfl, rfl⟩, ?_⟩ | refine ⟨⟨_, _, rfl, rfl, .rowF (vI_flat _ _) id⟩, ?_⟩ | refine ⟨⟨_, _, rfl, rfl, .rowF (vS_flat _) id⟩, ?_⟩ | refine ⟨⟨_, _, rfl, rfl, .rowF (vB_flat _) id⟩, ?_⟩ | refine ⟨⟨_, _, rfl, rfl, .rowF (vT_flat (by first | exact chealth_Rule_flat | exact capi_Addr_flat | exact cR23_Step_flat | exact capi_Backend_flat | exact chealth_State_flat | exact cregistry_row_flat | exact cR23_Row_flat) _) id⟩, ?_⟩ | refine ⟨⟨_, _, rfl, rfl, .tyF (vI_flat _ _)⟩, ?_⟩ | refine ⟨⟨_, _, rfl, rfl, .ty rfl⟩, ?_⟩ | refine ⟨⟨_, _, rfl, rfl, .cells rfl⟩, ?_⟩ | refine ⟨⟨_, _, rfl, rfl, .row rfl id⟩, ?_⟩ | refine ⟨⟨_, _, rfl, rfl, .cr rfl⟩, ?_⟩ | refine ⟨⟨_, _, rfl, rfl, .rc rfl⟩, ?_⟩ | refine ⟨⟨_, _, rfl, rfl, .marks⟩, ?_⟩ | refine ⟨⟨_, _, rfl, rfl, .siter _ _⟩, ?_⟩ | refine ⟨⟨_, _, rfl, rfl, .loop rfl rfl rfl rfl (by repeat' first | exact trivial | refine ⟨rfl, ?_⟩) rfl rfl rfl rfl⟩, ?_⟩)
theorem ok22 (registry_Registry_given : registry_Registry → Option Bool) (registry_Registry_given_nil : Option Bool) (registry_row_told : registry_row → Option api_Backend) (hS : SumsOK Try.prog (aget (sums22 registry_Registry_given registry_Registry_given_nil registry_row_told))) (hS2 : SumsOK Try.prog (aget (sums22n registry_Registry_given registry_Registry_given_nil))) : SumOK Try.prog 22 (s22 (registry_Registry_ListF registry_Registry_given registry_Registry_given_nil registry_row_told) (registry_Registry_List_nilF registry_Registry_given registry_Registry_given_nil)) := by
  refine SumOK.of_leads tab_ok (fun ar os r ha hr => ?_) ⟨Try.f22, rfl, by decide, rfl⟩
  have hp := pickN.elim hr; clear hr; rcases hp with hr | hr
  · skip
    replace hr : r22 (registry_Registry_ListF registry_Registry_given registry_Registry_given_nil registry_row_told) ar (conts os) = some r := hr
    unfold r22 at hr
    generalize hc : conts os = C at hr
    have hq := dTr.elim hr; clear hr; obtain ⟨v0, l1, c0, C, y0, rfl, rfl, e0, hr⟩ := hq; obtain ⟨rfl, rfl⟩ := udregistry_Registry_eq e0; simp only [List.nil_append, List.cons_append] at hc
    replace hr := dFin hr; obtain ⟨rfl, rfl, x, h, rfl⟩ := hr
    obtain ⟨os, rfl, ha, hc⟩ := kinds_some ha hc
    obtain ⟨os, rfl, ha, hc⟩ := kinds_some ha hc
    obtain rfl := kinds_nil hc
    exact ⟨_, rfl, leads22 registry_Registry_given registry_Registry_given_nil registry_row_told hS _ x h⟩
  · skip
    replace hr : r22n (registry_Registry_List_nilF registry_Registry_given registry_Registry_given_nil) ar (conts os) = some r := hr
    unfold r22n at hr
    generalize hc : conts os = C at hr
    have hq := dNl.elim hr; clear hr; obtain ⟨l1, C, rfl, rfl, hr⟩ := hq; simp only [List.replicate, List.nil_append, List.cons_append] at hc
    replace hr := dFin hr; obtain ⟨rfl, rfl, x, h, rfl⟩ := hr
    obtain ⟨os, rfl, ha, hc⟩ := kinds_none ha hc
    obtain ⟨os, rfl, ha, hc⟩ := kinds_none ha hc
    obtain rfl := kinds_nil hc
    exact ⟨_, rfl, leads22n registry_Registry_given registry_Registry_given_nil hS2 x h⟩
def registry_Registry_List : registry_Registry → Option (List api_Backend) := registry_Registry_ListF registry_Registry_given registry_Registry_given_nil registry_row_told
def registry_Registry_List_nil : Option (List api_Backend) := registry_Registry_List_nilF registry_Registry_given registry_Registry_given_nil
theorem lift22 : SumOK Try.prog 22 (s22 registry_Registry_List registry_Registry_List_nil) := ok22 registry_Registry_given registry_Registry_given_nil registry_row_told (SumsOK.of_tab ⟨lift70, lift72, trivial⟩) (SumsOK.of_tab ⟨lift70, trivial⟩)
end Go.Vm.Code
