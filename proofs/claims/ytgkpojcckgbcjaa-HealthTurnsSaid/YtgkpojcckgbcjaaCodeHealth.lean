import Derived.Test.YtgkpojcckgbcjaaVmLib
import Derived.Test.YtgkpojcckgbcjaaProg
import Derived.KernelRfl
namespace Go.Vm.Code
open Go Go.Vm Go.Proofs
/- 4: cloakroom/cloakroomlaw21.HealthTells -/
def k4_0 : VC := .reg [⟨(some 3), .box (.tmp 0), none⟩,
    ⟨(some 4), .box (.tmp 1), none⟩,
    ⟨(some 6), .mv (.const (.bool false)), none⟩]
def k4_1 : VC := .reg [⟨(some 18), .mv (.tmp 2), none⟩,
    ⟨(some 19), .lenL (.tmp 18), none⟩,
    ⟨(some 20), .bin .gtr (.tmp 19) (.const (.int .i64 40)), none⟩]
def k4_2 : VC := .reg [⟨(some 21), .callF 18 [], none⟩,
    ⟨(some 6), .mv (.tmp 21), none⟩]
def k4_3 : VC := .seq k4_2 .ret
def k4_4 : VC := .cond (.tmp 20) k4_3 .skip
def k4_5 : VC := .seq k4_1 k4_4
def k4_6 : VC := .reg [⟨(some 23), .loadN [(.int .i64), (.int .i64)] (.tmp 3), none⟩,
    ⟨(some 24), .loadN [.bool, (.int .i64)] (.tmp 4), none⟩,
    ⟨(some 25), .callF 19 [(.tmp 23), (.tmp 24)], none⟩,
    ⟨(some 22), .mv (.tmp 25), none⟩,
    ⟨(some 26), .extract 0 (.tmp 22), none⟩,
    ⟨(some 27), .extract 1 (.tmp 22), none⟩,
    ⟨(some 7), .alloc [(.int .i64 0), (.int .i64 0)], none⟩,
    ⟨(some 8), .alloc [(.bool false), (.int .i64 0)], none⟩,
    ⟨none, .store 2 (.tmp 7) (.tmp 26), none⟩,
    ⟨none, .store 2 (.tmp 8) (.tmp 27), none⟩]
def k4_7 : VC := .reg [⟨(some 29), .loadN [(.int .i64), (.int .i64)] (.tmp 7), none⟩,
    ⟨(some 30), .loadN [.bool, (.int .i64)] (.tmp 8), none⟩,
    ⟨(some 31), .mv (.tmp 2), none⟩,
    ⟨(some 32), .callF 20 [(.tmp 29), (.tmp 30), (.tmp 31)], none⟩,
    ⟨(some 28), .mv (.tmp 32), none⟩,
    ⟨(some 33), .extract 0 (.tmp 28), none⟩,
    ⟨(some 34), .extract 1 (.tmp 28), none⟩,
    ⟨(some 9), .alloc [(.bool false), (.int .i64 0)], none⟩,
    ⟨none, .store 2 (.tmp 9) (.tmp 33), none⟩,
    ⟨(some 10), .mv (.tmp 34), none⟩]
def k4_8 : VC := .reg [⟨(some 36), .loadN [(.int .i64), (.int .i64)] (.tmp 3), none⟩,
    ⟨(some 37), .loadN [.bool, (.int .i64)] (.tmp 4), none⟩,
    ⟨(some 38), .mv (.tmp 2), none⟩,
    ⟨(some 39), .callF 21 [(.tmp 36), (.tmp 37), (.tmp 38)], none⟩,
    ⟨(some 35), .mv (.tmp 39), none⟩,
    ⟨(some 40), .extract 0 (.tmp 35), none⟩,
    ⟨(some 41), .extract 1 (.tmp 35), none⟩,
    ⟨(some 11), .alloc [(.bool false), (.int .i64 0)], none⟩,
    ⟨none, .store 2 (.tmp 11) (.tmp 40), none⟩,
    ⟨(some 12), .mv (.tmp 41), none⟩]
def k4_9 : VC := .regD [⟨(some 42), .loadN [(.int .i64), (.int .i64)] (.tmp 7), none⟩,
    ⟨(some 43), .callF 22 [(.tmp 42)], none⟩,
    ⟨(some 44), .loadN [(.int .i64), (.int .i64)] (.tmp 3), none⟩,
    ⟨(some 45), .callF 23 [(.tmp 44)], none⟩,
    ⟨(some 46), .eqB true (.tmp 43) (.tmp 45), none⟩,
    ⟨(some 47), .mv (.tmp 46), none⟩,
    ⟨(some 48), .loadN [(.int .i64), (.int .i64)] (.tmp 7), (some (47, false))⟩,
    ⟨(some 49), .loadN [.bool, (.int .i64)] (.tmp 8), (some (47, false))⟩,
    ⟨(some 50), .callF 24 [(.tmp 48), (.tmp 49)], (some (47, false))⟩,
    ⟨(some 51), .loadN [(.int .i64), (.int .i64)] (.tmp 3), (some (47, false))⟩,
    ⟨(some 52), .loadN [.bool, (.int .i64)] (.tmp 4), (some (47, false))⟩,
    ⟨(some 53), .callF 25 [(.tmp 51), (.tmp 52)], (some (47, false))⟩,
    ⟨(some 54), .bin .neq (.tmp 50) (.tmp 53), (some (47, false))⟩,
    ⟨(some 55), .pick (.tmp 47) (.const (.bool true)) (.tmp 54), none⟩,
    ⟨(some 56), .mv (.tmp 55), none⟩,
    ⟨(some 57), .fieldA 0 (.tmp 9), (some (56, false))⟩,
    ⟨(some 58), .load1 .bool (.tmp 57), (some (56, false))⟩,
    ⟨(some 59), .fieldA 0 (.tmp 11), (some (56, false))⟩,
    ⟨(some 60), .load1 .bool (.tmp 59), (some (56, false))⟩,
    ⟨(some 61), .eqB true (.tmp 58) (.tmp 60), (some (56, false))⟩,
    ⟨(some 62), .pick (.tmp 56) (.const (.bool true)) (.tmp 61), none⟩,
    ⟨(some 63), .mv (.tmp 62), none⟩,
    ⟨(some 64), .fieldA 1 (.tmp 9), (some (63, false))⟩,
    ⟨(some 65), .load1 (.int .i64) (.tmp 64), (some (63, false))⟩,
    ⟨(some 66), .fieldA 1 (.tmp 11), (some (63, false))⟩,
    ⟨(some 67), .load1 (.int .i64) (.tmp 66), (some (63, false))⟩,
    ⟨(some 68), .bin .neq (.tmp 65) (.tmp 67), (some (63, false))⟩,
    ⟨(some 69), .pick (.tmp 63) (.const (.bool true)) (.tmp 68), none⟩,
    ⟨(some 70), .mv (.tmp 69), none⟩,
    ⟨(some 71), .mv (.tmp 10), (some (70, false))⟩,
    ⟨(some 72), .mv (.tmp 12), (some (70, false))⟩,
    ⟨(some 73), .bin .neq (.tmp 71) (.tmp 72), (some (70, false))⟩,
    ⟨(some 74), .pick (.tmp 70) (.const (.bool true)) (.tmp 73), none⟩] [(1, 2), (8, 9), (8, 10)]
def k4_10 : VC := .reg [⟨(some 6), .mv (.const (.bool false)), none⟩]
def k4_11 : VC := .seq k4_10 .ret
def k4_12 : VC := .cond (.tmp 74) k4_11 .skip
def k4_13 : VC := .seq k4_9 k4_12
def k4_14 : VC := .reg [⟨(some 13), .mv (.const (.int .i64 0)), none⟩]
def k4_15 : VC := .reg [⟨(some 75), .mv (.tmp 13), none⟩,
    ⟨(some 76), .mv (.tmp 2), none⟩,
    ⟨(some 77), .lenL (.tmp 76), none⟩,
    ⟨(some 78), .bin .lss (.tmp 75) (.tmp 77), none⟩]
def k4_16 : VC := .cond (.tmp 78) .skip (.exit 0)
def k4_17 : VC := .seq k4_15 k4_16
def k4_18 : VC := .regD [⟨(some 82), .loadN [(.int .i64), (.int .i64)] (.tmp 7), none⟩,
    ⟨(some 83), .loadN [.bool, (.int .i64)] (.tmp 8), none⟩,
    ⟨(some 84), .mv (.tmp 2), none⟩,
    ⟨(some 85), .mv (.tmp 13), none⟩,
    ⟨(some 86), .idxAL 1 (.tmp 84) (.tmp 85), none⟩,
    ⟨(some 87), .load1 .bool (.tmp 86), none⟩,
    ⟨(some 88), .callF 26 [(.tmp 82), (.tmp 83), (.tmp 87)], none⟩,
    ⟨(some 81), .mv (.tmp 88), none⟩,
    ⟨(some 89), .extract 0 (.tmp 81), none⟩,
    ⟨(some 90), .extract 1 (.tmp 81), none⟩,
    ⟨(some 14), .alloc [(.bool false), (.int .i64 0)], none⟩,
    ⟨none, .store 2 (.tmp 14) (.tmp 89), none⟩,
    ⟨(some 15), .mv (.tmp 90), none⟩] [(0, 10), (1, 10), (5, 10), (6, 10)]
def k4_19 : VC := .regD [⟨(some 92), .loadN [(.int .i64), (.int .i64)] (.tmp 3), none⟩,
    ⟨(some 93), .loadN [.bool, (.int .i64)] (.tmp 4), none⟩,
    ⟨(some 94), .mv (.tmp 2), none⟩,
    ⟨(some 95), .mv (.tmp 13), none⟩,
    ⟨(some 96), .idxAL 1 (.tmp 94) (.tmp 95), none⟩,
    ⟨(some 97), .load1 .bool (.tmp 96), none⟩,
    ⟨(some 98), .callF 27 [(.tmp 92), (.tmp 93), (.tmp 97)], none⟩,
    ⟨(some 91), .mv (.tmp 98), none⟩,
    ⟨(some 99), .extract 0 (.tmp 91), none⟩,
    ⟨(some 100), .extract 1 (.tmp 91), none⟩,
    ⟨(some 16), .alloc [(.bool false), (.int .i64 0)], none⟩,
    ⟨none, .store 2 (.tmp 16) (.tmp 99), none⟩,
    ⟨(some 17), .mv (.tmp 100), none⟩] [(0, 10), (1, 10), (5, 10), (6, 10)]
def k4_20 : VC := .reg [⟨(some 101), .fieldA 0 (.tmp 14), none⟩,
    ⟨(some 102), .load1 .bool (.tmp 101), none⟩,
    ⟨(some 103), .fieldA 0 (.tmp 16), none⟩,
    ⟨(some 104), .load1 .bool (.tmp 103), none⟩,
    ⟨(some 105), .eqB true (.tmp 102) (.tmp 104), none⟩,
    ⟨(some 106), .mv (.tmp 105), none⟩,
    ⟨(some 107), .fieldA 1 (.tmp 14), (some (106, false))⟩,
    ⟨(some 108), .load1 (.int .i64) (.tmp 107), (some (106, false))⟩,
    ⟨(some 109), .fieldA 1 (.tmp 16), (some (106, false))⟩,
    ⟨(some 110), .load1 (.int .i64) (.tmp 109), (some (106, false))⟩,
    ⟨(some 111), .bin .neq (.tmp 108) (.tmp 110), (some (106, false))⟩,
    ⟨(some 112), .pick (.tmp 106) (.const (.bool true)) (.tmp 111), none⟩,
    ⟨(some 113), .mv (.tmp 112), none⟩,
    ⟨(some 114), .mv (.tmp 15), (some (113, false))⟩,
    ⟨(some 115), .mv (.tmp 17), (some (113, false))⟩,
    ⟨(some 116), .eqB true (.tmp 114) (.tmp 115), (some (113, false))⟩,
    ⟨(some 117), .pick (.tmp 113) (.const (.bool true)) (.tmp 116), none⟩]
def k4_21 : VC := .reg [⟨(some 6), .mv (.const (.bool false)), none⟩]
def k4_22 : VC := .seq k4_21 .ret
def k4_23 : VC := .cond (.tmp 117) k4_22 .skip
def k4_24 : VC := .seq k4_20 k4_23
def k4_25 : VC := .seq k4_19 k4_24
def k4_26 : VC := .seq k4_18 k4_25
def k4_27 : VC := .block 1 k4_26
def k4_28 : VC := .reg [⟨(some 79), .mv (.tmp 13), none⟩,
    ⟨(some 80), .bin .add (.tmp 79) (.const (.int .i64 1)), none⟩,
    ⟨(some 13), .mv (.tmp 80), none⟩]
def k4_29 : VC := .seq k4_27 k4_28
def k4_30 : VC := .seq k4_17 k4_29
def k4_31 : VC := .loop k4_30
def k4_32 : VC := .block 0 k4_31
def k4_33 : VC := .seq k4_14 k4_32
def k4_34 : VC := .reg [⟨(some 118), .callF 18 [], none⟩,
    ⟨(some 6), .mv (.tmp 118), none⟩]
def k4_35 : VC := .seq k4_34 .ret
def k4_36 : VC := .seq k4_33 k4_35
def k4_37 : VC := .seq k4_13 k4_36
def k4_38 : VC := .seq k4_8 k4_37
def k4_39 : VC := .seq k4_7 k4_38
def k4_40 : VC := .seq k4_6 k4_39
def k4_41 : VC := .seq k4_5 k4_40
def k4_42 : VC := .seq k4_0 k4_41
def fn4 : VFn := ⟨119, k4_42, [.tmp 6]⟩
/- 18: cloakroom/cloakroomlaw21.awake -/
def k18_0 : VC := .reg [⟨(some 0), .mv (.const (.bool false)), none⟩]
def k18_1 : VC := .reg [⟨(some 4), .build [(.int .i64 0), (.int .i64 0)] [(0, 1, (.const (.int .i64 2))), (1, 1, (.const (.int .i64 3)))], none⟩,
    ⟨(some 5), .build [(.bool false), (.int .i64 0)] [], none⟩,
    ⟨(some 6), .buildSl 2 1 [(.bool false), (.bool false)] [(0, 1, (.const (.bool true))), (1, 1, (.const (.bool true)))], none⟩,
    ⟨(some 7), .callF 20 [(.tmp 4), (.tmp 5), (.tmp 6)], none⟩,
    ⟨(some 3), .mv (.tmp 7), none⟩,
    ⟨(some 8), .extract 0 (.tmp 3), none⟩,
    ⟨(some 9), .extract 1 (.tmp 3), none⟩,
    ⟨(some 1), .alloc [(.bool false), (.int .i64 0)], none⟩,
    ⟨none, .store 2 (.tmp 1) (.tmp 8), none⟩,
    ⟨(some 2), .mv (.tmp 9), none⟩]
def k18_2 : VC := .reg [⟨(some 10), .fieldA 0 (.tmp 1), none⟩,
    ⟨(some 11), .load1 .bool (.tmp 10), none⟩,
    ⟨(some 12), .mv (.tmp 11), none⟩,
    ⟨(some 13), .mv (.tmp 2), (some (12, true))⟩,
    ⟨(some 14), .bin .eql (.tmp 13) (.const (.int .i64 1)), (some (12, true))⟩,
    ⟨(some 15), .pick (.tmp 12) (.tmp 14) (.const (.bool false)), none⟩,
    ⟨(some 16), .mv (.tmp 15), none⟩,
    ⟨(some 17), .build [(.int .i64 0), (.int .i64 0)] [(0, 1, (.const (.int .i64 2))), (1, 1, (.const (.int .i64 3)))], (some (16, true))⟩,
    ⟨(some 18), .loadN [.bool, (.int .i64)] (.tmp 1), (some (16, true))⟩,
    ⟨(some 19), .callF 24 [(.tmp 17), (.tmp 18)], (some (16, true))⟩,
    ⟨(some 20), .bin .eql (.tmp 19) (.const (.int .i64 3)), (some (16, true))⟩,
    ⟨(some 21), .pick (.tmp 16) (.tmp 20) (.const (.bool false)), none⟩,
    ⟨(some 22), .mv (.tmp 21), none⟩,
    ⟨(some 23), .build [(.int .i64 0), (.int .i64 0)] [], (some (22, true))⟩,
    ⟨(some 24), .callF 22 [(.tmp 23)], (some (22, true))⟩,
    ⟨(some 25), .not (.tmp 24), (some (22, true))⟩,
    ⟨(some 26), .pick (.tmp 22) (.tmp 25) (.const (.bool false)), none⟩,
    ⟨(some 0), .mv (.tmp 26), none⟩]
def k18_3 : VC := .seq k18_2 .ret
def k18_4 : VC := .seq k18_1 k18_3
def k18_5 : VC := .seq k18_0 k18_4
def fn18 : VFn := ⟨27, k18_5, [.tmp 0]⟩
/- 20: cloakroom/health.Run -/
def k20_0 : VC := .reg [⟨(some 3), .box (.tmp 0), none⟩,
    ⟨(some 4), .box (.tmp 1), none⟩,
    ⟨(some 6), .alloc [(.bool false), (.int .i64 0)], none⟩,
    ⟨(some 7), .mv (.const (.int .i64 0)), none⟩]
def k20_1 : VC := .reg [⟨(some 12), .loadN [(.int .i64), (.int .i64)] (.tmp 3), none⟩,
    ⟨(some 13), .callF 59 [(.tmp 12), (.tmp 4)], none⟩,
    ⟨(some 8), .mv (.tmp 13), none⟩,
    ⟨(some 9), .mv (.const (.int .i64 0)), none⟩]
def k20_2 : VC := .reg [⟨(some 14), .mv (.tmp 2), none⟩,
    ⟨(some 15), .lenL (.tmp 14), none⟩,
    ⟨(some 16), .mv (.const (.int .i64 0)), none⟩]
def k20_3 : VC := .reg [⟨(some 17), .bin .lss (.tmp 16) (.tmp 15), none⟩]
def k20_4 : VC := .cond (.tmp 17) .skip (.exit 0)
def k20_5 : VC := .reg [⟨(some 18), .idxAL 1 (.tmp 14) (.tmp 16), none⟩,
    ⟨(some 19), .load1 .bool (.tmp 18), none⟩,
    ⟨(some 11), .mv (.tmp 19), none⟩]
def k20_6 : VC := .reg [⟨(some 20), .mv (.tmp 8), none⟩,
    ⟨(some 21), .mv (.tmp 11), none⟩,
    ⟨(some 22), .callV (.tmp 20) [(.tmp 21)], none⟩]
def k20_7 : VC := .reg [⟨(some 23), .mv (.tmp 9), none⟩,
    ⟨(some 24), .bin .add (.tmp 23) (.const (.int .i64 1)), none⟩,
    ⟨(some 9), .mv (.tmp 24), none⟩]
def k20_8 : VC := .cond (.tmp 22) k20_7 .skip
def k20_9 : VC := .seq k20_6 k20_8
def k20_10 : VC := .seq k20_5 k20_9
def k20_11 : VC := .block 1 k20_10
def k20_12 : VC := .reg [⟨(some 25), .bin .add (.tmp 16) (.const (.int .i64 1)), none⟩,
    ⟨(some 16), .mv (.tmp 25), none⟩]
def k20_13 : VC := .seq k20_11 k20_12
def k20_14 : VC := .seq k20_4 k20_13
def k20_15 : VC := .seq k20_3 k20_14
def k20_16 : VC := .loop k20_15
def k20_17 : VC := .block 0 k20_16
def k20_18 : VC := .seq k20_2 k20_17
def k20_19 : VC := .reg [⟨(some 26), .loadN [.bool, (.int .i64)] (.tmp 4), none⟩,
    ⟨(some 27), .mv (.tmp 9), none⟩,
    ⟨none, .store 2 (.tmp 6) (.tmp 26), none⟩,
    ⟨(some 7), .mv (.tmp 27), none⟩]
def k20_20 : VC := .seq k20_19 .ret
def k20_21 : VC := .seq k20_18 k20_20
def k20_22 : VC := .seq k20_1 k20_21
def k20_23 : VC := .seq k20_0 k20_22
def fn20 : VFn := ⟨28, k20_23, [.cell 6 [.bool, (.int .i64)] true, .tmp 7]⟩
/- 59: cloakroom/health.teller -/
def k59_0 : VC := .reg [⟨(some 2), .box (.tmp 0), none⟩,
    ⟨(some 3), .box (.tmp 1), none⟩,
    ⟨(some 4), .mv (.const .nilFunc), none⟩]
def k59_1 : VC := .reg [⟨(some 5), .mkFunc 91 [] [(.tmp 2), (.tmp 3)], none⟩,
    ⟨(some 4), .mv (.tmp 5), none⟩]
def k59_2 : VC := .seq k59_1 .ret
def k59_3 : VC := .seq k59_0 k59_2
def fn59 : VFn := ⟨6, k59_3, [.tmp 4]⟩
/- 91: cloakroom/health.teller$1 -/
def k91_0 : VC := .reg [⟨(some 4), .mv (.const (.bool false)), none⟩]
def k91_1 : VC := .regD [⟨(some 8), .loadN [(.int .i64), (.int .i64)] (.tmp 1), none⟩,
    ⟨(some 9), .load1 .oth (.tmp 2), none⟩,
    ⟨(some 10), .nilCheck (.tmp 9), none⟩,
    ⟨(some 11), .loadN [.bool, (.int .i64)] (.tmp 10), none⟩,
    ⟨(some 12), .mv (.tmp 0), none⟩,
    ⟨(some 13), .callF 26 [(.tmp 8), (.tmp 11), (.tmp 12)], none⟩,
    ⟨(some 7), .mv (.tmp 13), none⟩,
    ⟨(some 14), .extract 0 (.tmp 7), none⟩,
    ⟨(some 15), .extract 1 (.tmp 7), none⟩,
    ⟨(some 5), .alloc [(.bool false), (.int .i64 0)], none⟩,
    ⟨none, .store 2 (.tmp 5) (.tmp 14), none⟩,
    ⟨(some 6), .mv (.tmp 15), none⟩] [(0, 9), (1, 9), (3, 9), (5, 9)]
def k91_2 : VC := .reg [⟨(some 16), .load1 .oth (.tmp 2), none⟩,
    ⟨(some 17), .loadN [.bool, (.int .i64)] (.tmp 5), none⟩,
    ⟨(some 18), .nilCheck (.tmp 16), none⟩,
    ⟨none, .store 2 (.tmp 18) (.tmp 17), none⟩]
def k91_3 : VC := .reg [⟨(some 19), .mv (.tmp 6), none⟩,
    ⟨(some 4), .mv (.tmp 19), none⟩]
def k91_4 : VC := .seq k91_3 .ret
def k91_5 : VC := .seq k91_2 k91_4
def k91_6 : VC := .seq k91_1 k91_5
def k91_7 : VC := .seq k91_0 k91_6
def fn91 : VFn := ⟨20, k91_7, [.tmp 4]⟩
/- 26: cloakroom/health.Put -/
def k26_0 : VC := .reg [⟨(some 3), .box (.tmp 0), none⟩,
    ⟨(some 4), .box (.tmp 1), none⟩,
    ⟨(some 6), .alloc [(.bool false), (.int .i64 0)], none⟩,
    ⟨(some 7), .mv (.const (.bool false)), none⟩]
def k26_1 : VC := .reg [⟨(some 8), .loadN [(.int .i64), (.int .i64)] (.tmp 3), none⟩,
    ⟨(some 9), .loadN [.bool, (.int .i64)] (.tmp 4), none⟩,
    ⟨(some 10), .callF 24 [(.tmp 8), (.tmp 9)], none⟩]
def k26_2 : VC := .reg [⟨(some 12), .bin .eql (.tmp 10) (.const (.int .i64 0)), none⟩,
    ⟨(some 11), .mv (.tmp 12), none⟩]
def k26_3 : VC := .reg [⟨(some 13), .loadN [.bool, (.int .i64)] (.tmp 4), none⟩,
    ⟨none, .store 2 (.tmp 6) (.tmp 13), none⟩,
    ⟨(some 7), .mv (.const (.bool false)), none⟩]
def k26_4 : VC := .seq k26_3 .ret
def k26_5 : VC := .reg [⟨(some 15), .bin .eql (.tmp 10) (.const (.int .i64 1)), none⟩,
    ⟨(some 14), .mv (.tmp 15), none⟩]
def k26_6 : VC := .regD [⟨(some 16), .mv (.tmp 2), none⟩,
    ⟨(some 17), .build [(.bool false), (.int .i64 0)] [(0, 1, (.tmp 16))], none⟩,
    ⟨(some 18), .mv (.tmp 2), none⟩,
    ⟨(some 19), .fieldA 0 (.tmp 4), none⟩,
    ⟨(some 20), .load1 .bool (.tmp 19), none⟩,
    ⟨(some 21), .eqB true (.tmp 18) (.tmp 20), none⟩,
    ⟨none, .store 2 (.tmp 6) (.tmp 17), none⟩,
    ⟨(some 7), .mv (.tmp 21), none⟩] [(4, 6)]
def k26_7 : VC := .seq k26_6 .ret
def k26_8 : VC := .cond (.tmp 14) k26_7 .skip
def k26_9 : VC := .seq k26_5 k26_8
def k26_10 : VC := .cond (.tmp 11) k26_4 k26_9
def k26_11 : VC := .seq k26_2 k26_10
def k26_12 : VC := .block 0 k26_11
def k26_13 : VC := .seq k26_1 k26_12
def k26_14 : VC := .reg [⟨(some 22), .mv (.tmp 2), none⟩,
    ⟨(some 23), .fieldA 0 (.tmp 4), none⟩,
    ⟨(some 24), .load1 .bool (.tmp 23), none⟩,
    ⟨(some 25), .eqB false (.tmp 22) (.tmp 24), none⟩]
def k26_15 : VC := .reg [⟨(some 26), .fieldA 1 (.tmp 4), none⟩,
    ⟨none, .store 1 (.tmp 26) (.const (.int .i64 0)), none⟩]
def k26_16 : VC := .reg [⟨(some 27), .fieldA 1 (.tmp 4), none⟩,
    ⟨(some 28), .load1 (.int .i64) (.tmp 27), none⟩,
    ⟨(some 29), .bin .add (.tmp 28) (.const (.int .i64 1)), none⟩,
    ⟨(some 30), .fieldA 1 (.tmp 4), none⟩,
    ⟨none, .store 1 (.tmp 30) (.tmp 29), none⟩]
def k26_17 : VC := .cond (.tmp 25) k26_15 k26_16
def k26_18 : VC := .seq k26_14 k26_17
def k26_19 : VC := .reg [⟨(some 31), .loadN [.bool, (.int .i64)] (.tmp 4), none⟩,
    ⟨none, .store 2 (.tmp 6) (.tmp 31), none⟩,
    ⟨(some 7), .mv (.const (.bool false)), none⟩]
def k26_20 : VC := .seq k26_19 .ret
def k26_21 : VC := .seq k26_18 k26_20
def k26_22 : VC := .seq k26_13 k26_21
def k26_23 : VC := .seq k26_0 k26_22
def fn26 : VFn := ⟨32, k26_23, [.cell 6 [.bool, (.int .i64)] true, .tmp 7]⟩
/- 24: cloakroom/health.Need -/
def k24_0 : VC := .reg [⟨(some 2), .box (.tmp 0), none⟩,
    ⟨(some 3), .box (.tmp 1), none⟩,
    ⟨(some 4), .mv (.const (.int .i64 0)), none⟩]
def k24_1 : VC := .reg [⟨(some 6), .loadN [(.int .i64), (.int .i64)] (.tmp 2), none⟩,
    ⟨(some 7), .callF 22 [(.tmp 6)], none⟩,
    ⟨(some 8), .not (.tmp 7), none⟩,
    ⟨(some 9), .mv (.tmp 8), none⟩,
    ⟨(some 10), .fieldA 1 (.tmp 3), (some (9, false))⟩,
    ⟨(some 11), .load1 (.int .i64) (.tmp 10), (some (9, false))⟩,
    ⟨(some 12), .callF 60 [(.tmp 11), (.const (.int .i64 0)), (.const (.int .i64 1048576))], (some (9, false))⟩,
    ⟨(some 13), .not (.tmp 12), (some (9, false))⟩,
    ⟨(some 14), .pick (.tmp 9) (.const (.bool true)) (.tmp 13), none⟩,
    ⟨(some 5), .mv (.tmp 14), none⟩]
def k24_2 : VC := .reg [⟨(some 4), .mv (.const (.int .i64 0)), none⟩]
def k24_3 : VC := .seq k24_2 .ret
def k24_4 : VC := .reg [⟨(some 16), .fieldA 0 (.tmp 3), none⟩,
    ⟨(some 17), .load1 .bool (.tmp 16), none⟩,
    ⟨(some 15), .mv (.tmp 17), none⟩]
def k24_5 : VC := .reg [⟨(some 18), .fieldA 1 (.tmp 2), none⟩,
    ⟨(some 19), .load1 (.int .i64) (.tmp 18), none⟩,
    ⟨(some 20), .fieldA 1 (.tmp 3), none⟩,
    ⟨(some 21), .load1 (.int .i64) (.tmp 20), none⟩,
    ⟨(some 22), .bin .sub (.tmp 19) (.tmp 21), none⟩,
    ⟨(some 23), .minmax true [(.const (.int .i64 1)), (.tmp 22)], none⟩,
    ⟨(some 4), .mv (.tmp 23), none⟩]
def k24_6 : VC := .seq k24_5 .ret
def k24_7 : VC := .cond (.tmp 15) k24_6 .skip
def k24_8 : VC := .seq k24_4 k24_7
def k24_9 : VC := .cond (.tmp 5) k24_3 k24_8
def k24_10 : VC := .seq k24_1 k24_9
def k24_11 : VC := .block 0 k24_10
def k24_12 : VC := .reg [⟨(some 24), .fieldA 0 (.tmp 2), none⟩,
    ⟨(some 25), .load1 (.int .i64) (.tmp 24), none⟩,
    ⟨(some 26), .fieldA 1 (.tmp 3), none⟩,
    ⟨(some 27), .load1 (.int .i64) (.tmp 26), none⟩,
    ⟨(some 28), .bin .sub (.tmp 25) (.tmp 27), none⟩,
    ⟨(some 29), .minmax true [(.const (.int .i64 1)), (.tmp 28)], none⟩,
    ⟨(some 4), .mv (.tmp 29), none⟩]
def k24_13 : VC := .seq k24_12 .ret
def k24_14 : VC := .seq k24_11 k24_13
def k24_15 : VC := .seq k24_0 k24_14
def fn24 : VFn := ⟨30, k24_15, [.tmp 4]⟩
/- 22: cloakroom/health.Right -/
def k22_0 : VC := .reg [⟨(some 1), .box (.tmp 0), none⟩,
    ⟨(some 2), .mv (.const (.bool false)), none⟩]
def k22_1 : VC := .reg [⟨(some 3), .fieldA 0 (.tmp 1), none⟩,
    ⟨(some 4), .load1 (.int .i64) (.tmp 3), none⟩,
    ⟨(some 5), .callF 60 [(.tmp 4), (.const (.int .i64 1)), (.const (.int .i64 100))], none⟩,
    ⟨(some 6), .mv (.tmp 5), none⟩,
    ⟨(some 7), .fieldA 1 (.tmp 1), (some (6, true))⟩,
    ⟨(some 8), .load1 (.int .i64) (.tmp 7), (some (6, true))⟩,
    ⟨(some 9), .callF 60 [(.tmp 8), (.const (.int .i64 1)), (.const (.int .i64 100))], (some (6, true))⟩,
    ⟨(some 10), .pick (.tmp 6) (.tmp 9) (.const (.bool false)), none⟩,
    ⟨(some 2), .mv (.tmp 10), none⟩]
def k22_2 : VC := .seq k22_1 .ret
def k22_3 : VC := .seq k22_0 k22_2
def fn22 : VFn := ⟨11, k22_3, [.tmp 2]⟩
/- 60: cloakroom/health.within -/
def k60_0 : VC := .reg [⟨(some 6), .mv (.const (.bool false)), none⟩]
def k60_1 : VC := .reg [⟨(some 7), .mv (.tmp 1), none⟩,
    ⟨(some 8), .mv (.tmp 0), none⟩,
    ⟨(some 9), .bin .leq (.tmp 7) (.tmp 8), none⟩,
    ⟨(some 10), .mv (.tmp 9), none⟩,
    ⟨(some 11), .mv (.tmp 0), (some (10, true))⟩,
    ⟨(some 12), .mv (.tmp 2), (some (10, true))⟩,
    ⟨(some 13), .bin .leq (.tmp 11) (.tmp 12), (some (10, true))⟩,
    ⟨(some 14), .pick (.tmp 10) (.tmp 13) (.const (.bool false)), none⟩,
    ⟨(some 6), .mv (.tmp 14), none⟩]
def k60_2 : VC := .seq k60_1 .ret
def k60_3 : VC := .seq k60_0 k60_2
def fn60 : VFn := ⟨15, k60_3, [.tmp 6]⟩
/- 19: cloakroom/cloakroomlaw21.of -/
def k19_0 : VC := .reg [⟨(some 2), .box (.tmp 0), none⟩,
    ⟨(some 3), .box (.tmp 1), none⟩,
    ⟨(some 4), .alloc [(.int .i64 0), (.int .i64 0)], none⟩,
    ⟨(some 5), .alloc [(.bool false), (.int .i64 0)], none⟩]
def k19_1 : VC := .regD [⟨(some 6), .fieldA 0 (.tmp 2), none⟩,
    ⟨(some 7), .load1 (.int .i64) (.tmp 6), none⟩,
    ⟨(some 8), .fieldA 1 (.tmp 2), none⟩,
    ⟨(some 9), .load1 (.int .i64) (.tmp 8), none⟩,
    ⟨(some 10), .build [(.int .i64 0), (.int .i64 0)] [(0, 1, (.tmp 7)), (1, 1, (.tmp 9))], none⟩,
    ⟨(some 11), .fieldA 0 (.tmp 3), none⟩,
    ⟨(some 12), .load1 .bool (.tmp 11), none⟩,
    ⟨(some 13), .fieldA 1 (.tmp 3), none⟩,
    ⟨(some 14), .load1 (.int .i64) (.tmp 13), none⟩,
    ⟨(some 15), .build [(.bool false), (.int .i64 0)] [(0, 1, (.tmp 12)), (1, 1, (.tmp 14))], none⟩,
    ⟨none, .store 2 (.tmp 4) (.tmp 10), none⟩,
    ⟨none, .store 2 (.tmp 5) (.tmp 15), none⟩] [(6, 10), (8, 10)]
def k19_2 : VC := .seq k19_1 .ret
def k19_3 : VC := .seq k19_0 k19_2
def fn19 : VFn := ⟨16, k19_3, [.cell 4 [(.int .i64), (.int .i64)] true, .cell 5 [.bool, (.int .i64)] true]⟩
/- 21: cloakroom/cloakroomref21.Run -/
def k21_0 : VC := .reg [⟨(some 3), .box (.tmp 0), none⟩,
    ⟨(some 4), .box (.tmp 1), none⟩,
    ⟨(some 6), .alloc [(.bool false), (.int .i64 0)], none⟩,
    ⟨(some 7), .mv (.const (.int .i64 0)), none⟩]
def k21_1 : VC := .reg [⟨(some 8), .mv (.const (.int .i64 0)), none⟩]
def k21_2 : VC := .reg [⟨(some 9), .mv (.const (.int .i64 0)), none⟩]
def k21_3 : VC := .reg [⟨(some 12), .mv (.tmp 9), none⟩,
    ⟨(some 13), .mv (.tmp 2), none⟩,
    ⟨(some 14), .lenL (.tmp 13), none⟩,
    ⟨(some 15), .bin .lss (.tmp 12) (.tmp 14), none⟩]
def k21_4 : VC := .cond (.tmp 15) .skip (.exit 0)
def k21_5 : VC := .seq k21_3 k21_4
def k21_6 : VC := .regD [⟨(some 19), .loadN [(.int .i64), (.int .i64)] (.tmp 3), none⟩,
    ⟨(some 20), .loadN [.bool, (.int .i64)] (.tmp 4), none⟩,
    ⟨(some 21), .mv (.tmp 2), none⟩,
    ⟨(some 22), .mv (.tmp 9), none⟩,
    ⟨(some 23), .idxAL 1 (.tmp 21) (.tmp 22), none⟩,
    ⟨(some 24), .load1 .bool (.tmp 23), none⟩,
    ⟨(some 25), .callF 27 [(.tmp 19), (.tmp 20), (.tmp 24)], none⟩,
    ⟨(some 18), .mv (.tmp 25), none⟩,
    ⟨(some 26), .extract 0 (.tmp 18), none⟩,
    ⟨(some 27), .extract 1 (.tmp 18), none⟩,
    ⟨(some 10), .alloc [(.bool false), (.int .i64 0)], none⟩,
    ⟨none, .store 2 (.tmp 10) (.tmp 26), none⟩,
    ⟨(some 11), .mv (.tmp 27), none⟩] [(0, 10), (1, 10), (5, 10), (6, 10)]
def k21_7 : VC := .reg [⟨(some 28), .loadN [.bool, (.int .i64)] (.tmp 10), none⟩,
    ⟨none, .store 2 (.tmp 4) (.tmp 28), none⟩]
def k21_8 : VC := .reg [⟨(some 29), .mv (.tmp 11), none⟩]
def k21_9 : VC := .reg [⟨(some 30), .mv (.tmp 8), none⟩,
    ⟨(some 31), .bin .add (.tmp 30) (.const (.int .i64 1)), none⟩,
    ⟨(some 8), .mv (.tmp 31), none⟩]
def k21_10 : VC := .cond (.tmp 29) k21_9 .skip
def k21_11 : VC := .seq k21_8 k21_10
def k21_12 : VC := .seq k21_7 k21_11
def k21_13 : VC := .seq k21_6 k21_12
def k21_14 : VC := .block 1 k21_13
def k21_15 : VC := .reg [⟨(some 16), .mv (.tmp 9), none⟩,
    ⟨(some 17), .bin .add (.tmp 16) (.const (.int .i64 1)), none⟩,
    ⟨(some 9), .mv (.tmp 17), none⟩]
def k21_16 : VC := .seq k21_14 k21_15
def k21_17 : VC := .seq k21_5 k21_16
def k21_18 : VC := .loop k21_17
def k21_19 : VC := .block 0 k21_18
def k21_20 : VC := .seq k21_2 k21_19
def k21_21 : VC := .reg [⟨(some 32), .loadN [.bool, (.int .i64)] (.tmp 4), none⟩,
    ⟨(some 33), .mv (.tmp 8), none⟩,
    ⟨none, .store 2 (.tmp 6) (.tmp 32), none⟩,
    ⟨(some 7), .mv (.tmp 33), none⟩]
def k21_22 : VC := .seq k21_21 .ret
def k21_23 : VC := .seq k21_20 k21_22
def k21_24 : VC := .seq k21_1 k21_23
def k21_25 : VC := .seq k21_0 k21_24
def fn21 : VFn := ⟨34, k21_25, [.cell 6 [.bool, (.int .i64)] true, .tmp 7]⟩
/- 27: cloakroom/cloakroomref21.Put -/
def k27_0 : VC := .reg [⟨(some 3), .box (.tmp 0), none⟩,
    ⟨(some 4), .box (.tmp 1), none⟩,
    ⟨(some 6), .alloc [(.bool false), (.int .i64 0)], none⟩,
    ⟨(some 7), .mv (.const (.bool false)), none⟩]
def k27_1 : VC := .reg [⟨(some 9), .loadN [(.int .i64), (.int .i64)] (.tmp 3), none⟩,
    ⟨(some 10), .loadN [.bool, (.int .i64)] (.tmp 4), none⟩,
    ⟨(some 11), .callF 61 [(.tmp 9), (.tmp 10)], none⟩,
    ⟨(some 12), .not (.tmp 11), none⟩]
def k27_2 : VC := .reg [⟨(some 13), .loadN [.bool, (.int .i64)] (.tmp 4), none⟩,
    ⟨none, .store 2 (.tmp 6) (.tmp 13), none⟩,
    ⟨(some 7), .mv (.const (.bool false)), none⟩]
def k27_3 : VC := .seq k27_2 .ret
def k27_4 : VC := .cond (.tmp 12) k27_3 .skip
def k27_5 : VC := .seq k27_1 k27_4
def k27_6 : VC := .reg [⟨(some 14), .mv (.tmp 2), none⟩,
    ⟨(some 15), .fieldA 0 (.tmp 4), none⟩,
    ⟨(some 16), .load1 .bool (.tmp 15), none⟩,
    ⟨(some 17), .eqB false (.tmp 14) (.tmp 16), none⟩]
def k27_7 : VC := .reg [⟨(some 18), .fieldA 0 (.tmp 4), none⟩,
    ⟨(some 19), .load1 .bool (.tmp 18), none⟩,
    ⟨(some 20), .build [(.bool false), (.int .i64 0)] [(0, 1, (.tmp 19))], none⟩,
    ⟨none, .store 2 (.tmp 6) (.tmp 20), none⟩,
    ⟨(some 7), .mv (.const (.bool false)), none⟩]
def k27_8 : VC := .seq k27_7 .ret
def k27_9 : VC := .cond (.tmp 17) k27_8 .skip
def k27_10 : VC := .seq k27_6 k27_9
def k27_11 : VC := .reg [⟨(some 21), .fieldA 0 (.tmp 3), none⟩,
    ⟨(some 22), .load1 (.int .i64) (.tmp 21), none⟩,
    ⟨(some 8), .mv (.tmp 22), none⟩]
def k27_12 : VC := .reg [⟨(some 23), .fieldA 0 (.tmp 4), none⟩,
    ⟨(some 24), .load1 .bool (.tmp 23), none⟩]
def k27_13 : VC := .reg [⟨(some 25), .fieldA 1 (.tmp 3), none⟩,
    ⟨(some 26), .load1 (.int .i64) (.tmp 25), none⟩,
    ⟨(some 8), .mv (.tmp 26), none⟩]
def k27_14 : VC := .cond (.tmp 24) k27_13 .skip
def k27_15 : VC := .seq k27_12 k27_14
def k27_16 : VC := .reg [⟨(some 27), .fieldA 1 (.tmp 4), none⟩,
    ⟨(some 28), .load1 (.int .i64) (.tmp 27), none⟩,
    ⟨(some 29), .bin .add (.tmp 28) (.const (.int .i64 1)), none⟩,
    ⟨(some 30), .mv (.tmp 8), none⟩,
    ⟨(some 31), .bin .geq (.tmp 29) (.tmp 30), none⟩]
def k27_17 : VC := .reg [⟨(some 32), .mv (.tmp 2), none⟩,
    ⟨(some 33), .build [(.bool false), (.int .i64 0)] [(0, 1, (.tmp 32))], none⟩,
    ⟨none, .store 2 (.tmp 6) (.tmp 33), none⟩,
    ⟨(some 7), .mv (.const (.bool true)), none⟩]
def k27_18 : VC := .seq k27_17 .ret
def k27_19 : VC := .cond (.tmp 31) k27_18 .skip
def k27_20 : VC := .seq k27_16 k27_19
def k27_21 : VC := .reg [⟨(some 34), .fieldA 0 (.tmp 4), none⟩,
    ⟨(some 35), .load1 .bool (.tmp 34), none⟩,
    ⟨(some 36), .fieldA 1 (.tmp 4), none⟩,
    ⟨(some 37), .load1 (.int .i64) (.tmp 36), none⟩,
    ⟨(some 38), .bin .add (.tmp 37) (.const (.int .i64 1)), none⟩,
    ⟨(some 39), .build [(.bool false), (.int .i64 0)] [(0, 1, (.tmp 35)), (1, 1, (.tmp 38))], none⟩,
    ⟨none, .store 2 (.tmp 6) (.tmp 39), none⟩,
    ⟨(some 7), .mv (.const (.bool false)), none⟩]
def k27_22 : VC := .seq k27_21 .ret
def k27_23 : VC := .seq k27_20 k27_22
def k27_24 : VC := .seq k27_15 k27_23
def k27_25 : VC := .seq k27_11 k27_24
def k27_26 : VC := .seq k27_10 k27_25
def k27_27 : VC := .seq k27_5 k27_26
def k27_28 : VC := .seq k27_0 k27_27
def fn27 : VFn := ⟨40, k27_28, [.cell 6 [.bool, (.int .i64)] true, .tmp 7]⟩
/- 61: cloakroom/cloakroomref21.may -/
def k61_0 : VC := .reg [⟨(some 2), .box (.tmp 0), none⟩,
    ⟨(some 3), .box (.tmp 1), none⟩,
    ⟨(some 4), .mv (.const (.bool false)), none⟩]
def k61_1 : VC := .reg [⟨(some 5), .loadN [(.int .i64), (.int .i64)] (.tmp 2), none⟩,
    ⟨(some 6), .callF 23 [(.tmp 5)], none⟩,
    ⟨(some 7), .mv (.tmp 6), none⟩,
    ⟨(some 8), .fieldA 1 (.tmp 3), (some (7, true))⟩,
    ⟨(some 9), .load1 (.int .i64) (.tmp 8), (some (7, true))⟩,
    ⟨(some 10), .bin .geq (.tmp 9) (.const (.int .i64 0)), (some (7, true))⟩,
    ⟨(some 11), .pick (.tmp 7) (.tmp 10) (.const (.bool false)), none⟩,
    ⟨(some 12), .mv (.tmp 11), none⟩,
    ⟨(some 13), .fieldA 1 (.tmp 3), (some (12, true))⟩,
    ⟨(some 14), .load1 (.int .i64) (.tmp 13), (some (12, true))⟩,
    ⟨(some 15), .bin .leq (.tmp 14) (.const (.int .i64 1048576)), (some (12, true))⟩,
    ⟨(some 16), .pick (.tmp 12) (.tmp 15) (.const (.bool false)), none⟩,
    ⟨(some 4), .mv (.tmp 16), none⟩]
def k61_2 : VC := .seq k61_1 .ret
def k61_3 : VC := .seq k61_0 k61_2
def fn61 : VFn := ⟨17, k61_3, [.tmp 4]⟩
/- 23: cloakroom/cloakroomref21.Right -/
def k23_0 : VC := .reg [⟨(some 1), .box (.tmp 0), none⟩,
    ⟨(some 2), .mv (.const (.bool false)), none⟩]
def k23_1 : VC := .reg [⟨(some 3), .fieldA 0 (.tmp 1), none⟩,
    ⟨(some 4), .load1 (.int .i64) (.tmp 3), none⟩,
    ⟨(some 5), .bin .geq (.tmp 4) (.const (.int .i64 1)), none⟩,
    ⟨(some 6), .mv (.tmp 5), none⟩,
    ⟨(some 7), .fieldA 0 (.tmp 1), (some (6, true))⟩,
    ⟨(some 8), .load1 (.int .i64) (.tmp 7), (some (6, true))⟩,
    ⟨(some 9), .bin .leq (.tmp 8) (.const (.int .i64 100)), (some (6, true))⟩,
    ⟨(some 10), .pick (.tmp 6) (.tmp 9) (.const (.bool false)), none⟩,
    ⟨(some 11), .mv (.tmp 10), none⟩,
    ⟨(some 12), .fieldA 1 (.tmp 1), (some (11, true))⟩,
    ⟨(some 13), .load1 (.int .i64) (.tmp 12), (some (11, true))⟩,
    ⟨(some 14), .bin .geq (.tmp 13) (.const (.int .i64 1)), (some (11, true))⟩,
    ⟨(some 15), .pick (.tmp 11) (.tmp 14) (.const (.bool false)), none⟩,
    ⟨(some 16), .mv (.tmp 15), none⟩,
    ⟨(some 17), .fieldA 1 (.tmp 1), (some (16, true))⟩,
    ⟨(some 18), .load1 (.int .i64) (.tmp 17), (some (16, true))⟩,
    ⟨(some 19), .bin .leq (.tmp 18) (.const (.int .i64 100)), (some (16, true))⟩,
    ⟨(some 20), .pick (.tmp 16) (.tmp 19) (.const (.bool false)), none⟩,
    ⟨(some 2), .mv (.tmp 20), none⟩]
def k23_2 : VC := .seq k23_1 .ret
def k23_3 : VC := .seq k23_0 k23_2
def fn23 : VFn := ⟨21, k23_3, [.tmp 2]⟩
/- 25: cloakroom/cloakroomref21.Need -/
def k25_0 : VC := .reg [⟨(some 2), .box (.tmp 0), none⟩,
    ⟨(some 3), .box (.tmp 1), none⟩,
    ⟨(some 4), .mv (.const (.int .i64 0)), none⟩]
def k25_1 : VC := .reg [⟨(some 5), .loadN [(.int .i64), (.int .i64)] (.tmp 2), none⟩,
    ⟨(some 6), .loadN [.bool, (.int .i64)] (.tmp 3), none⟩,
    ⟨(some 7), .callF 61 [(.tmp 5), (.tmp 6)], none⟩,
    ⟨(some 8), .not (.tmp 7), none⟩]
def k25_2 : VC := .reg [⟨(some 4), .mv (.const (.int .i64 0)), none⟩]
def k25_3 : VC := .seq k25_2 .ret
def k25_4 : VC := .cond (.tmp 8) k25_3 .skip
def k25_5 : VC := .seq k25_1 k25_4
def k25_6 : VC := .reg [⟨(some 9), .fieldA 0 (.tmp 3), none⟩,
    ⟨(some 10), .load1 .bool (.tmp 9), none⟩]
def k25_7 : VC := .reg [⟨(some 11), .fieldA 1 (.tmp 2), none⟩,
    ⟨(some 12), .load1 (.int .i64) (.tmp 11), none⟩,
    ⟨(some 13), .fieldA 1 (.tmp 3), none⟩,
    ⟨(some 14), .load1 (.int .i64) (.tmp 13), none⟩,
    ⟨(some 15), .bin .sub (.tmp 12) (.tmp 14), none⟩,
    ⟨(some 16), .minmax true [(.const (.int .i64 1)), (.tmp 15)], none⟩,
    ⟨(some 4), .mv (.tmp 16), none⟩]
def k25_8 : VC := .seq k25_7 .ret
def k25_9 : VC := .cond (.tmp 10) k25_8 .skip
def k25_10 : VC := .seq k25_6 k25_9
def k25_11 : VC := .reg [⟨(some 17), .fieldA 0 (.tmp 2), none⟩,
    ⟨(some 18), .load1 (.int .i64) (.tmp 17), none⟩,
    ⟨(some 19), .fieldA 1 (.tmp 3), none⟩,
    ⟨(some 20), .load1 (.int .i64) (.tmp 19), none⟩,
    ⟨(some 21), .bin .sub (.tmp 18) (.tmp 20), none⟩,
    ⟨(some 22), .minmax true [(.const (.int .i64 1)), (.tmp 21)], none⟩,
    ⟨(some 4), .mv (.tmp 22), none⟩]
def k25_12 : VC := .seq k25_11 .ret
def k25_13 : VC := .seq k25_10 k25_12
def k25_14 : VC := .seq k25_5 k25_13
def k25_15 : VC := .seq k25_0 k25_14
def fn25 : VFn := ⟨23, k25_15, [.tmp 4]⟩
/- 5: cloakroom/cloakroomlaw21.HealthTurns -/
def k5_0 : VC := .reg [⟨(some 4), .box (.tmp 0), none⟩,
    ⟨(some 8), .mv (.const (.bool false)), none⟩]
def k5_1 : VC := .reg [⟨(some 23), .loadN [(.int .i64), (.int .i64)] (.tmp 4), none⟩,
    ⟨(some 24), .callF 23 [(.tmp 23)], none⟩,
    ⟨(some 25), .not (.tmp 24), none⟩]
def k5_2 : VC := .reg [⟨(some 26), .callF 18 [], none⟩,
    ⟨(some 8), .mv (.tmp 26), none⟩]
def k5_3 : VC := .seq k5_2 .ret
def k5_4 : VC := .cond (.tmp 25) k5_3 .skip
def k5_5 : VC := .seq k5_1 k5_4
def k5_6 : VC := .reg [⟨(some 28), .loadN [(.int .i64), (.int .i64)] (.tmp 4), none⟩,
    ⟨(some 29), .mv (.tmp 1), none⟩,
    ⟨(some 30), .build [(.bool false), (.int .i64 0)] [(0, 1, (.tmp 29))], none⟩,
    ⟨(some 31), .callF 19 [(.tmp 28), (.tmp 30)], none⟩,
    ⟨(some 27), .mv (.tmp 31), none⟩,
    ⟨(some 32), .extract 0 (.tmp 27), none⟩,
    ⟨(some 33), .extract 1 (.tmp 27), none⟩,
    ⟨(some 9), .alloc [(.int .i64 0), (.int .i64 0)], none⟩,
    ⟨(some 10), .alloc [(.bool false), (.int .i64 0)], none⟩,
    ⟨none, .store 2 (.tmp 9) (.tmp 32), none⟩,
    ⟨none, .store 2 (.tmp 10) (.tmp 33), none⟩]
def k5_7 : VC := .reg [⟨(some 34), .fieldA 0 (.tmp 4), none⟩,
    ⟨(some 35), .load1 (.int .i64) (.tmp 34), none⟩,
    ⟨(some 11), .mv (.tmp 35), none⟩]
def k5_8 : VC := .reg [⟨(some 36), .mv (.tmp 1), none⟩]
def k5_9 : VC := .reg [⟨(some 37), .fieldA 1 (.tmp 4), none⟩,
    ⟨(some 38), .load1 (.int .i64) (.tmp 37), none⟩,
    ⟨(some 11), .mv (.tmp 38), none⟩]
def k5_10 : VC := .cond (.tmp 36) k5_9 .skip
def k5_11 : VC := .seq k5_8 k5_10
def k5_12 : VC := .reg [⟨(some 39), .mv (.tmp 2), none⟩,
    ⟨(some 40), .conv .i64 (.tmp 39), none⟩,
    ⟨(some 41), .mv (.tmp 11), none⟩,
    ⟨(some 42), .bin .rem (.tmp 40) (.tmp 41), none⟩,
    ⟨(some 12), .mv (.tmp 42), none⟩]
def k5_13 : VC := .reg [⟨(some 13), .mv (.const (.slice none 0 0)), none⟩]
def k5_14 : VC := .reg [⟨(some 14), .mv (.const (.int .i64 0)), none⟩]
def k5_15 : VC := .reg [⟨(some 43), .mv (.tmp 14), none⟩,
    ⟨(some 44), .mv (.tmp 12), none⟩,
    ⟨(some 45), .bin .lss (.tmp 43) (.tmp 44), none⟩]
def k5_16 : VC := .cond (.tmp 45) .skip (.exit 0)
def k5_17 : VC := .seq k5_15 k5_16
def k5_18 : VC := .reg [⟨(some 48), .mv (.tmp 13), none⟩,
    ⟨(some 49), .mv (.tmp 1), none⟩,
    ⟨(some 50), .not (.tmp 49), none⟩,
    ⟨(some 51), .buildSl 1 1 [(.bool false)] [(0, 1, (.tmp 50))], none⟩,
    ⟨(some 52), .app 1 1 (.tmp 48) (.tmp 51), none⟩,
    ⟨(some 13), .mv (.tmp 52), none⟩]
def k5_19 : VC := .block 1 k5_18
def k5_20 : VC := .reg [⟨(some 46), .mv (.tmp 14), none⟩,
    ⟨(some 47), .bin .add (.tmp 46) (.const (.int .i64 1)), none⟩,
    ⟨(some 14), .mv (.tmp 47), none⟩]
def k5_21 : VC := .seq k5_19 k5_20
def k5_22 : VC := .seq k5_17 k5_21
def k5_23 : VC := .loop k5_22
def k5_24 : VC := .block 0 k5_23
def k5_25 : VC := .seq k5_14 k5_24
def k5_26 : VC := .reg [⟨(some 53), .mv (.tmp 3), none⟩]
def k5_27 : VC := .reg [⟨(some 54), .mv (.tmp 13), none⟩,
    ⟨(some 55), .mv (.tmp 1), none⟩,
    ⟨(some 56), .buildSl 1 1 [(.bool false)] [(0, 1, (.tmp 55))], none⟩,
    ⟨(some 57), .app 1 1 (.tmp 54) (.tmp 56), none⟩,
    ⟨(some 13), .mv (.tmp 57), none⟩]
def k5_28 : VC := .reg [⟨(some 12), .mv (.const (.int .i64 0)), none⟩]
def k5_29 : VC := .seq k5_27 k5_28
def k5_30 : VC := .cond (.tmp 53) k5_29 .skip
def k5_31 : VC := .seq k5_26 k5_30
def k5_32 : VC := .reg [⟨(some 59), .loadN [(.int .i64), (.int .i64)] (.tmp 9), none⟩,
    ⟨(some 60), .loadN [.bool, (.int .i64)] (.tmp 10), none⟩,
    ⟨(some 61), .mv (.tmp 13), none⟩,
    ⟨(some 62), .callF 20 [(.tmp 59), (.tmp 60), (.tmp 61)], none⟩,
    ⟨(some 58), .mv (.tmp 62), none⟩,
    ⟨(some 63), .extract 0 (.tmp 58), none⟩,
    ⟨(some 64), .extract 1 (.tmp 58), none⟩,
    ⟨(some 15), .alloc [(.bool false), (.int .i64 0)], none⟩,
    ⟨none, .store 2 (.tmp 15) (.tmp 63), none⟩,
    ⟨(some 16), .mv (.tmp 64), none⟩]
def k5_33 : VC := .reg [⟨(some 65), .mv (.tmp 16), none⟩,
    ⟨(some 66), .bin .neq (.tmp 65) (.const (.int .i64 0)), none⟩,
    ⟨(some 67), .mv (.tmp 66), none⟩,
    ⟨(some 68), .fieldA 0 (.tmp 15), (some (67, false))⟩,
    ⟨(some 69), .load1 .bool (.tmp 68), (some (67, false))⟩,
    ⟨(some 70), .mv (.tmp 1), (some (67, false))⟩,
    ⟨(some 71), .eqB true (.tmp 69) (.tmp 70), (some (67, false))⟩,
    ⟨(some 72), .pick (.tmp 67) (.const (.bool true)) (.tmp 71), none⟩,
    ⟨(some 73), .mv (.tmp 72), none⟩,
    ⟨(some 74), .fieldA 1 (.tmp 15), (some (73, false))⟩,
    ⟨(some 75), .load1 (.int .i64) (.tmp 74), (some (73, false))⟩,
    ⟨(some 76), .mv (.tmp 12), (some (73, false))⟩,
    ⟨(some 77), .bin .neq (.tmp 75) (.tmp 76), (some (73, false))⟩,
    ⟨(some 78), .pick (.tmp 73) (.const (.bool true)) (.tmp 77), none⟩,
    ⟨(some 79), .mv (.tmp 78), none⟩,
    ⟨(some 80), .loadN [(.int .i64), (.int .i64)] (.tmp 9), (some (79, false))⟩,
    ⟨(some 81), .loadN [.bool, (.int .i64)] (.tmp 15), (some (79, false))⟩,
    ⟨(some 82), .callF 24 [(.tmp 80), (.tmp 81)], (some (79, false))⟩,
    ⟨(some 83), .mv (.tmp 11), (some (79, false))⟩,
    ⟨(some 84), .mv (.tmp 12), (some (79, false))⟩,
    ⟨(some 85), .bin .sub (.tmp 83) (.tmp 84), (some (79, false))⟩,
    ⟨(some 86), .bin .neq (.tmp 82) (.tmp 85), (some (79, false))⟩,
    ⟨(some 87), .pick (.tmp 79) (.const (.bool true)) (.tmp 86), none⟩]
def k5_34 : VC := .reg [⟨(some 8), .mv (.const (.bool false)), none⟩]
def k5_35 : VC := .seq k5_34 .ret
def k5_36 : VC := .cond (.tmp 87) k5_35 .skip
def k5_37 : VC := .seq k5_33 k5_36
def k5_38 : VC := .reg [⟨(some 17), .mv (.const (.slice none 0 0)), none⟩]
def k5_39 : VC := .reg [⟨(some 88), .mv (.tmp 12), none⟩,
    ⟨(some 18), .mv (.tmp 88), none⟩]
def k5_40 : VC := .reg [⟨(some 89), .mv (.tmp 18), none⟩,
    ⟨(some 90), .mv (.tmp 11), none⟩,
    ⟨(some 91), .bin .lss (.tmp 89) (.tmp 90), none⟩]
def k5_41 : VC := .cond (.tmp 91) .skip (.exit 2)
def k5_42 : VC := .seq k5_40 k5_41
def k5_43 : VC := .reg [⟨(some 94), .mv (.tmp 17), none⟩,
    ⟨(some 95), .mv (.tmp 1), none⟩,
    ⟨(some 96), .not (.tmp 95), none⟩,
    ⟨(some 97), .buildSl 1 1 [(.bool false)] [(0, 1, (.tmp 96))], none⟩,
    ⟨(some 98), .app 1 1 (.tmp 94) (.tmp 97), none⟩,
    ⟨(some 17), .mv (.tmp 98), none⟩]
def k5_44 : VC := .block 3 k5_43
def k5_45 : VC := .reg [⟨(some 92), .mv (.tmp 18), none⟩,
    ⟨(some 93), .bin .add (.tmp 92) (.const (.int .i64 1)), none⟩,
    ⟨(some 18), .mv (.tmp 93), none⟩]
def k5_46 : VC := .seq k5_44 k5_45
def k5_47 : VC := .seq k5_42 k5_46
def k5_48 : VC := .loop k5_47
def k5_49 : VC := .block 2 k5_48
def k5_50 : VC := .seq k5_39 k5_49
def k5_51 : VC := .reg [⟨(some 100), .loadN [(.int .i64), (.int .i64)] (.tmp 9), none⟩,
    ⟨(some 101), .loadN [.bool, (.int .i64)] (.tmp 15), none⟩,
    ⟨(some 102), .mv (.tmp 17), none⟩,
    ⟨(some 103), .callF 20 [(.tmp 100), (.tmp 101), (.tmp 102)], none⟩,
    ⟨(some 99), .mv (.tmp 103), none⟩,
    ⟨(some 104), .extract 0 (.tmp 99), none⟩,
    ⟨(some 105), .extract 1 (.tmp 99), none⟩,
    ⟨(some 19), .alloc [(.bool false), (.int .i64 0)], none⟩,
    ⟨none, .store 2 (.tmp 19) (.tmp 104), none⟩,
    ⟨(some 20), .mv (.tmp 105), none⟩]
def k5_52 : VC := .regD [⟨(some 107), .loadN [(.int .i64), (.int .i64)] (.tmp 9), none⟩,
    ⟨(some 108), .loadN [.bool, (.int .i64)] (.tmp 15), none⟩,
    ⟨(some 109), .mv (.tmp 17), none⟩,
    ⟨(some 110), .sliceL 1 (.tmp 109) (some (.const (.int .i64 1))) none, none⟩,
    ⟨(some 111), .callF 20 [(.tmp 107), (.tmp 108), (.tmp 110)], none⟩,
    ⟨(some 106), .mv (.tmp 111), none⟩,
    ⟨(some 112), .extract 0 (.tmp 106), none⟩,
    ⟨(some 113), .extract 1 (.tmp 106), none⟩,
    ⟨(some 21), .alloc [(.bool false), (.int .i64 0)], none⟩,
    ⟨none, .store 2 (.tmp 21) (.tmp 112), none⟩,
    ⟨(some 22), .mv (.tmp 113), none⟩] [(0, 8), (1, 8), (4, 8)]
def k5_53 : VC := .reg [⟨(some 114), .fieldA 0 (.tmp 19), none⟩,
    ⟨(some 115), .load1 .bool (.tmp 114), none⟩,
    ⟨(some 116), .mv (.tmp 1), none⟩,
    ⟨(some 117), .eqB true (.tmp 115) (.tmp 116), none⟩,
    ⟨(some 118), .mv (.tmp 117), none⟩,
    ⟨(some 119), .mv (.tmp 20), (some (118, true))⟩,
    ⟨(some 120), .bin .eql (.tmp 119) (.const (.int .i64 1)), (some (118, true))⟩,
    ⟨(some 121), .pick (.tmp 118) (.tmp 120) (.const (.bool false)), none⟩,
    ⟨(some 122), .mv (.tmp 121), none⟩,
    ⟨(some 123), .fieldA 1 (.tmp 19), (some (122, true))⟩,
    ⟨(some 124), .load1 (.int .i64) (.tmp 123), (some (122, true))⟩,
    ⟨(some 125), .bin .eql (.tmp 124) (.const (.int .i64 0)), (some (122, true))⟩,
    ⟨(some 126), .pick (.tmp 122) (.tmp 125) (.const (.bool false)), none⟩,
    ⟨(some 127), .mv (.tmp 126), none⟩,
    ⟨(some 128), .fieldA 0 (.tmp 21), (some (127, true))⟩,
    ⟨(some 129), .load1 .bool (.tmp 128), (some (127, true))⟩,
    ⟨(some 130), .mv (.tmp 1), (some (127, true))⟩,
    ⟨(some 131), .eqB false (.tmp 129) (.tmp 130), (some (127, true))⟩,
    ⟨(some 132), .pick (.tmp 127) (.tmp 131) (.const (.bool false)), none⟩,
    ⟨(some 133), .mv (.tmp 132), none⟩,
    ⟨(some 134), .mv (.tmp 22), (some (133, true))⟩,
    ⟨(some 135), .bin .eql (.tmp 134) (.const (.int .i64 0)), (some (133, true))⟩,
    ⟨(some 136), .pick (.tmp 133) (.tmp 135) (.const (.bool false)), none⟩,
    ⟨(some 137), .mv (.tmp 136), none⟩,
    ⟨(some 138), .callF 18 [], (some (137, true))⟩,
    ⟨(some 139), .pick (.tmp 137) (.tmp 138) (.const (.bool false)), none⟩,
    ⟨(some 8), .mv (.tmp 139), none⟩]
def k5_54 : VC := .seq k5_53 .ret
def k5_55 : VC := .seq k5_52 k5_54
def k5_56 : VC := .seq k5_51 k5_55
def k5_57 : VC := .seq k5_50 k5_56
def k5_58 : VC := .seq k5_38 k5_57
def k5_59 : VC := .seq k5_37 k5_58
def k5_60 : VC := .seq k5_32 k5_59
def k5_61 : VC := .seq k5_31 k5_60
def k5_62 : VC := .seq k5_25 k5_61
def k5_63 : VC := .seq k5_13 k5_62
def k5_64 : VC := .seq k5_12 k5_63
def k5_65 : VC := .seq k5_11 k5_64
def k5_66 : VC := .seq k5_7 k5_65
def k5_67 : VC := .seq k5_6 k5_66
def k5_68 : VC := .seq k5_5 k5_67
def k5_69 : VC := .seq k5_0 k5_68
def fn5 : VFn := ⟨140, k5_69, [.tmp 8]⟩
/- 6: cloakroom/cloakroomlaw21.HealthTimes -/
def k6_0 : VC := .reg [⟨(some 4), .box (.tmp 0), none⟩,
    ⟨(some 8), .mv (.const (.bool false)), none⟩]
def k6_1 : VC := .reg [⟨(some 19), .loadN [(.int .i64), (.int .i64)] (.tmp 4), none⟩,
    ⟨(some 20), .callF 23 [(.tmp 19)], none⟩,
    ⟨(some 21), .not (.tmp 20), none⟩,
    ⟨(some 22), .mv (.tmp 21), none⟩,
    ⟨(some 23), .mv (.tmp 2), (some (22, false))⟩,
    ⟨(some 24), .lenL (.tmp 23), (some (22, false))⟩,
    ⟨(some 25), .bin .gtr (.tmp 24) (.const (.int .i64 60)), (some (22, false))⟩,
    ⟨(some 26), .pick (.tmp 22) (.const (.bool true)) (.tmp 25), none⟩]
def k6_2 : VC := .reg [⟨(some 27), .callF 18 [], none⟩,
    ⟨(some 8), .mv (.tmp 27), none⟩]
def k6_3 : VC := .seq k6_2 .ret
def k6_4 : VC := .cond (.tmp 26) k6_3 .skip
def k6_5 : VC := .seq k6_1 k6_4
def k6_6 : VC := .reg [⟨(some 29), .loadN [(.int .i64), (.int .i64)] (.tmp 4), none⟩,
    ⟨(some 30), .mv (.tmp 1), none⟩,
    ⟨(some 31), .build [(.bool false), (.int .i64 0)] [(0, 1, (.tmp 30))], none⟩,
    ⟨(some 32), .callF 19 [(.tmp 29), (.tmp 31)], none⟩,
    ⟨(some 28), .mv (.tmp 32), none⟩,
    ⟨(some 33), .extract 0 (.tmp 28), none⟩,
    ⟨(some 34), .extract 1 (.tmp 28), none⟩,
    ⟨(some 9), .alloc [(.int .i64 0), (.int .i64 0)], none⟩,
    ⟨(some 10), .alloc [(.bool false), (.int .i64 0)], none⟩,
    ⟨none, .store 2 (.tmp 9) (.tmp 33), none⟩,
    ⟨none, .store 2 (.tmp 10) (.tmp 34), none⟩]
def k6_7 : VC := .reg [⟨(some 35), .mv (.tmp 3), none⟩,
    ⟨(some 36), .conv .i64 (.tmp 35), none⟩,
    ⟨(some 37), .mv (.tmp 2), none⟩,
    ⟨(some 38), .lenL (.tmp 37), none⟩,
    ⟨(some 39), .bin .add (.tmp 38) (.const (.int .i64 1)), none⟩,
    ⟨(some 40), .bin .rem (.tmp 36) (.tmp 39), none⟩,
    ⟨(some 11), .mv (.tmp 40), none⟩]
def k6_8 : VC := .reg [⟨(some 42), .loadN [(.int .i64), (.int .i64)] (.tmp 9), none⟩,
    ⟨(some 43), .loadN [.bool, (.int .i64)] (.tmp 10), none⟩,
    ⟨(some 44), .mv (.tmp 2), none⟩,
    ⟨(some 45), .callF 20 [(.tmp 42), (.tmp 43), (.tmp 44)], none⟩,
    ⟨(some 41), .mv (.tmp 45), none⟩,
    ⟨(some 46), .extract 0 (.tmp 41), none⟩,
    ⟨(some 47), .extract 1 (.tmp 41), none⟩,
    ⟨(some 12), .alloc [(.bool false), (.int .i64 0)], none⟩,
    ⟨none, .store 2 (.tmp 12) (.tmp 46), none⟩,
    ⟨(some 13), .mv (.tmp 47), none⟩]
def k6_9 : VC := .regD [⟨(some 49), .loadN [(.int .i64), (.int .i64)] (.tmp 9), none⟩,
    ⟨(some 50), .loadN [.bool, (.int .i64)] (.tmp 10), none⟩,
    ⟨(some 51), .mv (.tmp 2), none⟩,
    ⟨(some 52), .mv (.tmp 11), none⟩,
    ⟨(some 53), .sliceL 1 (.tmp 51) none (some (.tmp 52)), none⟩,
    ⟨(some 54), .callF 20 [(.tmp 49), (.tmp 50), (.tmp 53)], none⟩,
    ⟨(some 48), .mv (.tmp 54), none⟩,
    ⟨(some 55), .extract 0 (.tmp 48), none⟩,
    ⟨(some 56), .extract 1 (.tmp 48), none⟩,
    ⟨(some 14), .alloc [(.bool false), (.int .i64 0)], none⟩,
    ⟨none, .store 2 (.tmp 14) (.tmp 55), none⟩,
    ⟨(some 15), .mv (.tmp 56), none⟩] [(0, 9), (1, 9), (5, 9)]
def k6_10 : VC := .regD [⟨(some 58), .loadN [(.int .i64), (.int .i64)] (.tmp 9), none⟩,
    ⟨(some 59), .loadN [.bool, (.int .i64)] (.tmp 14), none⟩,
    ⟨(some 60), .mv (.tmp 2), none⟩,
    ⟨(some 61), .mv (.tmp 11), none⟩,
    ⟨(some 62), .sliceL 1 (.tmp 60) (some (.tmp 61)) none, none⟩,
    ⟨(some 63), .callF 20 [(.tmp 58), (.tmp 59), (.tmp 62)], none⟩,
    ⟨(some 57), .mv (.tmp 63), none⟩,
    ⟨(some 64), .extract 0 (.tmp 57), none⟩,
    ⟨(some 65), .extract 1 (.tmp 57), none⟩,
    ⟨(some 16), .alloc [(.bool false), (.int .i64 0)], none⟩,
    ⟨none, .store 2 (.tmp 16) (.tmp 64), none⟩,
    ⟨(some 17), .mv (.tmp 65), none⟩] [(0, 9), (1, 9), (5, 9)]
def k6_11 : VC := .reg [⟨(some 66), .fieldA 0 (.tmp 4), none⟩,
    ⟨(some 67), .load1 (.int .i64) (.tmp 66), none⟩,
    ⟨(some 18), .mv (.tmp 67), none⟩]
def k6_12 : VC := .reg [⟨(some 68), .fieldA 0 (.tmp 12), none⟩,
    ⟨(some 69), .load1 .bool (.tmp 68), none⟩]
def k6_13 : VC := .reg [⟨(some 70), .fieldA 1 (.tmp 4), none⟩,
    ⟨(some 71), .load1 (.int .i64) (.tmp 70), none⟩,
    ⟨(some 18), .mv (.tmp 71), none⟩]
def k6_14 : VC := .cond (.tmp 69) k6_13 .skip
def k6_15 : VC := .seq k6_12 k6_14
def k6_16 : VC := .regD [⟨(some 72), .loadN [.bool, (.int .i64)] (.tmp 16), none⟩,
    ⟨(some 73), .loadN [.bool, (.int .i64)] (.tmp 12), none⟩,
    ⟨(some 74), .eqAgg false [(0, .bool), (1, (.int .i64))] (.tmp 72) (.tmp 73), none⟩,
    ⟨(some 75), .mv (.tmp 74), none⟩,
    ⟨(some 76), .mv (.tmp 15), (some (75, true))⟩,
    ⟨(some 77), .mv (.tmp 17), (some (75, true))⟩,
    ⟨(some 78), .bin .add (.tmp 76) (.tmp 77), (some (75, true))⟩,
    ⟨(some 79), .mv (.tmp 13), (some (75, true))⟩,
    ⟨(some 80), .bin .eql (.tmp 78) (.tmp 79), (some (75, true))⟩,
    ⟨(some 81), .pick (.tmp 75) (.tmp 80) (.const (.bool false)), none⟩,
    ⟨(some 82), .mv (.tmp 81), none⟩,
    ⟨(some 83), .mv (.tmp 13), (some (82, true))⟩,
    ⟨(some 84), .bin .geq (.tmp 83) (.const (.int .i64 0)), (some (82, true))⟩,
    ⟨(some 85), .pick (.tmp 82) (.tmp 84) (.const (.bool false)), none⟩,
    ⟨(some 86), .mv (.tmp 85), none⟩,
    ⟨(some 87), .fieldA 0 (.tmp 12), (some (86, true))⟩,
    ⟨(some 88), .load1 .bool (.tmp 87), (some (86, true))⟩,
    ⟨(some 89), .mv (.tmp 1), (some (86, true))⟩,
    ⟨(some 90), .eqB false (.tmp 88) (.tmp 89), (some (86, true))⟩,
    ⟨(some 91), .mv (.tmp 13), (some (86, true))⟩,
    ⟨(some 92), .bin .rem (.tmp 91) (.const (.int .i64 2)), (some (86, true))⟩,
    ⟨(some 93), .bin .eql (.tmp 92) (.const (.int .i64 0)), (some (86, true))⟩,
    ⟨(some 94), .eqB false (.tmp 90) (.tmp 93), (some (86, true))⟩,
    ⟨(some 95), .pick (.tmp 86) (.tmp 94) (.const (.bool false)), none⟩,
    ⟨(some 96), .mv (.tmp 95), none⟩,
    ⟨(some 97), .mv (.tmp 13), (some (96, true))⟩,
    ⟨(some 98), .fieldA 0 (.tmp 4), (some (96, true))⟩,
    ⟨(some 99), .load1 (.int .i64) (.tmp 98), (some (96, true))⟩,
    ⟨(some 100), .fieldA 1 (.tmp 4), (some (96, true))⟩,
    ⟨(some 101), .load1 (.int .i64) (.tmp 100), (some (96, true))⟩,
    ⟨(some 102), .minmax false [(.tmp 99), (.tmp 101)], (some (96, true))⟩,
    ⟨(some 103), .bin .mul (.tmp 97) (.tmp 102), (some (96, true))⟩,
    ⟨(some 104), .mv (.tmp 2), (some (96, true))⟩,
    ⟨(some 105), .lenL (.tmp 104), (some (96, true))⟩,
    ⟨(some 106), .bin .leq (.tmp 103) (.tmp 105), (some (96, true))⟩,
    ⟨(some 107), .pick (.tmp 96) (.tmp 106) (.const (.bool false)), none⟩,
    ⟨(some 108), .mv (.tmp 107), none⟩,
    ⟨(some 109), .fieldA 1 (.tmp 12), (some (108, true))⟩,
    ⟨(some 110), .load1 (.int .i64) (.tmp 109), (some (108, true))⟩,
    ⟨(some 111), .bin .geq (.tmp 110) (.const (.int .i64 0)), (some (108, true))⟩,
    ⟨(some 112), .pick (.tmp 108) (.tmp 111) (.const (.bool false)), none⟩,
    ⟨(some 113), .mv (.tmp 112), none⟩,
    ⟨(some 114), .fieldA 1 (.tmp 12), (some (113, true))⟩,
    ⟨(some 115), .load1 (.int .i64) (.tmp 114), (some (113, true))⟩,
    ⟨(some 116), .mv (.tmp 18), (some (113, true))⟩,
    ⟨(some 117), .bin .lss (.tmp 115) (.tmp 116), (some (113, true))⟩,
    ⟨(some 118), .pick (.tmp 113) (.tmp 117) (.const (.bool false)), none⟩,
    ⟨(some 119), .mv (.tmp 118), none⟩,
    ⟨(some 120), .loadN [(.int .i64), (.int .i64)] (.tmp 9), (some (119, true))⟩,
    ⟨(some 121), .loadN [.bool, (.int .i64)] (.tmp 12), (some (119, true))⟩,
    ⟨(some 122), .callF 24 [(.tmp 120), (.tmp 121)], (some (119, true))⟩,
    ⟨(some 123), .mv (.tmp 18), (some (119, true))⟩,
    ⟨(some 124), .fieldA 1 (.tmp 12), (some (119, true))⟩,
    ⟨(some 125), .load1 (.int .i64) (.tmp 124), (some (119, true))⟩,
    ⟨(some 126), .bin .sub (.tmp 123) (.tmp 125), (some (119, true))⟩,
    ⟨(some 127), .bin .eql (.tmp 122) (.tmp 126), (some (119, true))⟩,
    ⟨(some 128), .pick (.tmp 119) (.tmp 127) (.const (.bool false)), none⟩,
    ⟨(some 129), .mv (.tmp 128), none⟩,
    ⟨(some 130), .callF 18 [], (some (129, true))⟩,
    ⟨(some 131), .pick (.tmp 129) (.tmp 130) (.const (.bool false)), none⟩,
    ⟨(some 8), .mv (.tmp 131), none⟩] [(50, 53)]
def k6_17 : VC := .seq k6_16 .ret
def k6_18 : VC := .seq k6_15 k6_17
def k6_19 : VC := .seq k6_11 k6_18
def k6_20 : VC := .seq k6_10 k6_19
def k6_21 : VC := .seq k6_9 k6_20
def k6_22 : VC := .seq k6_8 k6_21
def k6_23 : VC := .seq k6_7 k6_22
def k6_24 : VC := .seq k6_6 k6_23
def k6_25 : VC := .seq k6_5 k6_24
def k6_26 : VC := .seq k6_0 k6_25
def fn6 : VFn := ⟨132, k6_26, [.tmp 8]⟩
theorem fn4_ok : (Try.prog.funcs[4]?).bind (compFn Try.prog) = some fn4 := by kernel_rfl
theorem fn18_ok : (Try.prog.funcs[18]?).bind (compFn Try.prog) = some fn18 := by kernel_rfl
theorem fn20_ok : (Try.prog.funcs[20]?).bind (compFn Try.prog) = some fn20 := by kernel_rfl
theorem fn59_ok : (Try.prog.funcs[59]?).bind (compFn Try.prog) = some fn59 := by kernel_rfl
theorem fn91_ok : (Try.prog.funcs[91]?).bind (compFn Try.prog) = some fn91 := by kernel_rfl
theorem fn26_ok : (Try.prog.funcs[26]?).bind (compFn Try.prog) = some fn26 := by kernel_rfl
theorem fn24_ok : (Try.prog.funcs[24]?).bind (compFn Try.prog) = some fn24 := by kernel_rfl
theorem fn22_ok : (Try.prog.funcs[22]?).bind (compFn Try.prog) = some fn22 := by kernel_rfl
theorem fn60_ok : (Try.prog.funcs[60]?).bind (compFn Try.prog) = some fn60 := by kernel_rfl
theorem fn19_ok : (Try.prog.funcs[19]?).bind (compFn Try.prog) = some fn19 := by kernel_rfl
theorem fn21_ok : (Try.prog.funcs[21]?).bind (compFn Try.prog) = some fn21 := by kernel_rfl
theorem fn27_ok : (Try.prog.funcs[27]?).bind (compFn Try.prog) = some fn27 := by kernel_rfl
theorem fn61_ok : (Try.prog.funcs[61]?).bind (compFn Try.prog) = some fn61 := by kernel_rfl
theorem fn23_ok : (Try.prog.funcs[23]?).bind (compFn Try.prog) = some fn23 := by kernel_rfl
theorem fn25_ok : (Try.prog.funcs[25]?).bind (compFn Try.prog) = some fn25 := by kernel_rfl
theorem fn5_ok : (Try.prog.funcs[5]?).bind (compFn Try.prog) = some fn5 := by kernel_rfl
theorem fn6_ok : (Try.prog.funcs[6]?).bind (compFn Try.prog) = some fn6 := by kernel_rfl
def tab : List (Nat × VFn) := [(4, fn4),(18, fn18),(20, fn20),(59, fn59),(91, fn91),(26, fn26),(24, fn24),(22, fn22),(60, fn60),(19, fn19),(21, fn21),(27, fn27),(61, fn61),(23, fn23),(25, fn25),(5, fn5),(6, fn6)]
theorem tab_ok : FnsOK Try.prog (aget tab) := FnsOK.of_tab ⟨fn4_ok,fn18_ok,fn20_ok,fn59_ok,fn91_ok,fn26_ok,fn24_ok,fn22_ok,fn60_ok,fn19_ok,fn21_ok,fn27_ok,fn61_ok,fn23_ok,fn25_ok,fn5_ok,fn6_ok, trivial⟩
end Go.Vm.Code
