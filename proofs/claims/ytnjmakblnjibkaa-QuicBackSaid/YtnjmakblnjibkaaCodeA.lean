import Derived.Test.YtnjmakblnjibkaaVmLib
import Derived.Test.YtnjmakblnjibkaaProg
import Derived.KernelRfl
import Derived.Test.YtnjmakblnjibkaaCodeAa
namespace Go.Vm.Code
open Go Go.Vm Go.Proofs
/- 44: cloakroom/cloakroomlaw14.awake -/
def k44_0 : VC := .reg [⟨(some 0), .mv (.const (.bool false)), none⟩]
def k44_1 : VC := .reg [⟨(some 9), .build [(.bool false), (.int .i64 0), (.int .i64 0)] [(1, 1, (.const (.int .i64 4))), (2, 1, (.const (.int .i64 3)))], none⟩,
    ⟨(some 10), .callF 30 [(.tmp 9), (.const (.int .i64 5)), (.const (.int .u64 9))], none⟩,
    ⟨(some 8), .mv (.tmp 10), none⟩,
    ⟨(some 11), .extract 0 (.tmp 8), none⟩,
    ⟨(some 12), .extract 1 (.tmp 8), none⟩,
    ⟨(some 1), .mv (.tmp 11), none⟩,
    ⟨(some 2), .mv (.tmp 12), none⟩]
def k44_2 : VC := .reg [⟨(some 14), .build [(.bool false), (.int .i64 0), (.int .i64 0)] [(1, 1, (.const (.int .i64 4)))], none⟩,
    ⟨(some 15), .callF 30 [(.tmp 14), (.const (.int .i64 16)), (.const (.int .u64 0))], none⟩,
    ⟨(some 13), .mv (.tmp 15), none⟩,
    ⟨(some 16), .extract 0 (.tmp 13), none⟩,
    ⟨(some 17), .extract 1 (.tmp 13), none⟩,
    ⟨(some 3), .mv (.tmp 16), none⟩,
    ⟨(some 4), .mv (.tmp 17), none⟩]
def k44_3 : VC := .reg [⟨(some 19), .build [(.bool false), (.int .i64 0), (.int .i64 0)] [(1, 1, (.const (.int .i64 4))), (2, 1, (.const (.int .i64 3)))], none⟩,
    ⟨(some 20), .callF 32 [(.tmp 19), (.const (.int .u64 21))], none⟩,
    ⟨(some 18), .mv (.tmp 20), none⟩,
    ⟨(some 21), .extract 0 (.tmp 18), none⟩,
    ⟨(some 22), .extract 1 (.tmp 18), none⟩,
    ⟨(some 23), .extract 2 (.tmp 18), none⟩,
    ⟨(some 5), .mv (.tmp 21), none⟩,
    ⟨(some 6), .mv (.tmp 22), none⟩,
    ⟨(some 7), .mv (.tmp 23), none⟩]
def k44_4 : VC := .reg [⟨(some 24), .mv (.tmp 2), none⟩,
    ⟨(some 25), .mv (.tmp 24), none⟩,
    ⟨(some 26), .mv (.tmp 1), (some (25, true))⟩,
    ⟨(some 27), .bin .eql (.tmp 26) (.const (.int .u64 21)), (some (25, true))⟩,
    ⟨(some 28), .pick (.tmp 25) (.tmp 27) (.const (.bool false)), none⟩,
    ⟨(some 29), .mv (.tmp 28), none⟩,
    ⟨(some 30), .mv (.tmp 4), (some (29, true))⟩,
    ⟨(some 31), .not (.tmp 30), (some (29, true))⟩,
    ⟨(some 32), .pick (.tmp 29) (.tmp 31) (.const (.bool false)), none⟩,
    ⟨(some 33), .mv (.tmp 32), none⟩,
    ⟨(some 34), .mv (.tmp 7), (some (33, true))⟩,
    ⟨(some 35), .pick (.tmp 33) (.tmp 34) (.const (.bool false)), none⟩,
    ⟨(some 36), .mv (.tmp 35), none⟩,
    ⟨(some 37), .mv (.tmp 5), (some (36, true))⟩,
    ⟨(some 38), .bin .eql (.tmp 37) (.const (.int .i64 5)), (some (36, true))⟩,
    ⟨(some 39), .pick (.tmp 36) (.tmp 38) (.const (.bool false)), none⟩,
    ⟨(some 40), .mv (.tmp 39), none⟩,
    ⟨(some 41), .mv (.tmp 6), (some (40, true))⟩,
    ⟨(some 42), .bin .eql (.tmp 41) (.const (.int .u64 1)), (some (40, true))⟩,
    ⟨(some 43), .pick (.tmp 40) (.tmp 42) (.const (.bool false)), none⟩,
    ⟨(some 44), .mv (.tmp 43), none⟩,
    ⟨(some 45), .build [(.bool false), (.int .i64 0), (.int .i64 0)] [(0, 1, (.const (.bool true)))], (some (44, true))⟩,
    ⟨(some 46), .callF 40 [(.tmp 45)], (some (44, true))⟩,
    ⟨(some 47), .bin .eql (.tmp 46) (.const (.int .i64 64)), (some (44, true))⟩,
    ⟨(some 48), .pick (.tmp 44) (.tmp 47) (.const (.bool false)), none⟩,
    ⟨(some 0), .mv (.tmp 48), none⟩]
def k44_5 : VC := .seq k44_4 .ret
def k44_6 : VC := .seq k44_3 k44_5
def k44_7 : VC := .seq k44_2 k44_6
def k44_8 : VC := .seq k44_1 k44_7
def k44_9 : VC := .seq k44_0 k44_8
def fn44 : VFn := ⟨49, k44_9, [.tmp 0]⟩
/- 8: cloakroom/cloakroomlaw14.CookieBack -/
def k8_0 : VC := .reg [⟨(some 8), .box (.tmp 0), none⟩,
    ⟨(some 9), .box (.tmp 1), none⟩,
    ⟨(some 10), .box (.tmp 2), none⟩,
    ⟨(some 16), .mv (.const (.bool false)), none⟩]
def k8_1 : VC := .reg [⟨(some 28), .loadN [.bool, (.int .i64), (.int .i64)] (.tmp 8), none⟩,
    ⟨(some 29), .loadN [(.int .u64), (.int .u64)] (.tmp 9), none⟩,
    ⟨(some 30), .loadN [(.int .i64), .bool, (.int .u64), (.int .u64), .bool, (.int .u64), (.int .u64), (.int .i64), (.int .i64)] (.tmp 10), none⟩,
    ⟨(some 31), .mv (.tmp 3), none⟩,
    ⟨(some 32), .mv (.tmp 4), none⟩,
    ⟨(some 33), .callF 34 [(.tmp 28), (.tmp 29), (.tmp 30), (.tmp 31), (.tmp 32)], none⟩,
    ⟨(some 27), .mv (.tmp 33), none⟩,
    ⟨(some 34), .extract 0 (.tmp 27), none⟩,
    ⟨(some 35), .extract 1 (.tmp 27), none⟩,
    ⟨(some 17), .mv (.tmp 34), none⟩,
    ⟨(some 18), .mv (.tmp 35), none⟩]
def k8_2 : VC := .reg [⟨(some 37), .loadN [.bool, (.int .i64), (.int .i64)] (.tmp 8), none⟩,
    ⟨(some 38), .loadN [(.int .u64), (.int .u64)] (.tmp 9), none⟩,
    ⟨(some 39), .loadN [(.int .i64), .bool, (.int .u64), (.int .u64), .bool, (.int .u64), (.int .u64), (.int .i64), (.int .i64)] (.tmp 10), none⟩,
    ⟨(some 40), .mv (.tmp 5), none⟩,
    ⟨(some 41), .mv (.tmp 6), none⟩,
    ⟨(some 42), .callF 34 [(.tmp 37), (.tmp 38), (.tmp 39), (.tmp 40), (.tmp 41)], none⟩,
    ⟨(some 36), .mv (.tmp 42), none⟩,
    ⟨(some 43), .extract 0 (.tmp 36), none⟩,
    ⟨(some 44), .extract 1 (.tmp 36), none⟩,
    ⟨(some 19), .mv (.tmp 43), none⟩,
    ⟨(some 20), .mv (.tmp 44), none⟩]
def k8_3 : VC := .reg [⟨(some 45), .mv (.tmp 18), none⟩,
    ⟨(some 46), .not (.tmp 45), none⟩,
    ⟨(some 47), .mv (.tmp 46), none⟩,
    ⟨(some 48), .mv (.tmp 20), (some (47, false))⟩,
    ⟨(some 49), .not (.tmp 48), (some (47, false))⟩,
    ⟨(some 50), .pick (.tmp 47) (.const (.bool true)) (.tmp 49), none⟩]
def k8_4 : VC := .reg [⟨(some 51), .mv (.tmp 18), none⟩,
    ⟨(some 52), .mv (.tmp 51), none⟩,
    ⟨(some 53), .mv (.tmp 17), (some (52, false))⟩,
    ⟨(some 54), .bin .eql (.tmp 53) (.const (.int .u64 0)), (some (52, false))⟩,
    ⟨(some 55), .pick (.tmp 52) (.const (.bool true)) (.tmp 54), none⟩,
    ⟨(some 56), .mv (.tmp 55), none⟩,
    ⟨(some 57), .mv (.tmp 20), (some (56, true))⟩,
    ⟨(some 58), .mv (.tmp 57), (some (56, true))⟩,
    ⟨(some 59), .mv (.tmp 19), (some (58, false))⟩,
    ⟨(some 60), .bin .eql (.tmp 59) (.const (.int .u64 0)), (some (58, false))⟩,
    ⟨(some 61), .pick (.tmp 58) (.const (.bool true)) (.tmp 60), (some (56, true))⟩,
    ⟨(some 62), .pick (.tmp 56) (.tmp 61) (.const (.bool false)), none⟩,
    ⟨(some 63), .mv (.tmp 62), none⟩,
    ⟨(some 64), .callF 44 [], (some (63, true))⟩,
    ⟨(some 65), .pick (.tmp 63) (.tmp 64) (.const (.bool false)), none⟩,
    ⟨(some 16), .mv (.tmp 65), none⟩]
def k8_5 : VC := .seq k8_4 .ret
def k8_6 : VC := .cond (.tmp 50) k8_5 .skip
def k8_7 : VC := .seq k8_3 k8_6
def k8_8 : VC := .reg [⟨(some 66), .loadN [.bool, (.int .i64), (.int .i64)] (.tmp 8), none⟩,
    ⟨(some 67), .callF 40 [(.tmp 66)], none⟩,
    ⟨(some 21), .mv (.tmp 67), none⟩]
def k8_9 : VC := .reg [⟨(some 68), .mv (.tmp 21), none⟩,
    ⟨(some 69), .bin .neq (.tmp 68) (.const (.int .i64 16)), none⟩,
    ⟨(some 70), .mv (.tmp 69), none⟩,
    ⟨(some 71), .mv (.tmp 21), (some (70, true))⟩,
    ⟨(some 72), .bin .neq (.tmp 71) (.const (.int .i64 64)), (some (70, true))⟩,
    ⟨(some 73), .pick (.tmp 70) (.tmp 72) (.const (.bool false)), none⟩]
def k8_10 : VC := .reg [⟨(some 16), .mv (.const (.bool false)), none⟩]
def k8_11 : VC := .seq k8_10 .ret
def k8_12 : VC := .cond (.tmp 73) k8_11 .skip
def k8_13 : VC := .seq k8_9 k8_12
def k8_14 : VC := .reg [⟨(some 74), .mv (.tmp 4), none⟩,
    ⟨(some 75), .fieldA 2 (.tmp 8), none⟩,
    ⟨(some 76), .load1 (.int .i64) (.tmp 75), none⟩,
    ⟨(some 77), .bin .shl (.const (.int .u64 1)) (.tmp 76), none⟩,
    ⟨(some 78), .bin .sub (.tmp 77) (.const (.int .u64 1)), none⟩,
    ⟨(some 79), .bin .and (.tmp 74) (.tmp 78), none⟩,
    ⟨(some 22), .mv (.tmp 79), none⟩]
def k8_15 : VC := .reg [⟨(some 81), .loadN [.bool, (.int .i64), (.int .i64)] (.tmp 8), none⟩,
    ⟨(some 82), .loadN [(.int .u64), (.int .u64)] (.tmp 9), none⟩,
    ⟨(some 83), .loadN [(.int .i64), .bool, (.int .u64), (.int .u64), .bool, (.int .u64), (.int .u64), (.int .i64), (.int .i64)] (.tmp 10), none⟩,
    ⟨(some 84), .mv (.tmp 17), none⟩,
    ⟨(some 85), .callF 36 [(.tmp 81), (.tmp 82), (.tmp 83), (.tmp 84)], none⟩,
    ⟨(some 80), .mv (.tmp 85), none⟩,
    ⟨(some 86), .extract 0 (.tmp 80), none⟩,
    ⟨(some 87), .extract 1 (.tmp 80), none⟩,
    ⟨(some 88), .extract 2 (.tmp 80), none⟩,
    ⟨(some 23), .mv (.tmp 86), none⟩,
    ⟨(some 24), .mv (.tmp 87), none⟩,
    ⟨(some 25), .mv (.tmp 88), none⟩]
def k8_16 : VC := .reg [⟨(some 89), .mv (.tmp 3), none⟩,
    ⟨(some 90), .mv (.tmp 5), none⟩,
    ⟨(some 91), .bin .eql (.tmp 89) (.tmp 90), none⟩,
    ⟨(some 92), .mv (.tmp 91), none⟩,
    ⟨(some 93), .mv (.tmp 22), (some (92, true))⟩,
    ⟨(some 94), .mv (.tmp 6), (some (92, true))⟩,
    ⟨(some 95), .fieldA 2 (.tmp 8), (some (92, true))⟩,
    ⟨(some 96), .load1 (.int .i64) (.tmp 95), (some (92, true))⟩,
    ⟨(some 97), .bin .shl (.const (.int .u64 1)) (.tmp 96), (some (92, true))⟩,
    ⟨(some 98), .bin .sub (.tmp 97) (.const (.int .u64 1)), (some (92, true))⟩,
    ⟨(some 99), .bin .and (.tmp 94) (.tmp 98), (some (92, true))⟩,
    ⟨(some 100), .bin .eql (.tmp 93) (.tmp 99), (some (92, true))⟩,
    ⟨(some 101), .pick (.tmp 92) (.tmp 100) (.const (.bool false)), none⟩,
    ⟨(some 26), .mv (.tmp 101), none⟩]
def k8_17 : VC := .regD [⟨(some 102), .mv (.tmp 25), none⟩,
    ⟨(some 103), .mv (.tmp 102), none⟩,
    ⟨(some 104), .mv (.tmp 23), (some (103, true))⟩,
    ⟨(some 105), .mv (.tmp 3), (some (103, true))⟩,
    ⟨(some 106), .bin .eql (.tmp 104) (.tmp 105), (some (103, true))⟩,
    ⟨(some 107), .pick (.tmp 103) (.tmp 106) (.const (.bool false)), none⟩,
    ⟨(some 108), .mv (.tmp 107), none⟩,
    ⟨(some 109), .mv (.tmp 24), (some (108, true))⟩,
    ⟨(some 110), .mv (.tmp 22), (some (108, true))⟩,
    ⟨(some 111), .bin .eql (.tmp 109) (.tmp 110), (some (108, true))⟩,
    ⟨(some 112), .pick (.tmp 108) (.tmp 111) (.const (.bool false)), none⟩,
    ⟨(some 113), .mv (.tmp 112), none⟩,
    ⟨(some 114), .mv (.tmp 17), (some (113, true))⟩,
    ⟨(some 115), .mv (.tmp 19), (some (113, true))⟩,
    ⟨(some 116), .bin .eql (.tmp 114) (.tmp 115), (some (113, true))⟩,
    ⟨(some 117), .mv (.tmp 26), (some (113, true))⟩,
    ⟨(some 118), .eqB false (.tmp 116) (.tmp 117), (some (113, true))⟩,
    ⟨(some 119), .pick (.tmp 113) (.tmp 118) (.const (.bool false)), none⟩,
    ⟨(some 120), .mv (.tmp 119), none⟩,
    ⟨(some 121), .mv (.tmp 21), (some (120, true))⟩,
    ⟨(some 122), .bin .eql (.tmp 121) (.const (.int .i64 64)), (some (120, true))⟩,
    ⟨(some 123), .mv (.tmp 122), (some (120, true))⟩,
    ⟨(some 124), .mv (.tmp 17), (some (123, false))⟩,
    ⟨(some 125), .bin .lss (.tmp 124) (.const (.int .u64 65536)), (some (123, false))⟩,
    ⟨(some 126), .pick (.tmp 123) (.const (.bool true)) (.tmp 125), (some (120, true))⟩,
    ⟨(some 127), .pick (.tmp 120) (.tmp 126) (.const (.bool false)), none⟩,
    ⟨(some 128), .mv (.tmp 127), none⟩,
    ⟨(some 129), .loadN [.bool, (.int .i64), (.int .i64)] (.tmp 8), (some (128, true))⟩,
    ⟨(some 130), .loadN [(.int .u64), (.int .u64)] (.tmp 9), (some (128, true))⟩,
    ⟨(some 131), .loadN [(.int .i64), .bool, (.int .u64), (.int .u64), .bool, (.int .u64), (.int .u64), (.int .i64), (.int .i64)] (.tmp 10), (some (128, true))⟩,
    ⟨(some 132), .loadN [.bool, (.int .i64), (.int .i64)] (.tmp 8), (some (128, true))⟩,
    ⟨(some 133), .loadN [(.int .u64), (.int .u64)] (.tmp 9), (some (128, true))⟩,
    ⟨(some 134), .loadN [(.int .i64), .bool, (.int .u64), (.int .u64), .bool, (.int .u64), (.int .u64), (.int .i64), (.int .i64)] (.tmp 10), (some (128, true))⟩,
    ⟨(some 135), .mv (.tmp 7), (some (128, true))⟩,
    ⟨(some 136), .callF 42 [(.tmp 132), (.tmp 133), (.tmp 134), (.tmp 135)], (some (128, true))⟩,
    ⟨(some 137), .callF 42 [(.tmp 129), (.tmp 130), (.tmp 131), (.tmp 136)], (some (128, true))⟩,
    ⟨(some 138), .mv (.tmp 7), (some (128, true))⟩,
    ⟨(some 139), .mv (.tmp 21), (some (128, true))⟩,
    ⟨(some 140), .bin .sub (.tmp 139) (.const (.int .i64 1)), (some (128, true))⟩,
    ⟨(some 141), .bin .shl (.const (.int .u64 1)) (.tmp 140), (some (128, true))⟩,
    ⟨(some 142), .bin .sub (.tmp 141) (.const (.int .u64 1)), (some (128, true))⟩,
    ⟨(some 143), .mv (.tmp 21), (some (128, true))⟩,
    ⟨(some 144), .bin .sub (.tmp 143) (.const (.int .i64 1)), (some (128, true))⟩,
    ⟨(some 145), .bin .shl (.const (.int .u64 1)) (.tmp 144), (some (128, true))⟩,
    ⟨(some 146), .bin .add (.tmp 142) (.tmp 145), (some (128, true))⟩,
    ⟨(some 147), .bin .and (.tmp 138) (.tmp 146), (some (128, true))⟩,
    ⟨(some 148), .bin .eql (.tmp 137) (.tmp 147), (some (128, true))⟩,
    ⟨(some 149), .pick (.tmp 128) (.tmp 148) (.const (.bool false)), none⟩,
    ⟨(some 150), .mv (.tmp 149), none⟩,
    ⟨(some 151), .callF 44 [], (some (150, true))⟩,
    ⟨(some 152), .pick (.tmp 150) (.tmp 151) (.const (.bool false)), none⟩,
    ⟨(some 16), .mv (.tmp 152), none⟩] [(27, 34), (28, 34), (29, 34)]
def k8_18 : VC := .seq k8_17 .ret
def k8_19 : VC := .seq k8_16 k8_18
def k8_20 : VC := .seq k8_15 k8_19
def k8_21 : VC := .seq k8_14 k8_20
def k8_22 : VC := .seq k8_13 k8_21
def k8_23 : VC := .seq k8_8 k8_22
def k8_24 : VC := .seq k8_7 k8_23
def k8_25 : VC := .seq k8_2 k8_24
def k8_26 : VC := .seq k8_1 k8_25
def k8_27 : VC := .seq k8_0 k8_26
def fn8 : VFn := ⟨153, k8_27, [.tmp 16]⟩
/- 9: cloakroom/cloakroomlaw14.CookieOnly -/
def k9_0 : VC := .reg [⟨(some 5), .box (.tmp 0), none⟩,
    ⟨(some 6), .box (.tmp 1), none⟩,
    ⟨(some 7), .box (.tmp 2), none⟩,
    ⟨(some 10), .mv (.const (.bool false)), none⟩]
def k9_1 : VC := .reg [⟨(some 20), .loadN [.bool, (.int .i64), (.int .i64)] (.tmp 5), none⟩,
    ⟨(some 21), .loadN [(.int .u64), (.int .u64)] (.tmp 6), none⟩,
    ⟨(some 22), .loadN [(.int .i64), .bool, (.int .u64), (.int .u64), .bool, (.int .u64), (.int .u64), (.int .i64), (.int .i64)] (.tmp 7), none⟩,
    ⟨(some 23), .mv (.tmp 3), none⟩,
    ⟨(some 24), .callF 36 [(.tmp 20), (.tmp 21), (.tmp 22), (.tmp 23)], none⟩,
    ⟨(some 19), .mv (.tmp 24), none⟩,
    ⟨(some 25), .extract 0 (.tmp 19), none⟩,
    ⟨(some 26), .extract 1 (.tmp 19), none⟩,
    ⟨(some 27), .extract 2 (.tmp 19), none⟩,
    ⟨(some 11), .mv (.tmp 25), none⟩,
    ⟨(some 12), .mv (.tmp 26), none⟩,
    ⟨(some 13), .mv (.tmp 27), none⟩]
def k9_2 : VC := .reg [⟨(some 29), .loadN [.bool, (.int .i64), (.int .i64)] (.tmp 5), none⟩,
    ⟨(some 30), .loadN [(.int .u64), (.int .u64)] (.tmp 6), none⟩,
    ⟨(some 31), .loadN [(.int .i64), .bool, (.int .u64), (.int .u64), .bool, (.int .u64), (.int .u64), (.int .i64), (.int .i64)] (.tmp 7), none⟩,
    ⟨(some 32), .mv (.tmp 4), none⟩,
    ⟨(some 33), .callF 36 [(.tmp 29), (.tmp 30), (.tmp 31), (.tmp 32)], none⟩,
    ⟨(some 28), .mv (.tmp 33), none⟩,
    ⟨(some 34), .extract 0 (.tmp 28), none⟩,
    ⟨(some 35), .extract 1 (.tmp 28), none⟩,
    ⟨(some 36), .extract 2 (.tmp 28), none⟩,
    ⟨(some 14), .mv (.tmp 34), none⟩,
    ⟨(some 15), .mv (.tmp 35), none⟩,
    ⟨(some 16), .mv (.tmp 36), none⟩]
def k9_3 : VC := .reg [⟨(some 37), .mv (.tmp 13), none⟩,
    ⟨(some 38), .not (.tmp 37), none⟩]
def k9_4 : VC := .reg [⟨(some 39), .mv (.tmp 11), none⟩,
    ⟨(some 40), .bin .eql (.tmp 39) (.const (.int .i64 0)), none⟩,
    ⟨(some 41), .mv (.tmp 40), none⟩,
    ⟨(some 42), .mv (.tmp 12), (some (41, true))⟩,
    ⟨(some 43), .bin .eql (.tmp 42) (.const (.int .u64 0)), (some (41, true))⟩,
    ⟨(some 44), .pick (.tmp 41) (.tmp 43) (.const (.bool false)), none⟩,
    ⟨(some 45), .mv (.tmp 44), none⟩,
    ⟨(some 46), .callF 44 [], (some (45, true))⟩,
    ⟨(some 47), .pick (.tmp 45) (.tmp 46) (.const (.bool false)), none⟩,
    ⟨(some 10), .mv (.tmp 47), none⟩]
def k9_5 : VC := .seq k9_4 .ret
def k9_6 : VC := .cond (.tmp 38) k9_5 .skip
def k9_7 : VC := .seq k9_3 k9_6
def k9_8 : VC := .reg [⟨(some 49), .loadN [.bool, (.int .i64), (.int .i64)] (.tmp 5), none⟩,
    ⟨(some 50), .loadN [(.int .u64), (.int .u64)] (.tmp 6), none⟩,
    ⟨(some 51), .loadN [(.int .i64), .bool, (.int .u64), (.int .u64), .bool, (.int .u64), (.int .u64), (.int .i64), (.int .i64)] (.tmp 7), none⟩,
    ⟨(some 52), .mv (.tmp 11), none⟩,
    ⟨(some 53), .mv (.tmp 12), none⟩,
    ⟨(some 54), .callF 34 [(.tmp 49), (.tmp 50), (.tmp 51), (.tmp 52), (.tmp 53)], none⟩,
    ⟨(some 48), .mv (.tmp 54), none⟩,
    ⟨(some 55), .extract 0 (.tmp 48), none⟩,
    ⟨(some 56), .extract 1 (.tmp 48), none⟩,
    ⟨(some 17), .mv (.tmp 55), none⟩,
    ⟨(some 18), .mv (.tmp 56), none⟩]
def k9_9 : VC := .reg [⟨(some 57), .mv (.tmp 18), none⟩,
    ⟨(some 58), .mv (.tmp 57), none⟩,
    ⟨(some 59), .mv (.tmp 17), (some (58, true))⟩,
    ⟨(some 60), .mv (.tmp 3), (some (58, true))⟩,
    ⟨(some 61), .bin .eql (.tmp 59) (.tmp 60), (some (58, true))⟩,
    ⟨(some 62), .pick (.tmp 58) (.tmp 61) (.const (.bool false)), none⟩,
    ⟨(some 63), .mv (.tmp 62), none⟩,
    ⟨(some 64), .mv (.tmp 16), (some (63, true))⟩,
    ⟨(some 65), .not (.tmp 64), (some (63, true))⟩,
    ⟨(some 66), .mv (.tmp 65), (some (63, true))⟩,
    ⟨(some 67), .mv (.tmp 11), (some (66, false))⟩,
    ⟨(some 68), .mv (.tmp 14), (some (66, false))⟩,
    ⟨(some 69), .bin .eql (.tmp 67) (.tmp 68), (some (66, false))⟩,
    ⟨(some 70), .mv (.tmp 69), (some (66, false))⟩,
    ⟨(some 71), .mv (.tmp 12), (some (70, true))⟩,
    ⟨(some 72), .mv (.tmp 15), (some (70, true))⟩,
    ⟨(some 73), .bin .eql (.tmp 71) (.tmp 72), (some (70, true))⟩,
    ⟨(some 74), .pick (.tmp 70) (.tmp 73) (.const (.bool false)), (some (66, false))⟩,
    ⟨(some 75), .mv (.tmp 3), (some (66, false))⟩,
    ⟨(some 76), .mv (.tmp 4), (some (66, false))⟩,
    ⟨(some 77), .bin .eql (.tmp 75) (.tmp 76), (some (66, false))⟩,
    ⟨(some 78), .eqB false (.tmp 74) (.tmp 77), (some (66, false))⟩,
    ⟨(some 79), .pick (.tmp 66) (.const (.bool true)) (.tmp 78), (some (63, true))⟩,
    ⟨(some 80), .pick (.tmp 63) (.tmp 79) (.const (.bool false)), none⟩,
    ⟨(some 81), .mv (.tmp 80), none⟩,
    ⟨(some 82), .callF 44 [], (some (81, true))⟩,
    ⟨(some 83), .pick (.tmp 81) (.tmp 82) (.const (.bool false)), none⟩,
    ⟨(some 10), .mv (.tmp 83), none⟩]
def k9_10 : VC := .seq k9_9 .ret
def k9_11 : VC := .seq k9_8 k9_10
def k9_12 : VC := .seq k9_7 k9_11
def k9_13 : VC := .seq k9_2 k9_12
def k9_14 : VC := .seq k9_1 k9_13
def k9_15 : VC := .seq k9_0 k9_14
def fn9 : VFn := ⟨84, k9_15, [.tmp 10]⟩
/- 10: cloakroom/cloakroomlaw50.SketchGuesses -/
def k10_0 : VC := .reg [⟨(some 9), .box (.tmp 2), none⟩,
    ⟨(some 14), .mv (.const (.bool false)), none⟩]
def k10_1 : VC := .reg [⟨(some 22), .mv (.tmp 3), none⟩,
    ⟨(some 23), .callF 45 [(.tmp 22)], none⟩,
    ⟨(some 24), .not (.tmp 23), none⟩,
    ⟨(some 25), .mv (.tmp 24), none⟩,
    ⟨(some 26), .mv (.tmp 4), (some (25, false))⟩,
    ⟨(some 27), .callF 45 [(.tmp 26)], (some (25, false))⟩,
    ⟨(some 28), .not (.tmp 27), (some (25, false))⟩,
    ⟨(some 29), .pick (.tmp 25) (.const (.bool true)) (.tmp 28), none⟩,
    ⟨(some 30), .mv (.tmp 29), none⟩,
    ⟨(some 31), .mv (.tmp 5), (some (30, false))⟩,
    ⟨(some 32), .lenS (.tmp 31), (some (30, false))⟩,
    ⟨(some 33), .bin .gtr (.tmp 32) (.const (.int .i64 20)), (some (30, false))⟩,
    ⟨(some 34), .pick (.tmp 30) (.const (.bool true)) (.tmp 33), none⟩]
def k10_2 : VC := .reg [⟨(some 35), .callF 46 [], none⟩,
    ⟨(some 14), .mv (.tmp 35), none⟩]
def k10_3 : VC := .seq k10_2 .ret
def k10_4 : VC := .cond (.tmp 34) k10_3 .skip
def k10_5 : VC := .seq k10_1 k10_4
def k10_6 : VC := .regD [⟨(some 36), .mv (.tmp 0), none⟩,
    ⟨(some 37), .mv (.tmp 1), none⟩,
    ⟨(some 38), .loadN [(.int .u64), (.int .u64)] (.tmp 9), none⟩,
    ⟨(some 39), .callF 47 [(.tmp 36), (.tmp 37), (.tmp 38)], none⟩,
    ⟨(some 40), .mv (.tmp 0), none⟩,
    ⟨(some 41), .mv (.tmp 1), none⟩,
    ⟨(some 42), .loadN [(.int .u64), (.int .u64)] (.tmp 9), none⟩,
    ⟨(some 43), .callF 47 [(.tmp 40), (.tmp 41), (.tmp 42)], none⟩,
    ⟨(some 15), .mv (.tmp 39), none⟩,
    ⟨(some 16), .mv (.tmp 43), none⟩] [(3, 6)]
def k10_7 : VC := .reg [⟨(some 44), .mv (.tmp 15), none⟩,
    ⟨(some 45), .isNil 0 false (.tmp 44), none⟩,
    ⟨(some 46), .mv (.tmp 0), none⟩,
    ⟨(some 47), .mv (.tmp 1), none⟩,
    ⟨(some 48), .callF 48 [(.tmp 46), (.tmp 47)], none⟩,
    ⟨(some 49), .eqB false (.tmp 45) (.tmp 48), none⟩]
def k10_8 : VC := .reg [⟨(some 14), .mv (.const (.bool false)), none⟩]
def k10_9 : VC := .seq k10_8 .ret
def k10_10 : VC := .cond (.tmp 49) k10_9 .skip
def k10_11 : VC := .seq k10_7 k10_10
def k10_12 : VC := .reg [⟨(some 50), .mv (.tmp 15), none⟩,
    ⟨(some 51), .isNil 0 false (.tmp 50), none⟩]
def k10_13 : VC := .reg [⟨(some 52), .callF 46 [], none⟩,
    ⟨(some 14), .mv (.tmp 52), none⟩]
def k10_14 : VC := .seq k10_13 .ret
def k10_15 : VC := .cond (.tmp 51) k10_14 .skip
def k10_16 : VC := .seq k10_12 k10_15
def k10_17 : VC := .reg [⟨(some 17), .mv (.const (.int .i64 0)), none⟩]
def k10_18 : VC := .reg [⟨(some 53), .mv (.tmp 17), none⟩,
    ⟨(some 54), .mv (.tmp 3), none⟩,
    ⟨(some 55), .lenL (.tmp 54), none⟩,
    ⟨(some 56), .bin .lss (.tmp 53) (.tmp 55), none⟩]
def k10_19 : VC := .cond (.tmp 56) .skip (.exit 0)
def k10_20 : VC := .seq k10_18 k10_19
def k10_21 : VC := .regD [⟨(some 59), .mv (.tmp 15), none⟩,
    ⟨(some 60), .mv (.tmp 3), none⟩,
    ⟨(some 61), .mv (.tmp 17), none⟩,
    ⟨(some 62), .idxAL 2 (.tmp 60) (.tmp 61), none⟩,
    ⟨(some 63), .fieldA 0 (.tmp 62), none⟩,
    ⟨(some 64), .load1 .str (.tmp 63), none⟩,
    ⟨(some 65), .mv (.tmp 3), none⟩,
    ⟨(some 66), .mv (.tmp 17), none⟩,
    ⟨(some 67), .idxAL 2 (.tmp 65) (.tmp 66), none⟩,
    ⟨(some 68), .fieldA 1 (.tmp 67), none⟩,
    ⟨(some 69), .load1 (.int .i64) (.tmp 68), none⟩,
    ⟨(some 70), .callF 49 [(.tmp 59), (.tmp 64), (.tmp 69)], none⟩,
    ⟨(some 71), .mv (.tmp 3), none⟩,
    ⟨(some 72), .mv (.tmp 17), none⟩,
    ⟨(some 73), .idxAL 2 (.tmp 71) (.tmp 72), none⟩,
    ⟨(some 74), .loadN [.str, (.int .i64)] (.tmp 73), none⟩,
    ⟨(some 75), .callF 50 [(.tmp 74)], none⟩,
    ⟨(some 76), .eqB true (.tmp 70) (.tmp 75), none⟩] [(11, 15)]
def k10_22 : VC := .reg [⟨(some 14), .mv (.const (.bool false)), none⟩]
def k10_23 : VC := .seq k10_22 .ret
def k10_24 : VC := .cond (.tmp 76) k10_23 .skip
def k10_25 : VC := .seq k10_21 k10_24
def k10_26 : VC := .block 1 k10_25
def k10_27 : VC := .reg [⟨(some 57), .mv (.tmp 17), none⟩,
    ⟨(some 58), .bin .add (.tmp 57) (.const (.int .i64 1)), none⟩,
    ⟨(some 17), .mv (.tmp 58), none⟩]
def k10_28 : VC := .seq k10_26 k10_27
def k10_29 : VC := .seq k10_20 k10_28
def k10_30 : VC := .loop k10_29
def k10_31 : VC := .block 0 k10_30
def k10_32 : VC := .seq k10_17 k10_31
def k10_33 : VC := .reg [⟨(some 18), .mv (.const (.int .i64 0)), none⟩]
def k10_34 : VC := .reg [⟨(some 77), .mv (.tmp 18), none⟩,
    ⟨(some 78), .mv (.tmp 4), none⟩,
    ⟨(some 79), .lenL (.tmp 78), none⟩,
    ⟨(some 80), .bin .lss (.tmp 77) (.tmp 79), none⟩]
def k10_35 : VC := .cond (.tmp 80) .skip (.exit 2)
def k10_36 : VC := .seq k10_34 k10_35
def k10_37 : VC := .regD [⟨(some 83), .mv (.tmp 16), none⟩,
    ⟨(some 84), .mv (.tmp 4), none⟩,
    ⟨(some 85), .mv (.tmp 18), none⟩,
    ⟨(some 86), .idxAL 2 (.tmp 84) (.tmp 85), none⟩,
    ⟨(some 87), .fieldA 0 (.tmp 86), none⟩,
    ⟨(some 88), .load1 .str (.tmp 87), none⟩,
    ⟨(some 89), .mv (.tmp 4), none⟩,
    ⟨(some 90), .mv (.tmp 18), none⟩,
    ⟨(some 91), .idxAL 2 (.tmp 89) (.tmp 90), none⟩,
    ⟨(some 92), .fieldA 1 (.tmp 91), none⟩,
    ⟨(some 93), .load1 (.int .i64) (.tmp 92), none⟩,
    ⟨(some 94), .callF 49 [(.tmp 83), (.tmp 88), (.tmp 93)], none⟩] []
def k10_38 : VC := .block 3 k10_37
def k10_39 : VC := .reg [⟨(some 81), .mv (.tmp 18), none⟩,
    ⟨(some 82), .bin .add (.tmp 81) (.const (.int .i64 1)), none⟩,
    ⟨(some 18), .mv (.tmp 82), none⟩]
def k10_40 : VC := .seq k10_38 k10_39
def k10_41 : VC := .seq k10_36 k10_40
def k10_42 : VC := .loop k10_41
def k10_43 : VC := .block 2 k10_42
def k10_44 : VC := .seq k10_33 k10_43
def k10_45 : VC := .reg [⟨(some 95), .mv (.tmp 0), none⟩,
    ⟨(some 96), .mv (.tmp 1), none⟩,
    ⟨(some 97), .fieldA 0 (.tmp 9), none⟩,
    ⟨(some 98), .load1 (.int .u64) (.tmp 97), none⟩,
    ⟨(some 99), .fieldA 1 (.tmp 9), none⟩,
    ⟨(some 100), .load1 (.int .u64) (.tmp 99), none⟩,
    ⟨(some 101), .bin .add (.tmp 100) (.const (.int .u64 1)), none⟩,
    ⟨(some 102), .build [(.int .u64 0), (.int .u64 0)] [(0, 1, (.tmp 98)), (1, 1, (.tmp 101))], none⟩,
    ⟨(some 103), .callF 47 [(.tmp 95), (.tmp 96), (.tmp 102)], none⟩,
    ⟨(some 19), .mv (.tmp 103), none⟩]
def k10_46 : VC := .reg [⟨(some 104), .mv (.tmp 15), none⟩,
    ⟨(some 105), .mv (.tmp 16), none⟩,
    ⟨(some 106), .callF 51 [(.tmp 104), (.tmp 105)], none⟩,
    ⟨(some 107), .not (.tmp 106), none⟩,
    ⟨(some 108), .mv (.tmp 107), none⟩,
    ⟨(some 109), .mv (.tmp 15), (some (108, false))⟩,
    ⟨(some 110), .mv (.tmp 19), (some (108, false))⟩,
    ⟨(some 111), .callF 51 [(.tmp 109), (.tmp 110)], (some (108, false))⟩,
    ⟨(some 112), .pick (.tmp 108) (.const (.bool true)) (.tmp 111), none⟩]
def k10_47 : VC := .reg [⟨(some 14), .mv (.const (.bool false)), none⟩]
def k10_48 : VC := .seq k10_47 .ret
def k10_49 : VC := .cond (.tmp 112) k10_48 .skip
def k10_50 : VC := .seq k10_46 k10_49
def k10_51 : VC := .reg [⟨(some 20), .mv (.const (.slice none 0 0)), none⟩]
def k10_52 : VC := .reg [⟨(some 113), .mv (.tmp 20), none⟩,
    ⟨(some 114), .mv (.tmp 3), none⟩,
    ⟨(some 115), .app 2 24 (.tmp 113) (.tmp 114), none⟩,
    ⟨(some 20), .mv (.tmp 115), none⟩]
def k10_53 : VC := .reg [⟨(some 116), .mv (.tmp 20), none⟩,
    ⟨(some 117), .mv (.tmp 4), none⟩,
    ⟨(some 118), .app 2 24 (.tmp 116) (.tmp 117), none⟩,
    ⟨(some 20), .mv (.tmp 118), none⟩]
def k10_54 : VC := .reg [⟨(some 21), .mv (.const (.int .i64 (-1))), none⟩]
def k10_55 : VC := .reg [⟨(some 119), .mv (.tmp 6), none⟩,
    ⟨(some 120), .bin .geq (.tmp 119) (.const (.int .i64 0)), none⟩,
    ⟨(some 121), .mv (.tmp 120), none⟩,
    ⟨(some 122), .mv (.tmp 6), (some (121, true))⟩,
    ⟨(some 123), .mv (.tmp 0), (some (121, true))⟩,
    ⟨(some 124), .bin .lss (.tmp 122) (.tmp 123), (some (121, true))⟩,
    ⟨(some 125), .pick (.tmp 121) (.tmp 124) (.const (.bool false)), none⟩]
def k10_56 : VC := .reg [⟨(some 126), .loadN [(.int .u64), (.int .u64)] (.tmp 9), none⟩,
    ⟨(some 127), .mv (.tmp 6), none⟩,
    ⟨(some 128), .mv (.tmp 1), none⟩,
    ⟨(some 129), .mv (.tmp 5), none⟩,
    ⟨(some 130), .callF 52 [(.tmp 126), (.tmp 127), (.tmp 128), (.tmp 129)], none⟩,
    ⟨(some 21), .mv (.tmp 130), none⟩]
def k10_57 : VC := .cond (.tmp 125) k10_56 .skip
def k10_58 : VC := .seq k10_55 k10_57
def k10_59 : VC := .regD [⟨(some 131), .mv (.tmp 15), none⟩,
    ⟨(some 132), .mv (.tmp 5), none⟩,
    ⟨(some 133), .callF 53 [(.tmp 131), (.tmp 132)], none⟩,
    ⟨(some 134), .loadN [(.int .u64), (.int .u64)] (.tmp 9), none⟩,
    ⟨(some 135), .mv (.tmp 0), none⟩,
    ⟨(some 136), .mv (.tmp 1), none⟩,
    ⟨(some 137), .mv (.tmp 20), none⟩,
    ⟨(some 138), .mv (.tmp 5), none⟩,
    ⟨(some 139), .callF 54 [(.tmp 134), (.tmp 135), (.tmp 136), (.tmp 137), (.tmp 138)], none⟩,
    ⟨(some 140), .bin .eql (.tmp 133) (.tmp 139), none⟩,
    ⟨(some 141), .mv (.tmp 140), none⟩,
    ⟨(some 142), .mv (.tmp 15), (some (141, true))⟩,
    ⟨(some 143), .callF 55 [(.tmp 142)], (some (141, true))⟩,
    ⟨(some 144), .mv (.tmp 20), (some (141, true))⟩,
    ⟨(some 145), .callF 56 [(.tmp 144)], (some (141, true))⟩,
    ⟨(some 146), .bin .eql (.tmp 143) (.tmp 145), (some (141, true))⟩,
    ⟨(some 147), .pick (.tmp 141) (.tmp 146) (.const (.bool false)), none⟩,
    ⟨(some 148), .mv (.tmp 147), none⟩,
    ⟨(some 149), .mv (.tmp 15), (some (148, true))⟩,
    ⟨(some 150), .mv (.tmp 6), (some (148, true))⟩,
    ⟨(some 151), .mv (.tmp 5), (some (148, true))⟩,
    ⟨(some 152), .callF 57 [(.tmp 149), (.tmp 150), (.tmp 151)], (some (148, true))⟩,
    ⟨(some 153), .mv (.tmp 21), (some (148, true))⟩,
    ⟨(some 154), .bin .eql (.tmp 152) (.tmp 153), (some (148, true))⟩,
    ⟨(some 155), .pick (.tmp 148) (.tmp 154) (.const (.bool false)), none⟩,
    ⟨(some 156), .mv (.tmp 155), none⟩,
    ⟨(some 157), .callF 46 [], (some (156, true))⟩,
    ⟨(some 158), .pick (.tmp 156) (.tmp 157) (.const (.bool false)), none⟩,
    ⟨(some 14), .mv (.tmp 158), none⟩] [(2, 3)]
def k10_60 : VC := .seq k10_59 .ret
def k10_61 : VC := .seq k10_58 k10_60
def k10_62 : VC := .seq k10_54 k10_61
def k10_63 : VC := .seq k10_53 k10_62
def k10_64 : VC := .seq k10_52 k10_63
def k10_65 : VC := .seq k10_51 k10_64
def k10_66 : VC := .seq k10_50 k10_65
def k10_67 : VC := .seq k10_45 k10_66
def k10_68 : VC := .seq k10_44 k10_67
def k10_69 : VC := .seq k10_32 k10_68
def k10_70 : VC := .seq k10_16 k10_69
def k10_71 : VC := .seq k10_11 k10_70
def k10_72 : VC := .seq k10_6 k10_71
def k10_73 : VC := .seq k10_5 k10_72
def k10_74 : VC := .seq k10_0 k10_73
def fn10 : VFn := ⟨159, k10_74, [.tmp 14]⟩
/- 45: cloakroom/cloakroomlaw50.few -/
def k45_0 : VC := .reg [⟨(some 2), .mv (.const (.bool false)), none⟩]
def k45_1 : VC := .reg [⟨(some 3), .mv (.const (.int .i64 0)), none⟩]
def k45_2 : VC := .reg [⟨(some 4), .mv (.tmp 3), none⟩,
    ⟨(some 5), .mv (.tmp 0), none⟩,
    ⟨(some 6), .lenL (.tmp 5), none⟩,
    ⟨(some 7), .bin .lss (.tmp 4) (.tmp 6), none⟩,
    ⟨(some 8), .mv (.tmp 7), none⟩,
    ⟨(some 9), .mv (.tmp 3), (some (8, true))⟩,
    ⟨(some 10), .bin .lss (.tmp 9) (.const (.int .i64 30)), (some (8, true))⟩,
    ⟨(some 11), .pick (.tmp 8) (.tmp 10) (.const (.bool false)), none⟩]
def k45_3 : VC := .cond (.tmp 11) .skip (.exit 0)
def k45_4 : VC := .seq k45_2 k45_3
def k45_5 : VC := .reg [⟨(some 14), .mv (.tmp 0), none⟩,
    ⟨(some 15), .mv (.tmp 3), none⟩,
    ⟨(some 16), .idxAL 2 (.tmp 14) (.tmp 15), none⟩,
    ⟨(some 17), .fieldA 0 (.tmp 16), none⟩,
    ⟨(some 18), .load1 .str (.tmp 17), none⟩,
    ⟨(some 19), .lenS (.tmp 18), none⟩,
    ⟨(some 20), .bin .gtr (.tmp 19) (.const (.int .i64 20)), none⟩]
def k45_6 : VC := .reg [⟨(some 2), .mv (.const (.bool false)), none⟩]
def k45_7 : VC := .seq k45_6 .ret
def k45_8 : VC := .cond (.tmp 20) k45_7 .skip
def k45_9 : VC := .seq k45_5 k45_8
def k45_10 : VC := .block 1 k45_9
def k45_11 : VC := .reg [⟨(some 12), .mv (.tmp 3), none⟩,
    ⟨(some 13), .bin .add (.tmp 12) (.const (.int .i64 1)), none⟩,
    ⟨(some 3), .mv (.tmp 13), none⟩]
def k45_12 : VC := .seq k45_10 k45_11
def k45_13 : VC := .seq k45_4 k45_12
def k45_14 : VC := .loop k45_13
def k45_15 : VC := .block 0 k45_14
def k45_16 : VC := .seq k45_1 k45_15
def k45_17 : VC := .reg [⟨(some 21), .mv (.tmp 0), none⟩,
    ⟨(some 22), .lenL (.tmp 21), none⟩,
    ⟨(some 23), .bin .leq (.tmp 22) (.const (.int .i64 30)), none⟩,
    ⟨(some 2), .mv (.tmp 23), none⟩]
def k45_18 : VC := .seq k45_17 .ret
def k45_19 : VC := .seq k45_16 k45_18
def k45_20 : VC := .seq k45_0 k45_19
def fn45 : VFn := ⟨24, k45_20, [.tmp 2]⟩
/- 46: cloakroom/cloakroomlaw50.awake -/
def k46_0 : VC := .reg [⟨(some 0), .mv (.const (.bool false)), none⟩]
def k46_1 : VC := .reg [⟨(some 6), .build [(.int .u64 0), (.int .u64 0)] [(0, 1, (.const (.int .u64 1)))], none⟩,
    ⟨(some 7), .callF 47 [(.const (.int .i64 2)), (.const (.int .i64 10)), (.tmp 6)], none⟩,
    ⟨(some 1), .mv (.tmp 7), none⟩]
def k46_2 : VC := .reg [⟨(some 8), .mv (.tmp 1), none⟩,
    ⟨(some 9), .callF 49 [(.tmp 8), (.const (.string ⟨⟨[97]⟩⟩)), (.const (.int .i64 3))], none⟩,
    ⟨(some 10), .mv (.tmp 9), none⟩,
    ⟨(some 11), .mv (.tmp 1), (some (10, true))⟩,
    ⟨(some 12), .callF 49 [(.tmp 11), (.const (.string ⟨⟨[98]⟩⟩)), (.const (.int .i64 4))], (some (10, true))⟩,
    ⟨(some 13), .pick (.tmp 10) (.tmp 12) (.const (.bool false)), none⟩,
    ⟨(some 14), .mv (.tmp 13), none⟩,
    ⟨(some 15), .mv (.tmp 1), (some (14, true))⟩,
    ⟨(some 16), .callF 49 [(.tmp 15), (.const (.string ⟨⟨[97]⟩⟩)), (.const (.int .i64 (-1)))], (some (14, true))⟩,
    ⟨(some 17), .not (.tmp 16), (some (14, true))⟩,
    ⟨(some 18), .pick (.tmp 14) (.tmp 17) (.const (.bool false)), none⟩,
    ⟨(some 2), .mv (.tmp 18), none⟩]
def k46_3 : VC := .reg [⟨(some 19), .mv (.tmp 1), none⟩,
    ⟨(some 20), .callF 53 [(.tmp 19), (.const (.string ⟨⟨[97]⟩⟩))], none⟩,
    ⟨(some 3), .mv (.tmp 20), none⟩]
def k46_4 : VC := .reg [⟨(some 4), .mv (.const (.pointer none)), none⟩]
def k46_5 : VC := .reg [⟨(some 21), .build [(.int .u64 0), (.int .u64 0), (.slice none 0 0), (.int .i64 0)] [], none⟩,
    ⟨(some 22), .box (.tmp 21), none⟩,
    ⟨(some 5), .mv (.tmp 22), none⟩]
def k46_6 : VC := .reg [⟨(some 23), .mv (.tmp 2), none⟩,
    ⟨(some 24), .mv (.tmp 23), none⟩,
    ⟨(some 25), .mv (.tmp 3), (some (24, true))⟩,
    ⟨(some 26), .bin .eql (.tmp 25) (.const (.int .i64 3)), (some (24, true))⟩,
    ⟨(some 27), .mv (.tmp 26), (some (24, true))⟩,
    ⟨(some 28), .mv (.tmp 3), (some (27, false))⟩,
    ⟨(some 29), .bin .eql (.tmp 28) (.const (.int .i64 7)), (some (27, false))⟩,
    ⟨(some 30), .pick (.tmp 27) (.const (.bool true)) (.tmp 29), (some (24, true))⟩,
    ⟨(some 31), .pick (.tmp 24) (.tmp 30) (.const (.bool false)), none⟩,
    ⟨(some 32), .mv (.tmp 31), none⟩,
    ⟨(some 33), .mv (.tmp 1), (some (32, true))⟩,
    ⟨(some 34), .callF 55 [(.tmp 33)], (some (32, true))⟩,
    ⟨(some 35), .bin .eql (.tmp 34) (.const (.int .i64 7)), (some (32, true))⟩,
    ⟨(some 36), .pick (.tmp 32) (.tmp 35) (.const (.bool false)), none⟩,
    ⟨(some 37), .mv (.tmp 36), none⟩,
    ⟨(some 38), .mv (.tmp 4), (some (37, true))⟩,
    ⟨(some 39), .callF 49 [(.tmp 38), (.const (.string ⟨⟨[97]⟩⟩)), (.const (.int .i64 1))], (some (37, true))⟩,
    ⟨(some 40), .not (.tmp 39), (some (37, true))⟩,
    ⟨(some 41), .pick (.tmp 37) (.tmp 40) (.const (.bool false)), none⟩,
    ⟨(some 42), .mv (.tmp 41), none⟩,
    ⟨(some 43), .mv (.tmp 5), (some (42, true))⟩,
    ⟨(some 44), .callF 49 [(.tmp 43), (.const (.string ⟨⟨[97]⟩⟩)), (.const (.int .i64 1))], (some (42, true))⟩,
    ⟨(some 45), .not (.tmp 44), (some (42, true))⟩,
    ⟨(some 46), .pick (.tmp 42) (.tmp 45) (.const (.bool false)), none⟩,
    ⟨(some 47), .mv (.tmp 46), none⟩,
    ⟨(some 48), .mv (.tmp 4), (some (47, true))⟩,
    ⟨(some 49), .callF 53 [(.tmp 48), (.const (.string ⟨⟨[97]⟩⟩))], (some (47, true))⟩,
    ⟨(some 50), .mv (.tmp 5), (some (47, true))⟩,
    ⟨(some 51), .callF 55 [(.tmp 50)], (some (47, true))⟩,
    ⟨(some 52), .bin .add (.tmp 49) (.tmp 51), (some (47, true))⟩,
    ⟨(some 53), .bin .eql (.tmp 52) (.const (.int .i64 0)), (some (47, true))⟩,
    ⟨(some 54), .pick (.tmp 47) (.tmp 53) (.const (.bool false)), none⟩,
    ⟨(some 55), .mv (.tmp 54), none⟩,
    ⟨(some 56), .mv (.tmp 4), (some (55, true))⟩,
    ⟨(some 57), .callF 57 [(.tmp 56), (.const (.int .i64 0)), (.const (.string ⟨⟨[97]⟩⟩))], (some (55, true))⟩,
    ⟨(some 58), .bin .eql (.tmp 57) (.const (.int .i64 (-1))), (some (55, true))⟩,
    ⟨(some 59), .pick (.tmp 55) (.tmp 58) (.const (.bool false)), none⟩,
    ⟨(some 60), .mv (.tmp 59), none⟩,
    ⟨(some 61), .mv (.tmp 5), (some (60, true))⟩,
    ⟨(some 62), .mv (.tmp 5), (some (60, true))⟩,
    ⟨(some 63), .callF 51 [(.tmp 61), (.tmp 62)], (some (60, true))⟩,
    ⟨(some 64), .not (.tmp 63), (some (60, true))⟩,
    ⟨(some 65), .pick (.tmp 60) (.tmp 64) (.const (.bool false)), none⟩,
    ⟨(some 66), .mv (.tmp 65), none⟩,
    ⟨(some 67), .build [(.int .u64 0), (.int .u64 0)] [], (some (66, true))⟩,
    ⟨(some 68), .callF 47 [(.const (.int .i64 0)), (.const (.int .i64 1)), (.tmp 67)], (some (66, true))⟩,
    ⟨(some 69), .isNil 0 false (.tmp 68), (some (66, true))⟩,
    ⟨(some 70), .pick (.tmp 66) (.tmp 69) (.const (.bool false)), none⟩,
    ⟨(some 0), .mv (.tmp 70), none⟩]
def k46_7 : VC := .seq k46_6 .ret
def k46_8 : VC := .seq k46_5 k46_7
def k46_9 : VC := .seq k46_4 k46_8
def k46_10 : VC := .seq k46_3 k46_9
def k46_11 : VC := .seq k46_2 k46_10
def k46_12 : VC := .seq k46_1 k46_11
def k46_13 : VC := .seq k46_0 k46_12
def fn46 : VFn := ⟨71, k46_13, [.tmp 0]⟩
/- 47: cloakroom/sketch.New -/
def k47_0 : VC := .reg [⟨(some 5), .box (.tmp 2), none⟩,
    ⟨(some 6), .mv (.const (.pointer none)), none⟩]
def k47_1 : VC := .reg [⟨(some 8), .mv (.tmp 0), none⟩,
    ⟨(some 9), .bin .lss (.tmp 8) (.const (.int .i64 1)), none⟩,
    ⟨(some 10), .mv (.tmp 9), none⟩,
    ⟨(some 11), .mv (.tmp 0), (some (10, false))⟩,
    ⟨(some 12), .bin .gtr (.tmp 11) (.const (.int .i64 8)), (some (10, false))⟩,
    ⟨(some 13), .pick (.tmp 10) (.const (.bool true)) (.tmp 12), none⟩,
    ⟨(some 14), .mv (.tmp 13), none⟩,
    ⟨(some 15), .mv (.tmp 1), (some (14, false))⟩,
    ⟨(some 16), .bin .lss (.tmp 15) (.const (.int .i64 1)), (some (14, false))⟩,
    ⟨(some 17), .pick (.tmp 14) (.const (.bool true)) (.tmp 16), none⟩,
    ⟨(some 18), .mv (.tmp 17), none⟩,
    ⟨(some 19), .mv (.tmp 1), (some (18, false))⟩,
    ⟨(some 20), .bin .gtr (.tmp 19) (.const (.int .i64 4096)), (some (18, false))⟩,
    ⟨(some 21), .pick (.tmp 18) (.const (.bool true)) (.tmp 20), none⟩]
def k47_2 : VC := .reg [⟨(some 6), .mv (.const (.pointer none)), none⟩]
def k47_3 : VC := .seq k47_2 .ret
def k47_4 : VC := .cond (.tmp 21) k47_3 .skip
def k47_5 : VC := .seq k47_1 k47_4
def k47_6 : VC := .reg [⟨(some 22), .loadN [(.int .u64), (.int .u64)] (.tmp 5), none⟩,
    ⟨(some 23), .build [(.int .u64 0), (.int .u64 0), (.slice none 0 0), (.int .i64 0)] [(0, 2, (.tmp 22))], none⟩,
    ⟨(some 24), .box (.tmp 23), none⟩,
    ⟨(some 7), .mv (.tmp 24), none⟩]
def k47_7 : VC := .reg [⟨(some 25), .mv (.tmp 0), none⟩,
    ⟨(some 26), .mv (.const (.int .i64 0)), none⟩]
def k47_8 : VC := .reg [⟨(some 27), .bin .lss (.tmp 26) (.tmp 25), none⟩]
def k47_9 : VC := .cond (.tmp 27) .skip (.exit 0)
def k47_10 : VC := .regD [⟨(some 28), .mv (.tmp 7), none⟩,
    ⟨(some 29), .mv (.tmp 7), none⟩,
    ⟨(some 30), .nilCheck (.tmp 29), none⟩,
    ⟨(some 31), .fieldA 2 (.tmp 30), none⟩,
    ⟨(some 32), .load1 .oth (.tmp 31), none⟩,
    ⟨(some 33), .mv (.tmp 1), none⟩,
    ⟨(some 34), .mkSl 1 8 [(.int .i64 0)] (.tmp 33) (.tmp 33), none⟩,
    ⟨(some 35), .buildSl 1 1 [(.slice none 0 0)] [(0, 1, (.tmp 34))], none⟩,
    ⟨(some 36), .app 1 24 (.tmp 32) (.tmp 35), none⟩,
    ⟨(some 37), .nilCheck (.tmp 28), none⟩,
    ⟨(some 38), .fieldA 2 (.tmp 37), none⟩,
    ⟨none, .store 1 (.tmp 38) (.tmp 36), none⟩] [(4, 6), (4, 7)]
def k47_11 : VC := .block 1 k47_10
def k47_12 : VC := .reg [⟨(some 39), .bin .add (.tmp 26) (.const (.int .i64 1)), none⟩,
    ⟨(some 26), .mv (.tmp 39), none⟩]
def k47_13 : VC := .seq k47_11 k47_12
def k47_14 : VC := .seq k47_9 k47_13
def k47_15 : VC := .seq k47_8 k47_14
def k47_16 : VC := .loop k47_15
def k47_17 : VC := .block 0 k47_16
def k47_18 : VC := .seq k47_7 k47_17
def k47_19 : VC := .reg [⟨(some 40), .mv (.tmp 7), none⟩,
    ⟨(some 6), .mv (.tmp 40), none⟩]
def k47_20 : VC := .seq k47_19 .ret
def k47_21 : VC := .seq k47_18 k47_20
def k47_22 : VC := .seq k47_6 k47_21
def k47_23 : VC := .seq k47_5 k47_22
def k47_24 : VC := .seq k47_0 k47_23
def fn47 : VFn := ⟨41, k47_24, [.tmp 6]⟩
/- 49: (*cloakroom/sketch.Sketch).Put -/
def k49_0 : VC := .reg [⟨(some 5), .box (.tmp 2), none⟩,
    ⟨(some 6), .mv (.const (.bool false)), none⟩]
def k49_1 : VC := .reg [⟨(some 7), .mv (.tmp 0), none⟩,
    ⟨(some 8), .callF 100 [(.tmp 7)], none⟩,
    ⟨(some 9), .not (.tmp 8), none⟩,
    ⟨(some 10), .mv (.tmp 9), none⟩,
    ⟨(some 11), .load1 (.int .i64) (.tmp 5), (some (10, false))⟩,
    ⟨(some 12), .bin .lss (.tmp 11) (.const (.int .i64 0)), (some (10, false))⟩,
    ⟨(some 13), .pick (.tmp 10) (.const (.bool true)) (.tmp 12), none⟩,
    ⟨(some 14), .mv (.tmp 13), none⟩,
    ⟨(some 15), .load1 (.int .i64) (.tmp 5), (some (14, false))⟩,
    ⟨(some 16), .bin .gtr (.tmp 15) (.const (.int .i64 1048576)), (some (14, false))⟩,
    ⟨(some 17), .pick (.tmp 14) (.const (.bool true)) (.tmp 16), none⟩]
def k49_2 : VC := .reg [⟨(some 6), .mv (.const (.bool false)), none⟩]
def k49_3 : VC := .seq k49_2 .ret
def k49_4 : VC := .cond (.tmp 17) k49_3 .skip
def k49_5 : VC := .seq k49_1 k49_4
def k49_6 : VC := .reg [⟨(some 18), .mv (.tmp 0), none⟩,
    ⟨(some 19), .mv (.tmp 1), none⟩,
    ⟨(some 20), .mkFunc 102 [] [(.tmp 5)], none⟩,
    ⟨(some 21), .callF 101 [(.tmp 18), (.tmp 19), (.tmp 20)], none⟩]
def k49_7 : VC := .regD [⟨(some 22), .mv (.tmp 0), none⟩,
    ⟨(some 23), .nilCheck (.tmp 22), none⟩,
    ⟨(some 24), .fieldA 3 (.tmp 23), none⟩,
    ⟨(some 25), .load1 (.int .i64) (.tmp 5), none⟩,
    ⟨(some 26), .callF 103 [(.tmp 24), (.tmp 25)], none⟩] []
def k49_8 : VC := .reg [⟨(some 6), .mv (.const (.bool true)), none⟩]
def k49_9 : VC := .seq k49_8 .ret
def k49_10 : VC := .seq k49_7 k49_9
def k49_11 : VC := .seq k49_6 k49_10
def k49_12 : VC := .seq k49_5 k49_11
def k49_13 : VC := .seq k49_0 k49_12
def fn49 : VFn := ⟨27, k49_13, [.tmp 6]⟩
/- 100: (*cloakroom/sketch.Sketch).given -/
def k100_0 : VC := .reg [⟨(some 2), .mv (.const (.bool false)), none⟩]
def k100_1 : VC := .reg [⟨(some 3), .mv (.tmp 0), none⟩,
    ⟨(some 4), .isNil 0 true (.tmp 3), none⟩,
    ⟨(some 5), .mv (.tmp 4), none⟩,
    ⟨(some 6), .mv (.tmp 0), (some (5, true))⟩,
    ⟨(some 7), .nilCheck (.tmp 6), (some (5, true))⟩,
    ⟨(some 8), .fieldA 2 (.tmp 7), (some (5, true))⟩,
    ⟨(some 9), .load1 .oth (.tmp 8), (some (5, true))⟩,
    ⟨(some 10), .lenL (.tmp 9), (some (5, true))⟩,
    ⟨(some 11), .bin .gtr (.tmp 10) (.const (.int .i64 0)), (some (5, true))⟩,
    ⟨(some 12), .pick (.tmp 5) (.tmp 11) (.const (.bool false)), none⟩,
    ⟨(some 2), .mv (.tmp 12), none⟩]
def k100_2 : VC := .seq k100_1 .ret
def k100_3 : VC := .seq k100_0 k100_2
def fn100 : VFn := ⟨13, k100_3, [.tmp 2]⟩
/- 102: (*cloakroom/sketch.Sketch).Put$1 -/
def k102_0 : VC := .reg [⟨(some 3), .mv (.tmp 0), none⟩,
    ⟨(some 4), .load1 (.int .i64) (.tmp 1), none⟩,
    ⟨(some 5), .callF 103 [(.tmp 3), (.tmp 4)], none⟩]
def fn102 : VFn := ⟨6, k102_0, []⟩
/- 103: cloakroom/sketch.grow -/
def k103_0 : VC := .reg [⟨(some 4), .mv (.tmp 0), none⟩,
    ⟨(some 5), .mv (.tmp 0), none⟩,
    ⟨(some 6), .nilCheck (.tmp 5), none⟩,
    ⟨(some 7), .load1 (.int .i64) (.tmp 6), none⟩,
    ⟨(some 8), .mv (.tmp 1), none⟩,
    ⟨(some 9), .bin .add (.tmp 7) (.tmp 8), none⟩,
    ⟨(some 10), .minmax false [(.const (.int .i64 1099511627776)), (.tmp 9)], none⟩,
    ⟨(some 11), .nilCheck (.tmp 4), none⟩,
    ⟨none, .store 1 (.tmp 11) (.tmp 10), none⟩]
def fn103 : VFn := ⟨12, k103_0, []⟩
/- 101: (*cloakroom/sketch.Sketch).each -/
def k101_0 : VC := .reg [⟨(some 7), .mv (.tmp 0), none⟩,
    ⟨(some 8), .nilCheck (.tmp 7), none⟩,
    ⟨(some 9), .fieldA 2 (.tmp 8), none⟩,
    ⟨(some 10), .load1 .oth (.tmp 9), none⟩,
    ⟨(some 11), .lenL (.tmp 10), none⟩,
    ⟨(some 12), .mv (.const (.int .i64 0)), none⟩]
def k101_1 : VC := .reg [⟨(some 13), .bin .lss (.tmp 12) (.tmp 11), none⟩]
def k101_2 : VC := .cond (.tmp 13) .skip (.exit 0)
def k101_3 : VC := .reg [⟨(some 14), .mv (.tmp 12), none⟩,
    ⟨(some 6), .mv (.tmp 14), none⟩]
def k101_4 : VC := .regD [⟨(some 15), .mv (.tmp 2), none⟩,
    ⟨(some 16), .mv (.tmp 0), none⟩,
    ⟨(some 17), .nilCheck (.tmp 16), none⟩,
    ⟨(some 18), .fieldA 2 (.tmp 17), none⟩,
    ⟨(some 19), .load1 .oth (.tmp 18), none⟩,
    ⟨(some 20), .mv (.tmp 6), none⟩,
    ⟨(some 21), .idxAL 1 (.tmp 19) (.tmp 20), none⟩,
    ⟨(some 22), .load1 .oth (.tmp 21), none⟩,
    ⟨(some 23), .mv (.tmp 0), none⟩,
    ⟨(some 24), .mv (.tmp 6), none⟩,
    ⟨(some 25), .mv (.tmp 1), none⟩,
    ⟨(some 26), .callF 57 [(.tmp 23), (.tmp 24), (.tmp 25)], none⟩,
    ⟨(some 27), .idxAL 1 (.tmp 22) (.tmp 26), none⟩,
    ⟨(some 28), .callV (.tmp 15) [(.tmp 27)], none⟩] [(4, 11), (7, 11)]
def k101_5 : VC := .seq k101_3 k101_4
def k101_6 : VC := .block 1 k101_5
def k101_7 : VC := .reg [⟨(some 29), .bin .add (.tmp 12) (.const (.int .i64 1)), none⟩,
    ⟨(some 12), .mv (.tmp 29), none⟩]
def k101_8 : VC := .seq k101_6 k101_7
def k101_9 : VC := .seq k101_2 k101_8
def k101_10 : VC := .seq k101_1 k101_9
def k101_11 : VC := .loop k101_10
def k101_12 : VC := .block 0 k101_11
def k101_13 : VC := .seq k101_0 k101_12
def fn101 : VFn := ⟨30, k101_13, []⟩
/- 57: (*cloakroom/sketch.Sketch).Place -/
def k57_0 : VC := .reg [⟨(some 6), .mv (.const (.int .i64 0)), none⟩]
def k57_1 : VC := .reg [⟨(some 8), .mv (.tmp 0), none⟩,
    ⟨(some 9), .callF 100 [(.tmp 8)], none⟩,
    ⟨(some 10), .not (.tmp 9), none⟩,
    ⟨(some 11), .mv (.tmp 10), none⟩,
    ⟨(some 12), .mv (.tmp 1), (some (11, false))⟩,
    ⟨(some 13), .bin .lss (.tmp 12) (.const (.int .i64 0)), (some (11, false))⟩,
    ⟨(some 14), .pick (.tmp 11) (.const (.bool true)) (.tmp 13), none⟩,
    ⟨(some 15), .mv (.tmp 14), none⟩,
    ⟨(some 16), .mv (.tmp 1), (some (15, false))⟩,
    ⟨(some 17), .mv (.tmp 0), (some (15, false))⟩,
    ⟨(some 18), .nilCheck (.tmp 17), (some (15, false))⟩,
    ⟨(some 19), .fieldA 2 (.tmp 18), (some (15, false))⟩,
    ⟨(some 20), .load1 .oth (.tmp 19), (some (15, false))⟩,
    ⟨(some 21), .lenL (.tmp 20), (some (15, false))⟩,
    ⟨(some 22), .bin .geq (.tmp 16) (.tmp 21), (some (15, false))⟩,
    ⟨(some 23), .pick (.tmp 15) (.const (.bool true)) (.tmp 22), none⟩]
def k57_2 : VC := .reg [⟨(some 6), .mv (.const (.int .i64 (-1))), none⟩]
def k57_3 : VC := .seq k57_2 .ret
def k57_4 : VC := .cond (.tmp 23) k57_3 .skip
def k57_5 : VC := .seq k57_1 k57_4
def k57_6 : VC := .regD [⟨(some 24), .mv (.tmp 0), none⟩,
    ⟨(some 25), .nilCheck (.tmp 24), none⟩,
    ⟨(some 26), .fieldA 0 (.tmp 25), none⟩,
    ⟨(some 27), .fieldA 0 (.tmp 26), none⟩,
    ⟨(some 28), .load1 (.int .u64) (.tmp 27), none⟩,
    ⟨(some 29), .mv (.tmp 1), none⟩,
    ⟨(some 30), .conv .u64 (.tmp 29), none⟩,
    ⟨(some 31), .bin .add (.tmp 28) (.tmp 30), none⟩,
    ⟨(some 32), .mv (.tmp 0), none⟩,
    ⟨(some 33), .nilCheck (.tmp 32), none⟩,
    ⟨(some 34), .fieldA 0 (.tmp 33), none⟩,
    ⟨(some 35), .fieldA 1 (.tmp 34), none⟩,
    ⟨(some 36), .load1 (.int .u64) (.tmp 35), none⟩,
    ⟨(some 37), .build [(.int .u64 0), (.int .u64 0)] [(0, 1, (.tmp 31)), (1, 1, (.tmp 36))], none⟩,
    ⟨(some 7), .alloc [(.int .u64 0), (.int .u64 0)], none⟩,
    ⟨none, .store 2 (.tmp 7) (.tmp 37), none⟩] [(4, 14), (12, 14)]
def k57_7 : VC := .regD [⟨(some 38), .loadN [(.int .u64), (.int .u64)] (.tmp 7), none⟩,
    ⟨(some 39), .mv (.tmp 2), none⟩,
    ⟨(some 40), .callF 108 [(.tmp 38), (.tmp 39)], none⟩,
    ⟨(some 41), .mv (.tmp 0), none⟩,
    ⟨(some 42), .nilCheck (.tmp 41), none⟩,
    ⟨(some 43), .fieldA 2 (.tmp 42), none⟩,
    ⟨(some 44), .load1 .oth (.tmp 43), none⟩,
    ⟨(some 45), .mv (.tmp 1), none⟩,
    ⟨(some 46), .idxAL 1 (.tmp 44) (.tmp 45), none⟩,
    ⟨(some 47), .load1 .oth (.tmp 46), none⟩,
    ⟨(some 48), .lenL (.tmp 47), none⟩,
    ⟨(some 49), .callF 107 [(.tmp 40), (.tmp 48)], none⟩,
    ⟨(some 6), .mv (.tmp 49), none⟩] [(2, 6), (2, 9)]
def k57_8 : VC := .seq k57_7 .ret
def k57_9 : VC := .seq k57_6 k57_8
def k57_10 : VC := .seq k57_5 k57_9
def k57_11 : VC := .seq k57_0 k57_10
def fn57 : VFn := ⟨50, k57_11, [.tmp 6]⟩
/- 108: cloakroom/sip.Hash -/
def k108_0 : VC := .reg [⟨(some 2), .box (.tmp 0), none⟩,
    ⟨(some 4), .mv (.const (.int .u64 0)), none⟩]
def k108_1 : VC := .reg [⟨(some 6), .loadN [(.int .u64), (.int .u64)] (.tmp 2), none⟩,
    ⟨(some 7), .callF 94 [(.tmp 6)], none⟩,
    ⟨(some 5), .mv (.tmp 7), none⟩]
def k108_2 : VC := .reg [⟨(some 8), .mv (.tmp 5), none⟩,
    ⟨(some 9), .mv (.tmp 1), none⟩,
    ⟨(some 10), .callF 95 [(.tmp 8), (.tmp 9)], none⟩]
def k108_3 : VC := .reg [⟨(some 11), .mv (.tmp 5), none⟩,
    ⟨(some 12), .callF 97 [(.tmp 11)], none⟩,
    ⟨(some 4), .mv (.tmp 12), none⟩]
def k108_4 : VC := .seq k108_3 .ret
def k108_5 : VC := .seq k108_2 k108_4
def k108_6 : VC := .seq k108_1 k108_5
def k108_7 : VC := .seq k108_0 k108_6
def fn108 : VFn := ⟨13, k108_7, [.tmp 4]⟩
/- 107: cloakroom/num.Scale -/
def k107_0 : VC := .reg [⟨(some 4), .mv (.const (.int .i64 0)), none⟩]
def k107_1 : VC := .reg [⟨(some 5), .mv (.tmp 1), none⟩,
    ⟨(some 6), .bin .lss (.tmp 5) (.const (.int .i64 1)), none⟩,
    ⟨(some 7), .mv (.tmp 6), none⟩,
    ⟨(some 8), .mv (.tmp 1), (some (7, false))⟩,
    ⟨(some 9), .bin .gtr (.tmp 8) (.const (.int .i64 2147483648)), (some (7, false))⟩,
    ⟨(some 10), .pick (.tmp 7) (.const (.bool true)) (.tmp 9), none⟩]
def k107_2 : VC := .reg [⟨(some 4), .mv (.const (.int .i64 0)), none⟩]
def k107_3 : VC := .seq k107_2 .ret
def k107_4 : VC := .cond (.tmp 10) k107_3 .skip
def k107_5 : VC := .seq k107_1 k107_4
def k107_6 : VC := .reg [⟨(some 11), .mv (.tmp 0), none⟩,
    ⟨(some 12), .mv (.tmp 1), none⟩,
    ⟨(some 13), .conv .u64 (.tmp 12), none⟩,
    ⟨(some 14), .callF 131 [(.tmp 11), (.tmp 13)], none⟩,
    ⟨(some 15), .idxV1 2 (.tmp 14) (.const (.int .i64 0)), none⟩,
    ⟨(some 16), .conv .i64 (.tmp 15), none⟩,
    ⟨(some 4), .mv (.tmp 16), none⟩]
def k107_7 : VC := .seq k107_6 .ret
def k107_8 : VC := .seq k107_5 k107_7
def k107_9 : VC := .seq k107_0 k107_8
def fn107 : VFn := ⟨17, k107_9, [.tmp 4]⟩
/- 131: cloakroom/num.product -/
def k131_0 : VC := .reg [⟨(some 4), .alloc [(.int .u64 0), (.int .u64 0)], none⟩]
def k131_1 : VC := .reg [⟨(some 8), .mv (.tmp 0), none⟩,
    ⟨(some 9), .mv (.tmp 1), none⟩,
    ⟨(some 10), .callF 147 [(.tmp 8), (.tmp 9)], none⟩,
    ⟨(some 7), .mv (.tmp 10), none⟩,
    ⟨(some 11), .extract 0 (.tmp 7), none⟩,
    ⟨(some 12), .extract 1 (.tmp 7), none⟩,
    ⟨(some 5), .mv (.tmp 11), none⟩,
    ⟨(some 6), .mv (.tmp 12), none⟩]
def k131_2 : VC := .reg [⟨(some 13), .mv (.tmp 5), none⟩,
    ⟨(some 14), .mv (.tmp 6), none⟩,
    ⟨(some 15), .build [(.int .u64 0), (.int .u64 0)] [(0, 1, (.tmp 13)), (1, 1, (.tmp 14))], none⟩,
    ⟨none, .store 2 (.tmp 4) (.tmp 15), none⟩]
def k131_3 : VC := .seq k131_2 .ret
def k131_4 : VC := .seq k131_1 k131_3
def k131_5 : VC := .seq k131_0 k131_4
def fn131 : VFn := ⟨16, k131_5, [.cell 4 [(.int .u64), (.int .u64)] true]⟩
/- 147: math/bits.Mul64 -/
def k147_0 : VC := .reg [⟨(some 4), .mv (.const (.int .u64 0)), none⟩,
    ⟨(some 5), .mv (.const (.int .u64 0)), none⟩]
def k147_1 : VC := .reg [⟨(some 14), .mv (.tmp 0), none⟩,
    ⟨(some 15), .bin .and (.tmp 14) (.const (.int .u64 4294967295)), none⟩,
    ⟨(some 6), .mv (.tmp 15), none⟩]
def k147_2 : VC := .reg [⟨(some 16), .mv (.tmp 0), none⟩,
    ⟨(some 17), .bin .shr (.tmp 16) (.const (.int .u64 32)), none⟩,
    ⟨(some 7), .mv (.tmp 17), none⟩]
def k147_3 : VC := .reg [⟨(some 18), .mv (.tmp 1), none⟩,
    ⟨(some 19), .bin .and (.tmp 18) (.const (.int .u64 4294967295)), none⟩,
    ⟨(some 8), .mv (.tmp 19), none⟩]
def k147_4 : VC := .reg [⟨(some 20), .mv (.tmp 1), none⟩,
    ⟨(some 21), .bin .shr (.tmp 20) (.const (.int .u64 32)), none⟩,
    ⟨(some 9), .mv (.tmp 21), none⟩]
def k147_5 : VC := .reg [⟨(some 22), .mv (.tmp 6), none⟩,
    ⟨(some 23), .mv (.tmp 8), none⟩,
    ⟨(some 24), .bin .mul (.tmp 22) (.tmp 23), none⟩,
    ⟨(some 10), .mv (.tmp 24), none⟩]
def k147_6 : VC := .reg [⟨(some 25), .mv (.tmp 7), none⟩,
    ⟨(some 26), .mv (.tmp 8), none⟩,
    ⟨(some 27), .bin .mul (.tmp 25) (.tmp 26), none⟩,
    ⟨(some 28), .mv (.tmp 10), none⟩,
    ⟨(some 29), .bin .shr (.tmp 28) (.const (.int .u64 32)), none⟩,
    ⟨(some 30), .bin .add (.tmp 27) (.tmp 29), none⟩,
    ⟨(some 11), .mv (.tmp 30), none⟩]
def k147_7 : VC := .reg [⟨(some 31), .mv (.tmp 11), none⟩,
    ⟨(some 32), .bin .and (.tmp 31) (.const (.int .u64 4294967295)), none⟩,
    ⟨(some 12), .mv (.tmp 32), none⟩]
def k147_8 : VC := .reg [⟨(some 33), .mv (.tmp 11), none⟩,
    ⟨(some 34), .bin .shr (.tmp 33) (.const (.int .u64 32)), none⟩,
    ⟨(some 13), .mv (.tmp 34), none⟩]
def k147_9 : VC := .reg [⟨(some 35), .mv (.tmp 12), none⟩,
    ⟨(some 36), .mv (.tmp 6), none⟩,
    ⟨(some 37), .mv (.tmp 9), none⟩,
    ⟨(some 38), .bin .mul (.tmp 36) (.tmp 37), none⟩,
    ⟨(some 39), .bin .add (.tmp 35) (.tmp 38), none⟩,
    ⟨(some 12), .mv (.tmp 39), none⟩]
def k147_10 : VC := .reg [⟨(some 40), .mv (.tmp 7), none⟩,
    ⟨(some 41), .mv (.tmp 9), none⟩,
    ⟨(some 42), .bin .mul (.tmp 40) (.tmp 41), none⟩,
    ⟨(some 43), .mv (.tmp 13), none⟩,
    ⟨(some 44), .bin .add (.tmp 42) (.tmp 43), none⟩,
    ⟨(some 45), .mv (.tmp 12), none⟩,
    ⟨(some 46), .bin .shr (.tmp 45) (.const (.int .u64 32)), none⟩,
    ⟨(some 47), .bin .add (.tmp 44) (.tmp 46), none⟩,
    ⟨(some 4), .mv (.tmp 47), none⟩]
def k147_11 : VC := .reg [⟨(some 48), .mv (.tmp 0), none⟩,
    ⟨(some 49), .mv (.tmp 1), none⟩,
    ⟨(some 50), .bin .mul (.tmp 48) (.tmp 49), none⟩,
    ⟨(some 5), .mv (.tmp 50), none⟩]
def k147_12 : VC := .seq k147_11 .ret
def k147_13 : VC := .seq k147_10 k147_12
def k147_14 : VC := .seq k147_9 k147_13
def k147_15 : VC := .seq k147_8 k147_14
def k147_16 : VC := .seq k147_7 k147_15
def k147_17 : VC := .seq k147_6 k147_16
def k147_18 : VC := .seq k147_5 k147_17
def k147_19 : VC := .seq k147_4 k147_18
def k147_20 : VC := .seq k147_3 k147_19
def k147_21 : VC := .seq k147_2 k147_20
def k147_22 : VC := .seq k147_1 k147_21
def k147_23 : VC := .seq k147_0 k147_22
def fn147 : VFn := ⟨51, k147_23, [.tmp 4, .tmp 5]⟩
/- 53: (*cloakroom/sketch.Sketch).Guess -/
def k53_0 : VC := .reg [⟨(some 4), .mv (.const (.int .i64 0)), none⟩]
def k53_1 : VC := .reg [⟨(some 6), .mv (.tmp 0), none⟩,
    ⟨(some 7), .callF 100 [(.tmp 6)], none⟩,
    ⟨(some 8), .not (.tmp 7), none⟩]
def k53_2 : VC := .reg [⟨(some 4), .mv (.const (.int .i64 0)), none⟩]
def k53_3 : VC := .seq k53_2 .ret
def k53_4 : VC := .cond (.tmp 8) k53_3 .skip
def k53_5 : VC := .seq k53_1 k53_4
def k53_6 : VC := .reg [⟨(some 5), .alloc [(.int .i64 0)], none⟩,
    ⟨none, .store 1 (.tmp 5) (.const (.int .i64 1099511627776)), none⟩]
def k53_7 : VC := .reg [⟨(some 9), .mv (.tmp 0), none⟩,
    ⟨(some 10), .mv (.tmp 1), none⟩,
    ⟨(some 11), .mkFunc 106 [] [(.tmp 5)], none⟩,
    ⟨(some 12), .callF 101 [(.tmp 9), (.tmp 10), (.tmp 11)], none⟩]
def k53_8 : VC := .reg [⟨(some 13), .load1 (.int .i64) (.tmp 5), none⟩,
    ⟨(some 4), .mv (.tmp 13), none⟩]
def k53_9 : VC := .seq k53_8 .ret
def k53_10 : VC := .seq k53_7 k53_9
def k53_11 : VC := .seq k53_6 k53_10
def k53_12 : VC := .seq k53_5 k53_11
def k53_13 : VC := .seq k53_0 k53_12
def fn53 : VFn := ⟨14, k53_13, [.tmp 4]⟩
/- 106: (*cloakroom/sketch.Sketch).Guess$1 -/
def k106_0 : VC := .regD [⟨(some 3), .load1 (.int .i64) (.tmp 1), none⟩,
    ⟨(some 4), .mv (.tmp 0), none⟩,
    ⟨(some 5), .nilCheck (.tmp 4), none⟩,
    ⟨(some 6), .load1 (.int .i64) (.tmp 5), none⟩,
    ⟨(some 7), .minmax false [(.tmp 3), (.tmp 6)], none⟩,
    ⟨none, .store 1 (.tmp 1) (.tmp 7), none⟩] []
def fn106 : VFn := ⟨8, k106_0, []⟩
/- 55: (*cloakroom/sketch.Sketch).Total -/
def k55_0 : VC := .reg [⟨(some 2), .mv (.const (.int .i64 0)), none⟩]
def k55_1 : VC := .reg [⟨(some 3), .mv (.tmp 0), none⟩,
    ⟨(some 4), .callF 100 [(.tmp 3)], none⟩,
    ⟨(some 5), .not (.tmp 4), none⟩]
def k55_2 : VC := .reg [⟨(some 2), .mv (.const (.int .i64 0)), none⟩]
def k55_3 : VC := .seq k55_2 .ret
def k55_4 : VC := .cond (.tmp 5) k55_3 .skip
def k55_5 : VC := .seq k55_1 k55_4
def k55_6 : VC := .reg [⟨(some 6), .mv (.tmp 0), none⟩,
    ⟨(some 7), .nilCheck (.tmp 6), none⟩,
    ⟨(some 8), .fieldA 3 (.tmp 7), none⟩,
    ⟨(some 9), .load1 (.int .i64) (.tmp 8), none⟩,
    ⟨(some 2), .mv (.tmp 9), none⟩]
def k55_7 : VC := .seq k55_6 .ret
def k55_8 : VC := .seq k55_5 k55_7
def k55_9 : VC := .seq k55_0 k55_8
def fn55 : VFn := ⟨10, k55_9, [.tmp 2]⟩
/- 51: (*cloakroom/sketch.Sketch).Add -/
def k51_0 : VC := .reg [⟨(some 4), .mv (.const (.bool false)), none⟩]
def k51_1 : VC := .reg [⟨(some 9), .mv (.tmp 0), none⟩,
    ⟨(some 10), .mv (.tmp 1), none⟩,
    ⟨(some 11), .callF 104 [(.tmp 9), (.tmp 10)], none⟩,
    ⟨(some 12), .not (.tmp 11), none⟩]
def k51_2 : VC := .reg [⟨(some 4), .mv (.const (.bool false)), none⟩]
def k51_3 : VC := .seq k51_2 .ret
def k51_4 : VC := .cond (.tmp 12) k51_3 .skip
def k51_5 : VC := .seq k51_1 k51_4
def k51_6 : VC := .reg [⟨(some 13), .mv (.tmp 1), none⟩,
    ⟨(some 14), .nilCheck (.tmp 13), none⟩,
    ⟨(some 15), .fieldA 2 (.tmp 14), none⟩,
    ⟨(some 16), .load1 .oth (.tmp 15), none⟩,
    ⟨(some 17), .lenL (.tmp 16), none⟩,
    ⟨(some 18), .mv (.const (.int .i64 0)), none⟩]
def k51_7 : VC := .reg [⟨(some 19), .bin .lss (.tmp 18) (.tmp 17), none⟩]
def k51_8 : VC := .cond (.tmp 19) .skip (.exit 0)
def k51_9 : VC := .reg [⟨(some 20), .mv (.tmp 18), none⟩,
    ⟨(some 21), .idxAL 1 (.tmp 16) (.tmp 18), none⟩,
    ⟨(some 22), .load1 .oth (.tmp 21), none⟩,
    ⟨(some 5), .mv (.tmp 20), none⟩,
    ⟨(some 6), .mv (.tmp 22), none⟩]
def k51_10 : VC := .reg [⟨(some 23), .mv (.tmp 6), none⟩,
    ⟨(some 24), .lenL (.tmp 23), none⟩,
    ⟨(some 25), .mv (.const (.int .i64 0)), none⟩]
def k51_11 : VC := .reg [⟨(some 26), .bin .lss (.tmp 25) (.tmp 24), none⟩]
def k51_12 : VC := .cond (.tmp 26) .skip (.exit 2)
def k51_13 : VC := .reg [⟨(some 27), .mv (.tmp 25), none⟩,
    ⟨(some 28), .idxAL 1 (.tmp 23) (.tmp 25), none⟩,
    ⟨(some 29), .load1 (.int .i64) (.tmp 28), none⟩,
    ⟨(some 7), .mv (.tmp 27), none⟩,
    ⟨(some 8), .mv (.tmp 29), none⟩]
def k51_14 : VC := .reg [⟨(some 30), .mv (.tmp 0), none⟩,
    ⟨(some 31), .nilCheck (.tmp 30), none⟩,
    ⟨(some 32), .fieldA 2 (.tmp 31), none⟩,
    ⟨(some 33), .load1 .oth (.tmp 32), none⟩,
    ⟨(some 34), .mv (.tmp 5), none⟩,
    ⟨(some 35), .idxAL 1 (.tmp 33) (.tmp 34), none⟩,
    ⟨(some 36), .load1 .oth (.tmp 35), none⟩,
    ⟨(some 37), .mv (.tmp 7), none⟩,
    ⟨(some 38), .idxAL 1 (.tmp 36) (.tmp 37), none⟩,
    ⟨(some 39), .mv (.tmp 8), none⟩,
    ⟨(some 40), .callF 103 [(.tmp 38), (.tmp 39)], none⟩]
def k51_15 : VC := .seq k51_13 k51_14
def k51_16 : VC := .block 3 k51_15
def k51_17 : VC := .reg [⟨(some 41), .bin .add (.tmp 25) (.const (.int .i64 1)), none⟩,
    ⟨(some 25), .mv (.tmp 41), none⟩]
def k51_18 : VC := .seq k51_16 k51_17
def k51_19 : VC := .seq k51_12 k51_18
def k51_20 : VC := .seq k51_11 k51_19
def k51_21 : VC := .loop k51_20
def k51_22 : VC := .block 2 k51_21
def k51_23 : VC := .seq k51_10 k51_22
def k51_24 : VC := .seq k51_9 k51_23
def k51_25 : VC := .block 1 k51_24
def k51_26 : VC := .reg [⟨(some 42), .bin .add (.tmp 18) (.const (.int .i64 1)), none⟩,
    ⟨(some 18), .mv (.tmp 42), none⟩]
def k51_27 : VC := .seq k51_25 k51_26
def k51_28 : VC := .seq k51_8 k51_27
def k51_29 : VC := .seq k51_7 k51_28
def k51_30 : VC := .loop k51_29
def k51_31 : VC := .block 0 k51_30
def k51_32 : VC := .seq k51_6 k51_31
def k51_33 : VC := .regD [⟨(some 43), .mv (.tmp 0), none⟩,
    ⟨(some 44), .nilCheck (.tmp 43), none⟩,
    ⟨(some 45), .fieldA 3 (.tmp 44), none⟩,
    ⟨(some 46), .mv (.tmp 1), none⟩,
    ⟨(some 47), .nilCheck (.tmp 46), none⟩,
    ⟨(some 48), .fieldA 3 (.tmp 47), none⟩,
    ⟨(some 49), .load1 (.int .i64) (.tmp 48), none⟩,
    ⟨(some 50), .callF 103 [(.tmp 45), (.tmp 49)], none⟩] []
def k51_34 : VC := .reg [⟨(some 4), .mv (.const (.bool true)), none⟩]
def k51_35 : VC := .seq k51_34 .ret
def k51_36 : VC := .seq k51_33 k51_35
def k51_37 : VC := .seq k51_32 k51_36
def k51_38 : VC := .seq k51_5 k51_37
def k51_39 : VC := .seq k51_0 k51_38
def fn51 : VFn := ⟨51, k51_39, [.tmp 4]⟩
/- 104: (*cloakroom/sketch.Sketch).like -/
def k104_0 : VC := .reg [⟨(some 4), .mv (.const (.bool false)), none⟩]
def k104_1 : VC := .regD [⟨(some 5), .mv (.tmp 0), none⟩,
    ⟨(some 6), .callF 100 [(.tmp 5)], none⟩,
    ⟨(some 7), .not (.tmp 6), none⟩,
    ⟨(some 8), .mv (.tmp 7), none⟩,
    ⟨(some 9), .mv (.tmp 1), (some (8, false))⟩,
    ⟨(some 10), .callF 100 [(.tmp 9)], (some (8, false))⟩,
    ⟨(some 11), .not (.tmp 10), (some (8, false))⟩,
    ⟨(some 12), .pick (.tmp 8) (.const (.bool true)) (.tmp 11), none⟩,
    ⟨(some 13), .mv (.tmp 12), none⟩,
    ⟨(some 14), .mv (.tmp 0), (some (13, false))⟩,
    ⟨(some 15), .nilCheck (.tmp 14), (some (13, false))⟩,
    ⟨(some 16), .fieldA 0 (.tmp 15), (some (13, false))⟩,
    ⟨(some 17), .loadN [(.int .u64), (.int .u64)] (.tmp 16), (some (13, false))⟩,
    ⟨(some 18), .mv (.tmp 1), (some (13, false))⟩,
    ⟨(some 19), .nilCheck (.tmp 18), (some (13, false))⟩,
    ⟨(some 20), .fieldA 0 (.tmp 19), (some (13, false))⟩,
    ⟨(some 21), .loadN [(.int .u64), (.int .u64)] (.tmp 20), (some (13, false))⟩,
    ⟨(some 22), .eqAgg true [(0, (.int .u64)), (1, (.int .u64))] (.tmp 17) (.tmp 21), (some (13, false))⟩,
    ⟨(some 23), .pick (.tmp 13) (.const (.bool true)) (.tmp 22), none⟩] []
def k104_2 : VC := .reg [⟨(some 4), .mv (.const (.bool false)), none⟩]
def k104_3 : VC := .seq k104_2 .ret
def k104_4 : VC := .cond (.tmp 23) k104_3 .skip
def k104_5 : VC := .seq k104_1 k104_4
def k104_6 : VC := .regD [⟨(some 24), .mv (.tmp 0), none⟩,
    ⟨(some 25), .nilCheck (.tmp 24), none⟩,
    ⟨(some 26), .fieldA 2 (.tmp 25), none⟩,
    ⟨(some 27), .load1 .oth (.tmp 26), none⟩,
    ⟨(some 28), .mv (.tmp 1), none⟩,
    ⟨(some 29), .nilCheck (.tmp 28), none⟩,
    ⟨(some 30), .fieldA 2 (.tmp 29), none⟩,
    ⟨(some 31), .load1 .oth (.tmp 30), none⟩,
    ⟨(some 32), .callF 128 [(.tmp 27), (.tmp 31), (.func 129)], none⟩,
    ⟨(some 4), .mv (.tmp 32), none⟩] []
def k104_7 : VC := .seq k104_6 .ret
def k104_8 : VC := .seq k104_5 k104_7
def k104_9 : VC := .seq k104_0 k104_8
def fn104 : VFn := ⟨33, k104_9, [.tmp 4]⟩
/- 128: slices.EqualFunc[[][]int,[][]int,[]int,[]int] -/
def k128_0 : VC := .reg [⟨(some 6), .mv (.const (.bool false)), none⟩]
def k128_1 : VC := .reg [⟨(some 10), .mv (.tmp 0), none⟩,
    ⟨(some 11), .lenL (.tmp 10), none⟩,
    ⟨(some 12), .mv (.tmp 1), none⟩,
    ⟨(some 13), .lenL (.tmp 12), none⟩,
    ⟨(some 14), .bin .neq (.tmp 11) (.tmp 13), none⟩]
def k128_2 : VC := .reg [⟨(some 6), .mv (.const (.bool false)), none⟩]
def k128_3 : VC := .seq k128_2 .ret
def k128_4 : VC := .cond (.tmp 14) k128_3 .skip
def k128_5 : VC := .seq k128_1 k128_4
def k128_6 : VC := .reg [⟨(some 15), .mv (.tmp 0), none⟩,
    ⟨(some 16), .lenL (.tmp 15), none⟩,
    ⟨(some 17), .mv (.const (.int .i64 0)), none⟩]
def k128_7 : VC := .reg [⟨(some 18), .bin .lss (.tmp 17) (.tmp 16), none⟩]
def k128_8 : VC := .cond (.tmp 18) .skip (.exit 0)
def k128_9 : VC := .reg [⟨(some 19), .mv (.tmp 17), none⟩,
    ⟨(some 20), .idxAL 1 (.tmp 15) (.tmp 17), none⟩,
    ⟨(some 21), .load1 .oth (.tmp 20), none⟩,
    ⟨(some 7), .mv (.tmp 19), none⟩,
    ⟨(some 8), .mv (.tmp 21), none⟩]
def k128_10 : VC := .reg [⟨(some 22), .mv (.tmp 1), none⟩,
    ⟨(some 23), .mv (.tmp 7), none⟩,
    ⟨(some 24), .idxAL 1 (.tmp 22) (.tmp 23), none⟩,
    ⟨(some 25), .load1 .oth (.tmp 24), none⟩,
    ⟨(some 9), .mv (.tmp 25), none⟩]
def k128_11 : VC := .reg [⟨(some 26), .mv (.tmp 2), none⟩,
    ⟨(some 27), .mv (.tmp 8), none⟩,
    ⟨(some 28), .mv (.tmp 9), none⟩,
    ⟨(some 29), .callV (.tmp 26) [(.tmp 27), (.tmp 28)], none⟩,
    ⟨(some 30), .not (.tmp 29), none⟩]
def k128_12 : VC := .reg [⟨(some 6), .mv (.const (.bool false)), none⟩]
def k128_13 : VC := .seq k128_12 .ret
def k128_14 : VC := .cond (.tmp 30) k128_13 .skip
def k128_15 : VC := .seq k128_11 k128_14
def k128_16 : VC := .seq k128_10 k128_15
def k128_17 : VC := .seq k128_9 k128_16
def k128_18 : VC := .block 1 k128_17
def k128_19 : VC := .reg [⟨(some 31), .bin .add (.tmp 17) (.const (.int .i64 1)), none⟩,
    ⟨(some 17), .mv (.tmp 31), none⟩]
def k128_20 : VC := .seq k128_18 k128_19
def k128_21 : VC := .seq k128_8 k128_20
def k128_22 : VC := .seq k128_7 k128_21
def k128_23 : VC := .loop k128_22
def k128_24 : VC := .block 0 k128_23
def k128_25 : VC := .seq k128_6 k128_24
def k128_26 : VC := .reg [⟨(some 6), .mv (.const (.bool true)), none⟩]
def k128_27 : VC := .seq k128_26 .ret
def k128_28 : VC := .seq k128_25 k128_27
def k128_29 : VC := .seq k128_5 k128_28
def k128_30 : VC := .seq k128_0 k128_29
def fn128 : VFn := ⟨32, k128_30, [.tmp 6]⟩
/- 129: (*cloakroom/sketch.Sketch).like$1 -/
def k129_0 : VC := .reg [⟨(some 4), .mv (.const (.bool false)), none⟩]
def k129_1 : VC := .reg [⟨(some 5), .mv (.tmp 0), none⟩,
    ⟨(some 6), .lenL (.tmp 5), none⟩,
    ⟨(some 7), .mv (.tmp 1), none⟩,
    ⟨(some 8), .lenL (.tmp 7), none⟩,
    ⟨(some 9), .bin .eql (.tmp 6) (.tmp 8), none⟩,
    ⟨(some 4), .mv (.tmp 9), none⟩]
def k129_2 : VC := .seq k129_1 .ret
def k129_3 : VC := .seq k129_0 k129_2
def fn129 : VFn := ⟨10, k129_3, [.tmp 4]⟩
/- 48: cloakroom/cloakroomref50.Right -/
def k48_0 : VC := .reg [⟨(some 4), .mv (.const (.bool false)), none⟩]
def k48_1 : VC := .reg [⟨(some 5), .mv (.tmp 0), none⟩,
    ⟨(some 6), .bin .geq (.tmp 5) (.const (.int .i64 1)), none⟩,
    ⟨(some 7), .mv (.tmp 6), none⟩,
    ⟨(some 8), .mv (.tmp 0), (some (7, true))⟩,
    ⟨(some 9), .bin .leq (.tmp 8) (.const (.int .i64 8)), (some (7, true))⟩,
    ⟨(some 10), .pick (.tmp 7) (.tmp 9) (.const (.bool false)), none⟩,
    ⟨(some 11), .mv (.tmp 10), none⟩,
    ⟨(some 12), .mv (.tmp 1), (some (11, true))⟩,
    ⟨(some 13), .bin .geq (.tmp 12) (.const (.int .i64 1)), (some (11, true))⟩,
    ⟨(some 14), .pick (.tmp 11) (.tmp 13) (.const (.bool false)), none⟩,
    ⟨(some 15), .mv (.tmp 14), none⟩,
    ⟨(some 16), .mv (.tmp 1), (some (15, true))⟩,
    ⟨(some 17), .bin .leq (.tmp 16) (.const (.int .i64 4096)), (some (15, true))⟩,
    ⟨(some 18), .pick (.tmp 15) (.tmp 17) (.const (.bool false)), none⟩,
    ⟨(some 4), .mv (.tmp 18), none⟩]
def k48_2 : VC := .seq k48_1 .ret
def k48_3 : VC := .seq k48_0 k48_2
def fn48 : VFn := ⟨19, k48_3, [.tmp 4]⟩
/- 50: cloakroom/cloakroomref50.May -/
def k50_0 : VC := .reg [⟨(some 1), .box (.tmp 0), none⟩,
    ⟨(some 2), .mv (.const (.bool false)), none⟩]
def k50_1 : VC := .reg [⟨(some 3), .fieldA 1 (.tmp 1), none⟩,
    ⟨(some 4), .load1 (.int .i64) (.tmp 3), none⟩,
    ⟨(some 5), .bin .geq (.tmp 4) (.const (.int .i64 0)), none⟩,
    ⟨(some 6), .mv (.tmp 5), none⟩,
    ⟨(some 7), .fieldA 1 (.tmp 1), (some (6, true))⟩,
    ⟨(some 8), .load1 (.int .i64) (.tmp 7), (some (6, true))⟩,
    ⟨(some 9), .bin .leq (.tmp 8) (.const (.int .i64 1048576)), (some (6, true))⟩,
    ⟨(some 10), .pick (.tmp 6) (.tmp 9) (.const (.bool false)), none⟩,
    ⟨(some 2), .mv (.tmp 10), none⟩]
def k50_2 : VC := .seq k50_1 .ret
def k50_3 : VC := .seq k50_0 k50_2
def fn50 : VFn := ⟨11, k50_3, [.tmp 2]⟩
/- 52: cloakroom/cloakroomref50.Place -/
def k52_0 : VC := .reg [⟨(some 4), .box (.tmp 0), none⟩,
    ⟨(some 8), .mv (.const (.int .i64 0)), none⟩]
def k52_1 : VC := .reg [⟨(some 9), .fieldA 0 (.tmp 4), none⟩,
    ⟨(some 10), .load1 (.int .u64) (.tmp 9), none⟩,
    ⟨(some 11), .mv (.tmp 1), none⟩,
    ⟨(some 12), .conv .u64 (.tmp 11), none⟩,
    ⟨(some 13), .bin .add (.tmp 10) (.tmp 12), none⟩,
    ⟨(some 14), .fieldA 1 (.tmp 4), none⟩,
    ⟨(some 15), .load1 (.int .u64) (.tmp 14), none⟩,
    ⟨(some 16), .build [(.int .u64 0), (.int .u64 0)] [(0, 1, (.tmp 13)), (1, 1, (.tmp 15))], none⟩,
    ⟨(some 17), .mv (.tmp 3), none⟩,
    ⟨(some 18), .callF 98 [(.tmp 16), (.tmp 17)], none⟩,
    ⟨(some 19), .mv (.tmp 2), none⟩,
    ⟨(some 20), .callF 105 [(.tmp 18), (.tmp 19)], none⟩,
    ⟨(some 8), .mv (.tmp 20), none⟩]
def k52_2 : VC := .seq k52_1 .ret
def k52_3 : VC := .seq k52_0 k52_2
def fn52 : VFn := ⟨21, k52_3, [.tmp 8]⟩
/- 105: cloakroom/cloakroomref01.Scale -/
def k105_0 : VC := .reg [⟨(some 4), .mv (.const (.int .i64 0)), none⟩]
def k105_1 : VC := .reg [⟨(some 7), .mv (.tmp 1), none⟩,
    ⟨(some 8), .bin .lss (.tmp 7) (.const (.int .i64 1)), none⟩,
    ⟨(some 9), .mv (.tmp 8), none⟩,
    ⟨(some 10), .mv (.tmp 1), (some (9, false))⟩,
    ⟨(some 11), .bin .gtr (.tmp 10) (.const (.int .i64 2147483648)), (some (9, false))⟩,
    ⟨(some 12), .pick (.tmp 9) (.const (.bool true)) (.tmp 11), none⟩]
def k105_2 : VC := .reg [⟨(some 4), .mv (.const (.int .i64 0)), none⟩]
def k105_3 : VC := .seq k105_2 .ret
def k105_4 : VC := .cond (.tmp 12) k105_3 .skip
def k105_5 : VC := .seq k105_1 k105_4
def k105_6 : VC := .reg [⟨(some 14), .mv (.tmp 0), none⟩,
    ⟨(some 15), .mv (.tmp 1), none⟩,
    ⟨(some 16), .conv .u64 (.tmp 15), none⟩,
    ⟨(some 17), .callF 130 [(.tmp 14), (.tmp 16)], none⟩,
    ⟨(some 13), .mv (.tmp 17), none⟩,
    ⟨(some 18), .extract 0 (.tmp 13), none⟩,
    ⟨(some 19), .extract 1 (.tmp 13), none⟩,
    ⟨(some 5), .mv (.tmp 18), none⟩,
    ⟨(some 6), .mv (.tmp 19), none⟩]
def k105_7 : VC := .reg [⟨(some 20), .mv (.tmp 5), none⟩,
    ⟨(some 21), .conv .i64 (.tmp 20), none⟩,
    ⟨(some 4), .mv (.tmp 21), none⟩]
def k105_8 : VC := .seq k105_7 .ret
def k105_9 : VC := .seq k105_6 k105_8
def k105_10 : VC := .seq k105_5 k105_9
def k105_11 : VC := .seq k105_0 k105_10
def fn105 : VFn := ⟨22, k105_11, [.tmp 4]⟩
/- 130: cloakroom/cloakroomref01.Mul -/
def k130_0 : VC := .reg [⟨(some 4), .mv (.const (.int .u64 0)), none⟩,
    ⟨(some 5), .mv (.const (.int .u64 0)), none⟩]
def k130_1 : VC := .reg [⟨(some 6), .mv (.const (.int .u64 0)), none⟩,
    ⟨(some 7), .mv (.const (.int .u64 0)), none⟩]
def k130_2 : VC := .reg [⟨(some 8), .mv (.const (.int .i64 63)), none⟩]
def k130_3 : VC := .reg [⟨(some 10), .mv (.tmp 8), none⟩,
    ⟨(some 11), .bin .geq (.tmp 10) (.const (.int .i64 0)), none⟩]
def k130_4 : VC := .cond (.tmp 11) .skip (.exit 0)
def k130_5 : VC := .seq k130_3 k130_4
def k130_6 : VC := .reg [⟨(some 9), .mv (.const (.int .u64 0)), none⟩]
def k130_7 : VC := .reg [⟨(some 14), .mv (.tmp 0), none⟩,
    ⟨(some 15), .mv (.tmp 8), none⟩,
    ⟨(some 16), .bin .shr (.tmp 14) (.tmp 15), none⟩,
    ⟨(some 17), .bin .and (.tmp 16) (.const (.int .u64 1)), none⟩,
    ⟨(some 18), .bin .eql (.tmp 17) (.const (.int .u64 1)), none⟩]
def k130_8 : VC := .reg [⟨(some 19), .mv (.tmp 1), none⟩,
    ⟨(some 9), .mv (.tmp 19), none⟩]
def k130_9 : VC := .cond (.tmp 18) k130_8 .skip
def k130_10 : VC := .seq k130_7 k130_9
def k130_11 : VC := .reg [⟨(some 21), .mv (.tmp 6), none⟩,
    ⟨(some 22), .mv (.tmp 7), none⟩,
    ⟨(some 23), .mv (.tmp 9), none⟩,
    ⟨(some 24), .callF 146 [(.tmp 21), (.tmp 22), (.tmp 23)], none⟩,
    ⟨(some 20), .mv (.tmp 24), none⟩,
    ⟨(some 25), .extract 0 (.tmp 20), none⟩,
    ⟨(some 26), .extract 1 (.tmp 20), none⟩,
    ⟨(some 6), .mv (.tmp 25), none⟩,
    ⟨(some 7), .mv (.tmp 26), none⟩]
def k130_12 : VC := .seq k130_10 k130_11
def k130_13 : VC := .seq k130_6 k130_12
def k130_14 : VC := .block 1 k130_13
def k130_15 : VC := .reg [⟨(some 12), .mv (.tmp 8), none⟩,
    ⟨(some 13), .bin .sub (.tmp 12) (.const (.int .i64 1)), none⟩,
    ⟨(some 8), .mv (.tmp 13), none⟩]
def k130_16 : VC := .seq k130_14 k130_15
def k130_17 : VC := .seq k130_5 k130_16
def k130_18 : VC := .loop k130_17
def k130_19 : VC := .block 0 k130_18
def k130_20 : VC := .seq k130_2 k130_19
def k130_21 : VC := .reg [⟨(some 27), .mv (.tmp 6), none⟩,
    ⟨(some 28), .mv (.tmp 7), none⟩,
    ⟨(some 4), .mv (.tmp 27), none⟩,
    ⟨(some 5), .mv (.tmp 28), none⟩]
def k130_22 : VC := .seq k130_21 .ret
def k130_23 : VC := .seq k130_20 k130_22
def k130_24 : VC := .seq k130_1 k130_23
def k130_25 : VC := .seq k130_0 k130_24
def fn130 : VFn := ⟨29, k130_25, [.tmp 4, .tmp 5]⟩
/- 146: cloakroom/cloakroomref01.twice -/
def k146_0 : VC := .reg [⟨(some 6), .mv (.const (.int .u64 0)), none⟩,
    ⟨(some 7), .mv (.const (.int .u64 0)), none⟩]
def k146_1 : VC := .reg [⟨(some 11), .mv (.tmp 0), none⟩,
    ⟨(some 12), .bin .shl (.tmp 11) (.const (.int .u64 1)), none⟩,
    ⟨(some 13), .mv (.tmp 1), none⟩,
    ⟨(some 14), .bin .shr (.tmp 13) (.const (.int .u64 63)), none⟩,
    ⟨(some 15), .bin .or (.tmp 12) (.tmp 14), none⟩,
    ⟨(some 8), .mv (.tmp 15), none⟩]
def k146_2 : VC := .reg [⟨(some 16), .mv (.tmp 1), none⟩,
    ⟨(some 17), .bin .shl (.tmp 16) (.const (.int .u64 1)), none⟩,
    ⟨(some 9), .mv (.tmp 17), none⟩]
def k146_3 : VC := .reg [⟨(some 18), .mv (.tmp 9), none⟩,
    ⟨(some 19), .mv (.tmp 2), none⟩,
    ⟨(some 20), .bin .add (.tmp 18) (.tmp 19), none⟩,
    ⟨(some 10), .mv (.tmp 20), none⟩]
def k146_4 : VC := .reg [⟨(some 21), .mv (.tmp 10), none⟩,
    ⟨(some 22), .mv (.tmp 9), none⟩,
    ⟨(some 23), .bin .lss (.tmp 21) (.tmp 22), none⟩]
def k146_5 : VC := .reg [⟨(some 24), .mv (.tmp 8), none⟩,
    ⟨(some 25), .bin .add (.tmp 24) (.const (.int .u64 1)), none⟩,
    ⟨(some 8), .mv (.tmp 25), none⟩]
def k146_6 : VC := .cond (.tmp 23) k146_5 .skip
def k146_7 : VC := .seq k146_4 k146_6
def k146_8 : VC := .reg [⟨(some 26), .mv (.tmp 8), none⟩,
    ⟨(some 27), .mv (.tmp 10), none⟩,
    ⟨(some 6), .mv (.tmp 26), none⟩,
    ⟨(some 7), .mv (.tmp 27), none⟩]
def k146_9 : VC := .seq k146_8 .ret
def k146_10 : VC := .seq k146_7 k146_9
def k146_11 : VC := .seq k146_3 k146_10
def k146_12 : VC := .seq k146_2 k146_11
def k146_13 : VC := .seq k146_1 k146_12
def k146_14 : VC := .seq k146_0 k146_13
def fn146 : VFn := ⟨28, k146_14, [.tmp 6, .tmp 7]⟩
/- 54: cloakroom/cloakroomref50.Guess -/
def k54_0 : VC := .reg [⟨(some 5), .box (.tmp 0), none⟩,
    ⟨(some 10), .mv (.const (.int .i64 0)), none⟩]
def k54_1 : VC := .reg [⟨(some 11), .mv (.const (.int .i64 1099511627776)), none⟩]
def k54_2 : VC := .reg [⟨(some 12), .mv (.const (.int .i64 0)), none⟩]
def k54_3 : VC := .reg [⟨(some 15), .mv (.tmp 12), none⟩,
    ⟨(some 16), .mv (.tmp 1), none⟩,
    ⟨(some 17), .bin .lss (.tmp 15) (.tmp 16), none⟩]
def k54_4 : VC := .cond (.tmp 17) .skip (.exit 0)
def k54_5 : VC := .seq k54_3 k54_4
def k54_6 : VC := .reg [⟨(some 13), .mv (.const (.int .i64 0)), none⟩]
def k54_7 : VC := .reg [⟨(some 14), .mv (.const (.int .i64 0)), none⟩]
def k54_8 : VC := .reg [⟨(some 20), .mv (.tmp 14), none⟩,
    ⟨(some 21), .mv (.tmp 3), none⟩,
    ⟨(some 22), .lenL (.tmp 21), none⟩,
    ⟨(some 23), .bin .lss (.tmp 20) (.tmp 22), none⟩]
def k54_9 : VC := .cond (.tmp 23) .skip (.exit 2)
def k54_10 : VC := .seq k54_8 k54_9
def k54_11 : VC := .regD [⟨(some 26), .mv (.tmp 3), none⟩,
    ⟨(some 27), .mv (.tmp 14), none⟩,
    ⟨(some 28), .idxAL 2 (.tmp 26) (.tmp 27), none⟩,
    ⟨(some 29), .loadN [.str, (.int .i64)] (.tmp 28), none⟩,
    ⟨(some 30), .callF 50 [(.tmp 29)], none⟩,
    ⟨(some 31), .mv (.tmp 30), none⟩,
    ⟨(some 32), .loadN [(.int .u64), (.int .u64)] (.tmp 5), (some (31, true))⟩,
    ⟨(some 33), .mv (.tmp 12), (some (31, true))⟩,
    ⟨(some 34), .mv (.tmp 2), (some (31, true))⟩,
    ⟨(some 35), .mv (.tmp 3), (some (31, true))⟩,
    ⟨(some 36), .mv (.tmp 14), (some (31, true))⟩,
    ⟨(some 37), .idxAL 2 (.tmp 35) (.tmp 36), (some (31, true))⟩,
    ⟨(some 38), .fieldA 0 (.tmp 37), (some (31, true))⟩,
    ⟨(some 39), .load1 .str (.tmp 38), (some (31, true))⟩,
    ⟨(some 40), .callF 52 [(.tmp 32), (.tmp 33), (.tmp 34), (.tmp 39)], (some (31, true))⟩,
    ⟨(some 41), .loadN [(.int .u64), (.int .u64)] (.tmp 5), (some (31, true))⟩,
    ⟨(some 42), .mv (.tmp 12), (some (31, true))⟩,
    ⟨(some 43), .mv (.tmp 2), (some (31, true))⟩,
    ⟨(some 44), .mv (.tmp 4), (some (31, true))⟩,
    ⟨(some 45), .callF 52 [(.tmp 41), (.tmp 42), (.tmp 43), (.tmp 44)], (some (31, true))⟩,
    ⟨(some 46), .bin .eql (.tmp 40) (.tmp 45), (some (31, true))⟩,
    ⟨(some 47), .pick (.tmp 31) (.tmp 46) (.const (.bool false)), none⟩] [(14, 15)]
def k54_12 : VC := .reg [⟨(some 48), .mv (.tmp 13), none⟩,
    ⟨(some 49), .mv (.tmp 3), none⟩,
    ⟨(some 50), .mv (.tmp 14), none⟩,
    ⟨(some 51), .idxAL 2 (.tmp 49) (.tmp 50), none⟩,
    ⟨(some 52), .fieldA 1 (.tmp 51), none⟩,
    ⟨(some 53), .load1 (.int .i64) (.tmp 52), none⟩,
    ⟨(some 54), .bin .add (.tmp 48) (.tmp 53), none⟩,
    ⟨(some 55), .minmax false [(.const (.int .i64 1099511627776)), (.tmp 54)], none⟩,
    ⟨(some 13), .mv (.tmp 55), none⟩]
def k54_13 : VC := .cond (.tmp 47) k54_12 .skip
def k54_14 : VC := .seq k54_11 k54_13
def k54_15 : VC := .block 3 k54_14
def k54_16 : VC := .reg [⟨(some 24), .mv (.tmp 14), none⟩,
    ⟨(some 25), .bin .add (.tmp 24) (.const (.int .i64 1)), none⟩,
    ⟨(some 14), .mv (.tmp 25), none⟩]
def k54_17 : VC := .seq k54_15 k54_16
def k54_18 : VC := .seq k54_10 k54_17
def k54_19 : VC := .loop k54_18
def k54_20 : VC := .block 2 k54_19
def k54_21 : VC := .seq k54_7 k54_20
def k54_22 : VC := .reg [⟨(some 56), .mv (.tmp 11), none⟩,
    ⟨(some 57), .mv (.tmp 13), none⟩,
    ⟨(some 58), .minmax false [(.tmp 56), (.tmp 57)], none⟩,
    ⟨(some 11), .mv (.tmp 58), none⟩]
def k54_23 : VC := .seq k54_21 k54_22
def k54_24 : VC := .seq k54_6 k54_23
def k54_25 : VC := .block 1 k54_24
def k54_26 : VC := .reg [⟨(some 18), .mv (.tmp 12), none⟩,
    ⟨(some 19), .bin .add (.tmp 18) (.const (.int .i64 1)), none⟩,
    ⟨(some 12), .mv (.tmp 19), none⟩]
def k54_27 : VC := .seq k54_25 k54_26
def k54_28 : VC := .seq k54_5 k54_27
def k54_29 : VC := .loop k54_28
def k54_30 : VC := .block 0 k54_29
def k54_31 : VC := .seq k54_2 k54_30
def k54_32 : VC := .reg [⟨(some 59), .mv (.tmp 11), none⟩,
    ⟨(some 10), .mv (.tmp 59), none⟩]
def k54_33 : VC := .seq k54_32 .ret
def k54_34 : VC := .seq k54_31 k54_33
def k54_35 : VC := .seq k54_1 k54_34
def k54_36 : VC := .seq k54_0 k54_35
def fn54 : VFn := ⟨60, k54_36, [.tmp 10]⟩
/- 56: cloakroom/cloakroomref50.Total -/
def k56_0 : VC := .reg [⟨(some 2), .mv (.const (.int .i64 0)), none⟩]
def k56_1 : VC := .reg [⟨(some 3), .mv (.const (.int .i64 0)), none⟩]
def k56_2 : VC := .reg [⟨(some 4), .mv (.const (.int .i64 0)), none⟩]
def k56_3 : VC := .reg [⟨(some 5), .mv (.tmp 4), none⟩,
    ⟨(some 6), .mv (.tmp 0), none⟩,
    ⟨(some 7), .lenL (.tmp 6), none⟩,
    ⟨(some 8), .bin .lss (.tmp 5) (.tmp 7), none⟩]
def k56_4 : VC := .cond (.tmp 8) .skip (.exit 0)
def k56_5 : VC := .seq k56_3 k56_4
def k56_6 : VC := .reg [⟨(some 11), .mv (.tmp 0), none⟩,
    ⟨(some 12), .mv (.tmp 4), none⟩,
    ⟨(some 13), .idxAL 2 (.tmp 11) (.tmp 12), none⟩,
    ⟨(some 14), .loadN [.str, (.int .i64)] (.tmp 13), none⟩,
    ⟨(some 15), .callF 50 [(.tmp 14)], none⟩]
def k56_7 : VC := .reg [⟨(some 16), .mv (.tmp 3), none⟩,
    ⟨(some 17), .mv (.tmp 0), none⟩,
    ⟨(some 18), .mv (.tmp 4), none⟩,
    ⟨(some 19), .idxAL 2 (.tmp 17) (.tmp 18), none⟩,
    ⟨(some 20), .fieldA 1 (.tmp 19), none⟩,
    ⟨(some 21), .load1 (.int .i64) (.tmp 20), none⟩,
    ⟨(some 22), .bin .add (.tmp 16) (.tmp 21), none⟩,
    ⟨(some 23), .minmax false [(.const (.int .i64 1099511627776)), (.tmp 22)], none⟩,
    ⟨(some 3), .mv (.tmp 23), none⟩]
def k56_8 : VC := .cond (.tmp 15) k56_7 .skip
def k56_9 : VC := .seq k56_6 k56_8
def k56_10 : VC := .block 1 k56_9
def k56_11 : VC := .reg [⟨(some 9), .mv (.tmp 4), none⟩,
    ⟨(some 10), .bin .add (.tmp 9) (.const (.int .i64 1)), none⟩,
    ⟨(some 4), .mv (.tmp 10), none⟩]
def k56_12 : VC := .seq k56_10 k56_11
def k56_13 : VC := .seq k56_5 k56_12
def k56_14 : VC := .loop k56_13
def k56_15 : VC := .block 0 k56_14
def k56_16 : VC := .seq k56_2 k56_15
def k56_17 : VC := .reg [⟨(some 24), .mv (.tmp 3), none⟩,
    ⟨(some 2), .mv (.tmp 24), none⟩]
def k56_18 : VC := .seq k56_17 .ret
def k56_19 : VC := .seq k56_16 k56_18
def k56_20 : VC := .seq k56_1 k56_19
def k56_21 : VC := .seq k56_0 k56_20
def fn56 : VFn := ⟨25, k56_21, [.tmp 2]⟩
/- 11: cloakroom/cloakroomlaw50.SketchBounds -/
def k11_0 : VC := .reg [⟨(some 6), .box (.tmp 2), none⟩,
    ⟨(some 8), .mv (.const (.bool false)), none⟩]
def k11_1 : VC := .reg [⟨(some 14), .mv (.tmp 3), none⟩,
    ⟨(some 15), .callF 45 [(.tmp 14)], none⟩,
    ⟨(some 16), .not (.tmp 15), none⟩]
def k11_2 : VC := .reg [⟨(some 17), .callF 46 [], none⟩,
    ⟨(some 8), .mv (.tmp 17), none⟩]
def k11_3 : VC := .seq k11_2 .ret
def k11_4 : VC := .cond (.tmp 16) k11_3 .skip
def k11_5 : VC := .seq k11_1 k11_4
def k11_6 : VC := .reg [⟨(some 18), .mv (.tmp 0), none⟩,
    ⟨(some 19), .conv .i64 (.tmp 18), none⟩,
    ⟨(some 20), .bin .rem (.tmp 19) (.const (.int .i64 8)), none⟩,
    ⟨(some 21), .bin .add (.const (.int .i64 1)) (.tmp 20), none⟩,
    ⟨(some 22), .mv (.tmp 1), none⟩,
    ⟨(some 23), .conv .i64 (.tmp 22), none⟩,
    ⟨(some 24), .bin .rem (.tmp 23) (.const (.int .i64 64)), none⟩,
    ⟨(some 25), .bin .add (.const (.int .i64 1)) (.tmp 24), none⟩,
    ⟨(some 26), .loadN [(.int .u64), (.int .u64)] (.tmp 6), none⟩,
    ⟨(some 27), .callF 47 [(.tmp 21), (.tmp 25), (.tmp 26)], none⟩,
    ⟨(some 9), .mv (.tmp 27), none⟩]
def k11_7 : VC := .reg [⟨(some 28), .mv (.tmp 9), none⟩,
    ⟨(some 29), .isNil 0 false (.tmp 28), none⟩]
def k11_8 : VC := .reg [⟨(some 8), .mv (.const (.bool false)), none⟩]
def k11_9 : VC := .seq k11_8 .ret
def k11_10 : VC := .cond (.tmp 29) k11_9 .skip
def k11_11 : VC := .seq k11_7 k11_10
def k11_12 : VC := .reg [⟨(some 10), .mv (.const (.int .i64 0)), none⟩]
def k11_13 : VC := .reg [⟨(some 30), .mv (.tmp 10), none⟩,
    ⟨(some 31), .mv (.tmp 3), none⟩,
    ⟨(some 32), .lenL (.tmp 31), none⟩,
    ⟨(some 33), .bin .lss (.tmp 30) (.tmp 32), none⟩]
def k11_14 : VC := .cond (.tmp 33) .skip (.exit 0)
def k11_15 : VC := .seq k11_13 k11_14
def k11_16 : VC := .regD [⟨(some 36), .mv (.tmp 9), none⟩,
    ⟨(some 37), .mv (.tmp 3), none⟩,
    ⟨(some 38), .mv (.tmp 10), none⟩,
    ⟨(some 39), .idxAL 2 (.tmp 37) (.tmp 38), none⟩,
    ⟨(some 40), .fieldA 0 (.tmp 39), none⟩,
    ⟨(some 41), .load1 .str (.tmp 40), none⟩,
    ⟨(some 42), .mv (.tmp 3), none⟩,
    ⟨(some 43), .mv (.tmp 10), none⟩,
    ⟨(some 44), .idxAL 2 (.tmp 42) (.tmp 43), none⟩,
    ⟨(some 45), .fieldA 1 (.tmp 44), none⟩,
    ⟨(some 46), .load1 (.int .i64) (.tmp 45), none⟩,
    ⟨(some 47), .callF 49 [(.tmp 36), (.tmp 41), (.tmp 46)], none⟩] []
def k11_17 : VC := .block 1 k11_16
def k11_18 : VC := .reg [⟨(some 34), .mv (.tmp 10), none⟩,
    ⟨(some 35), .bin .add (.tmp 34) (.const (.int .i64 1)), none⟩,
    ⟨(some 10), .mv (.tmp 35), none⟩]
def k11_19 : VC := .seq k11_17 k11_18
def k11_20 : VC := .seq k11_15 k11_19
def k11_21 : VC := .loop k11_20
def k11_22 : VC := .block 0 k11_21
def k11_23 : VC := .seq k11_12 k11_22
def k11_24 : VC := .reg [⟨(some 11), .mv (.const (.int .i64 0)), none⟩]
def k11_25 : VC := .reg [⟨(some 48), .mv (.tmp 11), none⟩,
    ⟨(some 49), .mv (.tmp 3), none⟩,
    ⟨(some 50), .lenL (.tmp 49), none⟩,
    ⟨(some 51), .bin .lss (.tmp 48) (.tmp 50), none⟩]
def k11_26 : VC := .cond (.tmp 51) .skip (.exit 2)
def k11_27 : VC := .seq k11_25 k11_26
def k11_28 : VC := .reg [⟨(some 12), .mv (.const (.int .i64 0)), none⟩]
def k11_29 : VC := .reg [⟨(some 13), .mv (.const (.int .i64 0)), none⟩]
def k11_30 : VC := .reg [⟨(some 54), .mv (.tmp 13), none⟩,
    ⟨(some 55), .mv (.tmp 3), none⟩,
    ⟨(some 56), .lenL (.tmp 55), none⟩,
    ⟨(some 57), .bin .lss (.tmp 54) (.tmp 56), none⟩]
def k11_31 : VC := .cond (.tmp 57) .skip (.exit 4)
def k11_32 : VC := .seq k11_30 k11_31
def k11_33 : VC := .regD [⟨(some 60), .mv (.tmp 3), none⟩,
    ⟨(some 61), .mv (.tmp 13), none⟩,
    ⟨(some 62), .idxAL 2 (.tmp 60) (.tmp 61), none⟩,
    ⟨(some 63), .fieldA 0 (.tmp 62), none⟩,
    ⟨(some 64), .load1 .str (.tmp 63), none⟩,
    ⟨(some 65), .mv (.tmp 3), none⟩,
    ⟨(some 66), .mv (.tmp 11), none⟩,
    ⟨(some 67), .idxAL 2 (.tmp 65) (.tmp 66), none⟩,
    ⟨(some 68), .fieldA 0 (.tmp 67), none⟩,
    ⟨(some 69), .load1 .str (.tmp 68), none⟩,
    ⟨(some 70), .bin .eql (.tmp 64) (.tmp 69), none⟩,
    ⟨(some 71), .mv (.tmp 70), none⟩,
    ⟨(some 72), .mv (.tmp 3), (some (71, true))⟩,
    ⟨(some 73), .mv (.tmp 13), (some (71, true))⟩,
    ⟨(some 74), .idxAL 2 (.tmp 72) (.tmp 73), (some (71, true))⟩,
    ⟨(some 75), .fieldA 1 (.tmp 74), (some (71, true))⟩,
    ⟨(some 76), .load1 (.int .i64) (.tmp 75), (some (71, true))⟩,
    ⟨(some 77), .bin .geq (.tmp 76) (.const (.int .i64 0)), (some (71, true))⟩,
    ⟨(some 78), .pick (.tmp 71) (.tmp 77) (.const (.bool false)), none⟩,
    ⟨(some 79), .mv (.tmp 78), none⟩,
    ⟨(some 80), .mv (.tmp 3), (some (79, true))⟩,
    ⟨(some 81), .mv (.tmp 13), (some (79, true))⟩,
    ⟨(some 82), .idxAL 2 (.tmp 80) (.tmp 81), (some (79, true))⟩,
    ⟨(some 83), .fieldA 1 (.tmp 82), (some (79, true))⟩,
    ⟨(some 84), .load1 (.int .i64) (.tmp 83), (some (79, true))⟩,
    ⟨(some 85), .bin .leq (.tmp 84) (.const (.int .i64 1048576)), (some (79, true))⟩,
    ⟨(some 86), .pick (.tmp 79) (.tmp 85) (.const (.bool false)), none⟩] []
def k11_34 : VC := .reg [⟨(some 87), .mv (.tmp 12), none⟩,
    ⟨(some 88), .mv (.tmp 3), none⟩,
    ⟨(some 89), .mv (.tmp 13), none⟩,
    ⟨(some 90), .idxAL 2 (.tmp 88) (.tmp 89), none⟩,
    ⟨(some 91), .fieldA 1 (.tmp 90), none⟩,
    ⟨(some 92), .load1 (.int .i64) (.tmp 91), none⟩,
    ⟨(some 93), .bin .add (.tmp 87) (.tmp 92), none⟩,
    ⟨(some 12), .mv (.tmp 93), none⟩]
def k11_35 : VC := .cond (.tmp 86) k11_34 .skip
def k11_36 : VC := .seq k11_33 k11_35
def k11_37 : VC := .block 5 k11_36
def k11_38 : VC := .reg [⟨(some 58), .mv (.tmp 13), none⟩,
    ⟨(some 59), .bin .add (.tmp 58) (.const (.int .i64 1)), none⟩,
    ⟨(some 13), .mv (.tmp 59), none⟩]
def k11_39 : VC := .seq k11_37 k11_38
def k11_40 : VC := .seq k11_32 k11_39
def k11_41 : VC := .loop k11_40
def k11_42 : VC := .block 4 k11_41
def k11_43 : VC := .seq k11_29 k11_42
def k11_44 : VC := .reg [⟨(some 94), .mv (.tmp 9), none⟩,
    ⟨(some 95), .mv (.tmp 3), none⟩,
    ⟨(some 96), .mv (.tmp 11), none⟩,
    ⟨(some 97), .idxAL 2 (.tmp 95) (.tmp 96), none⟩,
    ⟨(some 98), .fieldA 0 (.tmp 97), none⟩,
    ⟨(some 99), .load1 .str (.tmp 98), none⟩,
    ⟨(some 100), .callF 53 [(.tmp 94), (.tmp 99)], none⟩,
    ⟨(some 101), .mv (.tmp 12), none⟩,
    ⟨(some 102), .bin .lss (.tmp 100) (.tmp 101), none⟩,
    ⟨(some 103), .mv (.tmp 102), none⟩,
    ⟨(some 104), .mv (.tmp 9), (some (103, false))⟩,
    ⟨(some 105), .mv (.tmp 3), (some (103, false))⟩,
    ⟨(some 106), .mv (.tmp 11), (some (103, false))⟩,
    ⟨(some 107), .idxAL 2 (.tmp 105) (.tmp 106), (some (103, false))⟩,
    ⟨(some 108), .fieldA 0 (.tmp 107), (some (103, false))⟩,
    ⟨(some 109), .load1 .str (.tmp 108), (some (103, false))⟩,
    ⟨(some 110), .callF 53 [(.tmp 104), (.tmp 109)], (some (103, false))⟩,
    ⟨(some 111), .mv (.tmp 9), (some (103, false))⟩,
    ⟨(some 112), .callF 55 [(.tmp 111)], (some (103, false))⟩,
    ⟨(some 113), .bin .gtr (.tmp 110) (.tmp 112), (some (103, false))⟩,
    ⟨(some 114), .pick (.tmp 103) (.const (.bool true)) (.tmp 113), none⟩]
def k11_45 : VC := .reg [⟨(some 8), .mv (.const (.bool false)), none⟩]
def k11_46 : VC := .seq k11_45 .ret
def k11_47 : VC := .cond (.tmp 114) k11_46 .skip
def k11_48 : VC := .seq k11_44 k11_47
def k11_49 : VC := .seq k11_43 k11_48
def k11_50 : VC := .seq k11_28 k11_49
def k11_51 : VC := .block 3 k11_50
def k11_52 : VC := .reg [⟨(some 52), .mv (.tmp 11), none⟩,
    ⟨(some 53), .bin .add (.tmp 52) (.const (.int .i64 1)), none⟩,
    ⟨(some 11), .mv (.tmp 53), none⟩]
def k11_53 : VC := .seq k11_51 k11_52
def k11_54 : VC := .seq k11_27 k11_53
def k11_55 : VC := .loop k11_54
def k11_56 : VC := .block 2 k11_55
def k11_57 : VC := .seq k11_24 k11_56
def k11_58 : VC := .reg [⟨(some 115), .callF 46 [], none⟩,
    ⟨(some 8), .mv (.tmp 115), none⟩]
def k11_59 : VC := .seq k11_58 .ret
def k11_60 : VC := .seq k11_57 k11_59
def k11_61 : VC := .seq k11_23 k11_60
def k11_62 : VC := .seq k11_11 k11_61
def k11_63 : VC := .seq k11_6 k11_62
def k11_64 : VC := .seq k11_5 k11_63
def k11_65 : VC := .seq k11_0 k11_64
def fn11 : VFn := ⟨116, k11_65, [.tmp 8]⟩
/- 12: cloakroom/cloakroomlaw02.OctetTells -/
def k12_0 : VC := .reg [⟨(some 8), .mv (.const (.bool false)), none⟩]
def k12_1 : VC := .reg [⟨(some 17), .mv (.tmp 2), none⟩,
    ⟨(some 18), .lenS (.tmp 17), none⟩,
    ⟨(some 19), .bin .gtr (.tmp 18) (.const (.int .i64 60)), none⟩]
def k12_2 : VC := .reg [⟨(some 20), .callF 58 [], none⟩,
    ⟨(some 8), .mv (.tmp 20), none⟩]
def k12_3 : VC := .seq k12_2 .ret
def k12_4 : VC := .cond (.tmp 19) k12_3 .skip
def k12_5 : VC := .seq k12_1 k12_4
def k12_6 : VC := .reg [⟨(some 22), .mv (.tmp 2), none⟩,
    ⟨(some 23), .mv (.tmp 3), none⟩,
    ⟨(some 24), .mv (.tmp 1), none⟩,
    ⟨(some 25), .callF 59 [(.tmp 22), (.tmp 23), (.tmp 24)], none⟩,
    ⟨(some 21), .mv (.tmp 25), none⟩,
    ⟨(some 26), .extract 0 (.tmp 21), none⟩,
    ⟨(some 27), .extract 1 (.tmp 21), none⟩,
    ⟨(some 9), .mv (.tmp 26), none⟩,
    ⟨(some 10), .mv (.tmp 27), none⟩]
def k12_7 : VC := .reg [⟨(some 29), .mv (.tmp 2), none⟩,
    ⟨(some 30), .mv (.tmp 3), none⟩,
    ⟨(some 31), .mv (.tmp 1), none⟩,
    ⟨(some 32), .callF 60 [(.tmp 29), (.tmp 30), (.tmp 31)], none⟩,
    ⟨(some 28), .mv (.tmp 32), none⟩,
    ⟨(some 33), .extract 0 (.tmp 28), none⟩,
    ⟨(some 34), .extract 1 (.tmp 28), none⟩,
    ⟨(some 11), .mv (.tmp 33), none⟩,
    ⟨(some 12), .mv (.tmp 34), none⟩]
def k12_8 : VC := .reg [⟨(some 36), .mv (.tmp 2), none⟩,
    ⟨(some 37), .callF 61 [(.tmp 36)], none⟩,
    ⟨(some 35), .mv (.tmp 37), none⟩,
    ⟨(some 38), .extract 0 (.tmp 35), none⟩,
    ⟨(some 39), .extract 1 (.tmp 35), none⟩,
    ⟨(some 13), .mv (.tmp 38), none⟩,
    ⟨(some 14), .mv (.tmp 39), none⟩]
def k12_9 : VC := .reg [⟨(some 41), .mv (.tmp 2), none⟩,
    ⟨(some 42), .callF 62 [(.tmp 41)], none⟩,
    ⟨(some 40), .mv (.tmp 42), none⟩,
    ⟨(some 43), .extract 0 (.tmp 40), none⟩,
    ⟨(some 44), .extract 1 (.tmp 40), none⟩,
    ⟨(some 15), .mv (.tmp 43), none⟩,
    ⟨(some 16), .mv (.tmp 44), none⟩]
def k12_10 : VC := .reg [⟨(some 45), .mv (.tmp 0), none⟩,
    ⟨(some 46), .mv (.tmp 1), none⟩,
    ⟨(some 47), .callF 63 [(.tmp 45), (.tmp 46)], none⟩,
    ⟨(some 48), .mv (.tmp 0), none⟩,
    ⟨(some 49), .mv (.tmp 1), none⟩,
    ⟨(some 50), .callF 64 [(.tmp 48), (.tmp 49)], none⟩,
    ⟨(some 51), .bin .eql (.tmp 47) (.tmp 50), none⟩,
    ⟨(some 52), .mv (.tmp 51), none⟩,
    ⟨(some 53), .mv (.tmp 9), (some (52, true))⟩,
    ⟨(some 54), .mv (.tmp 11), (some (52, true))⟩,
    ⟨(some 55), .bin .eql (.tmp 53) (.tmp 54), (some (52, true))⟩,
    ⟨(some 56), .pick (.tmp 52) (.tmp 55) (.const (.bool false)), none⟩,
    ⟨(some 57), .mv (.tmp 56), none⟩,
    ⟨(some 58), .mv (.tmp 10), (some (57, true))⟩,
    ⟨(some 59), .mv (.tmp 12), (some (57, true))⟩,
    ⟨(some 60), .eqB false (.tmp 58) (.tmp 59), (some (57, true))⟩,
    ⟨(some 61), .pick (.tmp 57) (.tmp 60) (.const (.bool false)), none⟩,
    ⟨(some 62), .mv (.tmp 61), none⟩,
    ⟨(some 63), .mv (.tmp 2), (some (62, true))⟩,
    ⟨(some 64), .callF 65 [(.tmp 63)], (some (62, true))⟩,
    ⟨(some 65), .mv (.tmp 2), (some (62, true))⟩,
    ⟨(some 66), .callF 66 [(.tmp 65)], (some (62, true))⟩,
    ⟨(some 67), .bin .eql (.tmp 64) (.tmp 66), (some (62, true))⟩,
    ⟨(some 68), .pick (.tmp 62) (.tmp 67) (.const (.bool false)), none⟩,
    ⟨(some 69), .mv (.tmp 68), none⟩,
    ⟨(some 70), .mv (.tmp 13), (some (69, true))⟩,
    ⟨(some 71), .mv (.tmp 15), (some (69, true))⟩,
    ⟨(some 72), .bin .eql (.tmp 70) (.tmp 71), (some (69, true))⟩,
    ⟨(some 73), .pick (.tmp 69) (.tmp 72) (.const (.bool false)), none⟩,
    ⟨(some 74), .mv (.tmp 73), none⟩,
    ⟨(some 75), .mv (.tmp 14), (some (74, true))⟩,
    ⟨(some 76), .mv (.tmp 16), (some (74, true))⟩,
    ⟨(some 77), .eqB false (.tmp 75) (.tmp 76), (some (74, true))⟩,
    ⟨(some 78), .pick (.tmp 74) (.tmp 77) (.const (.bool false)), none⟩,
    ⟨(some 79), .mv (.tmp 78), none⟩,
    ⟨(some 80), .callF 58 [], (some (79, true))⟩,
    ⟨(some 81), .pick (.tmp 79) (.tmp 80) (.const (.bool false)), none⟩,
    ⟨(some 8), .mv (.tmp 81), none⟩]
def k12_11 : VC := .seq k12_10 .ret
def k12_12 : VC := .seq k12_9 k12_11
def k12_13 : VC := .seq k12_8 k12_12
def k12_14 : VC := .seq k12_7 k12_13
def k12_15 : VC := .seq k12_6 k12_14
def k12_16 : VC := .seq k12_5 k12_15
def k12_17 : VC := .seq k12_0 k12_16
def fn12 : VFn := ⟨82, k12_17, [.tmp 8]⟩
/- 58: cloakroom/cloakroomlaw02.awake -/
def k58_0 : VC := .reg [⟨(some 0), .mv (.const (.bool false)), none⟩]
def k58_1 : VC := .reg [⟨(some 4), .callF 61 [(.const (.string ⟨⟨[48, 71]⟩⟩))], none⟩,
    ⟨(some 3), .mv (.tmp 4), none⟩,
    ⟨(some 5), .extract 0 (.tmp 3), none⟩,
    ⟨(some 6), .extract 1 (.tmp 3), none⟩,
    ⟨(some 1), .mv (.tmp 5), none⟩,
    ⟨(some 2), .mv (.tmp 6), none⟩]
def k58_2 : VC := .reg [⟨(some 7), .callF 63 [(.const (.int .u64 258)), (.const (.int .i64 2))], none⟩,
    ⟨(some 8), .bin .eql (.tmp 7) (.const (.string ⟨⟨[1, 2]⟩⟩)), none⟩,
    ⟨(some 9), .mv (.tmp 8), none⟩,
    ⟨(some 10), .callF 65 [(.const (.string ⟨⟨[102, 102]⟩⟩))], (some (9, true))⟩,
    ⟨(some 11), .bin .eql (.tmp 10) (.const (.string ⟨⟨[54, 54, 54, 54]⟩⟩)), (some (9, true))⟩,
    ⟨(some 12), .pick (.tmp 9) (.tmp 11) (.const (.bool false)), none⟩,
    ⟨(some 13), .mv (.tmp 12), none⟩,
    ⟨(some 14), .mv (.tmp 2), (some (13, true))⟩,
    ⟨(some 15), .not (.tmp 14), (some (13, true))⟩,
    ⟨(some 16), .pick (.tmp 13) (.tmp 15) (.const (.bool false)), none⟩,
    ⟨(some 17), .mv (.tmp 16), none⟩,
    ⟨(some 18), .callF 67 [(.const (.string ⟨⟨[97]⟩⟩))], (some (17, true))⟩,
    ⟨(some 19), .callF 68 [(.tmp 18), (.const (.int .i64 1))], (some (17, true))⟩,
    ⟨(some 20), .bin .eql (.tmp 19) (.const (.int .i64 97)), (some (17, true))⟩,
    ⟨(some 21), .pick (.tmp 17) (.tmp 20) (.const (.bool false)), none⟩,
    ⟨(some 0), .mv (.tmp 21), none⟩]
def k58_3 : VC := .seq k58_2 .ret
def k58_4 : VC := .seq k58_1 k58_3
def k58_5 : VC := .seq k58_0 k58_4
def fn58 : VFn := ⟨22, k58_5, [.tmp 0]⟩
/- 61: cloakroom/octet.Unhex -/
def k61_0 : VC := .reg [⟨(some 2), .mv (.const (.string ⟨⟨[]⟩⟩)), none⟩,
    ⟨(some 3), .mv (.const (.bool false)), none⟩]
def k61_1 : VC := .reg [⟨(some 9), .mv (.tmp 0), none⟩,
    ⟨(some 10), .lenS (.tmp 9), none⟩,
    ⟨(some 11), .bin .rem (.tmp 10) (.const (.int .i64 2)), none⟩,
    ⟨(some 12), .bin .gtr (.tmp 11) (.const (.int .i64 0)), none⟩]
def k61_2 : VC := .reg [⟨(some 2), .mv (.const (.string ⟨⟨[]⟩⟩)), none⟩,
    ⟨(some 3), .mv (.const (.bool false)), none⟩]
def k61_3 : VC := .seq k61_2 .ret
def k61_4 : VC := .cond (.tmp 12) k61_3 .skip
def k61_5 : VC := .seq k61_1 k61_4
def k61_6 : VC := .reg [⟨(some 13), .mv (.tmp 0), none⟩,
    ⟨(some 14), .lenS (.tmp 13), none⟩,
    ⟨(some 15), .bin .quo (.tmp 14) (.const (.int .i64 2)), none⟩,
    ⟨(some 16), .mkSl 1 1 [(.int .u8 0)] (.tmp 15) (.tmp 15), none⟩,
    ⟨(some 4), .mv (.tmp 16), none⟩]
def k61_7 : VC := .reg [⟨(some 5), .mv (.const (.int .i64 0)), none⟩]
def k61_8 : VC := .reg [⟨(some 17), .mv (.tmp 0), none⟩,
    ⟨(some 18), .rangeS (.tmp 17), none⟩]
def k61_9 : VC := .reg [⟨(some 19), .nextS (.tmp 18), none⟩,
    ⟨(some 20), .extract 0 (.tmp 19), none⟩]
def k61_10 : VC := .cond (.tmp 20) .skip (.exit 0)
def k61_11 : VC := .reg [⟨(some 21), .extract 2 (.tmp 19), none⟩,
    ⟨(some 7), .mv (.tmp 21), none⟩]
def k61_12 : VC := .reg [⟨(some 22), .mv (.tmp 7), none⟩,
    ⟨(some 23), .callF 109 [(.const (.string ⟨⟨[48, 49, 50, 51, 52, 53, 54, 55, 56, 57, 97, 98, 99, 100, 101, 102]⟩⟩)), (.tmp 22)], none⟩,
    ⟨(some 8), .mv (.tmp 23), none⟩]
def k61_13 : VC := .reg [⟨(some 24), .mv (.tmp 8), none⟩,
    ⟨(some 25), .bin .lss (.tmp 24) (.const (.int .i64 0)), none⟩]
def k61_14 : VC := .reg [⟨(some 2), .mv (.const (.string ⟨⟨[]⟩⟩)), none⟩,
    ⟨(some 3), .mv (.const (.bool false)), none⟩]
def k61_15 : VC := .seq k61_14 .ret
def k61_16 : VC := .cond (.tmp 25) k61_15 .skip
def k61_17 : VC := .seq k61_13 k61_16
def k61_18 : VC := .reg [⟨(some 26), .mv (.tmp 4), none⟩,
    ⟨(some 27), .mv (.tmp 5), none⟩,
    ⟨(some 28), .bin .quo (.tmp 27) (.const (.int .i64 2)), none⟩,
    ⟨(some 29), .mv (.tmp 4), none⟩,
    ⟨(some 30), .mv (.tmp 5), none⟩,
    ⟨(some 31), .bin .quo (.tmp 30) (.const (.int .i64 2)), none⟩,
    ⟨(some 32), .idxAL 1 (.tmp 29) (.tmp 31), none⟩,
    ⟨(some 33), .load1 (.int .u8) (.tmp 32), none⟩,
    ⟨(some 34), .bin .shl (.tmp 33) (.const (.int .u64 4)), none⟩,
    ⟨(some 35), .mv (.tmp 8), none⟩,
    ⟨(some 36), .conv .u8 (.tmp 35), none⟩,
    ⟨(some 37), .bin .or (.tmp 34) (.tmp 36), none⟩,
    ⟨(some 38), .idxAL 1 (.tmp 26) (.tmp 28), none⟩,
    ⟨none, .store 1 (.tmp 38) (.tmp 37), none⟩]
def k61_19 : VC := .reg [⟨(some 39), .mv (.tmp 5), none⟩,
    ⟨(some 40), .bin .add (.tmp 39) (.const (.int .i64 1)), none⟩,
    ⟨(some 5), .mv (.tmp 40), none⟩]
def k61_20 : VC := .seq k61_18 k61_19
def k61_21 : VC := .seq k61_17 k61_20
def k61_22 : VC := .seq k61_12 k61_21
def k61_23 : VC := .seq k61_11 k61_22
def k61_24 : VC := .block 1 k61_23
def k61_25 : VC := .seq k61_10 k61_24
def k61_26 : VC := .seq k61_9 k61_25
def k61_27 : VC := .loop k61_26
def k61_28 : VC := .block 0 k61_27
def k61_29 : VC := .seq k61_8 k61_28
def k61_30 : VC := .reg [⟨(some 41), .mv (.tmp 4), none⟩,
    ⟨(some 42), .b2s (.tmp 41), none⟩,
    ⟨(some 2), .mv (.tmp 42), none⟩,
    ⟨(some 3), .mv (.const (.bool true)), none⟩]
def k61_31 : VC := .seq k61_30 .ret
def k61_32 : VC := .seq k61_29 k61_31
def k61_33 : VC := .seq k61_7 k61_32
def k61_34 : VC := .seq k61_6 k61_33
def k61_35 : VC := .seq k61_5 k61_34
def k61_36 : VC := .seq k61_0 k61_35
def fn61 : VFn := ⟨43, k61_36, [.tmp 2, .tmp 3]⟩
/- 65: cloakroom/octet.Hex -/
def k65_0 : VC := .reg [⟨(some 2), .mv (.const (.string ⟨⟨[]⟩⟩)), none⟩]
def k65_1 : VC := .reg [⟨(some 3), .alloc [(.pointer none), (.slice none 0 0)], none⟩]
def k65_2 : VC := .reg [⟨(some 6), .mv (.tmp 0), none⟩,
    ⟨(some 7), .s2b (.tmp 6), none⟩,
    ⟨(some 8), .lenL (.tmp 7), none⟩,
    ⟨(some 9), .mv (.const (.int .i64 0)), none⟩]
def k65_3 : VC := .reg [⟨(some 10), .bin .lss (.tmp 9) (.tmp 8), none⟩]
def k65_4 : VC := .cond (.tmp 10) .skip (.exit 0)
def k65_5 : VC := .reg [⟨(some 11), .idxAL 1 (.tmp 7) (.tmp 9), none⟩,
    ⟨(some 12), .load1 (.int .u8) (.tmp 11), none⟩,
    ⟨(some 5), .mv (.tmp 12), none⟩]
def k65_6 : VC := .reg [⟨(some 13), .mv (.tmp 5), none⟩,
    ⟨(some 14), .bin .shr (.tmp 13) (.const (.int .u64 4)), none⟩,
    ⟨(some 15), .idxS (.const (.string ⟨⟨[48, 49, 50, 51, 52, 53, 54, 55, 56, 57, 97, 98, 99, 100, 101, 102]⟩⟩)) (.tmp 14), none⟩,
    ⟨(some 16), .callF 111 [(.tmp 3), (.tmp 15)], none⟩]
def k65_7 : VC := .reg [⟨(some 17), .mv (.tmp 5), none⟩,
    ⟨(some 18), .bin .and (.tmp 17) (.const (.int .u8 15)), none⟩,
    ⟨(some 19), .idxS (.const (.string ⟨⟨[48, 49, 50, 51, 52, 53, 54, 55, 56, 57, 97, 98, 99, 100, 101, 102]⟩⟩)) (.tmp 18), none⟩,
    ⟨(some 20), .callF 111 [(.tmp 3), (.tmp 19)], none⟩]
def k65_8 : VC := .seq k65_6 k65_7
def k65_9 : VC := .seq k65_5 k65_8
def k65_10 : VC := .block 1 k65_9
def k65_11 : VC := .reg [⟨(some 21), .bin .add (.tmp 9) (.const (.int .i64 1)), none⟩,
    ⟨(some 9), .mv (.tmp 21), none⟩]
def k65_12 : VC := .seq k65_10 k65_11
def k65_13 : VC := .seq k65_4 k65_12
def k65_14 : VC := .seq k65_3 k65_13
def k65_15 : VC := .loop k65_14
def k65_16 : VC := .block 0 k65_15
def k65_17 : VC := .seq k65_2 k65_16
def k65_18 : VC := .reg [⟨(some 22), .callF 112 [(.tmp 3)], none⟩,
    ⟨(some 2), .mv (.tmp 22), none⟩]
def k65_19 : VC := .seq k65_18 .ret
def k65_20 : VC := .seq k65_17 k65_19
def k65_21 : VC := .seq k65_1 k65_20
def k65_22 : VC := .seq k65_0 k65_21
def fn65 : VFn := ⟨23, k65_22, [.tmp 2]⟩
/- 111: (*strings.Builder).WriteByte -/
def k111_0 : VC := .reg [⟨(some 4), .mv (.const .nilIface), none⟩]
def k111_1 : VC := .reg [⟨(some 5), .mv (.tmp 0), none⟩,
    ⟨(some 6), .callF 136 [(.tmp 5)], none⟩]
def k111_2 : VC := .reg [⟨(some 7), .mv (.tmp 0), none⟩,
    ⟨(some 8), .mv (.tmp 0), none⟩,
    ⟨(some 9), .nilCheck (.tmp 8), none⟩,
    ⟨(some 10), .fieldA 1 (.tmp 9), none⟩,
    ⟨(some 11), .load1 .oth (.tmp 10), none⟩,
    ⟨(some 12), .mv (.tmp 1), none⟩,
    ⟨(some 13), .buildSl 1 1 [(.int .u8 0)] [(0, 1, (.tmp 12))], none⟩,
    ⟨(some 14), .app 1 1 (.tmp 11) (.tmp 13), none⟩,
    ⟨(some 15), .nilCheck (.tmp 7), none⟩,
    ⟨(some 16), .fieldA 1 (.tmp 15), none⟩,
    ⟨none, .store 1 (.tmp 16) (.tmp 14), none⟩]
def k111_3 : VC := .reg [⟨(some 4), .mv (.const .nilIface), none⟩]
def k111_4 : VC := .seq k111_3 .ret
def k111_5 : VC := .seq k111_2 k111_4
def k111_6 : VC := .seq k111_1 k111_5
def k111_7 : VC := .seq k111_0 k111_6
def fn111 : VFn := ⟨17, k111_7, [.tmp 4]⟩
/- 62: cloakroom/cloakroomref02.Unhex -/
def k62_0 : VC := .reg [⟨(some 2), .mv (.const (.string ⟨⟨[]⟩⟩)), none⟩,
    ⟨(some 3), .mv (.const (.bool false)), none⟩]
def k62_1 : VC := .reg [⟨(some 4), .mv (.const (.slice none 0 0)), none⟩]
def k62_2 : VC := .reg [⟨(some 5), .mv (.const (.int .i64 0)), none⟩]
def k62_3 : VC := .reg [⟨(some 8), .mv (.tmp 5), none⟩,
    ⟨(some 9), .bin .add (.tmp 8) (.const (.int .i64 1)), none⟩,
    ⟨(some 10), .mv (.tmp 0), none⟩,
    ⟨(some 11), .lenS (.tmp 10), none⟩,
    ⟨(some 12), .bin .lss (.tmp 9) (.tmp 11), none⟩]
def k62_4 : VC := .cond (.tmp 12) .skip (.exit 0)
def k62_5 : VC := .seq k62_3 k62_4
def k62_6 : VC := .regD [⟨(some 15), .mv (.tmp 0), none⟩,
    ⟨(some 16), .mv (.tmp 5), none⟩,
    ⟨(some 17), .idxS (.tmp 15) (.tmp 16), none⟩,
    ⟨(some 18), .callF 110 [(.tmp 17)], none⟩,
    ⟨(some 19), .mv (.tmp 0), none⟩,
    ⟨(some 20), .mv (.tmp 5), none⟩,
    ⟨(some 21), .bin .add (.tmp 20) (.const (.int .i64 1)), none⟩,
    ⟨(some 22), .idxS (.tmp 19) (.tmp 21), none⟩,
    ⟨(some 23), .callF 110 [(.tmp 22)], none⟩,
    ⟨(some 6), .mv (.tmp 18), none⟩,
    ⟨(some 7), .mv (.tmp 23), none⟩] []
def k62_7 : VC := .reg [⟨(some 24), .mv (.tmp 6), none⟩,
    ⟨(some 25), .bin .lss (.tmp 24) (.const (.int .i64 0)), none⟩,
    ⟨(some 26), .mv (.tmp 25), none⟩,
    ⟨(some 27), .mv (.tmp 7), (some (26, false))⟩,
    ⟨(some 28), .bin .lss (.tmp 27) (.const (.int .i64 0)), (some (26, false))⟩,
    ⟨(some 29), .pick (.tmp 26) (.const (.bool true)) (.tmp 28), none⟩]
def k62_8 : VC := .reg [⟨(some 2), .mv (.const (.string ⟨⟨[]⟩⟩)), none⟩,
    ⟨(some 3), .mv (.const (.bool false)), none⟩]
def k62_9 : VC := .seq k62_8 .ret
def k62_10 : VC := .cond (.tmp 29) k62_9 .skip
def k62_11 : VC := .seq k62_7 k62_10
def k62_12 : VC := .reg [⟨(some 30), .mv (.tmp 4), none⟩,
    ⟨(some 31), .mv (.tmp 6), none⟩,
    ⟨(some 32), .bin .mul (.const (.int .i64 16)) (.tmp 31), none⟩,
    ⟨(some 33), .mv (.tmp 7), none⟩,
    ⟨(some 34), .bin .add (.tmp 32) (.tmp 33), none⟩,
    ⟨(some 35), .conv .u8 (.tmp 34), none⟩,
    ⟨(some 36), .buildSl 1 1 [(.int .u8 0)] [(0, 1, (.tmp 35))], none⟩,
    ⟨(some 37), .app 1 1 (.tmp 30) (.tmp 36), none⟩,
    ⟨(some 4), .mv (.tmp 37), none⟩]
def k62_13 : VC := .seq k62_11 k62_12
def k62_14 : VC := .seq k62_6 k62_13
def k62_15 : VC := .block 1 k62_14
def k62_16 : VC := .reg [⟨(some 13), .mv (.tmp 5), none⟩,
    ⟨(some 14), .bin .add (.tmp 13) (.const (.int .i64 2)), none⟩,
    ⟨(some 5), .mv (.tmp 14), none⟩]
def k62_17 : VC := .seq k62_15 k62_16
def k62_18 : VC := .seq k62_5 k62_17
def k62_19 : VC := .loop k62_18
def k62_20 : VC := .block 0 k62_19
def k62_21 : VC := .seq k62_2 k62_20
def k62_22 : VC := .reg [⟨(some 38), .mv (.tmp 0), none⟩,
    ⟨(some 39), .lenS (.tmp 38), none⟩,
    ⟨(some 40), .bin .rem (.tmp 39) (.const (.int .i64 2)), none⟩,
    ⟨(some 41), .bin .eql (.tmp 40) (.const (.int .i64 1)), none⟩]
def k62_23 : VC := .reg [⟨(some 2), .mv (.const (.string ⟨⟨[]⟩⟩)), none⟩,
    ⟨(some 3), .mv (.const (.bool false)), none⟩]
def k62_24 : VC := .seq k62_23 .ret
def k62_25 : VC := .cond (.tmp 41) k62_24 .skip
def k62_26 : VC := .seq k62_22 k62_25
def k62_27 : VC := .reg [⟨(some 42), .mv (.tmp 4), none⟩,
    ⟨(some 43), .b2s (.tmp 42), none⟩,
    ⟨(some 2), .mv (.tmp 43), none⟩,
    ⟨(some 3), .mv (.const (.bool true)), none⟩]
def k62_28 : VC := .seq k62_27 .ret
def k62_29 : VC := .seq k62_26 k62_28
def k62_30 : VC := .seq k62_21 k62_29
def k62_31 : VC := .seq k62_1 k62_30
def k62_32 : VC := .seq k62_0 k62_31
def fn62 : VFn := ⟨44, k62_32, [.tmp 2, .tmp 3]⟩
/- 110: cloakroom/cloakroomref02.value -/
def k110_0 : VC := .reg [⟨(some 2), .mv (.const (.int .i64 0)), none⟩]
def k110_1 : VC := .reg [⟨(some 3), .mv (.const (.int .i64 0)), none⟩]
def k110_2 : VC := .reg [⟨(some 4), .mv (.tmp 3), none⟩,
    ⟨(some 5), .bin .lss (.tmp 4) (.const (.int .i64 16)), none⟩]
def k110_3 : VC := .cond (.tmp 5) .skip (.exit 0)
def k110_4 : VC := .seq k110_2 k110_3
def k110_5 : VC := .reg [⟨(some 8), .mv (.tmp 3), none⟩,
    ⟨(some 9), .callF 113 [(.tmp 8)], none⟩,
    ⟨(some 10), .mv (.tmp 0), none⟩,
    ⟨(some 11), .bin .eql (.tmp 9) (.tmp 10), none⟩]
def k110_6 : VC := .reg [⟨(some 12), .mv (.tmp 3), none⟩,
    ⟨(some 2), .mv (.tmp 12), none⟩]
def k110_7 : VC := .seq k110_6 .ret
def k110_8 : VC := .cond (.tmp 11) k110_7 .skip
def k110_9 : VC := .seq k110_5 k110_8
def k110_10 : VC := .block 1 k110_9
def k110_11 : VC := .reg [⟨(some 6), .mv (.tmp 3), none⟩,
    ⟨(some 7), .bin .add (.tmp 6) (.const (.int .i64 1)), none⟩,
    ⟨(some 3), .mv (.tmp 7), none⟩]
def k110_12 : VC := .seq k110_10 k110_11
def k110_13 : VC := .seq k110_4 k110_12
def k110_14 : VC := .loop k110_13
def k110_15 : VC := .block 0 k110_14
def k110_16 : VC := .seq k110_1 k110_15
def k110_17 : VC := .reg [⟨(some 2), .mv (.const (.int .i64 (-1))), none⟩]
def k110_18 : VC := .seq k110_17 .ret
def k110_19 : VC := .seq k110_16 k110_18
def k110_20 : VC := .seq k110_0 k110_19
def fn110 : VFn := ⟨13, k110_20, [.tmp 2]⟩
/- 113: cloakroom/cloakroomref02.digit -/
def k113_0 : VC := .reg [⟨(some 2), .mv (.const (.int .u8 0)), none⟩]
def k113_1 : VC := .reg [⟨(some 3), .mv (.tmp 0), none⟩,
    ⟨(some 4), .bin .lss (.tmp 3) (.const (.int .i64 10)), none⟩]
def k113_2 : VC := .reg [⟨(some 5), .mv (.tmp 0), none⟩,
    ⟨(some 6), .bin .add (.const (.int .i64 48)) (.tmp 5), none⟩,
    ⟨(some 7), .conv .u8 (.tmp 6), none⟩,
    ⟨(some 2), .mv (.tmp 7), none⟩]
def k113_3 : VC := .seq k113_2 .ret
def k113_4 : VC := .cond (.tmp 4) k113_3 .skip
def k113_5 : VC := .seq k113_1 k113_4
def k113_6 : VC := .reg [⟨(some 8), .mv (.tmp 0), none⟩,
    ⟨(some 9), .bin .add (.const (.int .i64 97)) (.tmp 8), none⟩,
    ⟨(some 10), .bin .sub (.tmp 9) (.const (.int .i64 10)), none⟩,
    ⟨(some 11), .conv .u8 (.tmp 10), none⟩,
    ⟨(some 2), .mv (.tmp 11), none⟩]
def k113_7 : VC := .seq k113_6 .ret
def k113_8 : VC := .seq k113_5 k113_7
def k113_9 : VC := .seq k113_0 k113_8
def fn113 : VFn := ⟨12, k113_9, [.tmp 2]⟩
/- 66: cloakroom/cloakroomref02.Hex -/
def k66_0 : VC := .reg [⟨(some 2), .mv (.const (.string ⟨⟨[]⟩⟩)), none⟩]
def k66_1 : VC := .reg [⟨(some 3), .mv (.const (.slice none 0 0)), none⟩]
def k66_2 : VC := .reg [⟨(some 4), .mv (.const (.int .i64 0)), none⟩]
def k66_3 : VC := .reg [⟨(some 5), .mv (.tmp 4), none⟩,
    ⟨(some 6), .mv (.tmp 0), none⟩,
    ⟨(some 7), .lenS (.tmp 6), none⟩,
    ⟨(some 8), .bin .lss (.tmp 5) (.tmp 7), none⟩]
def k66_4 : VC := .cond (.tmp 8) .skip (.exit 0)
def k66_5 : VC := .seq k66_3 k66_4
def k66_6 : VC := .regD [⟨(some 11), .mv (.tmp 3), none⟩,
    ⟨(some 12), .mv (.tmp 0), none⟩,
    ⟨(some 13), .mv (.tmp 4), none⟩,
    ⟨(some 14), .idxS (.tmp 12) (.tmp 13), none⟩,
    ⟨(some 15), .conv .i64 (.tmp 14), none⟩,
    ⟨(some 16), .bin .quo (.tmp 15) (.const (.int .i64 16)), none⟩,
    ⟨(some 17), .callF 113 [(.tmp 16)], none⟩,
    ⟨(some 18), .mv (.tmp 0), none⟩,
    ⟨(some 19), .mv (.tmp 4), none⟩,
    ⟨(some 20), .idxS (.tmp 18) (.tmp 19), none⟩,
    ⟨(some 21), .conv .i64 (.tmp 20), none⟩,
    ⟨(some 22), .bin .rem (.tmp 21) (.const (.int .i64 16)), none⟩,
    ⟨(some 23), .callF 113 [(.tmp 22)], none⟩,
    ⟨(some 24), .buildSl 2 1 [(.int .u8 0), (.int .u8 0)] [(0, 1, (.tmp 17)), (1, 1, (.tmp 23))], none⟩,
    ⟨(some 25), .app 1 1 (.tmp 11) (.tmp 24), none⟩,
    ⟨(some 3), .mv (.tmp 25), none⟩] []
def k66_7 : VC := .block 1 k66_6
def k66_8 : VC := .reg [⟨(some 9), .mv (.tmp 4), none⟩,
    ⟨(some 10), .bin .add (.tmp 9) (.const (.int .i64 1)), none⟩,
    ⟨(some 4), .mv (.tmp 10), none⟩]
def k66_9 : VC := .seq k66_7 k66_8
def k66_10 : VC := .seq k66_5 k66_9
def k66_11 : VC := .loop k66_10
def k66_12 : VC := .block 0 k66_11
def k66_13 : VC := .seq k66_2 k66_12
def k66_14 : VC := .reg [⟨(some 26), .mv (.tmp 3), none⟩,
    ⟨(some 27), .b2s (.tmp 26), none⟩,
    ⟨(some 2), .mv (.tmp 27), none⟩]
def k66_15 : VC := .seq k66_14 .ret
def k66_16 : VC := .seq k66_13 k66_15
def k66_17 : VC := .seq k66_1 k66_16
def k66_18 : VC := .seq k66_0 k66_17
def fn66 : VFn := ⟨28, k66_18, [.tmp 2]⟩
/- 13: cloakroom/cloakroomlaw02.OctetBack -/
def k13_0 : VC := .reg [⟨(some 6), .mv (.const (.bool false)), none⟩]
def k13_1 : VC := .reg [⟨(some 13), .mv (.tmp 1), none⟩,
    ⟨(some 14), .conv .i64 (.tmp 13), none⟩,
    ⟨(some 15), .bin .rem (.tmp 14) (.const (.int .i64 8)), none⟩,
    ⟨(some 16), .bin .add (.const (.int .i64 1)) (.tmp 15), none⟩,
    ⟨(some 7), .mv (.tmp 16), none⟩]
def k13_2 : VC := .reg [⟨(some 17), .mv (.tmp 2), none⟩,
    ⟨(some 18), .lenS (.tmp 17), none⟩,
    ⟨(some 19), .bin .gtr (.tmp 18) (.const (.int .i64 60)), none⟩]
def k13_3 : VC := .reg [⟨(some 20), .callF 58 [], none⟩,
    ⟨(some 6), .mv (.tmp 20), none⟩]
def k13_4 : VC := .seq k13_3 .ret
def k13_5 : VC := .cond (.tmp 19) k13_4 .skip
def k13_6 : VC := .seq k13_2 k13_5
def k13_7 : VC := .reg [⟨(some 21), .mv (.tmp 0), none⟩,
    ⟨(some 22), .mv (.tmp 7), none⟩,
    ⟨(some 23), .callF 63 [(.tmp 21), (.tmp 22)], none⟩,
    ⟨(some 8), .mv (.tmp 23), none⟩]
def k13_8 : VC := .reg [⟨(some 25), .mv (.tmp 8), none⟩,
    ⟨(some 26), .mv (.tmp 2), none⟩,
    ⟨(some 27), .bin .add (.tmp 25) (.tmp 26), none⟩,
    ⟨(some 28), .mv (.tmp 7), none⟩,
    ⟨(some 29), .callF 59 [(.tmp 27), (.const (.int .i64 0)), (.tmp 28)], none⟩,
    ⟨(some 24), .mv (.tmp 29), none⟩,
    ⟨(some 30), .extract 0 (.tmp 24), none⟩,
    ⟨(some 31), .extract 1 (.tmp 24), none⟩,
    ⟨(some 9), .mv (.tmp 30), none⟩,
    ⟨(some 10), .mv (.tmp 31), none⟩]
def k13_9 : VC := .reg [⟨(some 33), .mv (.tmp 2), none⟩,
    ⟨(some 34), .callF 65 [(.tmp 33)], none⟩,
    ⟨(some 35), .callF 61 [(.tmp 34)], none⟩,
    ⟨(some 32), .mv (.tmp 35), none⟩,
    ⟨(some 36), .extract 0 (.tmp 32), none⟩,
    ⟨(some 37), .extract 1 (.tmp 32), none⟩,
    ⟨(some 11), .mv (.tmp 36), none⟩,
    ⟨(some 12), .mv (.tmp 37), none⟩]
def k13_10 : VC := .regD [⟨(some 38), .mv (.tmp 8), none⟩,
    ⟨(some 39), .lenS (.tmp 38), none⟩,
    ⟨(some 40), .mv (.tmp 7), none⟩,
    ⟨(some 41), .bin .eql (.tmp 39) (.tmp 40), none⟩,
    ⟨(some 42), .mv (.tmp 41), none⟩,
    ⟨(some 43), .mv (.tmp 10), (some (42, true))⟩,
    ⟨(some 44), .pick (.tmp 42) (.tmp 43) (.const (.bool false)), none⟩,
    ⟨(some 45), .mv (.tmp 44), none⟩,
    ⟨(some 46), .mv (.tmp 9), (some (45, true))⟩,
    ⟨(some 47), .mv (.tmp 0), (some (45, true))⟩,
    ⟨(some 48), .mv (.tmp 7), (some (45, true))⟩,
    ⟨(some 49), .bin .mul (.const (.int .i64 8)) (.tmp 48), (some (45, true))⟩,
    ⟨(some 50), .bin .sub (.tmp 49) (.const (.int .i64 1)), (some (45, true))⟩,
    ⟨(some 51), .bin .shl (.const (.int .u64 1)) (.tmp 50), (some (45, true))⟩,
    ⟨(some 52), .bin .sub (.tmp 51) (.const (.int .u64 1)), (some (45, true))⟩,
    ⟨(some 53), .mv (.tmp 7), (some (45, true))⟩,
    ⟨(some 54), .bin .mul (.const (.int .i64 8)) (.tmp 53), (some (45, true))⟩,
    ⟨(some 55), .bin .sub (.tmp 54) (.const (.int .i64 1)), (some (45, true))⟩,
    ⟨(some 56), .bin .shl (.const (.int .u64 1)) (.tmp 55), (some (45, true))⟩,
    ⟨(some 57), .bin .add (.tmp 52) (.tmp 56), (some (45, true))⟩,
    ⟨(some 58), .bin .and (.tmp 47) (.tmp 57), (some (45, true))⟩,
    ⟨(some 59), .bin .eql (.tmp 46) (.tmp 58), (some (45, true))⟩,
    ⟨(some 60), .pick (.tmp 45) (.tmp 59) (.const (.bool false)), none⟩,
    ⟨(some 61), .mv (.tmp 60), none⟩,
    ⟨(some 62), .mv (.tmp 12), (some (61, true))⟩,
    ⟨(some 63), .pick (.tmp 61) (.tmp 62) (.const (.bool false)), none⟩,
    ⟨(some 64), .mv (.tmp 63), none⟩,
    ⟨(some 65), .mv (.tmp 11), (some (64, true))⟩,
    ⟨(some 66), .mv (.tmp 2), (some (64, true))⟩,
    ⟨(some 67), .bin .eql (.tmp 65) (.tmp 66), (some (64, true))⟩,
    ⟨(some 68), .pick (.tmp 64) (.tmp 67) (.const (.bool false)), none⟩,
    ⟨(some 69), .mv (.tmp 68), none⟩,
    ⟨(some 70), .mv (.tmp 2), (some (69, true))⟩,
    ⟨(some 71), .callF 65 [(.tmp 70)], (some (69, true))⟩,
    ⟨(some 72), .lenS (.tmp 71), (some (69, true))⟩,
    ⟨(some 73), .mv (.tmp 2), (some (69, true))⟩,
    ⟨(some 74), .lenS (.tmp 73), (some (69, true))⟩,
    ⟨(some 75), .bin .mul (.const (.int .i64 2)) (.tmp 74), (some (69, true))⟩,
    ⟨(some 76), .bin .eql (.tmp 72) (.tmp 75), (some (69, true))⟩,
    ⟨(some 77), .pick (.tmp 69) (.tmp 76) (.const (.bool false)), none⟩,
    ⟨(some 78), .mv (.tmp 77), none⟩,
    ⟨(some 79), .callF 58 [], (some (78, true))⟩,
    ⟨(some 80), .pick (.tmp 78) (.tmp 79) (.const (.bool false)), none⟩,
    ⟨(some 6), .mv (.tmp 80), none⟩] []
def k13_11 : VC := .seq k13_10 .ret
def k13_12 : VC := .seq k13_9 k13_11
def k13_13 : VC := .seq k13_8 k13_12
def k13_14 : VC := .seq k13_7 k13_13
def k13_15 : VC := .seq k13_6 k13_14
def k13_16 : VC := .seq k13_1 k13_15
def k13_17 : VC := .seq k13_0 k13_16
def fn13 : VFn := ⟨81, k13_17, [.tmp 6]⟩
/- 14: cloakroom/cloakroomlaw02.OctetReads -/
def k14_0 : VC := .reg [⟨(some 4), .mv (.const (.bool false)), none⟩]
def k14_1 : VC := .reg [⟨(some 10), .mv (.tmp 0), none⟩,
    ⟨(some 11), .lenS (.tmp 10), none⟩,
    ⟨(some 12), .bin .gtr (.tmp 11) (.const (.int .i64 60)), none⟩,
    ⟨(some 13), .mv (.tmp 12), none⟩,
    ⟨(some 14), .mv (.tmp 1), (some (13, false))⟩,
    ⟨(some 15), .lenL (.tmp 14), (some (13, false))⟩,
    ⟨(some 16), .bin .gtr (.tmp 15) (.const (.int .i64 20)), (some (13, false))⟩,
    ⟨(some 17), .pick (.tmp 13) (.const (.bool true)) (.tmp 16), none⟩]
def k14_2 : VC := .reg [⟨(some 18), .callF 58 [], none⟩,
    ⟨(some 4), .mv (.tmp 18), none⟩]
def k14_3 : VC := .seq k14_2 .ret
def k14_4 : VC := .cond (.tmp 17) k14_3 .skip
def k14_5 : VC := .seq k14_1 k14_4
def k14_6 : VC := .reg [⟨(some 19), .mv (.tmp 0), none⟩,
    ⟨(some 20), .callF 67 [(.tmp 19)], none⟩,
    ⟨(some 21), .mv (.tmp 0), none⟩,
    ⟨(some 22), .build [(.string ⟨⟨[]⟩⟩), (.bool false)] [(0, 1, (.tmp 21))], none⟩,
    ⟨(some 23), .box (.tmp 22), none⟩,
    ⟨(some 5), .mv (.tmp 20), none⟩,
    ⟨(some 6), .mv (.tmp 23), none⟩]
def k14_7 : VC := .reg [⟨(some 7), .mv (.const (.int .i64 0)), none⟩]
def k14_8 : VC := .reg [⟨(some 24), .mv (.tmp 7), none⟩,
    ⟨(some 25), .mv (.tmp 1), none⟩,
    ⟨(some 26), .lenL (.tmp 25), none⟩,
    ⟨(some 27), .bin .lss (.tmp 24) (.tmp 26), none⟩]
def k14_9 : VC := .cond (.tmp 27) .skip (.exit 0)
def k14_10 : VC := .seq k14_8 k14_9
def k14_11 : VC := .reg [⟨(some 30), .mv (.tmp 1), none⟩,
    ⟨(some 31), .mv (.tmp 7), none⟩,
    ⟨(some 32), .idxAL 2 (.tmp 30) (.tmp 31), none⟩,
    ⟨(some 33), .fieldA 0 (.tmp 32), none⟩,
    ⟨(some 34), .load1 (.int .i64) (.tmp 33), none⟩]
def k14_12 : VC := .reg [⟨(some 41), .bin .eql (.tmp 34) (.const (.int .i64 0)), none⟩,
    ⟨(some 40), .mv (.tmp 41), none⟩]
def k14_13 : VC := .regD [⟨(some 42), .mv (.tmp 5), none⟩,
    ⟨(some 43), .mv (.tmp 1), none⟩,
    ⟨(some 44), .mv (.tmp 7), none⟩,
    ⟨(some 45), .idxAL 2 (.tmp 43) (.tmp 44), none⟩,
    ⟨(some 46), .fieldA 1 (.tmp 45), none⟩,
    ⟨(some 47), .load1 (.int .i64) (.tmp 46), none⟩,
    ⟨(some 48), .callF 68 [(.tmp 42), (.tmp 47)], none⟩,
    ⟨(some 49), .mv (.tmp 6), none⟩,
    ⟨(some 50), .mv (.tmp 1), none⟩,
    ⟨(some 51), .mv (.tmp 7), none⟩,
    ⟨(some 52), .idxAL 2 (.tmp 50) (.tmp 51), none⟩,
    ⟨(some 53), .fieldA 1 (.tmp 52), none⟩,
    ⟨(some 54), .load1 (.int .i64) (.tmp 53), none⟩,
    ⟨(some 55), .callF 69 [(.tmp 49), (.tmp 54)], none⟩,
    ⟨(some 56), .bin .neq (.tmp 48) (.tmp 55), none⟩] [(6, 12)]
def k14_14 : VC := .reg [⟨(some 4), .mv (.const (.bool false)), none⟩]
def k14_15 : VC := .seq k14_14 .ret
def k14_16 : VC := .cond (.tmp 56) k14_15 .skip
def k14_17 : VC := .seq k14_13 k14_16
def k14_18 : VC := .reg [⟨(some 58), .bin .eql (.tmp 34) (.const (.int .i64 1)), none⟩,
    ⟨(some 57), .mv (.tmp 58), none⟩]
def k14_19 : VC := .regD [⟨(some 59), .mv (.tmp 5), none⟩,
    ⟨(some 60), .mv (.tmp 1), none⟩,
    ⟨(some 61), .mv (.tmp 7), none⟩,
    ⟨(some 62), .idxAL 2 (.tmp 60) (.tmp 61), none⟩,
    ⟨(some 63), .fieldA 1 (.tmp 62), none⟩,
    ⟨(some 64), .load1 (.int .i64) (.tmp 63), none⟩,
    ⟨(some 65), .callF 70 [(.tmp 59), (.tmp 64)], none⟩,
    ⟨(some 66), .mv (.tmp 6), none⟩,
    ⟨(some 67), .mv (.tmp 1), none⟩,
    ⟨(some 68), .mv (.tmp 7), none⟩,
    ⟨(some 69), .idxAL 2 (.tmp 67) (.tmp 68), none⟩,
    ⟨(some 70), .fieldA 1 (.tmp 69), none⟩,
    ⟨(some 71), .load1 (.int .i64) (.tmp 70), none⟩,
    ⟨(some 72), .callF 71 [(.tmp 66), (.tmp 71)], none⟩,
    ⟨(some 73), .bin .neq (.tmp 65) (.tmp 72), none⟩] [(6, 12)]
def k14_20 : VC := .reg [⟨(some 4), .mv (.const (.bool false)), none⟩]
def k14_21 : VC := .seq k14_20 .ret
def k14_22 : VC := .cond (.tmp 73) k14_21 .skip
def k14_23 : VC := .seq k14_19 k14_22
def k14_24 : VC := .reg [⟨(some 35), .mv (.tmp 5), none⟩,
    ⟨(some 36), .callF 72 [(.tmp 35)], none⟩,
    ⟨(some 37), .mv (.tmp 6), none⟩,
    ⟨(some 38), .callF 73 [(.tmp 37)], none⟩,
    ⟨(some 39), .bin .neq (.tmp 36) (.tmp 38), none⟩]
def k14_25 : VC := .reg [⟨(some 4), .mv (.const (.bool false)), none⟩]
def k14_26 : VC := .seq k14_25 .ret
def k14_27 : VC := .cond (.tmp 39) k14_26 .skip
def k14_28 : VC := .seq k14_24 k14_27
def k14_29 : VC := .cond (.tmp 57) k14_23 k14_28
def k14_30 : VC := .seq k14_18 k14_29
def k14_31 : VC := .cond (.tmp 40) k14_17 k14_30
def k14_32 : VC := .seq k14_12 k14_31
def k14_33 : VC := .block 2 k14_32
def k14_34 : VC := .seq k14_11 k14_33
def k14_35 : VC := .regD [⟨(some 74), .mv (.tmp 5), none⟩,
    ⟨(some 75), .callF 74 [(.tmp 74)], none⟩,
    ⟨(some 76), .mv (.tmp 6), none⟩,
    ⟨(some 77), .nilCheck (.tmp 76), none⟩,
    ⟨(some 78), .fieldA 1 (.tmp 77), none⟩,
    ⟨(some 79), .load1 .bool (.tmp 78), none⟩,
    ⟨(some 80), .eqB true (.tmp 75) (.tmp 79), none⟩] [(1, 5)]
def k14_36 : VC := .reg [⟨(some 4), .mv (.const (.bool false)), none⟩]
def k14_37 : VC := .seq k14_36 .ret
def k14_38 : VC := .cond (.tmp 80) k14_37 .skip
def k14_39 : VC := .seq k14_35 k14_38
def k14_40 : VC := .seq k14_34 k14_39
def k14_41 : VC := .block 1 k14_40
def k14_42 : VC := .reg [⟨(some 28), .mv (.tmp 7), none⟩,
    ⟨(some 29), .bin .add (.tmp 28) (.const (.int .i64 1)), none⟩,
    ⟨(some 7), .mv (.tmp 29), none⟩]
def k14_43 : VC := .seq k14_41 k14_42
def k14_44 : VC := .seq k14_10 k14_43
def k14_45 : VC := .loop k14_44
def k14_46 : VC := .block 0 k14_45
def k14_47 : VC := .seq k14_7 k14_46
def k14_48 : VC := .reg [⟨(some 8), .mv (.const (.pointer none)), none⟩]
def k14_49 : VC := .reg [⟨(some 81), .build [(.string ⟨⟨[]⟩⟩), (.bool false), (.bool false)] [], none⟩,
    ⟨(some 82), .box (.tmp 81), none⟩,
    ⟨(some 9), .mv (.tmp 82), none⟩]
def k14_50 : VC := .reg [⟨(some 83), .mv (.tmp 8), none⟩,
    ⟨(some 84), .callF 68 [(.tmp 83), (.const (.int .i64 1))], none⟩,
    ⟨(some 85), .bin .eql (.tmp 84) (.const (.int .i64 0)), none⟩,
    ⟨(some 86), .mv (.tmp 85), none⟩,
    ⟨(some 87), .mv (.tmp 8), (some (86, true))⟩,
    ⟨(some 88), .callF 70 [(.tmp 87), (.const (.int .i64 0))], (some (86, true))⟩,
    ⟨(some 89), .bin .eql (.tmp 88) (.const (.string ⟨⟨[]⟩⟩)), (some (86, true))⟩,
    ⟨(some 90), .pick (.tmp 86) (.tmp 89) (.const (.bool false)), none⟩,
    ⟨(some 91), .mv (.tmp 90), none⟩,
    ⟨(some 92), .mv (.tmp 8), (some (91, true))⟩,
    ⟨(some 93), .callF 72 [(.tmp 92)], (some (91, true))⟩,
    ⟨(some 94), .bin .eql (.tmp 93) (.const (.string ⟨⟨[]⟩⟩)), (some (91, true))⟩,
    ⟨(some 95), .pick (.tmp 91) (.tmp 94) (.const (.bool false)), none⟩,
    ⟨(some 96), .mv (.tmp 95), none⟩,
    ⟨(some 97), .mv (.tmp 8), (some (96, true))⟩,
    ⟨(some 98), .callF 74 [(.tmp 97)], (some (96, true))⟩,
    ⟨(some 99), .pick (.tmp 96) (.tmp 98) (.const (.bool false)), none⟩,
    ⟨(some 100), .mv (.tmp 99), none⟩,
    ⟨(some 101), .mv (.tmp 9), (some (100, true))⟩,
    ⟨(some 102), .callF 70 [(.tmp 101), (.const (.int .i64 0))], (some (100, true))⟩,
    ⟨(some 103), .bin .eql (.tmp 102) (.const (.string ⟨⟨[]⟩⟩)), (some (100, true))⟩,
    ⟨(some 104), .pick (.tmp 100) (.tmp 103) (.const (.bool false)), none⟩,
    ⟨(some 105), .mv (.tmp 104), none⟩,
    ⟨(some 106), .mv (.tmp 9), (some (105, true))⟩,
    ⟨(some 107), .callF 74 [(.tmp 106)], (some (105, true))⟩,
    ⟨(some 108), .pick (.tmp 105) (.tmp 107) (.const (.bool false)), none⟩,
    ⟨(some 109), .mv (.tmp 108), none⟩,
    ⟨(some 110), .callF 58 [], (some (109, true))⟩,
    ⟨(some 111), .pick (.tmp 109) (.tmp 110) (.const (.bool false)), none⟩,
    ⟨(some 4), .mv (.tmp 111), none⟩]
def k14_51 : VC := .seq k14_50 .ret
def k14_52 : VC := .seq k14_49 k14_51
def k14_53 : VC := .seq k14_48 k14_52
def k14_54 : VC := .seq k14_47 k14_53
def k14_55 : VC := .seq k14_6 k14_54
def k14_56 : VC := .seq k14_5 k14_55
def k14_57 : VC := .seq k14_0 k14_56
def fn14 : VFn := ⟨112, k14_57, [.tmp 4]⟩
/- 69: (*cloakroom/cloakroomref02.Reader).Num -/
def k69_0 : VC := .reg [⟨(some 4), .mv (.const (.int .i64 0)), none⟩]
def k69_1 : VC := .reg [⟨(some 6), .mv (.tmp 1), none⟩,
    ⟨(some 7), .bin .lss (.tmp 6) (.const (.int .i64 1)), none⟩,
    ⟨(some 8), .mv (.tmp 7), none⟩,
    ⟨(some 9), .mv (.tmp 1), (some (8, false))⟩,
    ⟨(some 10), .bin .gtr (.tmp 9) (.const (.int .i64 7)), (some (8, false))⟩,
    ⟨(some 11), .pick (.tmp 8) (.const (.bool true)) (.tmp 10), none⟩]
def k69_2 : VC := .reg [⟨(some 12), .mv (.tmp 0), none⟩,
    ⟨(some 13), .nilCheck (.tmp 12), none⟩,
    ⟨(some 14), .fieldA 1 (.tmp 13), none⟩,
    ⟨none, .store 1 (.tmp 14) (.const (.bool true)), none⟩]
def k69_3 : VC := .cond (.tmp 11) k69_2 .skip
def k69_4 : VC := .seq k69_1 k69_3
def k69_5 : VC := .reg [⟨(some 15), .mv (.tmp 0), none⟩,
    ⟨(some 16), .mv (.tmp 1), none⟩,
    ⟨(some 17), .callF 71 [(.tmp 15), (.tmp 16)], none⟩,
    ⟨(some 5), .mv (.tmp 17), none⟩]
def k69_6 : VC := .reg [⟨(some 18), .mv (.tmp 0), none⟩,
    ⟨(some 19), .nilCheck (.tmp 18), none⟩,
    ⟨(some 20), .fieldA 1 (.tmp 19), none⟩,
    ⟨(some 21), .load1 .bool (.tmp 20), none⟩]
def k69_7 : VC := .reg [⟨(some 4), .mv (.const (.int .i64 0)), none⟩]
def k69_8 : VC := .seq k69_7 .ret
def k69_9 : VC := .cond (.tmp 21) k69_8 .skip
def k69_10 : VC := .seq k69_6 k69_9
def k69_11 : VC := .reg [⟨(some 22), .mv (.tmp 5), none⟩,
    ⟨(some 23), .mv (.tmp 1), none⟩,
    ⟨(some 24), .callF 79 [(.tmp 22), (.const (.int .i64 0)), (.tmp 23)], none⟩,
    ⟨(some 4), .mv (.tmp 24), none⟩]
def k69_12 : VC := .seq k69_11 .ret
def k69_13 : VC := .seq k69_10 k69_12
def k69_14 : VC := .seq k69_5 k69_13
def k69_15 : VC := .seq k69_4 k69_14
def k69_16 : VC := .seq k69_0 k69_15
def fn69 : VFn := ⟨25, k69_16, [.tmp 4]⟩
/- 71: (*cloakroom/cloakroomref02.Reader).Text -/
def k71_0 : VC := .reg [⟨(some 4), .mv (.const (.string ⟨⟨[]⟩⟩)), none⟩]
def k71_1 : VC := .reg [⟨(some 6), .mv (.tmp 0), none⟩,
    ⟨(some 7), .nilCheck (.tmp 6), none⟩,
    ⟨(some 8), .fieldA 1 (.tmp 7), none⟩,
    ⟨(some 9), .load1 .bool (.tmp 8), none⟩,
    ⟨(some 10), .mv (.tmp 9), none⟩,
    ⟨(some 11), .mv (.tmp 1), (some (10, false))⟩,
    ⟨(some 12), .bin .lss (.tmp 11) (.const (.int .i64 0)), (some (10, false))⟩,
    ⟨(some 13), .pick (.tmp 10) (.const (.bool true)) (.tmp 12), none⟩,
    ⟨(some 14), .mv (.tmp 13), none⟩,
    ⟨(some 15), .mv (.tmp 1), (some (14, false))⟩,
    ⟨(some 16), .mv (.tmp 0), (some (14, false))⟩,
    ⟨(some 17), .nilCheck (.tmp 16), (some (14, false))⟩,
    ⟨(some 18), .fieldA 0 (.tmp 17), (some (14, false))⟩,
    ⟨(some 19), .load1 .str (.tmp 18), (some (14, false))⟩,
    ⟨(some 20), .lenS (.tmp 19), (some (14, false))⟩,
    ⟨(some 21), .bin .gtr (.tmp 15) (.tmp 20), (some (14, false))⟩,
    ⟨(some 22), .pick (.tmp 14) (.const (.bool true)) (.tmp 21), none⟩]
def k71_2 : VC := .reg [⟨(some 23), .mv (.tmp 0), none⟩,
    ⟨(some 24), .nilCheck (.tmp 23), none⟩,
    ⟨(some 25), .fieldA 1 (.tmp 24), none⟩,
    ⟨none, .store 1 (.tmp 25) (.const (.bool true)), none⟩]
def k71_3 : VC := .reg [⟨(some 4), .mv (.const (.string ⟨⟨[]⟩⟩)), none⟩]
def k71_4 : VC := .seq k71_3 .ret
def k71_5 : VC := .seq k71_2 k71_4
def k71_6 : VC := .cond (.tmp 22) k71_5 .skip
def k71_7 : VC := .seq k71_1 k71_6
def k71_8 : VC := .reg [⟨(some 26), .mv (.tmp 0), none⟩,
    ⟨(some 27), .nilCheck (.tmp 26), none⟩,
    ⟨(some 28), .fieldA 0 (.tmp 27), none⟩,
    ⟨(some 29), .load1 .str (.tmp 28), none⟩,
    ⟨(some 30), .mv (.tmp 1), none⟩,
    ⟨(some 31), .sliceS (.tmp 29) none (some (.tmp 30)), none⟩,
    ⟨(some 5), .mv (.tmp 31), none⟩]
def k71_9 : VC := .reg [⟨(some 32), .mv (.tmp 0), none⟩,
    ⟨(some 33), .mv (.tmp 0), none⟩,
    ⟨(some 34), .nilCheck (.tmp 33), none⟩,
    ⟨(some 35), .fieldA 0 (.tmp 34), none⟩,
    ⟨(some 36), .load1 .str (.tmp 35), none⟩,
    ⟨(some 37), .mv (.tmp 1), none⟩,
    ⟨(some 38), .sliceS (.tmp 36) (some (.tmp 37)) none, none⟩,
    ⟨(some 39), .nilCheck (.tmp 32), none⟩,
    ⟨(some 40), .fieldA 0 (.tmp 39), none⟩,
    ⟨none, .store 1 (.tmp 40) (.tmp 38), none⟩]
def k71_10 : VC := .reg [⟨(some 41), .mv (.tmp 5), none⟩,
    ⟨(some 4), .mv (.tmp 41), none⟩]
def k71_11 : VC := .seq k71_10 .ret
def k71_12 : VC := .seq k71_9 k71_11
def k71_13 : VC := .seq k71_8 k71_12
def k71_14 : VC := .seq k71_7 k71_13
def k71_15 : VC := .seq k71_0 k71_14
def fn71 : VFn := ⟨42, k71_15, [.tmp 4]⟩
/- 73: (*cloakroom/cloakroomref02.Reader).Rest -/
def k73_0 : VC := .reg [⟨(some 2), .mv (.const (.string ⟨⟨[]⟩⟩)), none⟩]
def k73_1 : VC := .reg [⟨(some 3), .mv (.tmp 0), none⟩,
    ⟨(some 4), .nilCheck (.tmp 3), none⟩,
    ⟨(some 5), .fieldA 1 (.tmp 4), none⟩,
    ⟨(some 6), .load1 .bool (.tmp 5), none⟩]
def k73_2 : VC := .reg [⟨(some 2), .mv (.const (.string ⟨⟨[]⟩⟩)), none⟩]
def k73_3 : VC := .seq k73_2 .ret
def k73_4 : VC := .cond (.tmp 6) k73_3 .skip
def k73_5 : VC := .seq k73_1 k73_4
def k73_6 : VC := .reg [⟨(some 7), .mv (.tmp 0), none⟩,
    ⟨(some 8), .mv (.tmp 0), none⟩,
    ⟨(some 9), .nilCheck (.tmp 8), none⟩,
    ⟨(some 10), .fieldA 0 (.tmp 9), none⟩,
    ⟨(some 11), .load1 .str (.tmp 10), none⟩,
    ⟨(some 12), .lenS (.tmp 11), none⟩,
    ⟨(some 13), .callF 71 [(.tmp 7), (.tmp 12)], none⟩,
    ⟨(some 2), .mv (.tmp 13), none⟩]
def k73_7 : VC := .seq k73_6 .ret
def k73_8 : VC := .seq k73_5 k73_7
def k73_9 : VC := .seq k73_0 k73_8
def fn73 : VFn := ⟨14, k73_9, [.tmp 2]⟩
theorem fn44_ok : (Try.prog.funcs[44]?).bind (compFn Try.prog) = some fn44 := by kernel_rfl
theorem fn8_ok : (Try.prog.funcs[8]?).bind (compFn Try.prog) = some fn8 := by kernel_rfl
theorem fn9_ok : (Try.prog.funcs[9]?).bind (compFn Try.prog) = some fn9 := by kernel_rfl
theorem fn10_ok : (Try.prog.funcs[10]?).bind (compFn Try.prog) = some fn10 := by kernel_rfl
theorem fn45_ok : (Try.prog.funcs[45]?).bind (compFn Try.prog) = some fn45 := by kernel_rfl
theorem fn46_ok : (Try.prog.funcs[46]?).bind (compFn Try.prog) = some fn46 := by kernel_rfl
theorem fn47_ok : (Try.prog.funcs[47]?).bind (compFn Try.prog) = some fn47 := by kernel_rfl
theorem fn49_ok : (Try.prog.funcs[49]?).bind (compFn Try.prog) = some fn49 := by kernel_rfl
theorem fn100_ok : (Try.prog.funcs[100]?).bind (compFn Try.prog) = some fn100 := by kernel_rfl
theorem fn102_ok : (Try.prog.funcs[102]?).bind (compFn Try.prog) = some fn102 := by kernel_rfl
theorem fn103_ok : (Try.prog.funcs[103]?).bind (compFn Try.prog) = some fn103 := by kernel_rfl
theorem fn101_ok : (Try.prog.funcs[101]?).bind (compFn Try.prog) = some fn101 := by kernel_rfl
theorem fn57_ok : (Try.prog.funcs[57]?).bind (compFn Try.prog) = some fn57 := by kernel_rfl
theorem fn108_ok : (Try.prog.funcs[108]?).bind (compFn Try.prog) = some fn108 := by kernel_rfl
theorem fn107_ok : (Try.prog.funcs[107]?).bind (compFn Try.prog) = some fn107 := by kernel_rfl
theorem fn131_ok : (Try.prog.funcs[131]?).bind (compFn Try.prog) = some fn131 := by kernel_rfl
theorem fn147_ok : (Try.prog.funcs[147]?).bind (compFn Try.prog) = some fn147 := by kernel_rfl
theorem fn53_ok : (Try.prog.funcs[53]?).bind (compFn Try.prog) = some fn53 := by kernel_rfl
theorem fn106_ok : (Try.prog.funcs[106]?).bind (compFn Try.prog) = some fn106 := by kernel_rfl
theorem fn55_ok : (Try.prog.funcs[55]?).bind (compFn Try.prog) = some fn55 := by kernel_rfl
theorem fn51_ok : (Try.prog.funcs[51]?).bind (compFn Try.prog) = some fn51 := by kernel_rfl
theorem fn104_ok : (Try.prog.funcs[104]?).bind (compFn Try.prog) = some fn104 := by kernel_rfl
theorem fn128_ok : (Try.prog.funcs[128]?).bind (compFn Try.prog) = some fn128 := by kernel_rfl
theorem fn129_ok : (Try.prog.funcs[129]?).bind (compFn Try.prog) = some fn129 := by kernel_rfl
theorem fn48_ok : (Try.prog.funcs[48]?).bind (compFn Try.prog) = some fn48 := by kernel_rfl
theorem fn50_ok : (Try.prog.funcs[50]?).bind (compFn Try.prog) = some fn50 := by kernel_rfl
theorem fn52_ok : (Try.prog.funcs[52]?).bind (compFn Try.prog) = some fn52 := by kernel_rfl
theorem fn105_ok : (Try.prog.funcs[105]?).bind (compFn Try.prog) = some fn105 := by kernel_rfl
theorem fn130_ok : (Try.prog.funcs[130]?).bind (compFn Try.prog) = some fn130 := by kernel_rfl
theorem fn146_ok : (Try.prog.funcs[146]?).bind (compFn Try.prog) = some fn146 := by kernel_rfl
theorem fn54_ok : (Try.prog.funcs[54]?).bind (compFn Try.prog) = some fn54 := by kernel_rfl
theorem fn56_ok : (Try.prog.funcs[56]?).bind (compFn Try.prog) = some fn56 := by kernel_rfl
theorem fn11_ok : (Try.prog.funcs[11]?).bind (compFn Try.prog) = some fn11 := by kernel_rfl
theorem fn12_ok : (Try.prog.funcs[12]?).bind (compFn Try.prog) = some fn12 := by kernel_rfl
theorem fn58_ok : (Try.prog.funcs[58]?).bind (compFn Try.prog) = some fn58 := by kernel_rfl
theorem fn61_ok : (Try.prog.funcs[61]?).bind (compFn Try.prog) = some fn61 := by kernel_rfl
theorem fn65_ok : (Try.prog.funcs[65]?).bind (compFn Try.prog) = some fn65 := by kernel_rfl
theorem fn111_ok : (Try.prog.funcs[111]?).bind (compFn Try.prog) = some fn111 := by kernel_rfl
theorem fn62_ok : (Try.prog.funcs[62]?).bind (compFn Try.prog) = some fn62 := by kernel_rfl
theorem fn110_ok : (Try.prog.funcs[110]?).bind (compFn Try.prog) = some fn110 := by kernel_rfl
theorem fn113_ok : (Try.prog.funcs[113]?).bind (compFn Try.prog) = some fn113 := by kernel_rfl
theorem fn66_ok : (Try.prog.funcs[66]?).bind (compFn Try.prog) = some fn66 := by kernel_rfl
theorem fn13_ok : (Try.prog.funcs[13]?).bind (compFn Try.prog) = some fn13 := by kernel_rfl
theorem fn14_ok : (Try.prog.funcs[14]?).bind (compFn Try.prog) = some fn14 := by kernel_rfl
theorem fn69_ok : (Try.prog.funcs[69]?).bind (compFn Try.prog) = some fn69 := by kernel_rfl
theorem fn71_ok : (Try.prog.funcs[71]?).bind (compFn Try.prog) = some fn71 := by kernel_rfl
theorem fn73_ok : (Try.prog.funcs[73]?).bind (compFn Try.prog) = some fn73 := by kernel_rfl
def tab : List (Nat × VFn) := [(3, fn3), (15, fn15), (16, fn16), (20, fn20), (67, fn67), (68, fn68), (70, fn70), (74, fn74), (59, fn59), (72, fn72), (77, fn77), (78, fn78), (18, fn18), (17, fn17), (75, fn75), (63, fn63), (76, fn76), (19, fn19), (64, fn64), (21, fn21), (79, fn79), (60, fn60), (80, fn80), (22, fn22), (23, fn23), (24, fn24), (4, fn4), (5, fn5), (25, fn25), (26, fn26), (81, fn81), (82, fn82), (84, fn84), (114, fn114), (137, fn137), (150, fn150), (138, fn138), (83, fn83), (28, fn28), (87, fn87), (115, fn115), (139, fn139), (88, fn88), (27, fn27), (86, fn86), (89, fn89), (117, fn117), (116, fn116), (85, fn85), (29, fn29), (6, fn6), (7, fn7), (30, fn30), (38, fn38), (92, fn92), (93, fn93), (90, fn90), (31, fn31), (39, fn39), (91, fn91), (32, fn32), (33, fn33), (34, fn34), (42, fn42), (94, fn94), (96, fn96), (119, fn119), (140, fn140), (141, fn141), (120, fn120), (121, fn121), (95, fn95), (118, fn118), (122, fn122), (142, fn142), (151, fn151), (97, fn97), (40, fn40), (35, fn35), (43, fn43), (99, fn99), (126, fn126), (144, fn144), (145, fn145), (127, fn127), (98, fn98), (123, fn123), (124, fn124), (143, fn143), (125, fn125), (41, fn41), (36, fn36), (37, fn37), (44, fn44), (8, fn8), (9, fn9), (10, fn10), (45, fn45), (46, fn46), (47, fn47), (49, fn49), (100, fn100), (102, fn102), (103, fn103), (101, fn101), (57, fn57), (108, fn108), (107, fn107), (131, fn131), (147, fn147), (53, fn53), (106, fn106), (55, fn55), (51, fn51), (104, fn104), (128, fn128), (129, fn129), (48, fn48), (50, fn50), (52, fn52), (105, fn105), (130, fn130), (146, fn146), (54, fn54), (56, fn56), (11, fn11), (12, fn12), (58, fn58), (61, fn61), (65, fn65), (111, fn111), (62, fn62), (110, fn110), (113, fn113), (66, fn66), (13, fn13), (14, fn14), (69, fn69), (71, fn71), (73, fn73)]
theorem tab_ok : FnsOK Try.prog (aget tab) := FnsOK.of_tab ⟨fn3_ok, fn15_ok, fn16_ok, fn20_ok, fn67_ok, fn68_ok, fn70_ok, fn74_ok, fn59_ok, fn72_ok, fn77_ok, fn78_ok, fn18_ok, fn17_ok, fn75_ok, fn63_ok, fn76_ok, fn19_ok, fn64_ok, fn21_ok, fn79_ok, fn60_ok, fn80_ok, fn22_ok, fn23_ok, fn24_ok, fn4_ok, fn5_ok, fn25_ok, fn26_ok, fn81_ok, fn82_ok, fn84_ok, fn114_ok, fn137_ok, fn150_ok, fn138_ok, fn83_ok, fn28_ok, fn87_ok, fn115_ok, fn139_ok, fn88_ok, fn27_ok, fn86_ok, fn89_ok, fn117_ok, fn116_ok, fn85_ok, fn29_ok, fn6_ok, fn7_ok, fn30_ok, fn38_ok, fn92_ok, fn93_ok, fn90_ok, fn31_ok, fn39_ok, fn91_ok, fn32_ok, fn33_ok, fn34_ok, fn42_ok, fn94_ok, fn96_ok, fn119_ok, fn140_ok, fn141_ok, fn120_ok, fn121_ok, fn95_ok, fn118_ok, fn122_ok, fn142_ok, fn151_ok, fn97_ok, fn40_ok, fn35_ok, fn43_ok, fn99_ok, fn126_ok, fn144_ok, fn145_ok, fn127_ok, fn98_ok, fn123_ok, fn124_ok, fn143_ok, fn125_ok, fn41_ok, fn36_ok, fn37_ok, fn44_ok, fn8_ok, fn9_ok, fn10_ok, fn45_ok, fn46_ok, fn47_ok, fn49_ok, fn100_ok, fn102_ok, fn103_ok, fn101_ok, fn57_ok, fn108_ok, fn107_ok, fn131_ok, fn147_ok, fn53_ok, fn106_ok, fn55_ok, fn51_ok, fn104_ok, fn128_ok, fn129_ok, fn48_ok, fn50_ok, fn52_ok, fn105_ok, fn130_ok, fn146_ok, fn54_ok, fn56_ok, fn11_ok, fn12_ok, fn58_ok, fn61_ok, fn65_ok, fn111_ok, fn62_ok, fn110_ok, fn113_ok, fn66_ok, fn13_ok, fn14_ok, fn69_ok, fn71_ok, fn73_ok, trivial⟩
end Go.Vm.Code
