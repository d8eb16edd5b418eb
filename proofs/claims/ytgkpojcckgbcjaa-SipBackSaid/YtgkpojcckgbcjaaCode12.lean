import Derived.Test.YtgkpojcckgbcjaaVmLib
import Derived.Test.YtgkpojcckgbcjaaProg
import Derived.KernelRfl
namespace Go.Vm.Code
open Go Go.Vm Go.Proofs
/- 8: cloakroom/cloakroomlaw12.SipParts -/
def k8_0 : VC := .reg [⟨(some 2), .box (.tmp 0), none⟩,
    ⟨(some 4), .mv (.const (.bool false)), none⟩]
def k8_1 : VC := .reg [⟨(some 10), .mv (.tmp 1), none⟩,
    ⟨(some 11), .lenL (.tmp 10), none⟩,
    ⟨(some 12), .bin .gtr (.tmp 11) (.const (.int .i64 10)), none⟩]
def k8_2 : VC := .reg [⟨(some 13), .callF 30 [], none⟩,
    ⟨(some 4), .mv (.tmp 13), none⟩]
def k8_3 : VC := .seq k8_2 .ret
def k8_4 : VC := .cond (.tmp 12) k8_3 .skip
def k8_5 : VC := .seq k8_1 k8_4
def k8_6 : VC := .reg [⟨(some 14), .loadN [(.int .u64), (.int .u64)] (.tmp 2), none⟩,
    ⟨(some 15), .callF 31 [(.tmp 14)], none⟩,
    ⟨(some 5), .mv (.tmp 15), none⟩]
def k8_7 : VC := .reg [⟨(some 6), .mv (.const (.string ⟨⟨[]⟩⟩)), none⟩]
def k8_8 : VC := .reg [⟨(some 7), .mv (.const (.int .i64 0)), none⟩]
def k8_9 : VC := .reg [⟨(some 16), .mv (.tmp 7), none⟩,
    ⟨(some 17), .mv (.tmp 1), none⟩,
    ⟨(some 18), .lenL (.tmp 17), none⟩,
    ⟨(some 19), .bin .lss (.tmp 16) (.tmp 18), none⟩]
def k8_10 : VC := .cond (.tmp 19) .skip (.exit 0)
def k8_11 : VC := .seq k8_9 k8_10
def k8_12 : VC := .reg [⟨(some 22), .mv (.tmp 1), none⟩,
    ⟨(some 23), .mv (.tmp 7), none⟩,
    ⟨(some 24), .idxAL 1 (.tmp 22) (.tmp 23), none⟩,
    ⟨(some 25), .load1 .str (.tmp 24), none⟩,
    ⟨(some 26), .lenS (.tmp 25), none⟩,
    ⟨(some 27), .bin .gtr (.tmp 26) (.const (.int .i64 40)), none⟩]
def k8_13 : VC := .reg [⟨(some 28), .callF 30 [], none⟩,
    ⟨(some 4), .mv (.tmp 28), none⟩]
def k8_14 : VC := .seq k8_13 .ret
def k8_15 : VC := .cond (.tmp 27) k8_14 .skip
def k8_16 : VC := .seq k8_12 k8_15
def k8_17 : VC := .reg [⟨(some 29), .mv (.tmp 5), none⟩,
    ⟨(some 30), .mv (.tmp 1), none⟩,
    ⟨(some 31), .mv (.tmp 7), none⟩,
    ⟨(some 32), .idxAL 1 (.tmp 30) (.tmp 31), none⟩,
    ⟨(some 33), .load1 .str (.tmp 32), none⟩,
    ⟨(some 34), .callF 32 [(.tmp 29), (.tmp 33)], none⟩]
def k8_18 : VC := .reg [⟨(some 35), .mv (.tmp 6), none⟩,
    ⟨(some 36), .mv (.tmp 1), none⟩,
    ⟨(some 37), .mv (.tmp 7), none⟩,
    ⟨(some 38), .idxAL 1 (.tmp 36) (.tmp 37), none⟩,
    ⟨(some 39), .load1 .str (.tmp 38), none⟩,
    ⟨(some 40), .bin .add (.tmp 35) (.tmp 39), none⟩,
    ⟨(some 6), .mv (.tmp 40), none⟩]
def k8_19 : VC := .regD [⟨(some 41), .mv (.tmp 5), none⟩,
    ⟨(some 42), .callF 33 [(.tmp 41)], none⟩,
    ⟨(some 43), .loadN [(.int .u64), (.int .u64)] (.tmp 2), none⟩,
    ⟨(some 44), .mv (.tmp 6), none⟩,
    ⟨(some 45), .callF 34 [(.tmp 43), (.tmp 44)], none⟩,
    ⟨(some 46), .bin .neq (.tmp 42) (.tmp 45), none⟩,
    ⟨(some 47), .mv (.tmp 46), none⟩,
    ⟨(some 48), .mv (.tmp 5), (some (47, false))⟩,
    ⟨(some 49), .callF 33 [(.tmp 48)], (some (47, false))⟩,
    ⟨(some 50), .mv (.tmp 5), (some (47, false))⟩,
    ⟨(some 51), .callF 33 [(.tmp 50)], (some (47, false))⟩,
    ⟨(some 52), .bin .neq (.tmp 49) (.tmp 51), (some (47, false))⟩,
    ⟨(some 53), .pick (.tmp 47) (.const (.bool true)) (.tmp 52), none⟩] [(1, 2)]
def k8_20 : VC := .reg [⟨(some 4), .mv (.const (.bool false)), none⟩]
def k8_21 : VC := .seq k8_20 .ret
def k8_22 : VC := .cond (.tmp 53) k8_21 .skip
def k8_23 : VC := .seq k8_19 k8_22
def k8_24 : VC := .seq k8_18 k8_23
def k8_25 : VC := .seq k8_17 k8_24
def k8_26 : VC := .seq k8_16 k8_25
def k8_27 : VC := .block 1 k8_26
def k8_28 : VC := .reg [⟨(some 20), .mv (.tmp 7), none⟩,
    ⟨(some 21), .bin .add (.tmp 20) (.const (.int .i64 1)), none⟩,
    ⟨(some 7), .mv (.tmp 21), none⟩]
def k8_29 : VC := .seq k8_27 k8_28
def k8_30 : VC := .seq k8_11 k8_29
def k8_31 : VC := .loop k8_30
def k8_32 : VC := .block 0 k8_31
def k8_33 : VC := .seq k8_8 k8_32
def k8_34 : VC := .reg [⟨(some 8), .mv (.const (.pointer none)), none⟩]
def k8_35 : VC := .reg [⟨(some 54), .build [(.bool false), (.int .u64 0), (.int .u64 0), (.int .u64 0), (.int .u64 0), (.int .u64 0), (.int .i64 0)] [], none⟩,
    ⟨(some 55), .box (.tmp 54), none⟩,
    ⟨(some 9), .mv (.tmp 55), none⟩]
def k8_36 : VC := .reg [⟨(some 56), .mv (.tmp 8), none⟩,
    ⟨(some 57), .callF 32 [(.tmp 56), (.const (.string ⟨⟨[97]⟩⟩))], none⟩]
def k8_37 : VC := .reg [⟨(some 58), .mv (.tmp 9), none⟩,
    ⟨(some 59), .callF 32 [(.tmp 58), (.const (.string ⟨⟨[97]⟩⟩))], none⟩]
def k8_38 : VC := .reg [⟨(some 60), .mv (.tmp 8), none⟩,
    ⟨(some 61), .callF 33 [(.tmp 60)], none⟩,
    ⟨(some 62), .bin .eql (.tmp 61) (.const (.int .u64 0)), none⟩,
    ⟨(some 63), .mv (.tmp 62), none⟩,
    ⟨(some 64), .mv (.tmp 9), (some (63, true))⟩,
    ⟨(some 65), .callF 33 [(.tmp 64)], (some (63, true))⟩,
    ⟨(some 66), .bin .eql (.tmp 65) (.const (.int .u64 0)), (some (63, true))⟩,
    ⟨(some 67), .pick (.tmp 63) (.tmp 66) (.const (.bool false)), none⟩,
    ⟨(some 68), .mv (.tmp 67), none⟩,
    ⟨(some 69), .callF 30 [], (some (68, true))⟩,
    ⟨(some 70), .pick (.tmp 68) (.tmp 69) (.const (.bool false)), none⟩,
    ⟨(some 4), .mv (.tmp 70), none⟩]
def k8_39 : VC := .seq k8_38 .ret
def k8_40 : VC := .seq k8_37 k8_39
def k8_41 : VC := .seq k8_36 k8_40
def k8_42 : VC := .seq k8_35 k8_41
def k8_43 : VC := .seq k8_34 k8_42
def k8_44 : VC := .seq k8_33 k8_43
def k8_45 : VC := .seq k8_7 k8_44
def k8_46 : VC := .seq k8_6 k8_45
def k8_47 : VC := .seq k8_5 k8_46
def k8_48 : VC := .seq k8_0 k8_47
def fn8 : VFn := ⟨71, k8_48, [.tmp 4]⟩
/- 30: cloakroom/cloakroomlaw12.awake -/
def k30_0 : VC := .reg [⟨(some 0), .mv (.const (.bool false)), none⟩]
def k30_1 : VC := .reg [⟨(some 1), .build [(.int .u64 0), (.int .u64 0)] [(0, 1, (.const (.int .u64 506097522914230528))), (1, 1, (.const (.int .u64 1084818905618843912)))], none⟩,
    ⟨(some 2), .callF 34 [(.tmp 1), (.const (.string ⟨⟨[0, 1, 2, 3, 4, 5, 6, 7, 8, 9, 10, 11, 12, 13, 14]⟩⟩))], none⟩,
    ⟨(some 3), .bin .eql (.tmp 2) (.const (.int .u64 11613035633349379557)), none⟩,
    ⟨(some 0), .mv (.tmp 3), none⟩]
def k30_2 : VC := .seq k30_1 .ret
def k30_3 : VC := .seq k30_0 k30_2
def fn30 : VFn := ⟨4, k30_3, [.tmp 0]⟩
/- 34: cloakroom/sip.Hash -/
def k34_0 : VC := .reg [⟨(some 2), .box (.tmp 0), none⟩,
    ⟨(some 4), .mv (.const (.int .u64 0)), none⟩]
def k34_1 : VC := .reg [⟨(some 6), .loadN [(.int .u64), (.int .u64)] (.tmp 2), none⟩,
    ⟨(some 7), .callF 31 [(.tmp 6)], none⟩,
    ⟨(some 5), .mv (.tmp 7), none⟩]
def k34_2 : VC := .reg [⟨(some 8), .mv (.tmp 5), none⟩,
    ⟨(some 9), .mv (.tmp 1), none⟩,
    ⟨(some 10), .callF 32 [(.tmp 8), (.tmp 9)], none⟩]
def k34_3 : VC := .reg [⟨(some 11), .mv (.tmp 5), none⟩,
    ⟨(some 12), .callF 33 [(.tmp 11)], none⟩,
    ⟨(some 4), .mv (.tmp 12), none⟩]
def k34_4 : VC := .seq k34_3 .ret
def k34_5 : VC := .seq k34_2 k34_4
def k34_6 : VC := .seq k34_1 k34_5
def k34_7 : VC := .seq k34_0 k34_6
def fn34 : VFn := ⟨13, k34_7, [.tmp 4]⟩
/- 31: cloakroom/sip.New -/
def k31_0 : VC := .reg [⟨(some 1), .box (.tmp 0), none⟩,
    ⟨(some 2), .mv (.const (.pointer none)), none⟩]
def k31_1 : VC := .reg [⟨(some 3), .fieldA 0 (.tmp 1), none⟩,
    ⟨(some 4), .load1 (.int .u64) (.tmp 3), none⟩,
    ⟨(some 5), .bin .xor (.const (.int .u64 8317987319222330741)) (.tmp 4), none⟩,
    ⟨(some 6), .fieldA 1 (.tmp 1), none⟩,
    ⟨(some 7), .load1 (.int .u64) (.tmp 6), none⟩,
    ⟨(some 8), .bin .xor (.const (.int .u64 7237128888997146477)) (.tmp 7), none⟩,
    ⟨(some 9), .fieldA 0 (.tmp 1), none⟩,
    ⟨(some 10), .load1 (.int .u64) (.tmp 9), none⟩,
    ⟨(some 11), .bin .xor (.const (.int .u64 7816392313619706465)) (.tmp 10), none⟩,
    ⟨(some 12), .fieldA 1 (.tmp 1), none⟩,
    ⟨(some 13), .load1 (.int .u64) (.tmp 12), none⟩,
    ⟨(some 14), .bin .xor (.const (.int .u64 8387220255154660723)) (.tmp 13), none⟩,
    ⟨(some 15), .build [(.int .u64 0), (.int .u64 0), (.int .u64 0), (.int .u64 0)] [(0, 1, (.tmp 5)), (1, 1, (.tmp 8)), (2, 1, (.tmp 11)), (3, 1, (.tmp 14))], none⟩,
    ⟨(some 16), .build [(.bool false), (.int .u64 0), (.int .u64 0), (.int .u64 0), (.int .u64 0), (.int .u64 0), (.int .i64 0)] [(0, 1, (.const (.bool true))), (1, 4, (.tmp 15))], none⟩,
    ⟨(some 17), .box (.tmp 16), none⟩,
    ⟨(some 2), .mv (.tmp 17), none⟩]
def k31_2 : VC := .seq k31_1 .ret
def k31_3 : VC := .seq k31_0 k31_2
def fn31 : VFn := ⟨18, k31_3, [.tmp 2]⟩
/- 32: (*cloakroom/sip.Hasher).Write -/
def k32_0 : VC := .reg [⟨(some 6), .mv (.tmp 0), none⟩,
    ⟨(some 7), .isNil 0 false (.tmp 6), none⟩,
    ⟨(some 8), .mv (.tmp 7), none⟩,
    ⟨(some 9), .mv (.tmp 0), (some (8, false))⟩,
    ⟨(some 10), .nilCheck (.tmp 9), (some (8, false))⟩,
    ⟨(some 11), .fieldA 0 (.tmp 10), (some (8, false))⟩,
    ⟨(some 12), .load1 .bool (.tmp 11), (some (8, false))⟩,
    ⟨(some 13), .not (.tmp 12), (some (8, false))⟩,
    ⟨(some 14), .pick (.tmp 8) (.const (.bool true)) (.tmp 13), none⟩]
def k32_1 : VC := .cond (.tmp 14) .ret .skip
def k32_2 : VC := .seq k32_0 k32_1
def k32_3 : VC := .reg [⟨(some 15), .mv (.tmp 1), none⟩,
    ⟨(some 16), .s2b (.tmp 15), none⟩,
    ⟨(some 17), .lenL (.tmp 16), none⟩,
    ⟨(some 18), .mv (.const (.int .i64 0)), none⟩]
def k32_4 : VC := .reg [⟨(some 19), .bin .lss (.tmp 18) (.tmp 17), none⟩]
def k32_5 : VC := .cond (.tmp 19) .skip (.exit 0)
def k32_6 : VC := .reg [⟨(some 20), .idxAL 1 (.tmp 16) (.tmp 18), none⟩,
    ⟨(some 21), .load1 (.int .u8) (.tmp 20), none⟩,
    ⟨(some 5), .mv (.tmp 21), none⟩]
def k32_7 : VC := .regD [⟨(some 22), .mv (.tmp 0), none⟩,
    ⟨(some 23), .nilCheck (.tmp 22), none⟩,
    ⟨(some 24), .fieldA 5 (.tmp 23), none⟩,
    ⟨(some 25), .load1 (.int .u64) (.tmp 24), none⟩,
    ⟨(some 26), .mv (.tmp 5), none⟩,
    ⟨(some 27), .conv .u64 (.tmp 26), none⟩,
    ⟨(some 28), .mv (.tmp 0), none⟩,
    ⟨(some 29), .nilCheck (.tmp 28), none⟩,
    ⟨(some 30), .fieldA 6 (.tmp 29), none⟩,
    ⟨(some 31), .load1 (.int .i64) (.tmp 30), none⟩,
    ⟨(some 32), .bin .rem (.tmp 31) (.const (.int .i64 8)), none⟩,
    ⟨(some 33), .bin .mul (.const (.int .i64 8)) (.tmp 32), none⟩,
    ⟨(some 34), .bin .shl (.tmp 27) (.tmp 33), none⟩,
    ⟨(some 35), .bin .or (.tmp 25) (.tmp 34), none⟩,
    ⟨(some 36), .nilCheck (.tmp 22), none⟩,
    ⟨(some 37), .fieldA 5 (.tmp 36), none⟩,
    ⟨none, .store 1 (.tmp 37) (.tmp 35), none⟩] []
def k32_8 : VC := .reg [⟨(some 38), .mv (.tmp 0), none⟩,
    ⟨(some 39), .nilCheck (.tmp 38), none⟩,
    ⟨(some 40), .fieldA 6 (.tmp 39), none⟩,
    ⟨(some 41), .load1 (.int .i64) (.tmp 40), none⟩,
    ⟨(some 42), .bin .add (.tmp 41) (.const (.int .i64 1)), none⟩,
    ⟨(some 43), .nilCheck (.tmp 38), none⟩,
    ⟨(some 44), .fieldA 6 (.tmp 43), none⟩,
    ⟨none, .store 1 (.tmp 44) (.tmp 42), none⟩]
def k32_9 : VC := .reg [⟨(some 45), .mv (.tmp 0), none⟩,
    ⟨(some 46), .nilCheck (.tmp 45), none⟩,
    ⟨(some 47), .fieldA 6 (.tmp 46), none⟩,
    ⟨(some 48), .load1 (.int .i64) (.tmp 47), none⟩,
    ⟨(some 49), .bin .rem (.tmp 48) (.const (.int .i64 8)), none⟩,
    ⟨(some 50), .bin .eql (.tmp 49) (.const (.int .i64 0)), none⟩]
def k32_10 : VC := .regD [⟨(some 51), .mv (.tmp 0), none⟩,
    ⟨(some 52), .nilCheck (.tmp 51), none⟩,
    ⟨(some 53), .fieldA 1 (.tmp 52), none⟩,
    ⟨(some 54), .mv (.tmp 0), none⟩,
    ⟨(some 55), .nilCheck (.tmp 54), none⟩,
    ⟨(some 56), .fieldA 5 (.tmp 55), none⟩,
    ⟨(some 57), .load1 (.int .u64) (.tmp 56), none⟩,
    ⟨(some 58), .callF 64 [(.tmp 53), (.tmp 57)], none⟩] []
def k32_11 : VC := .reg [⟨(some 59), .mv (.tmp 0), none⟩,
    ⟨(some 60), .nilCheck (.tmp 59), none⟩,
    ⟨(some 61), .fieldA 5 (.tmp 60), none⟩,
    ⟨none, .store 1 (.tmp 61) (.const (.int .u64 0)), none⟩]
def k32_12 : VC := .seq k32_10 k32_11
def k32_13 : VC := .cond (.tmp 50) k32_12 .skip
def k32_14 : VC := .seq k32_9 k32_13
def k32_15 : VC := .seq k32_8 k32_14
def k32_16 : VC := .seq k32_7 k32_15
def k32_17 : VC := .seq k32_6 k32_16
def k32_18 : VC := .block 1 k32_17
def k32_19 : VC := .reg [⟨(some 62), .bin .add (.tmp 18) (.const (.int .i64 1)), none⟩,
    ⟨(some 18), .mv (.tmp 62), none⟩]
def k32_20 : VC := .seq k32_18 k32_19
def k32_21 : VC := .seq k32_5 k32_20
def k32_22 : VC := .seq k32_4 k32_21
def k32_23 : VC := .loop k32_22
def k32_24 : VC := .block 0 k32_23
def k32_25 : VC := .seq k32_3 k32_24
def k32_26 : VC := .seq k32_2 k32_25
def fn32 : VFn := ⟨63, k32_26, []⟩
/- 64: (*cloakroom/sip.state).take -/
def k64_0 : VC := .regD [⟨(some 4), .mv (.tmp 0), none⟩,
    ⟨(some 5), .nilCheck (.tmp 4), none⟩,
    ⟨(some 6), .idxAA 4 1 (.tmp 5) (.const (.int .i64 3)), none⟩,
    ⟨(some 7), .load1 (.int .u64) (.tmp 6), none⟩,
    ⟨(some 8), .mv (.tmp 1), none⟩,
    ⟨(some 9), .bin .xor (.tmp 7) (.tmp 8), none⟩,
    ⟨(some 10), .nilCheck (.tmp 4), none⟩,
    ⟨(some 11), .idxAA 4 1 (.tmp 10) (.const (.int .i64 3)), none⟩,
    ⟨none, .store 1 (.tmp 11) (.tmp 9), none⟩] []
def k64_1 : VC := .reg [⟨(some 12), .mv (.tmp 0), none⟩,
    ⟨(some 13), .callF 65 [(.tmp 12), (.const (.int .i64 2))], none⟩]
def k64_2 : VC := .regD [⟨(some 14), .mv (.tmp 0), none⟩,
    ⟨(some 15), .nilCheck (.tmp 14), none⟩,
    ⟨(some 16), .idxAA 4 1 (.tmp 15) (.const (.int .i64 0)), none⟩,
    ⟨(some 17), .load1 (.int .u64) (.tmp 16), none⟩,
    ⟨(some 18), .mv (.tmp 1), none⟩,
    ⟨(some 19), .bin .xor (.tmp 17) (.tmp 18), none⟩,
    ⟨(some 20), .nilCheck (.tmp 14), none⟩,
    ⟨(some 21), .idxAA 4 1 (.tmp 20) (.const (.int .i64 0)), none⟩,
    ⟨none, .store 1 (.tmp 21) (.tmp 19), none⟩] []
def k64_3 : VC := .seq k64_1 k64_2
def k64_4 : VC := .seq k64_0 k64_3
def fn64 : VFn := ⟨22, k64_4, []⟩
/- 65: (*cloakroom/sip.state).mix -/
def k65_0 : VC := .reg [⟨(some 4), .mv (.tmp 1), none⟩,
    ⟨(some 5), .minmax false [(.tmp 4), (.const (.int .i64 64))], none⟩,
    ⟨(some 6), .minmax true [(.const (.int .i64 0)), (.tmp 5)], none⟩,
    ⟨(some 7), .mv (.const (.int .i64 0)), none⟩]
def k65_1 : VC := .reg [⟨(some 8), .bin .lss (.tmp 7) (.tmp 6), none⟩]
def k65_2 : VC := .cond (.tmp 8) .skip (.exit 0)
def k65_3 : VC := .reg [⟨(some 9), .mv (.tmp 0), none⟩,
    ⟨(some 10), .callF 93 [(.tmp 9)], none⟩]
def k65_4 : VC := .block 1 k65_3
def k65_5 : VC := .reg [⟨(some 11), .bin .add (.tmp 7) (.const (.int .i64 1)), none⟩,
    ⟨(some 7), .mv (.tmp 11), none⟩]
def k65_6 : VC := .seq k65_4 k65_5
def k65_7 : VC := .seq k65_2 k65_6
def k65_8 : VC := .seq k65_1 k65_7
def k65_9 : VC := .loop k65_8
def k65_10 : VC := .block 0 k65_9
def k65_11 : VC := .seq k65_0 k65_10
def fn65 : VFn := ⟨12, k65_11, []⟩
/- 93: (*cloakroom/sip.state).round -/
def k93_0 : VC := .regD [⟨(some 2), .mv (.tmp 0), none⟩,
    ⟨(some 3), .nilCheck (.tmp 2), none⟩,
    ⟨(some 4), .idxAA 4 1 (.tmp 3) (.const (.int .i64 0)), none⟩,
    ⟨(some 5), .load1 (.int .u64) (.tmp 4), none⟩,
    ⟨(some 6), .mv (.tmp 0), none⟩,
    ⟨(some 7), .nilCheck (.tmp 6), none⟩,
    ⟨(some 8), .idxAA 4 1 (.tmp 7) (.const (.int .i64 1)), none⟩,
    ⟨(some 9), .load1 (.int .u64) (.tmp 8), none⟩,
    ⟨(some 10), .bin .add (.tmp 5) (.tmp 9), none⟩,
    ⟨(some 11), .nilCheck (.tmp 2), none⟩,
    ⟨(some 12), .idxAA 4 1 (.tmp 11) (.const (.int .i64 0)), none⟩,
    ⟨none, .store 1 (.tmp 12) (.tmp 10), none⟩] []
def k93_1 : VC := .regD [⟨(some 13), .mv (.tmp 0), none⟩,
    ⟨(some 14), .mv (.tmp 0), none⟩,
    ⟨(some 15), .nilCheck (.tmp 14), none⟩,
    ⟨(some 16), .idxAA 4 1 (.tmp 15) (.const (.int .i64 1)), none⟩,
    ⟨(some 17), .load1 (.int .u64) (.tmp 16), none⟩,
    ⟨(some 18), .callF 97 [(.tmp 17), (.const (.int .i64 13))], none⟩,
    ⟨(some 19), .mv (.tmp 0), none⟩,
    ⟨(some 20), .nilCheck (.tmp 19), none⟩,
    ⟨(some 21), .idxAA 4 1 (.tmp 20) (.const (.int .i64 0)), none⟩,
    ⟨(some 22), .load1 (.int .u64) (.tmp 21), none⟩,
    ⟨(some 23), .bin .xor (.tmp 18) (.tmp 22), none⟩,
    ⟨(some 24), .nilCheck (.tmp 13), none⟩,
    ⟨(some 25), .idxAA 4 1 (.tmp 24) (.const (.int .i64 1)), none⟩,
    ⟨none, .store 1 (.tmp 25) (.tmp 23), none⟩] [(5, 9)]
def k93_2 : VC := .regD [⟨(some 26), .mv (.tmp 0), none⟩,
    ⟨(some 27), .mv (.tmp 0), none⟩,
    ⟨(some 28), .nilCheck (.tmp 27), none⟩,
    ⟨(some 29), .idxAA 4 1 (.tmp 28) (.const (.int .i64 0)), none⟩,
    ⟨(some 30), .load1 (.int .u64) (.tmp 29), none⟩,
    ⟨(some 31), .callF 97 [(.tmp 30), (.const (.int .i64 32))], none⟩,
    ⟨(some 32), .nilCheck (.tmp 26), none⟩,
    ⟨(some 33), .idxAA 4 1 (.tmp 32) (.const (.int .i64 0)), none⟩,
    ⟨none, .store 1 (.tmp 33) (.tmp 31), none⟩] []
def k93_3 : VC := .regD [⟨(some 34), .mv (.tmp 0), none⟩,
    ⟨(some 35), .nilCheck (.tmp 34), none⟩,
    ⟨(some 36), .idxAA 4 1 (.tmp 35) (.const (.int .i64 2)), none⟩,
    ⟨(some 37), .load1 (.int .u64) (.tmp 36), none⟩,
    ⟨(some 38), .mv (.tmp 0), none⟩,
    ⟨(some 39), .nilCheck (.tmp 38), none⟩,
    ⟨(some 40), .idxAA 4 1 (.tmp 39) (.const (.int .i64 3)), none⟩,
    ⟨(some 41), .load1 (.int .u64) (.tmp 40), none⟩,
    ⟨(some 42), .bin .add (.tmp 37) (.tmp 41), none⟩,
    ⟨(some 43), .nilCheck (.tmp 34), none⟩,
    ⟨(some 44), .idxAA 4 1 (.tmp 43) (.const (.int .i64 2)), none⟩,
    ⟨none, .store 1 (.tmp 44) (.tmp 42), none⟩] []
def k93_4 : VC := .regD [⟨(some 45), .mv (.tmp 0), none⟩,
    ⟨(some 46), .mv (.tmp 0), none⟩,
    ⟨(some 47), .nilCheck (.tmp 46), none⟩,
    ⟨(some 48), .idxAA 4 1 (.tmp 47) (.const (.int .i64 3)), none⟩,
    ⟨(some 49), .load1 (.int .u64) (.tmp 48), none⟩,
    ⟨(some 50), .callF 97 [(.tmp 49), (.const (.int .i64 16))], none⟩,
    ⟨(some 51), .mv (.tmp 0), none⟩,
    ⟨(some 52), .nilCheck (.tmp 51), none⟩,
    ⟨(some 53), .idxAA 4 1 (.tmp 52) (.const (.int .i64 2)), none⟩,
    ⟨(some 54), .load1 (.int .u64) (.tmp 53), none⟩,
    ⟨(some 55), .bin .xor (.tmp 50) (.tmp 54), none⟩,
    ⟨(some 56), .nilCheck (.tmp 45), none⟩,
    ⟨(some 57), .idxAA 4 1 (.tmp 56) (.const (.int .i64 3)), none⟩,
    ⟨none, .store 1 (.tmp 57) (.tmp 55), none⟩] [(5, 9)]
def k93_5 : VC := .regD [⟨(some 58), .mv (.tmp 0), none⟩,
    ⟨(some 59), .nilCheck (.tmp 58), none⟩,
    ⟨(some 60), .idxAA 4 1 (.tmp 59) (.const (.int .i64 0)), none⟩,
    ⟨(some 61), .load1 (.int .u64) (.tmp 60), none⟩,
    ⟨(some 62), .mv (.tmp 0), none⟩,
    ⟨(some 63), .nilCheck (.tmp 62), none⟩,
    ⟨(some 64), .idxAA 4 1 (.tmp 63) (.const (.int .i64 3)), none⟩,
    ⟨(some 65), .load1 (.int .u64) (.tmp 64), none⟩,
    ⟨(some 66), .bin .add (.tmp 61) (.tmp 65), none⟩,
    ⟨(some 67), .nilCheck (.tmp 58), none⟩,
    ⟨(some 68), .idxAA 4 1 (.tmp 67) (.const (.int .i64 0)), none⟩,
    ⟨none, .store 1 (.tmp 68) (.tmp 66), none⟩] []
def k93_6 : VC := .regD [⟨(some 69), .mv (.tmp 0), none⟩,
    ⟨(some 70), .mv (.tmp 0), none⟩,
    ⟨(some 71), .nilCheck (.tmp 70), none⟩,
    ⟨(some 72), .idxAA 4 1 (.tmp 71) (.const (.int .i64 3)), none⟩,
    ⟨(some 73), .load1 (.int .u64) (.tmp 72), none⟩,
    ⟨(some 74), .callF 97 [(.tmp 73), (.const (.int .i64 21))], none⟩,
    ⟨(some 75), .mv (.tmp 0), none⟩,
    ⟨(some 76), .nilCheck (.tmp 75), none⟩,
    ⟨(some 77), .idxAA 4 1 (.tmp 76) (.const (.int .i64 0)), none⟩,
    ⟨(some 78), .load1 (.int .u64) (.tmp 77), none⟩,
    ⟨(some 79), .bin .xor (.tmp 74) (.tmp 78), none⟩,
    ⟨(some 80), .nilCheck (.tmp 69), none⟩,
    ⟨(some 81), .idxAA 4 1 (.tmp 80) (.const (.int .i64 3)), none⟩,
    ⟨none, .store 1 (.tmp 81) (.tmp 79), none⟩] [(5, 9)]
def k93_7 : VC := .regD [⟨(some 82), .mv (.tmp 0), none⟩,
    ⟨(some 83), .nilCheck (.tmp 82), none⟩,
    ⟨(some 84), .idxAA 4 1 (.tmp 83) (.const (.int .i64 2)), none⟩,
    ⟨(some 85), .load1 (.int .u64) (.tmp 84), none⟩,
    ⟨(some 86), .mv (.tmp 0), none⟩,
    ⟨(some 87), .nilCheck (.tmp 86), none⟩,
    ⟨(some 88), .idxAA 4 1 (.tmp 87) (.const (.int .i64 1)), none⟩,
    ⟨(some 89), .load1 (.int .u64) (.tmp 88), none⟩,
    ⟨(some 90), .bin .add (.tmp 85) (.tmp 89), none⟩,
    ⟨(some 91), .nilCheck (.tmp 82), none⟩,
    ⟨(some 92), .idxAA 4 1 (.tmp 91) (.const (.int .i64 2)), none⟩,
    ⟨none, .store 1 (.tmp 92) (.tmp 90), none⟩] []
def k93_8 : VC := .regD [⟨(some 93), .mv (.tmp 0), none⟩,
    ⟨(some 94), .mv (.tmp 0), none⟩,
    ⟨(some 95), .nilCheck (.tmp 94), none⟩,
    ⟨(some 96), .idxAA 4 1 (.tmp 95) (.const (.int .i64 1)), none⟩,
    ⟨(some 97), .load1 (.int .u64) (.tmp 96), none⟩,
    ⟨(some 98), .callF 97 [(.tmp 97), (.const (.int .i64 17))], none⟩,
    ⟨(some 99), .mv (.tmp 0), none⟩,
    ⟨(some 100), .nilCheck (.tmp 99), none⟩,
    ⟨(some 101), .idxAA 4 1 (.tmp 100) (.const (.int .i64 2)), none⟩,
    ⟨(some 102), .load1 (.int .u64) (.tmp 101), none⟩,
    ⟨(some 103), .bin .xor (.tmp 98) (.tmp 102), none⟩,
    ⟨(some 104), .nilCheck (.tmp 93), none⟩,
    ⟨(some 105), .idxAA 4 1 (.tmp 104) (.const (.int .i64 1)), none⟩,
    ⟨none, .store 1 (.tmp 105) (.tmp 103), none⟩] [(5, 9)]
def k93_9 : VC := .regD [⟨(some 106), .mv (.tmp 0), none⟩,
    ⟨(some 107), .mv (.tmp 0), none⟩,
    ⟨(some 108), .nilCheck (.tmp 107), none⟩,
    ⟨(some 109), .idxAA 4 1 (.tmp 108) (.const (.int .i64 2)), none⟩,
    ⟨(some 110), .load1 (.int .u64) (.tmp 109), none⟩,
    ⟨(some 111), .callF 97 [(.tmp 110), (.const (.int .i64 32))], none⟩,
    ⟨(some 112), .nilCheck (.tmp 106), none⟩,
    ⟨(some 113), .idxAA 4 1 (.tmp 112) (.const (.int .i64 2)), none⟩,
    ⟨none, .store 1 (.tmp 113) (.tmp 111), none⟩] []
def k93_10 : VC := .seq k93_8 k93_9
def k93_11 : VC := .seq k93_7 k93_10
def k93_12 : VC := .seq k93_6 k93_11
def k93_13 : VC := .seq k93_5 k93_12
def k93_14 : VC := .seq k93_4 k93_13
def k93_15 : VC := .seq k93_3 k93_14
def k93_16 : VC := .seq k93_2 k93_15
def k93_17 : VC := .seq k93_1 k93_16
def k93_18 : VC := .seq k93_0 k93_17
def fn93 : VFn := ⟨114, k93_18, []⟩
/- 97: math/bits.RotateLeft64 -/
def k97_0 : VC := .reg [⟨(some 4), .mv (.const (.int .u64 0)), none⟩]
def k97_1 : VC := .reg [⟨(some 6), .mv (.tmp 1), none⟩,
    ⟨(some 7), .conv .u64 (.tmp 6), none⟩,
    ⟨(some 8), .bin .and (.tmp 7) (.const (.int .u64 63)), none⟩,
    ⟨(some 5), .mv (.tmp 8), none⟩]
def k97_2 : VC := .reg [⟨(some 9), .mv (.tmp 0), none⟩,
    ⟨(some 10), .mv (.tmp 5), none⟩,
    ⟨(some 11), .bin .shl (.tmp 9) (.tmp 10), none⟩,
    ⟨(some 12), .mv (.tmp 0), none⟩,
    ⟨(some 13), .mv (.tmp 5), none⟩,
    ⟨(some 14), .bin .sub (.const (.int .u64 64)) (.tmp 13), none⟩,
    ⟨(some 15), .bin .shr (.tmp 12) (.tmp 14), none⟩,
    ⟨(some 16), .bin .or (.tmp 11) (.tmp 15), none⟩,
    ⟨(some 4), .mv (.tmp 16), none⟩]
def k97_3 : VC := .seq k97_2 .ret
def k97_4 : VC := .seq k97_1 k97_3
def k97_5 : VC := .seq k97_0 k97_4
def fn97 : VFn := ⟨17, k97_5, [.tmp 4]⟩
/- 33: (*cloakroom/sip.Hasher).Sum -/
def k33_0 : VC := .reg [⟨(some 2), .mv (.const (.int .u64 0)), none⟩]
def k33_1 : VC := .reg [⟨(some 4), .mv (.tmp 0), none⟩,
    ⟨(some 5), .isNil 0 false (.tmp 4), none⟩,
    ⟨(some 6), .mv (.tmp 5), none⟩,
    ⟨(some 7), .mv (.tmp 0), (some (6, false))⟩,
    ⟨(some 8), .nilCheck (.tmp 7), (some (6, false))⟩,
    ⟨(some 9), .fieldA 0 (.tmp 8), (some (6, false))⟩,
    ⟨(some 10), .load1 .bool (.tmp 9), (some (6, false))⟩,
    ⟨(some 11), .not (.tmp 10), (some (6, false))⟩,
    ⟨(some 12), .pick (.tmp 6) (.const (.bool true)) (.tmp 11), none⟩]
def k33_2 : VC := .reg [⟨(some 2), .mv (.const (.int .u64 0)), none⟩]
def k33_3 : VC := .seq k33_2 .ret
def k33_4 : VC := .cond (.tmp 12) k33_3 .skip
def k33_5 : VC := .seq k33_1 k33_4
def k33_6 : VC := .reg [⟨(some 13), .mv (.tmp 0), none⟩,
    ⟨(some 14), .nilCheck (.tmp 13), none⟩,
    ⟨(some 15), .fieldA 1 (.tmp 14), none⟩,
    ⟨(some 16), .loadN [(.int .u64), (.int .u64), (.int .u64), (.int .u64)] (.tmp 15), none⟩,
    ⟨(some 3), .alloc [(.int .u64 0), (.int .u64 0), (.int .u64 0), (.int .u64 0)], none⟩,
    ⟨none, .store 4 (.tmp 3) (.tmp 16), none⟩]
def k33_7 : VC := .regD [⟨(some 17), .mv (.tmp 0), none⟩,
    ⟨(some 18), .nilCheck (.tmp 17), none⟩,
    ⟨(some 19), .fieldA 5 (.tmp 18), none⟩,
    ⟨(some 20), .load1 (.int .u64) (.tmp 19), none⟩,
    ⟨(some 21), .mv (.tmp 0), none⟩,
    ⟨(some 22), .nilCheck (.tmp 21), none⟩,
    ⟨(some 23), .fieldA 6 (.tmp 22), none⟩,
    ⟨(some 24), .load1 (.int .i64) (.tmp 23), none⟩,
    ⟨(some 25), .conv .u64 (.tmp 24), none⟩,
    ⟨(some 26), .bin .shl (.tmp 25) (.const (.int .u64 56)), none⟩,
    ⟨(some 27), .bin .or (.tmp 20) (.tmp 26), none⟩,
    ⟨(some 28), .callF 64 [(.tmp 3), (.tmp 27)], none⟩] []
def k33_8 : VC := .reg [⟨(some 29), .idxAA 4 1 (.tmp 3) (.const (.int .i64 2)), none⟩,
    ⟨(some 30), .load1 (.int .u64) (.tmp 29), none⟩,
    ⟨(some 31), .bin .xor (.tmp 30) (.const (.int .u64 255)), none⟩,
    ⟨(some 32), .idxAA 4 1 (.tmp 3) (.const (.int .i64 2)), none⟩,
    ⟨none, .store 1 (.tmp 32) (.tmp 31), none⟩]
def k33_9 : VC := .reg [⟨(some 33), .callF 65 [(.tmp 3), (.const (.int .i64 4))], none⟩]
def k33_10 : VC := .reg [⟨(some 34), .idxAA 4 1 (.tmp 3) (.const (.int .i64 0)), none⟩,
    ⟨(some 35), .load1 (.int .u64) (.tmp 34), none⟩,
    ⟨(some 36), .idxAA 4 1 (.tmp 3) (.const (.int .i64 1)), none⟩,
    ⟨(some 37), .load1 (.int .u64) (.tmp 36), none⟩,
    ⟨(some 38), .bin .xor (.tmp 35) (.tmp 37), none⟩,
    ⟨(some 39), .idxAA 4 1 (.tmp 3) (.const (.int .i64 2)), none⟩,
    ⟨(some 40), .load1 (.int .u64) (.tmp 39), none⟩,
    ⟨(some 41), .bin .xor (.tmp 38) (.tmp 40), none⟩,
    ⟨(some 42), .idxAA 4 1 (.tmp 3) (.const (.int .i64 3)), none⟩,
    ⟨(some 43), .load1 (.int .u64) (.tmp 42), none⟩,
    ⟨(some 44), .bin .xor (.tmp 41) (.tmp 43), none⟩,
    ⟨(some 2), .mv (.tmp 44), none⟩]
def k33_11 : VC := .seq k33_10 .ret
def k33_12 : VC := .seq k33_9 k33_11
def k33_13 : VC := .seq k33_8 k33_12
def k33_14 : VC := .seq k33_7 k33_13
def k33_15 : VC := .seq k33_6 k33_14
def k33_16 : VC := .seq k33_5 k33_15
def k33_17 : VC := .seq k33_0 k33_16
def fn33 : VFn := ⟨45, k33_17, [.tmp 2]⟩
/- 9: cloakroom/cloakroomlaw12.SipTells -/
def k9_0 : VC := .reg [⟨(some 5), .box (.tmp 0), none⟩,
    ⟨(some 10), .mv (.const (.bool false)), none⟩]
def k9_1 : VC := .reg [⟨(some 11), .mv (.tmp 1), none⟩,
    ⟨(some 12), .lenS (.tmp 11), none⟩,
    ⟨(some 13), .bin .gtr (.tmp 12) (.const (.int .i64 300)), none⟩]
def k9_2 : VC := .reg [⟨(some 14), .callF 30 [], none⟩,
    ⟨(some 10), .mv (.tmp 14), none⟩]
def k9_3 : VC := .seq k9_2 .ret
def k9_4 : VC := .cond (.tmp 13) k9_3 .skip
def k9_5 : VC := .seq k9_1 k9_4
def k9_6 : VC := .regD [⟨(some 15), .loadN [(.int .u64), (.int .u64)] (.tmp 5), none⟩,
    ⟨(some 16), .mv (.tmp 1), none⟩,
    ⟨(some 17), .callF 34 [(.tmp 15), (.tmp 16)], none⟩,
    ⟨(some 18), .loadN [(.int .u64), (.int .u64)] (.tmp 5), none⟩,
    ⟨(some 19), .mv (.tmp 1), none⟩,
    ⟨(some 20), .callF 35 [(.tmp 18), (.tmp 19)], none⟩,
    ⟨(some 21), .bin .eql (.tmp 17) (.tmp 20), none⟩,
    ⟨(some 22), .mv (.tmp 21), none⟩,
    ⟨(some 23), .mv (.tmp 2), (some (22, true))⟩,
    ⟨(some 24), .mv (.tmp 3), (some (22, true))⟩,
    ⟨(some 25), .fieldA 0 (.tmp 5), (some (22, true))⟩,
    ⟨(some 26), .load1 (.int .u64) (.tmp 25), (some (22, true))⟩,
    ⟨(some 27), .fieldA 1 (.tmp 5), (some (22, true))⟩,
    ⟨(some 28), .load1 (.int .u64) (.tmp 27), (some (22, true))⟩,
    ⟨(some 29), .mv (.tmp 4), (some (22, true))⟩,
    ⟨(some 30), .callF 36 [(.tmp 23), (.tmp 24), (.tmp 26), (.tmp 28), (.tmp 29)], (some (22, true))⟩,
    ⟨(some 31), .mv (.tmp 2), (some (22, true))⟩,
    ⟨(some 32), .mv (.tmp 3), (some (22, true))⟩,
    ⟨(some 33), .fieldA 0 (.tmp 5), (some (22, true))⟩,
    ⟨(some 34), .load1 (.int .u64) (.tmp 33), (some (22, true))⟩,
    ⟨(some 35), .fieldA 1 (.tmp 5), (some (22, true))⟩,
    ⟨(some 36), .load1 (.int .u64) (.tmp 35), (some (22, true))⟩,
    ⟨(some 37), .mv (.tmp 4), (some (22, true))⟩,
    ⟨(some 38), .callF 37 [(.tmp 31), (.tmp 32), (.tmp 34), (.tmp 36), (.tmp 37)], (some (22, true))⟩,
    ⟨(some 39), .eqAgg false [(0, (.int .u64)), (1, (.int .u64)), (2, (.int .u64)), (3, (.int .u64))] (.tmp 30) (.tmp 38), (some (22, true))⟩,
    ⟨(some 40), .pick (.tmp 22) (.tmp 39) (.const (.bool false)), none⟩,
    ⟨(some 41), .mv (.tmp 40), none⟩,
    ⟨(some 42), .callF 30 [], (some (41, true))⟩,
    ⟨(some 43), .pick (.tmp 41) (.tmp 42) (.const (.bool false)), none⟩,
    ⟨(some 10), .mv (.tmp 43), none⟩] [(2, 3), (15, 19), (15, 21)]
def k9_7 : VC := .seq k9_6 .ret
def k9_8 : VC := .seq k9_5 k9_7
def k9_9 : VC := .seq k9_0 k9_8
def fn9 : VFn := ⟨44, k9_9, [.tmp 10]⟩
/- 35: cloakroom/cloakroomref12.Hash -/
def k35_0 : VC := .reg [⟨(some 2), .box (.tmp 0), none⟩,
    ⟨(some 4), .mv (.const (.int .u64 0)), none⟩]
def k35_1 : VC := .regD [⟨(some 14), .fieldA 0 (.tmp 2), none⟩,
    ⟨(some 15), .load1 (.int .u64) (.tmp 14), none⟩,
    ⟨(some 16), .bin .xor (.const (.int .u64 8317987319222330741)) (.tmp 15), none⟩,
    ⟨(some 17), .fieldA 1 (.tmp 2), none⟩,
    ⟨(some 18), .load1 (.int .u64) (.tmp 17), none⟩,
    ⟨(some 19), .bin .xor (.const (.int .u64 7237128888997146477)) (.tmp 18), none⟩,
    ⟨(some 5), .mv (.tmp 16), none⟩,
    ⟨(some 6), .mv (.tmp 19), none⟩] []
def k35_2 : VC := .regD [⟨(some 20), .fieldA 0 (.tmp 2), none⟩,
    ⟨(some 21), .load1 (.int .u64) (.tmp 20), none⟩,
    ⟨(some 22), .bin .xor (.const (.int .u64 7816392313619706465)) (.tmp 21), none⟩,
    ⟨(some 23), .fieldA 1 (.tmp 2), none⟩,
    ⟨(some 24), .load1 (.int .u64) (.tmp 23), none⟩,
    ⟨(some 25), .bin .xor (.const (.int .u64 8387220255154660723)) (.tmp 24), none⟩,
    ⟨(some 7), .mv (.tmp 22), none⟩,
    ⟨(some 8), .mv (.tmp 25), none⟩] []
def k35_3 : VC := .reg [⟨(some 26), .mv (.tmp 1), none⟩,
    ⟨(some 27), .lenS (.tmp 26), none⟩,
    ⟨(some 28), .bin .quo (.tmp 27) (.const (.int .i64 8)), none⟩,
    ⟨(some 29), .bin .mul (.tmp 28) (.const (.int .i64 8)), none⟩,
    ⟨(some 9), .mv (.tmp 29), none⟩]
def k35_4 : VC := .reg [⟨(some 10), .mv (.const (.int .i64 0)), none⟩]
def k35_5 : VC := .reg [⟨(some 30), .mv (.tmp 10), none⟩,
    ⟨(some 31), .mv (.tmp 9), none⟩,
    ⟨(some 32), .bin .leq (.tmp 30) (.tmp 31), none⟩]
def k35_6 : VC := .cond (.tmp 32) .skip (.exit 0)
def k35_7 : VC := .seq k35_5 k35_6
def k35_8 : VC := .reg [⟨(some 35), .mv (.tmp 1), none⟩,
    ⟨(some 36), .mv (.tmp 10), none⟩,
    ⟨(some 37), .mv (.tmp 10), none⟩,
    ⟨(some 38), .bin .add (.tmp 37) (.const (.int .i64 8)), none⟩,
    ⟨(some 39), .mv (.tmp 1), none⟩,
    ⟨(some 40), .lenS (.tmp 39), none⟩,
    ⟨(some 41), .minmax false [(.tmp 38), (.tmp 40)], none⟩,
    ⟨(some 42), .sliceS (.tmp 35) (some (.tmp 36)) (some (.tmp 41)), none⟩,
    ⟨(some 43), .callF 66 [(.tmp 42)], none⟩,
    ⟨(some 11), .mv (.tmp 43), none⟩]
def k35_9 : VC := .reg [⟨(some 44), .mv (.tmp 10), none⟩,
    ⟨(some 45), .mv (.tmp 9), none⟩,
    ⟨(some 46), .bin .eql (.tmp 44) (.tmp 45), none⟩]
def k35_10 : VC := .reg [⟨(some 47), .mv (.tmp 1), none⟩,
    ⟨(some 48), .mv (.tmp 10), none⟩,
    ⟨(some 49), .sliceS (.tmp 47) (some (.tmp 48)) none, none⟩,
    ⟨(some 50), .callF 66 [(.tmp 49)], none⟩,
    ⟨(some 51), .mv (.tmp 1), none⟩,
    ⟨(some 52), .lenS (.tmp 51), none⟩,
    ⟨(some 53), .bin .rem (.tmp 52) (.const (.int .i64 256)), none⟩,
    ⟨(some 54), .conv .u64 (.tmp 53), none⟩,
    ⟨(some 55), .bin .shl (.tmp 54) (.const (.int .u64 56)), none⟩,
    ⟨(some 56), .bin .add (.tmp 50) (.tmp 55), none⟩,
    ⟨(some 11), .mv (.tmp 56), none⟩]
def k35_11 : VC := .cond (.tmp 46) k35_10 .skip
def k35_12 : VC := .seq k35_9 k35_11
def k35_13 : VC := .reg [⟨(some 57), .mv (.tmp 8), none⟩,
    ⟨(some 58), .mv (.tmp 11), none⟩,
    ⟨(some 59), .bin .xor (.tmp 57) (.tmp 58), none⟩,
    ⟨(some 8), .mv (.tmp 59), none⟩]
def k35_14 : VC := .reg [⟨(some 12), .mv (.const (.int .i64 0)), none⟩]
def k35_15 : VC := .reg [⟨(some 60), .mv (.tmp 12), none⟩,
    ⟨(some 61), .bin .lss (.tmp 60) (.const (.int .i64 2)), none⟩]
def k35_16 : VC := .cond (.tmp 61) .skip (.exit 2)
def k35_17 : VC := .seq k35_15 k35_16
def k35_18 : VC := .reg [⟨(some 65), .mv (.tmp 5), none⟩,
    ⟨(some 66), .mv (.tmp 6), none⟩,
    ⟨(some 67), .mv (.tmp 7), none⟩,
    ⟨(some 68), .mv (.tmp 8), none⟩,
    ⟨(some 69), .callF 67 [(.tmp 65), (.tmp 66), (.tmp 67), (.tmp 68)], none⟩,
    ⟨(some 64), .mv (.tmp 69), none⟩,
    ⟨(some 70), .extract 0 (.tmp 64), none⟩,
    ⟨(some 71), .extract 1 (.tmp 64), none⟩,
    ⟨(some 72), .extract 2 (.tmp 64), none⟩,
    ⟨(some 73), .extract 3 (.tmp 64), none⟩,
    ⟨(some 5), .mv (.tmp 70), none⟩,
    ⟨(some 6), .mv (.tmp 71), none⟩,
    ⟨(some 7), .mv (.tmp 72), none⟩,
    ⟨(some 8), .mv (.tmp 73), none⟩]
def k35_19 : VC := .block 3 k35_18
def k35_20 : VC := .reg [⟨(some 62), .mv (.tmp 12), none⟩,
    ⟨(some 63), .bin .add (.tmp 62) (.const (.int .i64 1)), none⟩,
    ⟨(some 12), .mv (.tmp 63), none⟩]
def k35_21 : VC := .seq k35_19 k35_20
def k35_22 : VC := .seq k35_17 k35_21
def k35_23 : VC := .loop k35_22
def k35_24 : VC := .block 2 k35_23
def k35_25 : VC := .seq k35_14 k35_24
def k35_26 : VC := .reg [⟨(some 74), .mv (.tmp 5), none⟩,
    ⟨(some 75), .mv (.tmp 11), none⟩,
    ⟨(some 76), .bin .xor (.tmp 74) (.tmp 75), none⟩,
    ⟨(some 5), .mv (.tmp 76), none⟩]
def k35_27 : VC := .seq k35_25 k35_26
def k35_28 : VC := .seq k35_13 k35_27
def k35_29 : VC := .seq k35_12 k35_28
def k35_30 : VC := .seq k35_8 k35_29
def k35_31 : VC := .block 1 k35_30
def k35_32 : VC := .reg [⟨(some 33), .mv (.tmp 10), none⟩,
    ⟨(some 34), .bin .add (.tmp 33) (.const (.int .i64 8)), none⟩,
    ⟨(some 10), .mv (.tmp 34), none⟩]
def k35_33 : VC := .seq k35_31 k35_32
def k35_34 : VC := .seq k35_7 k35_33
def k35_35 : VC := .loop k35_34
def k35_36 : VC := .block 0 k35_35
def k35_37 : VC := .seq k35_4 k35_36
def k35_38 : VC := .reg [⟨(some 77), .mv (.tmp 7), none⟩,
    ⟨(some 78), .bin .xor (.tmp 77) (.const (.int .u64 255)), none⟩,
    ⟨(some 7), .mv (.tmp 78), none⟩]
def k35_39 : VC := .reg [⟨(some 79), .mv (.tmp 5), none⟩,
    ⟨(some 80), .mv (.tmp 6), none⟩,
    ⟨(some 81), .mv (.tmp 7), none⟩,
    ⟨(some 82), .mv (.tmp 8), none⟩,
    ⟨(some 83), .callF 37 [(.tmp 79), (.tmp 80), (.tmp 81), (.tmp 82), (.const (.int .i64 4))], none⟩,
    ⟨(some 13), .alloc [(.int .u64 0), (.int .u64 0), (.int .u64 0), (.int .u64 0)], none⟩,
    ⟨none, .store 4 (.tmp 13) (.tmp 83), none⟩]
def k35_40 : VC := .reg [⟨(some 84), .idxAA 4 1 (.tmp 13) (.const (.int .i64 0)), none⟩,
    ⟨(some 85), .load1 (.int .u64) (.tmp 84), none⟩,
    ⟨(some 86), .idxAA 4 1 (.tmp 13) (.const (.int .i64 1)), none⟩,
    ⟨(some 87), .load1 (.int .u64) (.tmp 86), none⟩,
    ⟨(some 88), .bin .xor (.tmp 85) (.tmp 87), none⟩,
    ⟨(some 89), .idxAA 4 1 (.tmp 13) (.const (.int .i64 2)), none⟩,
    ⟨(some 90), .load1 (.int .u64) (.tmp 89), none⟩,
    ⟨(some 91), .bin .xor (.tmp 88) (.tmp 90), none⟩,
    ⟨(some 92), .idxAA 4 1 (.tmp 13) (.const (.int .i64 3)), none⟩,
    ⟨(some 93), .load1 (.int .u64) (.tmp 92), none⟩,
    ⟨(some 94), .bin .xor (.tmp 91) (.tmp 93), none⟩,
    ⟨(some 4), .mv (.tmp 94), none⟩]
def k35_41 : VC := .seq k35_40 .ret
def k35_42 : VC := .seq k35_39 k35_41
def k35_43 : VC := .seq k35_38 k35_42
def k35_44 : VC := .seq k35_37 k35_43
def k35_45 : VC := .seq k35_3 k35_44
def k35_46 : VC := .seq k35_2 k35_45
def k35_47 : VC := .seq k35_1 k35_46
def k35_48 : VC := .seq k35_0 k35_47
def fn35 : VFn := ⟨95, k35_48, [.tmp 4]⟩
/- 66: cloakroom/cloakroomref12.word -/
def k66_0 : VC := .reg [⟨(some 2), .mv (.const (.int .u64 0)), none⟩]
def k66_1 : VC := .reg [⟨(some 3), .mv (.const (.int .u64 0)), none⟩]
def k66_2 : VC := .reg [⟨(some 5), .mv (.tmp 0), none⟩,
    ⟨(some 6), .lenS (.tmp 5), none⟩,
    ⟨(some 7), .bin .sub (.tmp 6) (.const (.int .i64 1)), none⟩,
    ⟨(some 4), .mv (.tmp 7), none⟩]
def k66_3 : VC := .reg [⟨(some 8), .mv (.tmp 4), none⟩,
    ⟨(some 9), .bin .geq (.tmp 8) (.const (.int .i64 0)), none⟩]
def k66_4 : VC := .cond (.tmp 9) .skip (.exit 0)
def k66_5 : VC := .seq k66_3 k66_4
def k66_6 : VC := .reg [⟨(some 12), .mv (.tmp 3), none⟩,
    ⟨(some 13), .bin .shl (.tmp 12) (.const (.int .u64 8)), none⟩,
    ⟨(some 14), .mv (.tmp 0), none⟩,
    ⟨(some 15), .mv (.tmp 4), none⟩,
    ⟨(some 16), .idxS (.tmp 14) (.tmp 15), none⟩,
    ⟨(some 17), .conv .u64 (.tmp 16), none⟩,
    ⟨(some 18), .bin .add (.tmp 13) (.tmp 17), none⟩,
    ⟨(some 3), .mv (.tmp 18), none⟩]
def k66_7 : VC := .block 1 k66_6
def k66_8 : VC := .reg [⟨(some 10), .mv (.tmp 4), none⟩,
    ⟨(some 11), .bin .sub (.tmp 10) (.const (.int .i64 1)), none⟩,
    ⟨(some 4), .mv (.tmp 11), none⟩]
def k66_9 : VC := .seq k66_7 k66_8
def k66_10 : VC := .seq k66_5 k66_9
def k66_11 : VC := .loop k66_10
def k66_12 : VC := .block 0 k66_11
def k66_13 : VC := .seq k66_2 k66_12
def k66_14 : VC := .reg [⟨(some 19), .mv (.tmp 3), none⟩,
    ⟨(some 2), .mv (.tmp 19), none⟩]
def k66_15 : VC := .seq k66_14 .ret
def k66_16 : VC := .seq k66_13 k66_15
def k66_17 : VC := .seq k66_1 k66_16
def k66_18 : VC := .seq k66_0 k66_17
def fn66 : VFn := ⟨20, k66_18, [.tmp 2]⟩
/- 67: cloakroom/cloakroomref12.Round -/
def k67_0 : VC := .reg [⟨(some 8), .mv (.const (.int .u64 0)), none⟩,
    ⟨(some 9), .mv (.const (.int .u64 0)), none⟩,
    ⟨(some 10), .mv (.const (.int .u64 0)), none⟩,
    ⟨(some 11), .mv (.const (.int .u64 0)), none⟩]
def k67_1 : VC := .reg [⟨(some 12), .mv (.tmp 0), none⟩,
    ⟨(some 13), .mv (.tmp 1), none⟩,
    ⟨(some 14), .bin .add (.tmp 12) (.tmp 13), none⟩,
    ⟨(some 0), .mv (.tmp 14), none⟩]
def k67_2 : VC := .reg [⟨(some 15), .mv (.tmp 1), none⟩,
    ⟨(some 16), .callF 68 [(.tmp 15), (.const (.int .i64 13))], none⟩,
    ⟨(some 17), .mv (.tmp 0), none⟩,
    ⟨(some 18), .bin .xor (.tmp 16) (.tmp 17), none⟩,
    ⟨(some 1), .mv (.tmp 18), none⟩]
def k67_3 : VC := .reg [⟨(some 19), .mv (.tmp 0), none⟩,
    ⟨(some 20), .callF 68 [(.tmp 19), (.const (.int .i64 32))], none⟩,
    ⟨(some 0), .mv (.tmp 20), none⟩]
def k67_4 : VC := .reg [⟨(some 21), .mv (.tmp 2), none⟩,
    ⟨(some 22), .mv (.tmp 3), none⟩,
    ⟨(some 23), .bin .add (.tmp 21) (.tmp 22), none⟩,
    ⟨(some 2), .mv (.tmp 23), none⟩]
def k67_5 : VC := .reg [⟨(some 24), .mv (.tmp 3), none⟩,
    ⟨(some 25), .callF 68 [(.tmp 24), (.const (.int .i64 16))], none⟩,
    ⟨(some 26), .mv (.tmp 2), none⟩,
    ⟨(some 27), .bin .xor (.tmp 25) (.tmp 26), none⟩,
    ⟨(some 3), .mv (.tmp 27), none⟩]
def k67_6 : VC := .reg [⟨(some 28), .mv (.tmp 0), none⟩,
    ⟨(some 29), .mv (.tmp 3), none⟩,
    ⟨(some 30), .bin .add (.tmp 28) (.tmp 29), none⟩,
    ⟨(some 0), .mv (.tmp 30), none⟩]
def k67_7 : VC := .reg [⟨(some 31), .mv (.tmp 3), none⟩,
    ⟨(some 32), .callF 68 [(.tmp 31), (.const (.int .i64 21))], none⟩,
    ⟨(some 33), .mv (.tmp 0), none⟩,
    ⟨(some 34), .bin .xor (.tmp 32) (.tmp 33), none⟩,
    ⟨(some 3), .mv (.tmp 34), none⟩]
def k67_8 : VC := .reg [⟨(some 35), .mv (.tmp 2), none⟩,
    ⟨(some 36), .mv (.tmp 1), none⟩,
    ⟨(some 37), .bin .add (.tmp 35) (.tmp 36), none⟩,
    ⟨(some 2), .mv (.tmp 37), none⟩]
def k67_9 : VC := .reg [⟨(some 38), .mv (.tmp 1), none⟩,
    ⟨(some 39), .callF 68 [(.tmp 38), (.const (.int .i64 17))], none⟩,
    ⟨(some 40), .mv (.tmp 2), none⟩,
    ⟨(some 41), .bin .xor (.tmp 39) (.tmp 40), none⟩,
    ⟨(some 1), .mv (.tmp 41), none⟩]
def k67_10 : VC := .reg [⟨(some 42), .mv (.tmp 2), none⟩,
    ⟨(some 43), .callF 68 [(.tmp 42), (.const (.int .i64 32))], none⟩,
    ⟨(some 2), .mv (.tmp 43), none⟩]
def k67_11 : VC := .reg [⟨(some 44), .mv (.tmp 0), none⟩,
    ⟨(some 45), .mv (.tmp 1), none⟩,
    ⟨(some 46), .mv (.tmp 2), none⟩,
    ⟨(some 47), .mv (.tmp 3), none⟩,
    ⟨(some 8), .mv (.tmp 44), none⟩,
    ⟨(some 9), .mv (.tmp 45), none⟩,
    ⟨(some 10), .mv (.tmp 46), none⟩,
    ⟨(some 11), .mv (.tmp 47), none⟩]
def k67_12 : VC := .seq k67_11 .ret
def k67_13 : VC := .seq k67_10 k67_12
def k67_14 : VC := .seq k67_9 k67_13
def k67_15 : VC := .seq k67_8 k67_14
def k67_16 : VC := .seq k67_7 k67_15
def k67_17 : VC := .seq k67_6 k67_16
def k67_18 : VC := .seq k67_5 k67_17
def k67_19 : VC := .seq k67_4 k67_18
def k67_20 : VC := .seq k67_3 k67_19
def k67_21 : VC := .seq k67_2 k67_20
def k67_22 : VC := .seq k67_1 k67_21
def k67_23 : VC := .seq k67_0 k67_22
def fn67 : VFn := ⟨48, k67_23, [.tmp 8, .tmp 9, .tmp 10, .tmp 11]⟩
/- 68: cloakroom/cloakroomref12.turn -/
def k68_0 : VC := .reg [⟨(some 4), .mv (.const (.int .u64 0)), none⟩]
def k68_1 : VC := .regD [⟨(some 5), .mv (.tmp 0), none⟩,
    ⟨(some 6), .mv (.tmp 1), none⟩,
    ⟨(some 7), .bin .shl (.tmp 5) (.tmp 6), none⟩,
    ⟨(some 8), .mv (.tmp 0), none⟩,
    ⟨(some 9), .mv (.tmp 1), none⟩,
    ⟨(some 10), .bin .sub (.const (.int .i64 64)) (.tmp 9), none⟩,
    ⟨(some 11), .bin .shr (.tmp 8) (.tmp 10), none⟩,
    ⟨(some 12), .bin .or (.tmp 7) (.tmp 11), none⟩,
    ⟨(some 4), .mv (.tmp 12), none⟩] []
def k68_2 : VC := .seq k68_1 .ret
def k68_3 : VC := .seq k68_0 k68_2
def fn68 : VFn := ⟨13, k68_3, [.tmp 4]⟩
/- 37: cloakroom/cloakroomref12.Mix -/
def k37_0 : VC := .reg [⟨(some 10), .alloc [(.int .u64 0), (.int .u64 0), (.int .u64 0), (.int .u64 0)], none⟩]
def k37_1 : VC := .reg [⟨(some 11), .mv (.const (.int .i64 0)), none⟩]
def k37_2 : VC := .reg [⟨(some 12), .mv (.tmp 11), none⟩,
    ⟨(some 13), .mv (.tmp 4), none⟩,
    ⟨(some 14), .bin .lss (.tmp 12) (.tmp 13), none⟩,
    ⟨(some 15), .mv (.tmp 14), none⟩,
    ⟨(some 16), .mv (.tmp 11), (some (15, true))⟩,
    ⟨(some 17), .bin .lss (.tmp 16) (.const (.int .i64 64)), (some (15, true))⟩,
    ⟨(some 18), .pick (.tmp 15) (.tmp 17) (.const (.bool false)), none⟩]
def k37_3 : VC := .cond (.tmp 18) .skip (.exit 0)
def k37_4 : VC := .seq k37_2 k37_3
def k37_5 : VC := .reg [⟨(some 22), .mv (.tmp 0), none⟩,
    ⟨(some 23), .mv (.tmp 1), none⟩,
    ⟨(some 24), .mv (.tmp 2), none⟩,
    ⟨(some 25), .mv (.tmp 3), none⟩,
    ⟨(some 26), .callF 67 [(.tmp 22), (.tmp 23), (.tmp 24), (.tmp 25)], none⟩,
    ⟨(some 21), .mv (.tmp 26), none⟩,
    ⟨(some 27), .extract 0 (.tmp 21), none⟩,
    ⟨(some 28), .extract 1 (.tmp 21), none⟩,
    ⟨(some 29), .extract 2 (.tmp 21), none⟩,
    ⟨(some 30), .extract 3 (.tmp 21), none⟩,
    ⟨(some 0), .mv (.tmp 27), none⟩,
    ⟨(some 1), .mv (.tmp 28), none⟩,
    ⟨(some 2), .mv (.tmp 29), none⟩,
    ⟨(some 3), .mv (.tmp 30), none⟩]
def k37_6 : VC := .block 1 k37_5
def k37_7 : VC := .reg [⟨(some 19), .mv (.tmp 11), none⟩,
    ⟨(some 20), .bin .add (.tmp 19) (.const (.int .i64 1)), none⟩,
    ⟨(some 11), .mv (.tmp 20), none⟩]
def k37_8 : VC := .seq k37_6 k37_7
def k37_9 : VC := .seq k37_4 k37_8
def k37_10 : VC := .loop k37_9
def k37_11 : VC := .block 0 k37_10
def k37_12 : VC := .seq k37_1 k37_11
def k37_13 : VC := .reg [⟨(some 31), .mv (.tmp 0), none⟩,
    ⟨(some 32), .mv (.tmp 1), none⟩,
    ⟨(some 33), .mv (.tmp 2), none⟩,
    ⟨(some 34), .mv (.tmp 3), none⟩,
    ⟨(some 35), .build [(.int .u64 0), (.int .u64 0), (.int .u64 0), (.int .u64 0)] [(0, 1, (.tmp 31)), (1, 1, (.tmp 32)), (2, 1, (.tmp 33)), (3, 1, (.tmp 34))], none⟩,
    ⟨none, .store 4 (.tmp 10) (.tmp 35), none⟩]
def k37_14 : VC := .seq k37_13 .ret
def k37_15 : VC := .seq k37_12 k37_14
def k37_16 : VC := .seq k37_0 k37_15
def fn37 : VFn := ⟨36, k37_16, [.cell 10 [(.int .u64), (.int .u64), (.int .u64), (.int .u64)] true]⟩
/- 36: cloakroom/sip.Mix -/
def k36_0 : VC := .reg [⟨(some 10), .alloc [(.int .u64 0), (.int .u64 0), (.int .u64 0), (.int .u64 0)], none⟩]
def k36_1 : VC := .reg [⟨(some 12), .mv (.tmp 0), none⟩,
    ⟨(some 13), .mv (.tmp 1), none⟩,
    ⟨(some 14), .mv (.tmp 2), none⟩,
    ⟨(some 15), .mv (.tmp 3), none⟩,
    ⟨(some 16), .build [(.int .u64 0), (.int .u64 0), (.int .u64 0), (.int .u64 0)] [(0, 1, (.tmp 12)), (1, 1, (.tmp 13)), (2, 1, (.tmp 14)), (3, 1, (.tmp 15))], none⟩,
    ⟨(some 11), .alloc [(.int .u64 0), (.int .u64 0), (.int .u64 0), (.int .u64 0)], none⟩,
    ⟨none, .store 4 (.tmp 11) (.tmp 16), none⟩]
def k36_2 : VC := .reg [⟨(some 17), .mv (.tmp 4), none⟩,
    ⟨(some 18), .callF 65 [(.tmp 11), (.tmp 17)], none⟩]
def k36_3 : VC := .reg [⟨(some 19), .loadN [(.int .u64), (.int .u64), (.int .u64), (.int .u64)] (.tmp 11), none⟩,
    ⟨none, .store 4 (.tmp 10) (.tmp 19), none⟩]
def k36_4 : VC := .seq k36_3 .ret
def k36_5 : VC := .seq k36_2 k36_4
def k36_6 : VC := .seq k36_1 k36_5
def k36_7 : VC := .seq k36_0 k36_6
def fn36 : VFn := ⟨20, k36_7, [.cell 10 [(.int .u64), (.int .u64), (.int .u64), (.int .u64)] true]⟩
/- 10: cloakroom/cloakroomlaw12.SipBack -/
def k10_0 : VC := .reg [⟨(some 8), .mv (.const (.bool false)), none⟩]
def k10_1 : VC := .reg [⟨(some 14), .mv (.tmp 0), none⟩,
    ⟨(some 15), .mv (.tmp 1), none⟩,
    ⟨(some 16), .mv (.tmp 2), none⟩,
    ⟨(some 17), .mv (.tmp 3), none⟩,
    ⟨(some 18), .callF 36 [(.tmp 14), (.tmp 15), (.tmp 16), (.tmp 17), (.const (.int .i64 1))], none⟩,
    ⟨(some 9), .alloc [(.int .u64 0), (.int .u64 0), (.int .u64 0), (.int .u64 0)], none⟩,
    ⟨none, .store 4 (.tmp 9) (.tmp 18), none⟩]
def k10_2 : VC := .reg [⟨(some 20), .idxAA 4 1 (.tmp 9) (.const (.int .i64 0)), none⟩,
    ⟨(some 21), .load1 (.int .u64) (.tmp 20), none⟩,
    ⟨(some 22), .idxAA 4 1 (.tmp 9) (.const (.int .i64 1)), none⟩,
    ⟨(some 23), .load1 (.int .u64) (.tmp 22), none⟩,
    ⟨(some 24), .idxAA 4 1 (.tmp 9) (.const (.int .i64 2)), none⟩,
    ⟨(some 25), .load1 (.int .u64) (.tmp 24), none⟩,
    ⟨(some 26), .idxAA 4 1 (.tmp 9) (.const (.int .i64 3)), none⟩,
    ⟨(some 27), .load1 (.int .u64) (.tmp 26), none⟩,
    ⟨(some 28), .callF 38 [(.tmp 21), (.tmp 23), (.tmp 25), (.tmp 27)], none⟩,
    ⟨(some 19), .mv (.tmp 28), none⟩,
    ⟨(some 29), .extract 0 (.tmp 19), none⟩,
    ⟨(some 30), .extract 1 (.tmp 19), none⟩,
    ⟨(some 31), .extract 2 (.tmp 19), none⟩,
    ⟨(some 32), .extract 3 (.tmp 19), none⟩,
    ⟨(some 10), .mv (.tmp 29), none⟩,
    ⟨(some 11), .mv (.tmp 30), none⟩,
    ⟨(some 12), .mv (.tmp 31), none⟩,
    ⟨(some 13), .mv (.tmp 32), none⟩]
def k10_3 : VC := .reg [⟨(some 33), .mv (.tmp 10), none⟩,
    ⟨(some 34), .mv (.tmp 0), none⟩,
    ⟨(some 35), .bin .eql (.tmp 33) (.tmp 34), none⟩,
    ⟨(some 36), .mv (.tmp 35), none⟩,
    ⟨(some 37), .mv (.tmp 11), (some (36, true))⟩,
    ⟨(some 38), .mv (.tmp 1), (some (36, true))⟩,
    ⟨(some 39), .bin .eql (.tmp 37) (.tmp 38), (some (36, true))⟩,
    ⟨(some 40), .pick (.tmp 36) (.tmp 39) (.const (.bool false)), none⟩,
    ⟨(some 41), .mv (.tmp 40), none⟩,
    ⟨(some 42), .mv (.tmp 12), (some (41, true))⟩,
    ⟨(some 43), .mv (.tmp 2), (some (41, true))⟩,
    ⟨(some 44), .bin .eql (.tmp 42) (.tmp 43), (some (41, true))⟩,
    ⟨(some 45), .pick (.tmp 41) (.tmp 44) (.const (.bool false)), none⟩,
    ⟨(some 46), .mv (.tmp 45), none⟩,
    ⟨(some 47), .mv (.tmp 13), (some (46, true))⟩,
    ⟨(some 48), .mv (.tmp 3), (some (46, true))⟩,
    ⟨(some 49), .bin .eql (.tmp 47) (.tmp 48), (some (46, true))⟩,
    ⟨(some 50), .pick (.tmp 46) (.tmp 49) (.const (.bool false)), none⟩,
    ⟨(some 51), .mv (.tmp 50), none⟩,
    ⟨(some 52), .callF 30 [], (some (51, true))⟩,
    ⟨(some 53), .pick (.tmp 51) (.tmp 52) (.const (.bool false)), none⟩,
    ⟨(some 8), .mv (.tmp 53), none⟩]
def k10_4 : VC := .seq k10_3 .ret
def k10_5 : VC := .seq k10_2 k10_4
def k10_6 : VC := .seq k10_1 k10_5
def k10_7 : VC := .seq k10_0 k10_6
def fn10 : VFn := ⟨54, k10_7, [.tmp 8]⟩
/- 38: cloakroom/cloakroomref12.Back -/
def k38_0 : VC := .reg [⟨(some 8), .mv (.const (.int .u64 0)), none⟩,
    ⟨(some 9), .mv (.const (.int .u64 0)), none⟩,
    ⟨(some 10), .mv (.const (.int .u64 0)), none⟩,
    ⟨(some 11), .mv (.const (.int .u64 0)), none⟩]
def k38_1 : VC := .reg [⟨(some 12), .mv (.tmp 2), none⟩,
    ⟨(some 13), .callF 68 [(.tmp 12), (.const (.int .i64 32))], none⟩,
    ⟨(some 2), .mv (.tmp 13), none⟩]
def k38_2 : VC := .reg [⟨(some 14), .mv (.tmp 1), none⟩,
    ⟨(some 15), .mv (.tmp 2), none⟩,
    ⟨(some 16), .bin .xor (.tmp 14) (.tmp 15), none⟩,
    ⟨(some 17), .callF 68 [(.tmp 16), (.const (.int .i64 47))], none⟩,
    ⟨(some 1), .mv (.tmp 17), none⟩]
def k38_3 : VC := .reg [⟨(some 18), .mv (.tmp 2), none⟩,
    ⟨(some 19), .mv (.tmp 1), none⟩,
    ⟨(some 20), .bin .sub (.tmp 18) (.tmp 19), none⟩,
    ⟨(some 2), .mv (.tmp 20), none⟩]
def k38_4 : VC := .reg [⟨(some 21), .mv (.tmp 3), none⟩,
    ⟨(some 22), .mv (.tmp 0), none⟩,
    ⟨(some 23), .bin .xor (.tmp 21) (.tmp 22), none⟩,
    ⟨(some 24), .callF 68 [(.tmp 23), (.const (.int .i64 43))], none⟩,
    ⟨(some 3), .mv (.tmp 24), none⟩]
def k38_5 : VC := .reg [⟨(some 25), .mv (.tmp 0), none⟩,
    ⟨(some 26), .mv (.tmp 3), none⟩,
    ⟨(some 27), .bin .sub (.tmp 25) (.tmp 26), none⟩,
    ⟨(some 0), .mv (.tmp 27), none⟩]
def k38_6 : VC := .reg [⟨(some 28), .mv (.tmp 3), none⟩,
    ⟨(some 29), .mv (.tmp 2), none⟩,
    ⟨(some 30), .bin .xor (.tmp 28) (.tmp 29), none⟩,
    ⟨(some 31), .callF 68 [(.tmp 30), (.const (.int .i64 48))], none⟩,
    ⟨(some 3), .mv (.tmp 31), none⟩]
def k38_7 : VC := .reg [⟨(some 32), .mv (.tmp 2), none⟩,
    ⟨(some 33), .mv (.tmp 3), none⟩,
    ⟨(some 34), .bin .sub (.tmp 32) (.tmp 33), none⟩,
    ⟨(some 2), .mv (.tmp 34), none⟩]
def k38_8 : VC := .reg [⟨(some 35), .mv (.tmp 0), none⟩,
    ⟨(some 36), .callF 68 [(.tmp 35), (.const (.int .i64 32))], none⟩,
    ⟨(some 0), .mv (.tmp 36), none⟩]
def k38_9 : VC := .reg [⟨(some 37), .mv (.tmp 1), none⟩,
    ⟨(some 38), .mv (.tmp 0), none⟩,
    ⟨(some 39), .bin .xor (.tmp 37) (.tmp 38), none⟩,
    ⟨(some 40), .callF 68 [(.tmp 39), (.const (.int .i64 51))], none⟩,
    ⟨(some 1), .mv (.tmp 40), none⟩]
def k38_10 : VC := .reg [⟨(some 41), .mv (.tmp 0), none⟩,
    ⟨(some 42), .mv (.tmp 1), none⟩,
    ⟨(some 43), .bin .sub (.tmp 41) (.tmp 42), none⟩,
    ⟨(some 0), .mv (.tmp 43), none⟩]
def k38_11 : VC := .reg [⟨(some 44), .mv (.tmp 0), none⟩,
    ⟨(some 45), .mv (.tmp 1), none⟩,
    ⟨(some 46), .mv (.tmp 2), none⟩,
    ⟨(some 47), .mv (.tmp 3), none⟩,
    ⟨(some 8), .mv (.tmp 44), none⟩,
    ⟨(some 9), .mv (.tmp 45), none⟩,
    ⟨(some 10), .mv (.tmp 46), none⟩,
    ⟨(some 11), .mv (.tmp 47), none⟩]
def k38_12 : VC := .seq k38_11 .ret
def k38_13 : VC := .seq k38_10 k38_12
def k38_14 : VC := .seq k38_9 k38_13
def k38_15 : VC := .seq k38_8 k38_14
def k38_16 : VC := .seq k38_7 k38_15
def k38_17 : VC := .seq k38_6 k38_16
def k38_18 : VC := .seq k38_5 k38_17
def k38_19 : VC := .seq k38_4 k38_18
def k38_20 : VC := .seq k38_3 k38_19
def k38_21 : VC := .seq k38_2 k38_20
def k38_22 : VC := .seq k38_1 k38_21
def k38_23 : VC := .seq k38_0 k38_22
def fn38 : VFn := ⟨48, k38_23, [.tmp 8, .tmp 9, .tmp 10, .tmp 11]⟩
theorem fn8_ok : (Try.prog.funcs[8]?).bind (compFn Try.prog) = some fn8 := by kernel_rfl
theorem fn30_ok : (Try.prog.funcs[30]?).bind (compFn Try.prog) = some fn30 := by kernel_rfl
theorem fn34_ok : (Try.prog.funcs[34]?).bind (compFn Try.prog) = some fn34 := by kernel_rfl
theorem fn31_ok : (Try.prog.funcs[31]?).bind (compFn Try.prog) = some fn31 := by kernel_rfl
theorem fn32_ok : (Try.prog.funcs[32]?).bind (compFn Try.prog) = some fn32 := by kernel_rfl
theorem fn64_ok : (Try.prog.funcs[64]?).bind (compFn Try.prog) = some fn64 := by kernel_rfl
theorem fn65_ok : (Try.prog.funcs[65]?).bind (compFn Try.prog) = some fn65 := by kernel_rfl
theorem fn93_ok : (Try.prog.funcs[93]?).bind (compFn Try.prog) = some fn93 := by kernel_rfl
theorem fn97_ok : (Try.prog.funcs[97]?).bind (compFn Try.prog) = some fn97 := by kernel_rfl
theorem fn33_ok : (Try.prog.funcs[33]?).bind (compFn Try.prog) = some fn33 := by kernel_rfl
theorem fn9_ok : (Try.prog.funcs[9]?).bind (compFn Try.prog) = some fn9 := by kernel_rfl
theorem fn35_ok : (Try.prog.funcs[35]?).bind (compFn Try.prog) = some fn35 := by kernel_rfl
theorem fn66_ok : (Try.prog.funcs[66]?).bind (compFn Try.prog) = some fn66 := by kernel_rfl
theorem fn67_ok : (Try.prog.funcs[67]?).bind (compFn Try.prog) = some fn67 := by kernel_rfl
theorem fn68_ok : (Try.prog.funcs[68]?).bind (compFn Try.prog) = some fn68 := by kernel_rfl
theorem fn37_ok : (Try.prog.funcs[37]?).bind (compFn Try.prog) = some fn37 := by kernel_rfl
theorem fn36_ok : (Try.prog.funcs[36]?).bind (compFn Try.prog) = some fn36 := by kernel_rfl
theorem fn10_ok : (Try.prog.funcs[10]?).bind (compFn Try.prog) = some fn10 := by kernel_rfl
theorem fn38_ok : (Try.prog.funcs[38]?).bind (compFn Try.prog) = some fn38 := by kernel_rfl
def tab : List (Nat × VFn) := [(8, fn8),(30, fn30),(34, fn34),(31, fn31),(32, fn32),(64, fn64),(65, fn65),(93, fn93),(97, fn97),(33, fn33),(9, fn9),(35, fn35),(66, fn66),(67, fn67),(68, fn68),(37, fn37),(36, fn36),(10, fn10),(38, fn38)]
theorem tab_ok : FnsOK Try.prog (aget tab) := FnsOK.of_tab ⟨fn8_ok,fn30_ok,fn34_ok,fn31_ok,fn32_ok,fn64_ok,fn65_ok,fn93_ok,fn97_ok,fn33_ok,fn9_ok,fn35_ok,fn66_ok,fn67_ok,fn68_ok,fn37_ok,fn36_ok,fn10_ok,fn38_ok, trivial⟩
end Go.Vm.Code
