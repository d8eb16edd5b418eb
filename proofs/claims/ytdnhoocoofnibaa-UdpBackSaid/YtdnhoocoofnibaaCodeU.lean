import Derived.Test.YtdnhoocoofnibaaVmLib
import Derived.Test.YtdnhoocoofnibaaProg
import Derived.KernelRfl
namespace Go.Vm.Code
open Go Go.Vm Go.Proofs
/- 3: cloakroom/cloakroomlaw08.UdpTells -/
def k3_0 : VC := .reg [⟨(some 5), .box (.tmp 0), none⟩,
    ⟨(some 6), .box (.tmp 1), none⟩,
    ⟨(some 7), .box (.tmp 2), none⟩,
    ⟨(some 10), .mv (.const (.bool false)), none⟩]
def k3_1 : VC := .reg [⟨(some 21), .mv (.tmp 3), none⟩,
    ⟨(some 22), .mv (.tmp 4), none⟩,
    ⟨(some 23), .buildSl 2 1 [(.string ⟨⟨[]⟩⟩), (.string ⟨⟨[]⟩⟩)] [(0, 1, (.tmp 21)), (1, 1, (.tmp 22))], none⟩,
    ⟨(some 24), .callF 14 [(.tmp 23), (.const (.int .i64 200))], none⟩,
    ⟨(some 25), .not (.tmp 24), none⟩]
def k3_2 : VC := .reg [⟨(some 26), .callF 15 [], none⟩,
    ⟨(some 10), .mv (.tmp 26), none⟩]
def k3_3 : VC := .seq k3_2 .ret
def k3_4 : VC := .cond (.tmp 25) k3_3 .skip
def k3_5 : VC := .seq k3_1 k3_4
def k3_6 : VC := .reg [⟨(some 28), .fieldA 0 (.tmp 5), none⟩,
    ⟨(some 29), .load1 (.int .i64) (.tmp 28), none⟩,
    ⟨(some 30), .fieldA 1 (.tmp 5), none⟩,
    ⟨(some 31), .load1 (.int .i64) (.tmp 30), none⟩,
    ⟨(some 32), .build [(.int .i64 0), (.int .i64 0)] [(0, 1, (.tmp 29)), (1, 1, (.tmp 31))], none⟩,
    ⟨(some 33), .loadN [.bool, (.int .u64), (.int .u64)] (.tmp 6), none⟩,
    ⟨(some 34), .loadN [.bool, (.int .u64), (.int .u64)] (.tmp 7), none⟩,
    ⟨(some 35), .mv (.tmp 3), none⟩,
    ⟨(some 36), .callF 16 [(.tmp 32), (.tmp 33), (.tmp 34), (.tmp 35)], none⟩,
    ⟨(some 27), .mv (.tmp 36), none⟩,
    ⟨(some 37), .extract 0 (.tmp 27), none⟩,
    ⟨(some 38), .extract 1 (.tmp 27), none⟩,
    ⟨(some 11), .mv (.tmp 37), none⟩,
    ⟨(some 12), .mv (.tmp 38), none⟩]
def k3_7 : VC := .reg [⟨(some 40), .loadN [(.int .i64), (.int .i64)] (.tmp 5), none⟩,
    ⟨(some 41), .loadN [.bool, (.int .u64), (.int .u64)] (.tmp 6), none⟩,
    ⟨(some 42), .loadN [.bool, (.int .u64), (.int .u64)] (.tmp 7), none⟩,
    ⟨(some 43), .mv (.tmp 3), none⟩,
    ⟨(some 44), .callF 17 [(.tmp 40), (.tmp 41), (.tmp 42), (.tmp 43)], none⟩,
    ⟨(some 39), .mv (.tmp 44), none⟩,
    ⟨(some 45), .extract 0 (.tmp 39), none⟩,
    ⟨(some 46), .extract 1 (.tmp 39), none⟩,
    ⟨(some 13), .mv (.tmp 45), none⟩,
    ⟨(some 14), .mv (.tmp 46), none⟩]
def k3_8 : VC := .reg [⟨(some 48), .mv (.tmp 4), none⟩,
    ⟨(some 49), .loadN [.bool, (.int .u64), (.int .u64)] (.tmp 6), none⟩,
    ⟨(some 50), .loadN [.bool, (.int .u64), (.int .u64)] (.tmp 7), none⟩,
    ⟨(some 51), .callF 18 [(.tmp 48), (.tmp 49), (.tmp 50)], none⟩,
    ⟨(some 47), .mv (.tmp 51), none⟩,
    ⟨(some 52), .extract 0 (.tmp 47), none⟩,
    ⟨(some 53), .extract 1 (.tmp 47), none⟩,
    ⟨(some 54), .extract 2 (.tmp 47), none⟩,
    ⟨(some 15), .alloc [(.int .i64 0), (.int .i64 0)], none⟩,
    ⟨none, .store 2 (.tmp 15) (.tmp 52), none⟩,
    ⟨(some 16), .mv (.tmp 53), none⟩,
    ⟨(some 17), .mv (.tmp 54), none⟩]
def k3_9 : VC := .reg [⟨(some 56), .mv (.tmp 4), none⟩,
    ⟨(some 57), .loadN [.bool, (.int .u64), (.int .u64)] (.tmp 6), none⟩,
    ⟨(some 58), .loadN [.bool, (.int .u64), (.int .u64)] (.tmp 7), none⟩,
    ⟨(some 59), .callF 19 [(.tmp 56), (.tmp 57), (.tmp 58)], none⟩,
    ⟨(some 55), .mv (.tmp 59), none⟩,
    ⟨(some 60), .extract 0 (.tmp 55), none⟩,
    ⟨(some 61), .extract 1 (.tmp 55), none⟩,
    ⟨(some 62), .extract 2 (.tmp 55), none⟩,
    ⟨(some 18), .alloc [(.int .i64 0), (.int .i64 0)], none⟩,
    ⟨none, .store 2 (.tmp 18) (.tmp 60), none⟩,
    ⟨(some 19), .mv (.tmp 61), none⟩,
    ⟨(some 20), .mv (.tmp 62), none⟩]
def k3_10 : VC := .reg [⟨(some 63), .mv (.tmp 11), none⟩,
    ⟨(some 64), .mv (.tmp 13), none⟩,
    ⟨(some 65), .bin .eql (.tmp 63) (.tmp 64), none⟩,
    ⟨(some 66), .mv (.tmp 65), none⟩,
    ⟨(some 67), .mv (.tmp 12), (some (66, true))⟩,
    ⟨(some 68), .mv (.tmp 14), (some (66, true))⟩,
    ⟨(some 69), .bin .eql (.tmp 67) (.tmp 68), (some (66, true))⟩,
    ⟨(some 70), .pick (.tmp 66) (.tmp 69) (.const (.bool false)), none⟩,
    ⟨(some 71), .mv (.tmp 70), none⟩,
    ⟨(some 72), .fieldA 0 (.tmp 15), (some (71, true))⟩,
    ⟨(some 73), .load1 (.int .i64) (.tmp 72), (some (71, true))⟩,
    ⟨(some 74), .fieldA 0 (.tmp 18), (some (71, true))⟩,
    ⟨(some 75), .load1 (.int .i64) (.tmp 74), (some (71, true))⟩,
    ⟨(some 76), .bin .eql (.tmp 73) (.tmp 75), (some (71, true))⟩,
    ⟨(some 77), .pick (.tmp 71) (.tmp 76) (.const (.bool false)), none⟩,
    ⟨(some 78), .mv (.tmp 77), none⟩,
    ⟨(some 79), .fieldA 1 (.tmp 15), (some (78, true))⟩,
    ⟨(some 80), .load1 (.int .i64) (.tmp 79), (some (78, true))⟩,
    ⟨(some 81), .fieldA 1 (.tmp 18), (some (78, true))⟩,
    ⟨(some 82), .load1 (.int .i64) (.tmp 81), (some (78, true))⟩,
    ⟨(some 83), .bin .eql (.tmp 80) (.tmp 82), (some (78, true))⟩,
    ⟨(some 84), .pick (.tmp 78) (.tmp 83) (.const (.bool false)), none⟩,
    ⟨(some 85), .mv (.tmp 84), none⟩,
    ⟨(some 86), .mv (.tmp 16), (some (85, true))⟩,
    ⟨(some 87), .mv (.tmp 19), (some (85, true))⟩,
    ⟨(some 88), .bin .eql (.tmp 86) (.tmp 87), (some (85, true))⟩,
    ⟨(some 89), .pick (.tmp 85) (.tmp 88) (.const (.bool false)), none⟩,
    ⟨(some 90), .mv (.tmp 89), none⟩,
    ⟨(some 91), .mv (.tmp 17), (some (90, true))⟩,
    ⟨(some 92), .mv (.tmp 20), (some (90, true))⟩,
    ⟨(some 93), .bin .eql (.tmp 91) (.tmp 92), (some (90, true))⟩,
    ⟨(some 94), .pick (.tmp 90) (.tmp 93) (.const (.bool false)), none⟩,
    ⟨(some 95), .mv (.tmp 94), none⟩,
    ⟨(some 96), .callF 15 [], (some (95, true))⟩,
    ⟨(some 97), .pick (.tmp 95) (.tmp 96) (.const (.bool false)), none⟩,
    ⟨(some 10), .mv (.tmp 97), none⟩]
def k3_11 : VC := .seq k3_10 .ret
def k3_12 : VC := .seq k3_9 k3_11
def k3_13 : VC := .seq k3_8 k3_12
def k3_14 : VC := .seq k3_7 k3_13
def k3_15 : VC := .seq k3_6 k3_14
def k3_16 : VC := .seq k3_5 k3_15
def k3_17 : VC := .seq k3_0 k3_16
def fn3 : VFn := ⟨98, k3_17, [.tmp 10]⟩
/- 14: cloakroom/cloakroomref07.Small -/
def k14_0 : VC := .reg [⟨(some 4), .mv (.const (.bool false)), none⟩]
def k14_1 : VC := .reg [⟨(some 5), .mv (.const (.int .i64 0)), none⟩]
def k14_2 : VC := .reg [⟨(some 6), .mv (.tmp 5), none⟩,
    ⟨(some 7), .mv (.tmp 0), none⟩,
    ⟨(some 8), .lenL (.tmp 7), none⟩,
    ⟨(some 9), .bin .lss (.tmp 6) (.tmp 8), none⟩]
def k14_3 : VC := .cond (.tmp 9) .skip (.exit 0)
def k14_4 : VC := .seq k14_2 k14_3
def k14_5 : VC := .reg [⟨(some 12), .mv (.tmp 0), none⟩,
    ⟨(some 13), .mv (.tmp 5), none⟩,
    ⟨(some 14), .idxAL 1 (.tmp 12) (.tmp 13), none⟩,
    ⟨(some 15), .load1 .str (.tmp 14), none⟩,
    ⟨(some 16), .lenS (.tmp 15), none⟩,
    ⟨(some 17), .mv (.tmp 1), none⟩,
    ⟨(some 18), .bin .gtr (.tmp 16) (.tmp 17), none⟩]
def k14_6 : VC := .reg [⟨(some 4), .mv (.const (.bool false)), none⟩]
def k14_7 : VC := .seq k14_6 .ret
def k14_8 : VC := .cond (.tmp 18) k14_7 .skip
def k14_9 : VC := .seq k14_5 k14_8
def k14_10 : VC := .block 1 k14_9
def k14_11 : VC := .reg [⟨(some 10), .mv (.tmp 5), none⟩,
    ⟨(some 11), .bin .add (.tmp 10) (.const (.int .i64 1)), none⟩,
    ⟨(some 5), .mv (.tmp 11), none⟩]
def k14_12 : VC := .seq k14_10 k14_11
def k14_13 : VC := .seq k14_4 k14_12
def k14_14 : VC := .loop k14_13
def k14_15 : VC := .block 0 k14_14
def k14_16 : VC := .seq k14_1 k14_15
def k14_17 : VC := .reg [⟨(some 4), .mv (.const (.bool true)), none⟩]
def k14_18 : VC := .seq k14_17 .ret
def k14_19 : VC := .seq k14_16 k14_18
def k14_20 : VC := .seq k14_0 k14_19
def fn14 : VFn := ⟨19, k14_20, [.tmp 4]⟩
/- 15: cloakroom/cloakroomlaw08.awake -/
def k15_0 : VC := .reg [⟨(some 0), .mv (.const (.bool false)), none⟩]
def k15_1 : VC := .reg [⟨(some 10), .build [(.int .i64 0), (.int .i64 0)] [(0, 1, (.const (.int .i64 1))), (1, 1, (.const (.int .i64 2)))], none⟩,
    ⟨(some 11), .build [(.bool false), (.int .u64 0), (.int .u64 0)] [(2, 1, (.const (.int .u64 1)))], none⟩,
    ⟨(some 12), .build [(.bool false), (.int .u64 0), (.int .u64 0)] [(2, 1, (.const (.int .u64 2)))], none⟩,
    ⟨(some 13), .callF 16 [(.tmp 10), (.tmp 11), (.tmp 12), (.const (.string ⟨⟨[97]⟩⟩))], none⟩,
    ⟨(some 9), .mv (.tmp 13), none⟩,
    ⟨(some 14), .extract 0 (.tmp 9), none⟩,
    ⟨(some 15), .extract 1 (.tmp 9), none⟩,
    ⟨(some 1), .mv (.tmp 14), none⟩,
    ⟨(some 2), .mv (.tmp 15), none⟩]
def k15_2 : VC := .reg [⟨(some 17), .mv (.tmp 1), none⟩,
    ⟨(some 18), .build [(.bool false), (.int .u64 0), (.int .u64 0)] [(2, 1, (.const (.int .u64 1)))], none⟩,
    ⟨(some 19), .build [(.bool false), (.int .u64 0), (.int .u64 0)] [(2, 1, (.const (.int .u64 2)))], none⟩,
    ⟨(some 20), .callF 18 [(.tmp 17), (.tmp 18), (.tmp 19)], none⟩,
    ⟨(some 16), .mv (.tmp 20), none⟩,
    ⟨(some 21), .extract 0 (.tmp 16), none⟩,
    ⟨(some 22), .extract 1 (.tmp 16), none⟩,
    ⟨(some 23), .extract 2 (.tmp 16), none⟩,
    ⟨(some 3), .alloc [(.int .i64 0), (.int .i64 0)], none⟩,
    ⟨none, .store 2 (.tmp 3) (.tmp 21), none⟩,
    ⟨(some 4), .mv (.tmp 22), none⟩,
    ⟨(some 5), .mv (.tmp 23), none⟩]
def k15_3 : VC := .reg [⟨(some 25), .build [(.bool false), (.int .u64 0), (.int .u64 0)] [], none⟩,
    ⟨(some 26), .build [(.bool false), (.int .u64 0), (.int .u64 0)] [], none⟩,
    ⟨(some 27), .callF 18 [(.const (.string ⟨⟨[]⟩⟩)), (.tmp 25), (.tmp 26)], none⟩,
    ⟨(some 24), .mv (.tmp 27), none⟩,
    ⟨(some 28), .extract 0 (.tmp 24), none⟩,
    ⟨(some 29), .extract 1 (.tmp 24), none⟩,
    ⟨(some 30), .extract 2 (.tmp 24), none⟩,
    ⟨(some 6), .alloc [(.int .i64 0), (.int .i64 0)], none⟩,
    ⟨none, .store 2 (.tmp 6) (.tmp 28), none⟩,
    ⟨(some 7), .mv (.tmp 29), none⟩,
    ⟨(some 8), .mv (.tmp 30), none⟩]
def k15_4 : VC := .reg [⟨(some 31), .mv (.tmp 2), none⟩,
    ⟨(some 32), .bin .eql (.tmp 31) (.const (.int .i64 0)), none⟩,
    ⟨(some 33), .mv (.tmp 32), none⟩,
    ⟨(some 34), .mv (.tmp 1), (some (33, true))⟩,
    ⟨(some 35), .lenS (.tmp 34), (some (33, true))⟩,
    ⟨(some 36), .bin .eql (.tmp 35) (.const (.int .i64 9)), (some (33, true))⟩,
    ⟨(some 37), .pick (.tmp 33) (.tmp 36) (.const (.bool false)), none⟩,
    ⟨(some 38), .mv (.tmp 37), none⟩,
    ⟨(some 39), .mv (.tmp 5), (some (38, true))⟩,
    ⟨(some 40), .bin .eql (.tmp 39) (.const (.int .i64 0)), (some (38, true))⟩,
    ⟨(some 41), .pick (.tmp 38) (.tmp 40) (.const (.bool false)), none⟩,
    ⟨(some 42), .mv (.tmp 41), none⟩,
    ⟨(some 43), .fieldA 1 (.tmp 3), (some (42, true))⟩,
    ⟨(some 44), .load1 (.int .i64) (.tmp 43), (some (42, true))⟩,
    ⟨(some 45), .bin .eql (.tmp 44) (.const (.int .i64 2)), (some (42, true))⟩,
    ⟨(some 46), .pick (.tmp 42) (.tmp 45) (.const (.bool false)), none⟩,
    ⟨(some 47), .mv (.tmp 46), none⟩,
    ⟨(some 48), .mv (.tmp 4), (some (47, true))⟩,
    ⟨(some 49), .bin .eql (.tmp 48) (.const (.string ⟨⟨[97]⟩⟩)), (some (47, true))⟩,
    ⟨(some 50), .pick (.tmp 47) (.tmp 49) (.const (.bool false)), none⟩,
    ⟨(some 51), .mv (.tmp 50), none⟩,
    ⟨(some 52), .mv (.tmp 8), (some (51, true))⟩,
    ⟨(some 53), .bin .eql (.tmp 52) (.const (.int .i64 2)), (some (51, true))⟩,
    ⟨(some 54), .pick (.tmp 51) (.tmp 53) (.const (.bool false)), none⟩,
    ⟨(some 0), .mv (.tmp 54), none⟩]
def k15_5 : VC := .seq k15_4 .ret
def k15_6 : VC := .seq k15_3 k15_5
def k15_7 : VC := .seq k15_2 k15_6
def k15_8 : VC := .seq k15_1 k15_7
def k15_9 : VC := .seq k15_0 k15_8
def fn15 : VFn := ⟨55, k15_9, [.tmp 0]⟩
/- 16: cloakroom/udp.Put -/
def k16_0 : VC := .reg [⟨(some 4), .box (.tmp 0), none⟩,
    ⟨(some 5), .box (.tmp 1), none⟩,
    ⟨(some 6), .box (.tmp 2), none⟩,
    ⟨(some 8), .mv (.const (.string ⟨⟨[]⟩⟩)), none⟩,
    ⟨(some 9), .mv (.const (.int .i64 0)), none⟩]
def k16_1 : VC := .reg [⟨(some 17), .mv (.tmp 3), none⟩,
    ⟨(some 18), .lenS (.tmp 17), none⟩,
    ⟨(some 19), .bin .add (.const (.int .i64 8)) (.tmp 18), none⟩,
    ⟨(some 10), .mv (.tmp 19), none⟩]
def k16_2 : VC := .reg [⟨(some 20), .loadN [.bool, (.int .u64), (.int .u64)] (.tmp 5), none⟩,
    ⟨(some 21), .loadN [.bool, (.int .u64), (.int .u64)] (.tmp 6), none⟩,
    ⟨(some 22), .mv (.tmp 10), none⟩,
    ⟨(some 23), .callF 27 [(.tmp 20), (.tmp 21), (.const (.int .i64 17)), (.tmp 22)], none⟩,
    ⟨(some 11), .mv (.tmp 23), none⟩]
def k16_3 : VC := .reg [⟨(some 25), .fieldA 0 (.tmp 4), none⟩,
    ⟨(some 26), .load1 (.int .i64) (.tmp 25), none⟩,
    ⟨(some 27), .callF 60 [(.tmp 26)], none⟩,
    ⟨(some 28), .not (.tmp 27), none⟩,
    ⟨(some 29), .mv (.tmp 28), none⟩,
    ⟨(some 30), .fieldA 1 (.tmp 4), (some (29, false))⟩,
    ⟨(some 31), .load1 (.int .i64) (.tmp 30), (some (29, false))⟩,
    ⟨(some 32), .callF 60 [(.tmp 31)], (some (29, false))⟩,
    ⟨(some 33), .not (.tmp 32), (some (29, false))⟩,
    ⟨(some 34), .pick (.tmp 29) (.const (.bool true)) (.tmp 33), none⟩,
    ⟨(some 35), .mv (.tmp 34), none⟩,
    ⟨(some 36), .mv (.tmp 11), (some (35, false))⟩,
    ⟨(some 37), .bin .eql (.tmp 36) (.const (.string ⟨⟨[]⟩⟩)), (some (35, false))⟩,
    ⟨(some 38), .pick (.tmp 35) (.const (.bool true)) (.tmp 37), none⟩,
    ⟨(some 24), .mv (.tmp 38), none⟩]
def k16_4 : VC := .reg [⟨(some 8), .mv (.const (.string ⟨⟨[]⟩⟩)), none⟩,
    ⟨(some 9), .mv (.const (.int .i64 1)), none⟩]
def k16_5 : VC := .seq k16_4 .ret
def k16_6 : VC := .reg [⟨(some 40), .mv (.tmp 10), none⟩,
    ⟨(some 41), .bin .gtr (.tmp 40) (.const (.int .i64 65535)), none⟩,
    ⟨(some 39), .mv (.tmp 41), none⟩]
def k16_7 : VC := .reg [⟨(some 8), .mv (.const (.string ⟨⟨[]⟩⟩)), none⟩,
    ⟨(some 9), .mv (.const (.int .i64 5)), none⟩]
def k16_8 : VC := .seq k16_7 .ret
def k16_9 : VC := .cond (.tmp 39) k16_8 .skip
def k16_10 : VC := .seq k16_6 k16_9
def k16_11 : VC := .cond (.tmp 24) k16_5 k16_10
def k16_12 : VC := .seq k16_3 k16_11
def k16_13 : VC := .block 0 k16_12
def k16_14 : VC := .reg [⟨(some 12), .allocB 114 5, none⟩]
def k16_15 : VC := .reg [⟨(some 42), .fieldA 0 (.tmp 4), none⟩,
    ⟨(some 43), .load1 (.int .i64) (.tmp 42), none⟩,
    ⟨(some 44), .fieldA 1 (.tmp 4), none⟩,
    ⟨(some 45), .load1 (.int .i64) (.tmp 44), none⟩,
    ⟨(some 46), .mv (.tmp 10), none⟩,
    ⟨(some 47), .build [(.int .i64 0), (.int .i64 0), (.int .i64 0), (.int .i64 0)] [(0, 1, (.tmp 43)), (1, 1, (.tmp 45)), (2, 1, (.tmp 46)), (3, 1, (.const (.int .i64 0)))], none⟩,
    ⟨(some 48), .mv (.const (.int .i64 0)), none⟩]
def k16_16 : VC := .reg [⟨(some 49), .bin .lss (.tmp 48) (.const (.int .i64 4)), none⟩]
def k16_17 : VC := .cond (.tmp 49) .skip (.exit 1)
def k16_18 : VC := .reg [⟨(some 50), .idxV1 4 (.tmp 47) (.tmp 48), none⟩,
    ⟨(some 14), .mv (.tmp 50), none⟩]
def k16_19 : VC := .reg [⟨(some 51), .mv (.tmp 14), none⟩,
    ⟨(some 52), .conv .u64 (.tmp 51), none⟩,
    ⟨(some 53), .callF 62 [(.tmp 52), (.const (.int .i64 2))], none⟩,
    ⟨(some 54), .callF 61 [(.tmp 12), (.tmp 53)], none⟩]
def k16_20 : VC := .seq k16_18 k16_19
def k16_21 : VC := .block 2 k16_20
def k16_22 : VC := .reg [⟨(some 55), .bin .add (.tmp 48) (.const (.int .i64 1)), none⟩,
    ⟨(some 48), .mv (.tmp 55), none⟩]
def k16_23 : VC := .seq k16_21 k16_22
def k16_24 : VC := .seq k16_17 k16_23
def k16_25 : VC := .seq k16_16 k16_24
def k16_26 : VC := .loop k16_25
def k16_27 : VC := .block 1 k16_26
def k16_28 : VC := .seq k16_15 k16_27
def k16_29 : VC := .reg [⟨(some 56), .mv (.tmp 3), none⟩,
    ⟨(some 57), .callF 61 [(.tmp 12), (.tmp 56)], none⟩]
def k16_30 : VC := .reg [⟨(some 58), .callF 63 [(.tmp 12)], none⟩,
    ⟨(some 15), .mv (.tmp 58), none⟩]
def k16_31 : VC := .reg [⟨(some 59), .mv (.tmp 11), none⟩,
    ⟨(some 60), .mv (.tmp 15), none⟩,
    ⟨(some 61), .bin .add (.tmp 59) (.tmp 60), none⟩,
    ⟨(some 62), .callF 64 [(.tmp 61)], none⟩,
    ⟨(some 16), .mv (.tmp 62), none⟩]
def k16_32 : VC := .reg [⟨(some 63), .mv (.tmp 16), none⟩,
    ⟨(some 64), .bin .eql (.tmp 63) (.const (.int .i64 0)), none⟩]
def k16_33 : VC := .reg [⟨(some 16), .mv (.const (.int .i64 65535)), none⟩]
def k16_34 : VC := .cond (.tmp 64) k16_33 .skip
def k16_35 : VC := .seq k16_32 k16_34
def k16_36 : VC := .reg [⟨(some 65), .mv (.tmp 15), none⟩,
    ⟨(some 66), .mv (.tmp 16), none⟩,
    ⟨(some 67), .conv .u64 (.tmp 66), none⟩,
    ⟨(some 68), .callF 65 [(.tmp 65), (.const (.int .i64 6)), (.const (.int .i64 2)), (.tmp 67)], none⟩,
    ⟨(some 8), .mv (.tmp 68), none⟩,
    ⟨(some 9), .mv (.const (.int .i64 0)), none⟩]
def k16_37 : VC := .seq k16_36 .ret
def k16_38 : VC := .seq k16_35 k16_37
def k16_39 : VC := .seq k16_31 k16_38
def k16_40 : VC := .seq k16_30 k16_39
def k16_41 : VC := .seq k16_29 k16_40
def k16_42 : VC := .seq k16_28 k16_41
def k16_43 : VC := .seq k16_14 k16_42
def k16_44 : VC := .seq k16_13 k16_43
def k16_45 : VC := .seq k16_2 k16_44
def k16_46 : VC := .seq k16_1 k16_45
def k16_47 : VC := .seq k16_0 k16_46
def fn16 : VFn := ⟨69, k16_47, [.tmp 8, .tmp 9]⟩
/- 27: cloakroom/ipfour.Pseudo -/
def k27_0 : VC := .reg [⟨(some 4), .box (.tmp 0), none⟩,
    ⟨(some 5), .box (.tmp 1), none⟩,
    ⟨(some 8), .mv (.const (.string ⟨⟨[]⟩⟩)), none⟩]
def k27_1 : VC := .reg [⟨(some 10), .loadN [.bool, (.int .u64), (.int .u64)] (.tmp 4), none⟩,
    ⟨(some 11), .callF 85 [(.tmp 10)], none⟩,
    ⟨(some 12), .not (.tmp 11), none⟩,
    ⟨(some 13), .mv (.tmp 12), none⟩,
    ⟨(some 14), .loadN [.bool, (.int .u64), (.int .u64)] (.tmp 5), (some (13, false))⟩,
    ⟨(some 15), .callF 85 [(.tmp 14)], (some (13, false))⟩,
    ⟨(some 16), .not (.tmp 15), (some (13, false))⟩,
    ⟨(some 17), .pick (.tmp 13) (.const (.bool true)) (.tmp 16), none⟩,
    ⟨(some 18), .mv (.tmp 17), none⟩,
    ⟨(some 19), .fieldA 0 (.tmp 4), (some (18, false))⟩,
    ⟨(some 20), .load1 .bool (.tmp 19), (some (18, false))⟩,
    ⟨(some 21), .fieldA 0 (.tmp 5), (some (18, false))⟩,
    ⟨(some 22), .load1 .bool (.tmp 21), (some (18, false))⟩,
    ⟨(some 23), .eqB true (.tmp 20) (.tmp 22), (some (18, false))⟩,
    ⟨(some 24), .pick (.tmp 18) (.const (.bool true)) (.tmp 23), none⟩]
def k27_2 : VC := .reg [⟨(some 8), .mv (.const (.string ⟨⟨[]⟩⟩)), none⟩]
def k27_3 : VC := .seq k27_2 .ret
def k27_4 : VC := .cond (.tmp 24) k27_3 .skip
def k27_5 : VC := .seq k27_1 k27_4
def k27_6 : VC := .regD [⟨(some 25), .loadN [.bool, (.int .u64), (.int .u64)] (.tmp 4), none⟩,
    ⟨(some 26), .callF 78 [(.tmp 25)], none⟩,
    ⟨(some 27), .loadN [.bool, (.int .u64), (.int .u64)] (.tmp 5), none⟩] [(1, 2)] [⟨(some 28), .callF 78 [(.tmp 27)], none⟩,
    ⟨(some 29), .bin .add (.tmp 26) (.tmp 28), none⟩,
    ⟨(some 9), .mv (.tmp 29), none⟩]
def k27_7 : VC := .reg [⟨(some 30), .fieldA 0 (.tmp 4), none⟩,
    ⟨(some 31), .load1 .bool (.tmp 30), none⟩]
def k27_8 : VC := .reg [⟨(some 32), .mv (.tmp 9), none⟩,
    ⟨(some 33), .mv (.tmp 3), none⟩,
    ⟨(some 34), .mv (.tmp 2), none⟩,
    ⟨(some 35), .buildSl 6 1 [(.int .i64 0), (.int .i64 0), (.int .i64 0), (.int .i64 0), (.int .i64 0), (.int .i64 0)] [(0, 1, (.tmp 33)), (1, 1, (.const (.int .i64 4))), (2, 1, (.const (.int .i64 0))), (3, 1, (.const (.int .i64 3))), (4, 1, (.tmp 34)), (5, 1, (.const (.int .i64 1)))], none⟩,
    ⟨(some 36), .callF 77 [(.tmp 35)], none⟩,
    ⟨(some 37), .bin .add (.tmp 32) (.tmp 36), none⟩,
    ⟨(some 8), .mv (.tmp 37), none⟩]
def k27_9 : VC := .seq k27_8 .ret
def k27_10 : VC := .cond (.tmp 31) k27_9 .skip
def k27_11 : VC := .seq k27_7 k27_10
def k27_12 : VC := .reg [⟨(some 38), .mv (.tmp 9), none⟩,
    ⟨(some 39), .mv (.tmp 2), none⟩,
    ⟨(some 40), .mv (.tmp 3), none⟩,
    ⟨(some 41), .buildSl 6 1 [(.int .i64 0), (.int .i64 0), (.int .i64 0), (.int .i64 0), (.int .i64 0), (.int .i64 0)] [(0, 1, (.const (.int .i64 0))), (1, 1, (.const (.int .i64 1))), (2, 1, (.tmp 39)), (3, 1, (.const (.int .i64 1))), (4, 1, (.tmp 40)), (5, 1, (.const (.int .i64 2)))], none⟩,
    ⟨(some 42), .callF 77 [(.tmp 41)], none⟩,
    ⟨(some 43), .bin .add (.tmp 38) (.tmp 42), none⟩,
    ⟨(some 8), .mv (.tmp 43), none⟩]
def k27_13 : VC := .seq k27_12 .ret
def k27_14 : VC := .seq k27_11 k27_13
def k27_15 : VC := .seq k27_6 k27_14
def k27_16 : VC := .seq k27_5 k27_15
def k27_17 : VC := .seq k27_0 k27_16
def fn27 : VFn := ⟨44, k27_17, [.tmp 8]⟩
/- 85: cloakroom/addr.Right -/
def k85_0 : VC := .reg [⟨(some 1), .box (.tmp 0), none⟩,
    ⟨(some 2), .mv (.const (.bool false)), none⟩]
def k85_1 : VC := .reg [⟨(some 3), .fieldA 0 (.tmp 1), none⟩,
    ⟨(some 4), .load1 .bool (.tmp 3), none⟩,
    ⟨(some 5), .mv (.tmp 4), none⟩,
    ⟨(some 6), .fieldA 1 (.tmp 1), (some (5, false))⟩,
    ⟨(some 7), .load1 (.int .u64) (.tmp 6), (some (5, false))⟩,
    ⟨(some 8), .bin .eql (.tmp 7) (.const (.int .u64 0)), (some (5, false))⟩,
    ⟨(some 9), .mv (.tmp 8), (some (5, false))⟩,
    ⟨(some 10), .fieldA 2 (.tmp 1), (some (9, true))⟩,
    ⟨(some 11), .load1 (.int .u64) (.tmp 10), (some (9, true))⟩,
    ⟨(some 12), .bin .lss (.tmp 11) (.const (.int .u64 4294967296)), (some (9, true))⟩,
    ⟨(some 13), .pick (.tmp 9) (.tmp 12) (.const (.bool false)), (some (5, false))⟩,
    ⟨(some 14), .pick (.tmp 5) (.const (.bool true)) (.tmp 13), none⟩,
    ⟨(some 2), .mv (.tmp 14), none⟩]
def k85_2 : VC := .seq k85_1 .ret
def k85_3 : VC := .seq k85_0 k85_2
def fn85 : VFn := ⟨15, k85_3, [.tmp 2]⟩
/- 78: cloakroom/addr.Put -/
def k78_0 : VC := .reg [⟨(some 1), .box (.tmp 0), none⟩,
    ⟨(some 2), .mv (.const (.string ⟨⟨[]⟩⟩)), none⟩]
def k78_1 : VC := .reg [⟨(some 4), .loadN [.bool, (.int .u64), (.int .u64)] (.tmp 1), none⟩,
    ⟨(some 5), .callF 85 [(.tmp 4)], none⟩,
    ⟨(some 6), .not (.tmp 5), none⟩,
    ⟨(some 3), .mv (.tmp 6), none⟩]
def k78_2 : VC := .reg [⟨(some 2), .mv (.const (.string ⟨⟨[]⟩⟩)), none⟩]
def k78_3 : VC := .seq k78_2 .ret
def k78_4 : VC := .reg [⟨(some 8), .fieldA 0 (.tmp 1), none⟩,
    ⟨(some 9), .load1 .bool (.tmp 8), none⟩,
    ⟨(some 7), .mv (.tmp 9), none⟩]
def k78_5 : VC := .regD [⟨(some 10), .fieldA 1 (.tmp 1), none⟩,
    ⟨(some 11), .load1 (.int .u64) (.tmp 10), none⟩,
    ⟨(some 12), .callF 62 [(.tmp 11), (.const (.int .i64 8))], none⟩,
    ⟨(some 13), .fieldA 2 (.tmp 1), none⟩,
    ⟨(some 14), .load1 (.int .u64) (.tmp 13), none⟩] [(2, 4)] [⟨(some 15), .callF 62 [(.tmp 14), (.const (.int .i64 8))], none⟩,
    ⟨(some 16), .bin .add (.tmp 12) (.tmp 15), none⟩,
    ⟨(some 2), .mv (.tmp 16), none⟩]
def k78_6 : VC := .seq k78_5 .ret
def k78_7 : VC := .cond (.tmp 7) k78_6 .skip
def k78_8 : VC := .seq k78_4 k78_7
def k78_9 : VC := .cond (.tmp 3) k78_3 k78_8
def k78_10 : VC := .seq k78_1 k78_9
def k78_11 : VC := .block 0 k78_10
def k78_12 : VC := .reg [⟨(some 17), .fieldA 2 (.tmp 1), none⟩,
    ⟨(some 18), .load1 (.int .u64) (.tmp 17), none⟩,
    ⟨(some 19), .callF 62 [(.tmp 18), (.const (.int .i64 4))], none⟩,
    ⟨(some 2), .mv (.tmp 19), none⟩]
def k78_13 : VC := .seq k78_12 .ret
def k78_14 : VC := .seq k78_11 k78_13
def k78_15 : VC := .seq k78_0 k78_14
def fn78 : VFn := ⟨20, k78_15, [.tmp 2]⟩
/- 62: cloakroom/octet.Put -/
def k62_0 : VC := .reg [⟨(some 4), .mv (.const (.string ⟨⟨[]⟩⟩)), none⟩]
def k62_1 : VC := .reg [⟨(some 7), .mv (.tmp 1), none⟩,
    ⟨(some 8), .bin .lss (.tmp 7) (.const (.int .i64 1)), none⟩,
    ⟨(some 9), .mv (.tmp 8), none⟩,
    ⟨(some 10), .mv (.tmp 1), (some (9, false))⟩,
    ⟨(some 11), .bin .gtr (.tmp 10) (.const (.int .i64 8)), (some (9, false))⟩,
    ⟨(some 12), .pick (.tmp 9) (.const (.bool true)) (.tmp 11), none⟩]
def k62_2 : VC := .reg [⟨(some 4), .mv (.const (.string ⟨⟨[]⟩⟩)), none⟩]
def k62_3 : VC := .seq k62_2 .ret
def k62_4 : VC := .cond (.tmp 12) k62_3 .skip
def k62_5 : VC := .seq k62_1 k62_4
def k62_6 : VC := .reg [⟨(some 13), .mv (.tmp 1), none⟩,
    ⟨(some 14), .mkSl 1 1 [(.int .u8 0)] (.tmp 13) (.tmp 13), none⟩,
    ⟨(some 5), .mv (.tmp 14), none⟩]
def k62_7 : VC := .reg [⟨(some 15), .mv (.tmp 5), none⟩,
    ⟨(some 16), .lenL (.tmp 15), none⟩,
    ⟨(some 17), .mv (.const (.int .i64 0)), none⟩]
def k62_8 : VC := .reg [⟨(some 18), .bin .lss (.tmp 17) (.tmp 16), none⟩]
def k62_9 : VC := .cond (.tmp 18) .skip (.exit 0)
def k62_10 : VC := .reg [⟨(some 19), .mv (.tmp 17), none⟩,
    ⟨(some 6), .mv (.tmp 19), none⟩]
def k62_11 : VC := .reg [⟨(some 20), .mv (.tmp 5), none⟩,
    ⟨(some 21), .mv (.tmp 6), none⟩,
    ⟨(some 22), .mv (.tmp 0), none⟩,
    ⟨(some 23), .mv (.tmp 1), none⟩,
    ⟨(some 24), .bin .sub (.tmp 23) (.const (.int .i64 1)), none⟩,
    ⟨(some 25), .mv (.tmp 6), none⟩,
    ⟨(some 26), .bin .sub (.tmp 24) (.tmp 25), none⟩,
    ⟨(some 27), .bin .mul (.const (.int .i64 8)) (.tmp 26), none⟩,
    ⟨(some 28), .bin .shr (.tmp 22) (.tmp 27), none⟩,
    ⟨(some 29), .conv .u8 (.tmp 28), none⟩,
    ⟨(some 30), .idxAL 1 (.tmp 20) (.tmp 21), none⟩,
    ⟨none, .store 1 (.tmp 30) (.tmp 29), none⟩]
def k62_12 : VC := .seq k62_10 k62_11
def k62_13 : VC := .block 1 k62_12
def k62_14 : VC := .reg [⟨(some 31), .bin .add (.tmp 17) (.const (.int .i64 1)), none⟩,
    ⟨(some 17), .mv (.tmp 31), none⟩]
def k62_15 : VC := .seq k62_13 k62_14
def k62_16 : VC := .seq k62_9 k62_15
def k62_17 : VC := .seq k62_8 k62_16
def k62_18 : VC := .loop k62_17
def k62_19 : VC := .block 0 k62_18
def k62_20 : VC := .seq k62_7 k62_19
def k62_21 : VC := .reg [⟨(some 32), .mv (.tmp 5), none⟩,
    ⟨(some 33), .b2s (.tmp 32), none⟩,
    ⟨(some 4), .mv (.tmp 33), none⟩]
def k62_22 : VC := .seq k62_21 .ret
def k62_23 : VC := .seq k62_20 k62_22
def k62_24 : VC := .seq k62_6 k62_23
def k62_25 : VC := .seq k62_5 k62_24
def k62_26 : VC := .seq k62_0 k62_25
def fn62 : VFn := ⟨34, k62_26, [.tmp 4]⟩
/- 77: cloakroom/ipfour.row -/
def k77_0 : VC := .reg [⟨(some 2), .mv (.const (.string ⟨⟨[]⟩⟩)), none⟩]
def k77_1 : VC := .reg [⟨(some 3), .allocB 114 5, none⟩]
def k77_2 : VC := .reg [⟨(some 4), .mv (.const (.int .i64 0)), none⟩]
def k77_3 : VC := .reg [⟨(some 5), .mv (.tmp 4), none⟩,
    ⟨(some 6), .bin .add (.tmp 5) (.const (.int .i64 1)), none⟩,
    ⟨(some 7), .mv (.tmp 0), none⟩,
    ⟨(some 8), .lenL (.tmp 7), none⟩,
    ⟨(some 9), .bin .lss (.tmp 6) (.tmp 8), none⟩]
def k77_4 : VC := .cond (.tmp 9) .skip (.exit 0)
def k77_5 : VC := .seq k77_3 k77_4
def k77_6 : VC := .regD [⟨(some 12), .mv (.tmp 0), none⟩,
    ⟨(some 13), .mv (.tmp 4), none⟩,
    ⟨(some 14), .idxAL 1 (.tmp 12) (.tmp 13), none⟩,
    ⟨(some 15), .load1 (.int .i64) (.tmp 14), none⟩,
    ⟨(some 16), .conv .u64 (.tmp 15), none⟩,
    ⟨(some 17), .mv (.tmp 0), none⟩,
    ⟨(some 18), .mv (.tmp 4), none⟩,
    ⟨(some 19), .bin .add (.tmp 18) (.const (.int .i64 1)), none⟩,
    ⟨(some 20), .idxAL 1 (.tmp 17) (.tmp 19), none⟩,
    ⟨(some 21), .load1 (.int .i64) (.tmp 20), none⟩] [] [⟨(some 22), .callF 62 [(.tmp 16), (.tmp 21)], none⟩,
    ⟨(some 23), .callF 61 [(.tmp 3), (.tmp 22)], none⟩]
def k77_7 : VC := .block 1 k77_6
def k77_8 : VC := .reg [⟨(some 10), .mv (.tmp 4), none⟩,
    ⟨(some 11), .bin .add (.tmp 10) (.const (.int .i64 2)), none⟩,
    ⟨(some 4), .mv (.tmp 11), none⟩]
def k77_9 : VC := .seq k77_7 k77_8
def k77_10 : VC := .seq k77_5 k77_9
def k77_11 : VC := .loop k77_10
def k77_12 : VC := .block 0 k77_11
def k77_13 : VC := .seq k77_2 k77_12
def k77_14 : VC := .reg [⟨(some 24), .callF 63 [(.tmp 3)], none⟩,
    ⟨(some 2), .mv (.tmp 24), none⟩]
def k77_15 : VC := .seq k77_14 .ret
def k77_16 : VC := .seq k77_13 k77_15
def k77_17 : VC := .seq k77_1 k77_16
def k77_18 : VC := .seq k77_0 k77_17
def fn77 : VFn := ⟨25, k77_18, [.tmp 2]⟩
/- 61: (*strings.Builder).WriteString -/
def k61_0 : VC := .reg [⟨(some 4), .mv (.const (.int .i64 0)), none⟩,
    ⟨(some 5), .mv (.const .nilIface), none⟩]
def k61_1 : VC := .reg [⟨(some 6), .mv (.tmp 0), none⟩,
    ⟨(some 7), .callF 112 [(.tmp 6)], none⟩]
def k61_2 : VC := .reg [⟨(some 8), .mv (.tmp 0), none⟩,
    ⟨(some 9), .mv (.tmp 0), none⟩,
    ⟨(some 10), .nilCheck (.tmp 9), none⟩,
    ⟨(some 11), .fieldA 1 (.tmp 10), none⟩,
    ⟨(some 12), .load1 .oth (.tmp 11), none⟩,
    ⟨(some 13), .mv (.tmp 1), none⟩,
    ⟨(some 14), .app 5 1 1 (.tmp 12) (.tmp 13), none⟩,
    ⟨(some 15), .nilCheck (.tmp 8), none⟩,
    ⟨(some 16), .fieldA 1 (.tmp 15), none⟩,
    ⟨none, .store 1 (.tmp 16) (.tmp 14), none⟩]
def k61_3 : VC := .reg [⟨(some 17), .mv (.tmp 1), none⟩,
    ⟨(some 18), .lenS (.tmp 17), none⟩,
    ⟨(some 4), .mv (.tmp 18), none⟩,
    ⟨(some 5), .mv (.const .nilIface), none⟩]
def k61_4 : VC := .seq k61_3 .ret
def k61_5 : VC := .seq k61_2 k61_4
def k61_6 : VC := .seq k61_1 k61_5
def k61_7 : VC := .seq k61_0 k61_6
def fn61 : VFn := ⟨19, k61_7, [.tmp 4, .tmp 5]⟩
/- 112: (*strings.Builder).copyCheck -/
def k112_0 : VC := .reg [⟨(some 2), .mv (.tmp 0), none⟩,
    ⟨(some 3), .nilCheck (.tmp 2), none⟩,
    ⟨(some 4), .fieldA 0 (.tmp 3), none⟩,
    ⟨(some 5), .load1 .oth (.tmp 4), none⟩,
    ⟨(some 6), .isNil 0 false (.tmp 5), none⟩]
def k112_1 : VC := .reg [⟨(some 7), .mv (.tmp 0), none⟩,
    ⟨(some 8), .mv (.tmp 0), none⟩,
    ⟨(some 9), .toU (.tmp 8), none⟩,
    ⟨(some 10), .mv (.tmp 9), none⟩,
    ⟨(some 11), .ofU 114 2 (.tmp 10), none⟩,
    ⟨(some 12), .nilCheck (.tmp 7), none⟩,
    ⟨(some 13), .fieldA 0 (.tmp 12), none⟩,
    ⟨none, .store 1 (.tmp 13) (.tmp 11), none⟩]
def k112_2 : VC := .reg [⟨(some 14), .mv (.tmp 0), none⟩,
    ⟨(some 15), .nilCheck (.tmp 14), none⟩,
    ⟨(some 16), .fieldA 0 (.tmp 15), none⟩,
    ⟨(some 17), .load1 .oth (.tmp 16), none⟩,
    ⟨(some 18), .mv (.tmp 0), none⟩,
    ⟨(some 19), .eqP true (.tmp 17) (.tmp 18), none⟩]
def k112_3 : VC := .cond (.tmp 19) .stuck .skip
def k112_4 : VC := .seq k112_2 k112_3
def k112_5 : VC := .cond (.tmp 6) k112_1 k112_4
def k112_6 : VC := .seq k112_0 k112_5
def fn112 : VFn := ⟨20, k112_6, []⟩
/- 63: (*strings.Builder).String -/
def k63_0 : VC := .reg [⟨(some 2), .mv (.const (.string ⟨⟨[]⟩⟩)), none⟩]
def k63_1 : VC := .regD [⟨(some 3), .mv (.tmp 0), none⟩,
    ⟨(some 4), .nilCheck (.tmp 3), none⟩,
    ⟨(some 5), .fieldA 1 (.tmp 4), none⟩,
    ⟨(some 6), .load1 .oth (.tmp 5), none⟩,
    ⟨(some 7), .sdata (.tmp 6), none⟩,
    ⟨(some 8), .mv (.tmp 0), none⟩,
    ⟨(some 9), .nilCheck (.tmp 8), none⟩,
    ⟨(some 10), .fieldA 1 (.tmp 9), none⟩,
    ⟨(some 11), .load1 .oth (.tmp 10), none⟩,
    ⟨(some 12), .lenL (.tmp 11), none⟩] [] [⟨(some 13), .ustr 5 (.tmp 7) (.tmp 12), none⟩,
    ⟨(some 2), .mv (.tmp 13), none⟩]
def k63_2 : VC := .seq k63_1 .ret
def k63_3 : VC := .seq k63_0 k63_2
def fn63 : VFn := ⟨14, k63_3, [.tmp 2]⟩
/- 60: cloakroom/udp.port -/
def k60_0 : VC := .reg [⟨(some 2), .mv (.const (.bool false)), none⟩]
def k60_1 : VC := .reg [⟨(some 3), .mv (.tmp 0), none⟩,
    ⟨(some 4), .bin .leq (.const (.int .i64 0)) (.tmp 3), none⟩,
    ⟨(some 5), .mv (.tmp 4), none⟩,
    ⟨(some 6), .mv (.tmp 0), (some (5, true))⟩,
    ⟨(some 7), .bin .leq (.tmp 6) (.const (.int .i64 65535)), (some (5, true))⟩,
    ⟨(some 8), .pick (.tmp 5) (.tmp 7) (.const (.bool false)), none⟩,
    ⟨(some 2), .mv (.tmp 8), none⟩]
def k60_2 : VC := .seq k60_1 .ret
def k60_3 : VC := .seq k60_0 k60_2
def fn60 : VFn := ⟨9, k60_3, [.tmp 2]⟩
/- 64: cloakroom/check.Of -/
def k64_0 : VC := .reg [⟨(some 2), .mv (.const (.int .i64 0)), none⟩]
def k64_1 : VC := .reg [⟨(some 3), .mv (.tmp 0), none⟩,
    ⟨(some 4), .callF 113 [(.tmp 3)], none⟩,
    ⟨(some 5), .bin .sub (.const (.int .i64 65535)) (.tmp 4), none⟩,
    ⟨(some 2), .mv (.tmp 5), none⟩]
def k64_2 : VC := .seq k64_1 .ret
def k64_3 : VC := .seq k64_0 k64_2
def fn64 : VFn := ⟨6, k64_3, [.tmp 2]⟩
/- 113: cloakroom/check.Sum -/
def k113_0 : VC := .reg [⟨(some 2), .mv (.const (.int .i64 0)), none⟩]
def k113_1 : VC := .reg [⟨(some 3), .alloc [(.int .i64 0)], none⟩,
    ⟨none, .store 1 (.tmp 3) (.const (.int .i64 0)), none⟩]
def k113_2 : VC := .reg [⟨(some 5), .mv (.tmp 0), none⟩,
    ⟨(some 6), .callF 130 [(.tmp 5)], none⟩]
def k113_3 : VC := .reg [⟨(some 4), .mv (.tmp 7), none⟩]
def k113_4 : VC := .reg [⟨(some 8), .load1 (.int .i64) (.tmp 3), none⟩,
    ⟨(some 9), .mv (.tmp 4), none⟩,
    ⟨(some 10), .bin .add (.tmp 8) (.tmp 9), none⟩,
    ⟨(some 11), .callF 131 [(.tmp 10)], none⟩,
    ⟨none, .store 1 (.tmp 3) (.tmp 11), none⟩]
def k113_5 : VC := .block 1 k113_4
def k113_6 : VC := .rangeF (.tmp 6) [7] k113_3 k113_5
def k113_7 : VC := .block 0 k113_6
def k113_8 : VC := .seq k113_2 k113_7
def k113_9 : VC := .reg [⟨(some 12), .load1 (.int .i64) (.tmp 3), none⟩,
    ⟨(some 2), .mv (.tmp 12), none⟩]
def k113_10 : VC := .seq k113_9 .ret
def k113_11 : VC := .seq k113_8 k113_10
def k113_12 : VC := .seq k113_1 k113_11
def k113_13 : VC := .seq k113_0 k113_12
def fn113 : VFn := ⟨13, k113_13, [.tmp 2]⟩
/- 130: cloakroom/check.words -/
def k130_0 : VC := .reg [⟨(some 1), .box (.tmp 0), none⟩,
    ⟨(some 2), .mv (.const .nilFunc), none⟩]
def k130_1 : VC := .reg [⟨(some 3), .mkFunc 133 [] [(.tmp 1)], none⟩,
    ⟨(some 2), .mv (.tmp 3), none⟩]
def k130_2 : VC := .seq k130_1 .ret
def k130_3 : VC := .seq k130_0 k130_2
def fn130 : VFn := ⟨4, k130_3, [.tmp 2]⟩
/- 133: cloakroom/check.words$1 -/
def k133_0 : VC := .reg [⟨(some 3), .mv (.const (.int .i64 0)), none⟩]
def k133_1 : VC := .reg [⟨(some 5), .mv (.tmp 3), none⟩,
    ⟨(some 6), .load1 .str (.tmp 1), none⟩,
    ⟨(some 7), .lenS (.tmp 6), none⟩,
    ⟨(some 8), .bin .lss (.tmp 5) (.tmp 7), none⟩]
def k133_2 : VC := .cond (.tmp 8) .skip (.exit 0)
def k133_3 : VC := .seq k133_1 k133_2
def k133_4 : VC := .reg [⟨(some 11), .load1 .str (.tmp 1), none⟩,
    ⟨(some 12), .mv (.tmp 3), none⟩,
    ⟨(some 13), .idxS (.tmp 11) (.tmp 12), none⟩,
    ⟨(some 14), .conv .i64 (.tmp 13), none⟩,
    ⟨(some 15), .bin .shl (.tmp 14) (.const (.int .u64 8)), none⟩,
    ⟨(some 4), .mv (.tmp 15), none⟩]
def k133_5 : VC := .reg [⟨(some 16), .mv (.tmp 3), none⟩,
    ⟨(some 17), .bin .add (.tmp 16) (.const (.int .i64 1)), none⟩,
    ⟨(some 18), .load1 .str (.tmp 1), none⟩,
    ⟨(some 19), .lenS (.tmp 18), none⟩,
    ⟨(some 20), .bin .lss (.tmp 17) (.tmp 19), none⟩]
def k133_6 : VC := .reg [⟨(some 21), .mv (.tmp 4), none⟩,
    ⟨(some 22), .load1 .str (.tmp 1), none⟩,
    ⟨(some 23), .mv (.tmp 3), none⟩,
    ⟨(some 24), .bin .add (.tmp 23) (.const (.int .i64 1)), none⟩,
    ⟨(some 25), .idxS (.tmp 22) (.tmp 24), none⟩,
    ⟨(some 26), .conv .i64 (.tmp 25), none⟩,
    ⟨(some 27), .bin .or (.tmp 21) (.tmp 26), none⟩,
    ⟨(some 4), .mv (.tmp 27), none⟩]
def k133_7 : VC := .cond (.tmp 20) k133_6 .skip
def k133_8 : VC := .seq k133_5 k133_7
def k133_9 : VC := .reg [⟨(some 28), .mv (.tmp 0), none⟩,
    ⟨(some 29), .mv (.tmp 4), none⟩,
    ⟨(some 30), .callV (.tmp 28) [(.tmp 29)], none⟩,
    ⟨(some 31), .not (.tmp 30), none⟩]
def k133_10 : VC := .cond (.tmp 31) .ret .skip
def k133_11 : VC := .seq k133_9 k133_10
def k133_12 : VC := .seq k133_8 k133_11
def k133_13 : VC := .seq k133_4 k133_12
def k133_14 : VC := .block 1 k133_13
def k133_15 : VC := .reg [⟨(some 9), .mv (.tmp 3), none⟩,
    ⟨(some 10), .bin .add (.tmp 9) (.const (.int .i64 2)), none⟩,
    ⟨(some 3), .mv (.tmp 10), none⟩]
def k133_16 : VC := .seq k133_14 k133_15
def k133_17 : VC := .seq k133_3 k133_16
def k133_18 : VC := .loop k133_17
def k133_19 : VC := .block 0 k133_18
def k133_20 : VC := .seq k133_0 k133_19
def fn133 : VFn := ⟨32, k133_20, []⟩
/- 131: cloakroom/check.fold -/
def k131_0 : VC := .reg [⟨(some 2), .mv (.const (.int .i64 0)), none⟩]
def k131_1 : VC := .reg [⟨(some 3), .mv (.tmp 0), none⟩,
    ⟨(some 4), .bin .gtr (.tmp 3) (.const (.int .i64 65535)), none⟩]
def k131_2 : VC := .cond (.tmp 4) .skip (.exit 0)
def k131_3 : VC := .seq k131_1 k131_2
def k131_4 : VC := .reg [⟨(some 5), .mv (.tmp 0), none⟩,
    ⟨(some 6), .bin .and (.tmp 5) (.const (.int .i64 65535)), none⟩,
    ⟨(some 7), .mv (.tmp 0), none⟩,
    ⟨(some 8), .bin .shr (.tmp 7) (.const (.int .u64 16)), none⟩,
    ⟨(some 9), .bin .add (.tmp 6) (.tmp 8), none⟩,
    ⟨(some 0), .mv (.tmp 9), none⟩]
def k131_5 : VC := .block 1 k131_4
def k131_6 : VC := .seq k131_3 k131_5
def k131_7 : VC := .loop k131_6
def k131_8 : VC := .block 0 k131_7
def k131_9 : VC := .reg [⟨(some 10), .mv (.tmp 0), none⟩,
    ⟨(some 2), .mv (.tmp 10), none⟩]
def k131_10 : VC := .seq k131_9 .ret
def k131_11 : VC := .seq k131_8 k131_10
def k131_12 : VC := .seq k131_0 k131_11
def fn131 : VFn := ⟨11, k131_12, [.tmp 2]⟩
/- 65: cloakroom/check.Set -/
def k65_0 : VC := .reg [⟨(some 8), .mv (.const (.string ⟨⟨[]⟩⟩)), none⟩]
def k65_1 : VC := .reg [⟨(some 10), .mv (.tmp 3), none⟩,
    ⟨(some 11), .mv (.tmp 2), none⟩,
    ⟨(some 12), .callF 62 [(.tmp 10), (.tmp 11)], none⟩,
    ⟨(some 9), .mv (.tmp 12), none⟩]
def k65_2 : VC := .reg [⟨(some 13), .mv (.tmp 9), none⟩,
    ⟨(some 14), .bin .eql (.tmp 13) (.const (.string ⟨⟨[]⟩⟩)), none⟩,
    ⟨(some 15), .mv (.tmp 14), none⟩,
    ⟨(some 16), .mv (.tmp 1), (some (15, false))⟩,
    ⟨(some 17), .bin .lss (.tmp 16) (.const (.int .i64 0)), (some (15, false))⟩,
    ⟨(some 18), .pick (.tmp 15) (.const (.bool true)) (.tmp 17), none⟩,
    ⟨(some 19), .mv (.tmp 18), none⟩,
    ⟨(some 20), .mv (.tmp 0), (some (19, false))⟩,
    ⟨(some 21), .lenS (.tmp 20), (some (19, false))⟩,
    ⟨(some 22), .mv (.tmp 2), (some (19, false))⟩,
    ⟨(some 23), .bin .sub (.tmp 21) (.tmp 22), (some (19, false))⟩,
    ⟨(some 24), .mv (.tmp 1), (some (19, false))⟩,
    ⟨(some 25), .bin .lss (.tmp 23) (.tmp 24), (some (19, false))⟩,
    ⟨(some 26), .pick (.tmp 19) (.const (.bool true)) (.tmp 25), none⟩]
def k65_3 : VC := .reg [⟨(some 27), .mv (.tmp 0), none⟩,
    ⟨(some 8), .mv (.tmp 27), none⟩]
def k65_4 : VC := .seq k65_3 .ret
def k65_5 : VC := .cond (.tmp 26) k65_4 .skip
def k65_6 : VC := .seq k65_2 k65_5
def k65_7 : VC := .regD [⟨(some 28), .mv (.tmp 0), none⟩,
    ⟨(some 29), .mv (.tmp 1), none⟩,
    ⟨(some 30), .sliceS (.tmp 28) none (some (.tmp 29)), none⟩,
    ⟨(some 31), .mv (.tmp 9), none⟩,
    ⟨(some 32), .bin .add (.tmp 30) (.tmp 31), none⟩,
    ⟨(some 33), .mv (.tmp 0), none⟩,
    ⟨(some 34), .mv (.tmp 1), none⟩,
    ⟨(some 35), .mv (.tmp 2), none⟩,
    ⟨(some 36), .bin .add (.tmp 34) (.tmp 35), none⟩,
    ⟨(some 37), .sliceS (.tmp 33) (some (.tmp 36)) none, none⟩] [] [⟨(some 38), .bin .add (.tmp 32) (.tmp 37), none⟩,
    ⟨(some 8), .mv (.tmp 38), none⟩]
def k65_8 : VC := .seq k65_7 .ret
def k65_9 : VC := .seq k65_6 k65_8
def k65_10 : VC := .seq k65_1 k65_9
def k65_11 : VC := .seq k65_0 k65_10
def fn65 : VFn := ⟨39, k65_11, [.tmp 8]⟩
/- 18: cloakroom/udp.Get -/
def k18_0 : VC := .reg [⟨(some 4), .box (.tmp 1), none⟩,
    ⟨(some 5), .box (.tmp 2), none⟩,
    ⟨(some 6), .alloc [(.int .i64 0), (.int .i64 0)], none⟩,
    ⟨(some 7), .mv (.const (.string ⟨⟨[]⟩⟩)), none⟩,
    ⟨(some 8), .mv (.const (.int .i64 0)), none⟩]
def k18_1 : VC := .reg [⟨(some 14), .mv (.tmp 0), none⟩,
    ⟨(some 15), .callF 70 [(.tmp 14)], none⟩,
    ⟨(some 9), .mv (.tmp 15), none⟩]
def k18_2 : VC := .reg [⟨(some 16), .mv (.tmp 9), none⟩,
    ⟨(some 17), .callF 71 [(.tmp 16), (.const (.int .i64 2))], none⟩,
    ⟨(some 18), .mv (.tmp 9), none⟩,
    ⟨(some 19), .callF 71 [(.tmp 18), (.const (.int .i64 2))], none⟩,
    ⟨(some 20), .build [(.int .i64 0), (.int .i64 0)] [(0, 1, (.tmp 17)), (1, 1, (.tmp 19))], none⟩,
    ⟨(some 10), .alloc [(.int .i64 0), (.int .i64 0)], none⟩,
    ⟨none, .store 2 (.tmp 10) (.tmp 20), none⟩]
def k18_3 : VC := .reg [⟨(some 21), .mv (.tmp 9), none⟩,
    ⟨(some 22), .callF 71 [(.tmp 21), (.const (.int .i64 2))], none⟩,
    ⟨(some 23), .mv (.tmp 9), none⟩,
    ⟨(some 24), .callF 71 [(.tmp 23), (.const (.int .i64 2))], none⟩,
    ⟨(some 11), .mv (.tmp 22), none⟩,
    ⟨(some 12), .mv (.tmp 24), none⟩]
def k18_4 : VC := .reg [⟨(some 26), .mv (.tmp 9), none⟩,
    ⟨(some 27), .callF 72 [(.tmp 26)], none⟩,
    ⟨(some 25), .mv (.tmp 27), none⟩]
def k18_5 : VC := .reg [⟨(some 28), .build [(.int .i64 0), (.int .i64 0)] [], none⟩,
    ⟨none, .store 2 (.tmp 6) (.tmp 28), none⟩,
    ⟨(some 7), .mv (.const (.string ⟨⟨[]⟩⟩)), none⟩,
    ⟨(some 8), .mv (.const (.int .i64 2)), none⟩]
def k18_6 : VC := .seq k18_5 .ret
def k18_7 : VC := .reg [⟨(some 30), .mv (.tmp 11), none⟩,
    ⟨(some 31), .bin .lss (.tmp 30) (.const (.int .i64 8)), none⟩,
    ⟨(some 29), .mv (.tmp 31), none⟩]
def k18_8 : VC := .reg [⟨(some 32), .build [(.int .i64 0), (.int .i64 0)] [], none⟩,
    ⟨none, .store 2 (.tmp 6) (.tmp 32), none⟩,
    ⟨(some 7), .mv (.const (.string ⟨⟨[]⟩⟩)), none⟩,
    ⟨(some 8), .mv (.const (.int .i64 3)), none⟩]
def k18_9 : VC := .seq k18_8 .ret
def k18_10 : VC := .reg [⟨(some 34), .mv (.tmp 11), none⟩,
    ⟨(some 35), .mv (.tmp 0), none⟩,
    ⟨(some 36), .lenS (.tmp 35), none⟩,
    ⟨(some 37), .bin .gtr (.tmp 34) (.tmp 36), none⟩,
    ⟨(some 33), .mv (.tmp 37), none⟩]
def k18_11 : VC := .reg [⟨(some 38), .build [(.int .i64 0), (.int .i64 0)] [], none⟩,
    ⟨none, .store 2 (.tmp 6) (.tmp 38), none⟩,
    ⟨(some 7), .mv (.const (.string ⟨⟨[]⟩⟩)), none⟩,
    ⟨(some 8), .mv (.const (.int .i64 2)), none⟩]
def k18_12 : VC := .seq k18_11 .ret
def k18_13 : VC := .cond (.tmp 33) k18_12 .skip
def k18_14 : VC := .seq k18_10 k18_13
def k18_15 : VC := .cond (.tmp 29) k18_9 k18_14
def k18_16 : VC := .seq k18_7 k18_15
def k18_17 : VC := .cond (.tmp 25) k18_6 k18_16
def k18_18 : VC := .seq k18_4 k18_17
def k18_19 : VC := .block 0 k18_18
def k18_20 : VC := .reg [⟨(some 39), .loadN [.bool, (.int .u64), (.int .u64)] (.tmp 4), none⟩,
    ⟨(some 40), .loadN [.bool, (.int .u64), (.int .u64)] (.tmp 5), none⟩,
    ⟨(some 41), .mv (.tmp 11), none⟩,
    ⟨(some 42), .callF 27 [(.tmp 39), (.tmp 40), (.const (.int .i64 17)), (.tmp 41)], none⟩,
    ⟨(some 13), .mv (.tmp 42), none⟩]
def k18_21 : VC := .reg [⟨(some 44), .mv (.tmp 13), none⟩,
    ⟨(some 45), .bin .eql (.tmp 44) (.const (.string ⟨⟨[]⟩⟩)), none⟩,
    ⟨(some 43), .mv (.tmp 45), none⟩]
def k18_22 : VC := .reg [⟨(some 46), .build [(.int .i64 0), (.int .i64 0)] [], none⟩,
    ⟨none, .store 2 (.tmp 6) (.tmp 46), none⟩,
    ⟨(some 7), .mv (.const (.string ⟨⟨[]⟩⟩)), none⟩,
    ⟨(some 8), .mv (.const (.int .i64 1)), none⟩]
def k18_23 : VC := .seq k18_22 .ret
def k18_24 : VC := .reg [⟨(some 48), .mv (.tmp 12), none⟩,
    ⟨(some 49), .bin .eql (.tmp 48) (.const (.int .i64 0)), none⟩,
    ⟨(some 50), .mv (.tmp 49), none⟩,
    ⟨(some 51), .fieldA 0 (.tmp 4), (some (50, true))⟩,
    ⟨(some 52), .load1 .bool (.tmp 51), (some (50, true))⟩,
    ⟨(some 53), .pick (.tmp 50) (.tmp 52) (.const (.bool false)), none⟩,
    ⟨(some 47), .mv (.tmp 53), none⟩]
def k18_25 : VC := .reg [⟨(some 54), .mv (.tmp 12), none⟩,
    ⟨(some 55), .bin .neq (.tmp 54) (.const (.int .i64 0)), none⟩,
    ⟨(some 56), .mv (.tmp 55), none⟩,
    ⟨(some 57), .mv (.tmp 13), (some (56, true))⟩,
    ⟨(some 58), .mv (.tmp 0), (some (56, true))⟩,
    ⟨(some 59), .mv (.tmp 11), (some (56, true))⟩,
    ⟨(some 60), .sliceS (.tmp 58) none (some (.tmp 59)), (some (56, true))⟩,
    ⟨(some 61), .bin .add (.tmp 57) (.tmp 60), (some (56, true))⟩,
    ⟨(some 62), .callF 73 [(.tmp 61)], (some (56, true))⟩,
    ⟨(some 63), .not (.tmp 62), (some (56, true))⟩,
    ⟨(some 64), .pick (.tmp 56) (.tmp 63) (.const (.bool false)), none⟩,
    ⟨(some 47), .mv (.tmp 64), none⟩]
def k18_26 : VC := .cond (.tmp 47) .skip k18_25
def k18_27 : VC := .seq k18_24 k18_26
def k18_28 : VC := .reg [⟨(some 65), .build [(.int .i64 0), (.int .i64 0)] [], none⟩,
    ⟨none, .store 2 (.tmp 6) (.tmp 65), none⟩,
    ⟨(some 7), .mv (.const (.string ⟨⟨[]⟩⟩)), none⟩,
    ⟨(some 8), .mv (.const (.int .i64 4)), none⟩]
def k18_29 : VC := .seq k18_28 .ret
def k18_30 : VC := .cond (.tmp 47) k18_29 .skip
def k18_31 : VC := .seq k18_27 k18_30
def k18_32 : VC := .cond (.tmp 43) k18_23 k18_31
def k18_33 : VC := .seq k18_21 k18_32
def k18_34 : VC := .block 1 k18_33
def k18_35 : VC := .regD [⟨(some 66), .loadN [(.int .i64), (.int .i64)] (.tmp 10), none⟩,
    ⟨(some 67), .mv (.tmp 0), none⟩,
    ⟨(some 68), .mv (.tmp 11), none⟩,
    ⟨(some 69), .sliceS (.tmp 67) (some (.const (.int .i64 8))) (some (.tmp 68)), none⟩,
    ⟨none, .store 2 (.tmp 6) (.tmp 66), none⟩] [] [⟨(some 7), .mv (.tmp 69), none⟩,
    ⟨(some 8), .mv (.const (.int .i64 0)), none⟩]
def k18_36 : VC := .seq k18_35 .ret
def k18_37 : VC := .seq k18_34 k18_36
def k18_38 : VC := .seq k18_20 k18_37
def k18_39 : VC := .seq k18_19 k18_38
def k18_40 : VC := .seq k18_3 k18_39
def k18_41 : VC := .seq k18_2 k18_40
def k18_42 : VC := .seq k18_1 k18_41
def k18_43 : VC := .seq k18_0 k18_42
def fn18 : VFn := ⟨70, k18_43, [.cell 6 [(.int .i64), (.int .i64)] true, .tmp 7, .tmp 8]⟩
/- 70: cloakroom/octet.New -/
def k70_0 : VC := .reg [⟨(some 2), .mv (.const (.pointer none)), none⟩]
def k70_1 : VC := .reg [⟨(some 3), .mv (.tmp 0), none⟩,
    ⟨(some 4), .build [(.string ⟨⟨[]⟩⟩), (.bool false), (.bool false)] [(0, 1, (.tmp 3)), (1, 1, (.const (.bool true)))], none⟩,
    ⟨(some 5), .box (.tmp 4), none⟩,
    ⟨(some 2), .mv (.tmp 5), none⟩]
def k70_2 : VC := .seq k70_1 .ret
def k70_3 : VC := .seq k70_0 k70_2
def fn70 : VFn := ⟨6, k70_3, [.tmp 2]⟩
/- 71: (*cloakroom/octet.Reader).Num -/
def k71_0 : VC := .reg [⟨(some 4), .mv (.const (.int .i64 0)), none⟩]
def k71_1 : VC := .reg [⟨(some 7), .mv (.tmp 1), none⟩,
    ⟨(some 8), .bin .lss (.tmp 7) (.const (.int .i64 1)), none⟩,
    ⟨(some 9), .mv (.tmp 8), none⟩,
    ⟨(some 10), .mv (.tmp 1), (some (9, false))⟩,
    ⟨(some 11), .bin .gtr (.tmp 10) (.const (.int .i64 7)), (some (9, false))⟩,
    ⟨(some 12), .pick (.tmp 9) (.const (.bool true)) (.tmp 11), none⟩]
def k71_2 : VC := .reg [⟨(some 1), .mv (.const (.int .i64 (-1))), none⟩]
def k71_3 : VC := .cond (.tmp 12) k71_2 .skip
def k71_4 : VC := .seq k71_1 k71_3
def k71_5 : VC := .reg [⟨(some 14), .mv (.tmp 0), none⟩,
    ⟨(some 15), .mv (.tmp 1), none⟩,
    ⟨(some 16), .callF 83 [(.tmp 14), (.tmp 15)], none⟩,
    ⟨(some 17), .mv (.tmp 1), none⟩,
    ⟨(some 18), .callF 101 [(.tmp 16), (.const (.int .i64 0)), (.tmp 17)], none⟩,
    ⟨(some 13), .mv (.tmp 18), none⟩,
    ⟨(some 19), .extract 0 (.tmp 13), none⟩,
    ⟨(some 20), .extract 1 (.tmp 13), none⟩,
    ⟨(some 5), .mv (.tmp 19), none⟩,
    ⟨(some 6), .mv (.tmp 20), none⟩]
def k71_6 : VC := .reg [⟨(some 21), .mv (.tmp 5), none⟩,
    ⟨(some 22), .conv .i64 (.tmp 21), none⟩,
    ⟨(some 4), .mv (.tmp 22), none⟩]
def k71_7 : VC := .seq k71_6 .ret
def k71_8 : VC := .seq k71_5 k71_7
def k71_9 : VC := .seq k71_4 k71_8
def k71_10 : VC := .seq k71_0 k71_9
def fn71 : VFn := ⟨23, k71_10, [.tmp 4]⟩
/- 83: (*cloakroom/octet.Reader).Text -/
def k83_0 : VC := .reg [⟨(some 4), .mv (.const (.string ⟨⟨[]⟩⟩)), none⟩]
def k83_1 : VC := .reg [⟨(some 6), .mv (.tmp 0), none⟩,
    ⟨(some 7), .callF 72 [(.tmp 6)], none⟩]
def k83_2 : VC := .reg [⟨(some 4), .mv (.const (.string ⟨⟨[]⟩⟩)), none⟩]
def k83_3 : VC := .seq k83_2 .ret
def k83_4 : VC := .cond (.tmp 7) k83_3 .skip
def k83_5 : VC := .seq k83_1 k83_4
def k83_6 : VC := .reg [⟨(some 8), .mv (.tmp 1), none⟩,
    ⟨(some 9), .bin .lss (.tmp 8) (.const (.int .i64 0)), none⟩,
    ⟨(some 10), .mv (.tmp 9), none⟩,
    ⟨(some 11), .mv (.tmp 1), (some (10, false))⟩,
    ⟨(some 12), .mv (.tmp 0), (some (10, false))⟩,
    ⟨(some 13), .nilCheck (.tmp 12), (some (10, false))⟩,
    ⟨(some 14), .fieldA 0 (.tmp 13), (some (10, false))⟩,
    ⟨(some 15), .load1 .str (.tmp 14), (some (10, false))⟩,
    ⟨(some 16), .lenS (.tmp 15), (some (10, false))⟩,
    ⟨(some 17), .bin .gtr (.tmp 11) (.tmp 16), (some (10, false))⟩,
    ⟨(some 18), .pick (.tmp 10) (.const (.bool true)) (.tmp 17), none⟩]
def k83_7 : VC := .reg [⟨(some 19), .mv (.tmp 0), none⟩,
    ⟨(some 20), .nilCheck (.tmp 19), none⟩,
    ⟨(some 21), .fieldA 2 (.tmp 20), none⟩,
    ⟨none, .store 1 (.tmp 21) (.const (.bool true)), none⟩]
def k83_8 : VC := .reg [⟨(some 4), .mv (.const (.string ⟨⟨[]⟩⟩)), none⟩]
def k83_9 : VC := .seq k83_8 .ret
def k83_10 : VC := .seq k83_7 k83_9
def k83_11 : VC := .cond (.tmp 18) k83_10 .skip
def k83_12 : VC := .seq k83_6 k83_11
def k83_13 : VC := .reg [⟨(some 22), .mv (.tmp 0), none⟩,
    ⟨(some 23), .nilCheck (.tmp 22), none⟩,
    ⟨(some 24), .fieldA 0 (.tmp 23), none⟩,
    ⟨(some 25), .load1 .str (.tmp 24), none⟩,
    ⟨(some 26), .mv (.tmp 1), none⟩,
    ⟨(some 27), .sliceS (.tmp 25) none (some (.tmp 26)), none⟩,
    ⟨(some 5), .mv (.tmp 27), none⟩]
def k83_14 : VC := .reg [⟨(some 28), .mv (.tmp 0), none⟩,
    ⟨(some 29), .mv (.tmp 0), none⟩,
    ⟨(some 30), .nilCheck (.tmp 29), none⟩,
    ⟨(some 31), .fieldA 0 (.tmp 30), none⟩,
    ⟨(some 32), .load1 .str (.tmp 31), none⟩,
    ⟨(some 33), .mv (.tmp 1), none⟩,
    ⟨(some 34), .sliceS (.tmp 32) (some (.tmp 33)) none, none⟩,
    ⟨(some 35), .nilCheck (.tmp 28), none⟩,
    ⟨(some 36), .fieldA 0 (.tmp 35), none⟩,
    ⟨none, .store 1 (.tmp 36) (.tmp 34), none⟩]
def k83_15 : VC := .reg [⟨(some 37), .mv (.tmp 5), none⟩,
    ⟨(some 4), .mv (.tmp 37), none⟩]
def k83_16 : VC := .seq k83_15 .ret
def k83_17 : VC := .seq k83_14 k83_16
def k83_18 : VC := .seq k83_13 k83_17
def k83_19 : VC := .seq k83_12 k83_18
def k83_20 : VC := .seq k83_5 k83_19
def k83_21 : VC := .seq k83_0 k83_20
def fn83 : VFn := ⟨38, k83_21, [.tmp 4]⟩
/- 72: (*cloakroom/octet.Reader).Bad -/
def k72_0 : VC := .reg [⟨(some 2), .mv (.const (.bool false)), none⟩]
def k72_1 : VC := .reg [⟨(some 3), .mv (.tmp 0), none⟩,
    ⟨(some 4), .isNil 0 false (.tmp 3), none⟩,
    ⟨(some 5), .mv (.tmp 4), none⟩,
    ⟨(some 6), .mv (.tmp 0), (some (5, false))⟩,
    ⟨(some 7), .nilCheck (.tmp 6), (some (5, false))⟩,
    ⟨(some 8), .fieldA 1 (.tmp 7), (some (5, false))⟩,
    ⟨(some 9), .load1 .bool (.tmp 8), (some (5, false))⟩,
    ⟨(some 10), .not (.tmp 9), (some (5, false))⟩,
    ⟨(some 11), .pick (.tmp 5) (.const (.bool true)) (.tmp 10), none⟩,
    ⟨(some 12), .mv (.tmp 11), none⟩,
    ⟨(some 13), .mv (.tmp 0), (some (12, false))⟩,
    ⟨(some 14), .nilCheck (.tmp 13), (some (12, false))⟩,
    ⟨(some 15), .fieldA 2 (.tmp 14), (some (12, false))⟩,
    ⟨(some 16), .load1 .bool (.tmp 15), (some (12, false))⟩,
    ⟨(some 17), .pick (.tmp 12) (.const (.bool true)) (.tmp 16), none⟩,
    ⟨(some 2), .mv (.tmp 17), none⟩]
def k72_2 : VC := .seq k72_1 .ret
def k72_3 : VC := .seq k72_0 k72_2
def fn72 : VFn := ⟨18, k72_3, [.tmp 2]⟩
/- 101: cloakroom/octet.Get -/
def k101_0 : VC := .reg [⟨(some 6), .mv (.const (.int .u64 0)), none⟩,
    ⟨(some 7), .mv (.const (.bool false)), none⟩]
def k101_1 : VC := .reg [⟨(some 11), .mv (.tmp 2), none⟩,
    ⟨(some 12), .bin .lss (.tmp 11) (.const (.int .i64 1)), none⟩,
    ⟨(some 13), .mv (.tmp 12), none⟩,
    ⟨(some 14), .mv (.tmp 2), (some (13, false))⟩,
    ⟨(some 15), .bin .gtr (.tmp 14) (.const (.int .i64 8)), (some (13, false))⟩,
    ⟨(some 16), .pick (.tmp 13) (.const (.bool true)) (.tmp 15), none⟩,
    ⟨(some 17), .mv (.tmp 16), none⟩,
    ⟨(some 18), .mv (.tmp 1), (some (17, false))⟩,
    ⟨(some 19), .bin .lss (.tmp 18) (.const (.int .i64 0)), (some (17, false))⟩,
    ⟨(some 20), .pick (.tmp 17) (.const (.bool true)) (.tmp 19), none⟩,
    ⟨(some 21), .mv (.tmp 20), none⟩,
    ⟨(some 22), .mv (.tmp 0), (some (21, false))⟩,
    ⟨(some 23), .lenS (.tmp 22), (some (21, false))⟩,
    ⟨(some 24), .mv (.tmp 2), (some (21, false))⟩,
    ⟨(some 25), .bin .sub (.tmp 23) (.tmp 24), (some (21, false))⟩,
    ⟨(some 26), .mv (.tmp 1), (some (21, false))⟩,
    ⟨(some 27), .bin .lss (.tmp 25) (.tmp 26), (some (21, false))⟩,
    ⟨(some 28), .pick (.tmp 21) (.const (.bool true)) (.tmp 27), none⟩]
def k101_2 : VC := .reg [⟨(some 6), .mv (.const (.int .u64 0)), none⟩,
    ⟨(some 7), .mv (.const (.bool false)), none⟩]
def k101_3 : VC := .seq k101_2 .ret
def k101_4 : VC := .cond (.tmp 28) k101_3 .skip
def k101_5 : VC := .seq k101_1 k101_4
def k101_6 : VC := .reg [⟨(some 8), .mv (.const (.int .u64 0)), none⟩]
def k101_7 : VC := .reg [⟨(some 29), .mv (.tmp 0), none⟩,
    ⟨(some 30), .mv (.tmp 1), none⟩,
    ⟨(some 31), .mv (.tmp 1), none⟩,
    ⟨(some 32), .mv (.tmp 2), none⟩,
    ⟨(some 33), .bin .add (.tmp 31) (.tmp 32), none⟩,
    ⟨(some 34), .sliceS (.tmp 29) (some (.tmp 30)) (some (.tmp 33)), none⟩,
    ⟨(some 35), .s2b (.tmp 34), none⟩,
    ⟨(some 36), .lenL (.tmp 35), none⟩,
    ⟨(some 37), .mv (.const (.int .i64 0)), none⟩]
def k101_8 : VC := .reg [⟨(some 38), .bin .lss (.tmp 37) (.tmp 36), none⟩]
def k101_9 : VC := .cond (.tmp 38) .skip (.exit 0)
def k101_10 : VC := .reg [⟨(some 39), .idxAL 1 (.tmp 35) (.tmp 37), none⟩,
    ⟨(some 40), .load1 (.int .u8) (.tmp 39), none⟩,
    ⟨(some 10), .mv (.tmp 40), none⟩]
def k101_11 : VC := .reg [⟨(some 41), .mv (.tmp 8), none⟩,
    ⟨(some 42), .bin .shl (.tmp 41) (.const (.int .u64 8)), none⟩,
    ⟨(some 43), .mv (.tmp 10), none⟩,
    ⟨(some 44), .conv .u64 (.tmp 43), none⟩,
    ⟨(some 45), .bin .or (.tmp 42) (.tmp 44), none⟩,
    ⟨(some 8), .mv (.tmp 45), none⟩]
def k101_12 : VC := .seq k101_10 k101_11
def k101_13 : VC := .block 1 k101_12
def k101_14 : VC := .reg [⟨(some 46), .bin .add (.tmp 37) (.const (.int .i64 1)), none⟩,
    ⟨(some 37), .mv (.tmp 46), none⟩]
def k101_15 : VC := .seq k101_13 k101_14
def k101_16 : VC := .seq k101_9 k101_15
def k101_17 : VC := .seq k101_8 k101_16
def k101_18 : VC := .loop k101_17
def k101_19 : VC := .block 0 k101_18
def k101_20 : VC := .seq k101_7 k101_19
def k101_21 : VC := .reg [⟨(some 47), .mv (.tmp 8), none⟩,
    ⟨(some 6), .mv (.tmp 47), none⟩,
    ⟨(some 7), .mv (.const (.bool true)), none⟩]
def k101_22 : VC := .seq k101_21 .ret
def k101_23 : VC := .seq k101_20 k101_22
def k101_24 : VC := .seq k101_6 k101_23
def k101_25 : VC := .seq k101_5 k101_24
def k101_26 : VC := .seq k101_0 k101_25
def fn101 : VFn := ⟨48, k101_26, [.tmp 6, .tmp 7]⟩
/- 73: cloakroom/check.Right -/
def k73_0 : VC := .reg [⟨(some 2), .mv (.const (.bool false)), none⟩]
def k73_1 : VC := .reg [⟨(some 3), .mv (.tmp 0), none⟩,
    ⟨(some 4), .callF 113 [(.tmp 3)], none⟩,
    ⟨(some 5), .bin .eql (.tmp 4) (.const (.int .i64 65535)), none⟩,
    ⟨(some 2), .mv (.tmp 5), none⟩]
def k73_2 : VC := .seq k73_1 .ret
def k73_3 : VC := .seq k73_0 k73_2
def fn73 : VFn := ⟨6, k73_3, [.tmp 2]⟩
/- 17: cloakroom/cloakroomref08.Put -/
def k17_0 : VC := .reg [⟨(some 4), .box (.tmp 0), none⟩,
    ⟨(some 5), .box (.tmp 1), none⟩,
    ⟨(some 6), .box (.tmp 2), none⟩,
    ⟨(some 8), .mv (.const (.string ⟨⟨[]⟩⟩)), none⟩,
    ⟨(some 9), .mv (.const (.int .i64 0)), none⟩]
def k17_1 : VC := .reg [⟨(some 14), .mv (.tmp 3), none⟩,
    ⟨(some 15), .lenS (.tmp 14), none⟩,
    ⟨(some 16), .bin .add (.const (.int .i64 8)) (.tmp 15), none⟩,
    ⟨(some 10), .mv (.tmp 16), none⟩]
def k17_2 : VC := .reg [⟨(some 17), .loadN [.bool, (.int .u64), (.int .u64)] (.tmp 5), none⟩,
    ⟨(some 18), .loadN [.bool, (.int .u64), (.int .u64)] (.tmp 6), none⟩,
    ⟨(some 19), .mv (.tmp 10), none⟩,
    ⟨(some 20), .callF 28 [(.tmp 17), (.tmp 18), (.const (.int .i64 17)), (.tmp 19)], none⟩,
    ⟨(some 11), .mv (.tmp 20), none⟩]
def k17_3 : VC := .reg [⟨(some 21), .fieldA 0 (.tmp 4), none⟩,
    ⟨(some 22), .load1 (.int .i64) (.tmp 21), none⟩,
    ⟨(some 23), .callF 66 [(.tmp 22)], none⟩,
    ⟨(some 24), .not (.tmp 23), none⟩,
    ⟨(some 25), .mv (.tmp 24), none⟩,
    ⟨(some 26), .fieldA 1 (.tmp 4), (some (25, false))⟩,
    ⟨(some 27), .load1 (.int .i64) (.tmp 26), (some (25, false))⟩,
    ⟨(some 28), .callF 66 [(.tmp 27)], (some (25, false))⟩,
    ⟨(some 29), .not (.tmp 28), (some (25, false))⟩,
    ⟨(some 30), .pick (.tmp 25) (.const (.bool true)) (.tmp 29), none⟩,
    ⟨(some 31), .mv (.tmp 30), none⟩,
    ⟨(some 32), .mv (.tmp 11), (some (31, false))⟩,
    ⟨(some 33), .bin .eql (.tmp 32) (.const (.string ⟨⟨[]⟩⟩)), (some (31, false))⟩,
    ⟨(some 34), .pick (.tmp 31) (.const (.bool true)) (.tmp 33), none⟩]
def k17_4 : VC := .reg [⟨(some 8), .mv (.const (.string ⟨⟨[]⟩⟩)), none⟩,
    ⟨(some 9), .mv (.const (.int .i64 1)), none⟩]
def k17_5 : VC := .seq k17_4 .ret
def k17_6 : VC := .cond (.tmp 34) k17_5 .skip
def k17_7 : VC := .seq k17_3 k17_6
def k17_8 : VC := .reg [⟨(some 35), .mv (.tmp 10), none⟩,
    ⟨(some 36), .bin .gtr (.tmp 35) (.const (.int .i64 65535)), none⟩]
def k17_9 : VC := .reg [⟨(some 8), .mv (.const (.string ⟨⟨[]⟩⟩)), none⟩,
    ⟨(some 9), .mv (.const (.int .i64 5)), none⟩]
def k17_10 : VC := .seq k17_9 .ret
def k17_11 : VC := .cond (.tmp 36) k17_10 .skip
def k17_12 : VC := .seq k17_8 k17_11
def k17_13 : VC := .regD [⟨(some 37), .fieldA 0 (.tmp 4), none⟩,
    ⟨(some 38), .load1 (.int .i64) (.tmp 37), none⟩,
    ⟨(some 39), .conv .u64 (.tmp 38), none⟩,
    ⟨(some 40), .callF 67 [(.tmp 39), (.const (.int .i64 2))], none⟩,
    ⟨(some 41), .fieldA 1 (.tmp 4), none⟩,
    ⟨(some 42), .load1 (.int .i64) (.tmp 41), none⟩,
    ⟨(some 43), .conv .u64 (.tmp 42), none⟩,
    ⟨(some 44), .callF 67 [(.tmp 43), (.const (.int .i64 2))], none⟩,
    ⟨(some 45), .bin .add (.tmp 40) (.tmp 44), none⟩,
    ⟨(some 46), .mv (.tmp 10), none⟩,
    ⟨(some 47), .conv .u64 (.tmp 46), none⟩,
    ⟨(some 48), .callF 67 [(.tmp 47), (.const (.int .i64 2))], none⟩,
    ⟨(some 49), .bin .add (.tmp 45) (.tmp 48), none⟩,
    ⟨(some 50), .bin .add (.tmp 49) (.const (.string ⟨⟨[0, 0]⟩⟩)), none⟩,
    ⟨(some 51), .mv (.tmp 3), none⟩] [(3, 5)] [⟨(some 52), .bin .add (.tmp 50) (.tmp 51), none⟩,
    ⟨(some 12), .mv (.tmp 52), none⟩]
def k17_14 : VC := .reg [⟨(some 53), .mv (.tmp 11), none⟩,
    ⟨(some 54), .mv (.tmp 12), none⟩,
    ⟨(some 55), .bin .add (.tmp 53) (.tmp 54), none⟩,
    ⟨(some 56), .callF 68 [(.tmp 55)], none⟩,
    ⟨(some 13), .mv (.tmp 56), none⟩]
def k17_15 : VC := .reg [⟨(some 57), .mv (.tmp 13), none⟩,
    ⟨(some 58), .bin .eql (.tmp 57) (.const (.int .i64 0)), none⟩]
def k17_16 : VC := .reg [⟨(some 13), .mv (.const (.int .i64 65535)), none⟩]
def k17_17 : VC := .cond (.tmp 58) k17_16 .skip
def k17_18 : VC := .seq k17_15 k17_17
def k17_19 : VC := .reg [⟨(some 59), .mv (.tmp 12), none⟩,
    ⟨(some 60), .mv (.tmp 13), none⟩,
    ⟨(some 61), .conv .u64 (.tmp 60), none⟩,
    ⟨(some 62), .callF 69 [(.tmp 59), (.const (.int .i64 6)), (.const (.int .i64 2)), (.tmp 61)], none⟩,
    ⟨(some 8), .mv (.tmp 62), none⟩,
    ⟨(some 9), .mv (.const (.int .i64 0)), none⟩]
def k17_20 : VC := .seq k17_19 .ret
def k17_21 : VC := .seq k17_18 k17_20
def k17_22 : VC := .seq k17_14 k17_21
def k17_23 : VC := .seq k17_13 k17_22
def k17_24 : VC := .seq k17_12 k17_23
def k17_25 : VC := .seq k17_7 k17_24
def k17_26 : VC := .seq k17_2 k17_25
def k17_27 : VC := .seq k17_1 k17_26
def k17_28 : VC := .seq k17_0 k17_27
def fn17 : VFn := ⟨63, k17_28, [.tmp 8, .tmp 9]⟩
/- 28: cloakroom/cloakroomref05.Pseudo -/
def k28_0 : VC := .reg [⟨(some 4), .box (.tmp 0), none⟩,
    ⟨(some 5), .box (.tmp 1), none⟩,
    ⟨(some 8), .mv (.const (.string ⟨⟨[]⟩⟩)), none⟩]
def k28_1 : VC := .reg [⟨(some 9), .loadN [.bool, (.int .u64), (.int .u64)] (.tmp 4), none⟩,
    ⟨(some 10), .callF 86 [(.tmp 9)], none⟩,
    ⟨(some 11), .not (.tmp 10), none⟩,
    ⟨(some 12), .mv (.tmp 11), none⟩,
    ⟨(some 13), .loadN [.bool, (.int .u64), (.int .u64)] (.tmp 5), (some (12, false))⟩,
    ⟨(some 14), .callF 86 [(.tmp 13)], (some (12, false))⟩,
    ⟨(some 15), .not (.tmp 14), (some (12, false))⟩,
    ⟨(some 16), .pick (.tmp 12) (.const (.bool true)) (.tmp 15), none⟩,
    ⟨(some 17), .mv (.tmp 16), none⟩,
    ⟨(some 18), .fieldA 0 (.tmp 4), (some (17, false))⟩,
    ⟨(some 19), .load1 .bool (.tmp 18), (some (17, false))⟩,
    ⟨(some 20), .fieldA 0 (.tmp 5), (some (17, false))⟩,
    ⟨(some 21), .load1 .bool (.tmp 20), (some (17, false))⟩,
    ⟨(some 22), .eqB true (.tmp 19) (.tmp 21), (some (17, false))⟩,
    ⟨(some 23), .pick (.tmp 17) (.const (.bool true)) (.tmp 22), none⟩]
def k28_2 : VC := .reg [⟨(some 8), .mv (.const (.string ⟨⟨[]⟩⟩)), none⟩]
def k28_3 : VC := .seq k28_2 .ret
def k28_4 : VC := .cond (.tmp 23) k28_3 .skip
def k28_5 : VC := .seq k28_1 k28_4
def k28_6 : VC := .reg [⟨(some 24), .fieldA 0 (.tmp 4), none⟩,
    ⟨(some 25), .load1 .bool (.tmp 24), none⟩]
def k28_7 : VC := .regD [⟨(some 26), .loadN [.bool, (.int .u64), (.int .u64)] (.tmp 4), none⟩,
    ⟨(some 27), .callF 81 [(.tmp 26)], none⟩,
    ⟨(some 28), .loadN [.bool, (.int .u64), (.int .u64)] (.tmp 5), none⟩,
    ⟨(some 29), .callF 81 [(.tmp 28)], none⟩,
    ⟨(some 30), .bin .add (.tmp 27) (.tmp 29), none⟩,
    ⟨(some 31), .mv (.tmp 3), none⟩,
    ⟨(some 32), .callF 80 [(.tmp 31), (.const (.int .i64 4))], none⟩,
    ⟨(some 33), .bin .add (.tmp 30) (.tmp 32), none⟩,
    ⟨(some 34), .callF 80 [(.const (.int .i64 0)), (.const (.int .i64 3))], none⟩,
    ⟨(some 35), .bin .add (.tmp 33) (.tmp 34), none⟩,
    ⟨(some 36), .mv (.tmp 2), none⟩,
    ⟨(some 37), .callF 80 [(.tmp 36), (.const (.int .i64 1))], none⟩] [(1, 2)] [⟨(some 38), .bin .add (.tmp 35) (.tmp 37), none⟩,
    ⟨(some 8), .mv (.tmp 38), none⟩]
def k28_8 : VC := .seq k28_7 .ret
def k28_9 : VC := .cond (.tmp 25) k28_8 .skip
def k28_10 : VC := .seq k28_6 k28_9
def k28_11 : VC := .regD [⟨(some 39), .loadN [.bool, (.int .u64), (.int .u64)] (.tmp 4), none⟩,
    ⟨(some 40), .callF 81 [(.tmp 39)], none⟩,
    ⟨(some 41), .loadN [.bool, (.int .u64), (.int .u64)] (.tmp 5), none⟩,
    ⟨(some 42), .callF 81 [(.tmp 41)], none⟩,
    ⟨(some 43), .bin .add (.tmp 40) (.tmp 42), none⟩,
    ⟨(some 44), .callF 80 [(.const (.int .i64 0)), (.const (.int .i64 1))], none⟩,
    ⟨(some 45), .bin .add (.tmp 43) (.tmp 44), none⟩,
    ⟨(some 46), .mv (.tmp 2), none⟩,
    ⟨(some 47), .callF 80 [(.tmp 46), (.const (.int .i64 1))], none⟩,
    ⟨(some 48), .bin .add (.tmp 45) (.tmp 47), none⟩,
    ⟨(some 49), .mv (.tmp 3), none⟩,
    ⟨(some 50), .callF 80 [(.tmp 49), (.const (.int .i64 2))], none⟩] [(1, 2)] [⟨(some 51), .bin .add (.tmp 48) (.tmp 50), none⟩,
    ⟨(some 8), .mv (.tmp 51), none⟩]
def k28_12 : VC := .seq k28_11 .ret
def k28_13 : VC := .seq k28_10 k28_12
def k28_14 : VC := .seq k28_5 k28_13
def k28_15 : VC := .seq k28_0 k28_14
def fn28 : VFn := ⟨52, k28_15, [.tmp 8]⟩
/- 86: cloakroom/cloakroomref04.Right -/
def k86_0 : VC := .reg [⟨(some 1), .box (.tmp 0), none⟩,
    ⟨(some 2), .mv (.const (.bool false)), none⟩]
def k86_1 : VC := .reg [⟨(some 3), .fieldA 0 (.tmp 1), none⟩,
    ⟨(some 4), .load1 .bool (.tmp 3), none⟩,
    ⟨(some 5), .mv (.tmp 4), none⟩,
    ⟨(some 6), .fieldA 1 (.tmp 1), (some (5, false))⟩,
    ⟨(some 7), .load1 (.int .u64) (.tmp 6), (some (5, false))⟩,
    ⟨(some 8), .bin .eql (.tmp 7) (.const (.int .u64 0)), (some (5, false))⟩,
    ⟨(some 9), .mv (.tmp 8), (some (5, false))⟩,
    ⟨(some 10), .fieldA 2 (.tmp 1), (some (9, true))⟩,
    ⟨(some 11), .load1 (.int .u64) (.tmp 10), (some (9, true))⟩,
    ⟨(some 12), .bin .lss (.tmp 11) (.const (.int .u64 4294967296)), (some (9, true))⟩,
    ⟨(some 13), .pick (.tmp 9) (.tmp 12) (.const (.bool false)), (some (5, false))⟩,
    ⟨(some 14), .pick (.tmp 5) (.const (.bool true)) (.tmp 13), none⟩,
    ⟨(some 2), .mv (.tmp 14), none⟩]
def k86_2 : VC := .seq k86_1 .ret
def k86_3 : VC := .seq k86_0 k86_2
def fn86 : VFn := ⟨15, k86_3, [.tmp 2]⟩
/- 81: cloakroom/cloakroomref04.Put -/
def k81_0 : VC := .reg [⟨(some 1), .box (.tmp 0), none⟩,
    ⟨(some 2), .mv (.const (.string ⟨⟨[]⟩⟩)), none⟩]
def k81_1 : VC := .reg [⟨(some 3), .loadN [.bool, (.int .u64), (.int .u64)] (.tmp 1), none⟩,
    ⟨(some 4), .callF 86 [(.tmp 3)], none⟩,
    ⟨(some 5), .not (.tmp 4), none⟩]
def k81_2 : VC := .reg [⟨(some 2), .mv (.const (.string ⟨⟨[]⟩⟩)), none⟩]
def k81_3 : VC := .seq k81_2 .ret
def k81_4 : VC := .cond (.tmp 5) k81_3 .skip
def k81_5 : VC := .seq k81_1 k81_4
def k81_6 : VC := .reg [⟨(some 6), .fieldA 0 (.tmp 1), none⟩,
    ⟨(some 7), .load1 .bool (.tmp 6), none⟩]
def k81_7 : VC := .regD [⟨(some 8), .fieldA 1 (.tmp 1), none⟩,
    ⟨(some 9), .load1 (.int .u64) (.tmp 8), none⟩,
    ⟨(some 10), .callF 67 [(.tmp 9), (.const (.int .i64 8))], none⟩,
    ⟨(some 11), .fieldA 2 (.tmp 1), none⟩,
    ⟨(some 12), .load1 (.int .u64) (.tmp 11), none⟩] [(2, 4)] [⟨(some 13), .callF 67 [(.tmp 12), (.const (.int .i64 8))], none⟩,
    ⟨(some 14), .bin .add (.tmp 10) (.tmp 13), none⟩,
    ⟨(some 2), .mv (.tmp 14), none⟩]
def k81_8 : VC := .seq k81_7 .ret
def k81_9 : VC := .cond (.tmp 7) k81_8 .skip
def k81_10 : VC := .seq k81_6 k81_9
def k81_11 : VC := .reg [⟨(some 15), .fieldA 2 (.tmp 1), none⟩,
    ⟨(some 16), .load1 (.int .u64) (.tmp 15), none⟩,
    ⟨(some 17), .callF 67 [(.tmp 16), (.const (.int .i64 4))], none⟩,
    ⟨(some 2), .mv (.tmp 17), none⟩]
def k81_12 : VC := .seq k81_11 .ret
def k81_13 : VC := .seq k81_10 k81_12
def k81_14 : VC := .seq k81_5 k81_13
def k81_15 : VC := .seq k81_0 k81_14
def fn81 : VFn := ⟨18, k81_15, [.tmp 2]⟩
/- 67: cloakroom/cloakroomref02.Put -/
def k67_0 : VC := .reg [⟨(some 4), .mv (.const (.string ⟨⟨[]⟩⟩)), none⟩]
def k67_1 : VC := .reg [⟨(some 5), .mv (.const (.string ⟨⟨[]⟩⟩)), none⟩]
def k67_2 : VC := .reg [⟨(some 6), .mv (.const (.int .i64 0)), none⟩]
def k67_3 : VC := .reg [⟨(some 7), .mv (.tmp 6), none⟩,
    ⟨(some 8), .mv (.tmp 1), none⟩,
    ⟨(some 9), .bin .lss (.tmp 7) (.tmp 8), none⟩,
    ⟨(some 10), .mv (.tmp 9), none⟩,
    ⟨(some 11), .mv (.tmp 1), (some (10, true))⟩,
    ⟨(some 12), .bin .leq (.tmp 11) (.const (.int .i64 8)), (some (10, true))⟩,
    ⟨(some 13), .pick (.tmp 10) (.tmp 12) (.const (.bool false)), none⟩]
def k67_4 : VC := .cond (.tmp 13) .skip (.exit 0)
def k67_5 : VC := .seq k67_3 k67_4
def k67_6 : VC := .reg [⟨(some 16), .mv (.tmp 0), none⟩,
    ⟨(some 17), .bin .rem (.tmp 16) (.const (.int .u64 256)), none⟩,
    ⟨(some 18), .conv .u8 (.tmp 17), none⟩,
    ⟨(some 19), .buildSl 1 1 [(.int .u8 0)] [(0, 1, (.tmp 18))], none⟩,
    ⟨(some 20), .b2s (.tmp 19), none⟩,
    ⟨(some 21), .mv (.tmp 5), none⟩,
    ⟨(some 22), .bin .add (.tmp 20) (.tmp 21), none⟩,
    ⟨(some 5), .mv (.tmp 22), none⟩]
def k67_7 : VC := .reg [⟨(some 23), .mv (.tmp 0), none⟩,
    ⟨(some 24), .bin .quo (.tmp 23) (.const (.int .u64 256)), none⟩,
    ⟨(some 0), .mv (.tmp 24), none⟩]
def k67_8 : VC := .seq k67_6 k67_7
def k67_9 : VC := .block 1 k67_8
def k67_10 : VC := .reg [⟨(some 14), .mv (.tmp 6), none⟩,
    ⟨(some 15), .bin .add (.tmp 14) (.const (.int .i64 1)), none⟩,
    ⟨(some 6), .mv (.tmp 15), none⟩]
def k67_11 : VC := .seq k67_9 k67_10
def k67_12 : VC := .seq k67_5 k67_11
def k67_13 : VC := .loop k67_12
def k67_14 : VC := .block 0 k67_13
def k67_15 : VC := .seq k67_2 k67_14
def k67_16 : VC := .reg [⟨(some 25), .mv (.tmp 5), none⟩,
    ⟨(some 4), .mv (.tmp 25), none⟩]
def k67_17 : VC := .seq k67_16 .ret
def k67_18 : VC := .seq k67_15 k67_17
def k67_19 : VC := .seq k67_1 k67_18
def k67_20 : VC := .seq k67_0 k67_19
def fn67 : VFn := ⟨26, k67_20, [.tmp 4]⟩
/- 80: cloakroom/cloakroomref05.num -/
def k80_0 : VC := .reg [⟨(some 4), .mv (.const (.string ⟨⟨[]⟩⟩)), none⟩]
def k80_1 : VC := .reg [⟨(some 5), .mv (.tmp 0), none⟩,
    ⟨(some 6), .conv .u64 (.tmp 5), none⟩,
    ⟨(some 7), .mv (.tmp 1), none⟩,
    ⟨(some 8), .callF 67 [(.tmp 6), (.tmp 7)], none⟩,
    ⟨(some 4), .mv (.tmp 8), none⟩]
def k80_2 : VC := .seq k80_1 .ret
def k80_3 : VC := .seq k80_0 k80_2
def fn80 : VFn := ⟨9, k80_3, [.tmp 4]⟩
/- 66: cloakroom/cloakroomref08.in -/
def k66_0 : VC := .reg [⟨(some 2), .mv (.const (.bool false)), none⟩]
def k66_1 : VC := .reg [⟨(some 3), .mv (.tmp 0), none⟩,
    ⟨(some 4), .bin .geq (.tmp 3) (.const (.int .i64 0)), none⟩,
    ⟨(some 5), .mv (.tmp 4), none⟩,
    ⟨(some 6), .mv (.tmp 0), (some (5, true))⟩,
    ⟨(some 7), .bin .leq (.tmp 6) (.const (.int .i64 65535)), (some (5, true))⟩,
    ⟨(some 8), .pick (.tmp 5) (.tmp 7) (.const (.bool false)), none⟩,
    ⟨(some 2), .mv (.tmp 8), none⟩]
def k66_2 : VC := .seq k66_1 .ret
def k66_3 : VC := .seq k66_0 k66_2
def fn66 : VFn := ⟨9, k66_3, [.tmp 2]⟩
/- 68: cloakroom/cloakroomref03.Of -/
def k68_0 : VC := .reg [⟨(some 2), .mv (.const (.int .i64 0)), none⟩]
def k68_1 : VC := .reg [⟨(some 3), .mv (.tmp 0), none⟩,
    ⟨(some 4), .callF 75 [(.tmp 3)], none⟩,
    ⟨(some 5), .bin .sub (.const (.int .i64 65535)) (.tmp 4), none⟩,
    ⟨(some 2), .mv (.tmp 5), none⟩]
def k68_2 : VC := .seq k68_1 .ret
def k68_3 : VC := .seq k68_0 k68_2
def fn68 : VFn := ⟨6, k68_3, [.tmp 2]⟩
/- 75: cloakroom/cloakroomref03.Sum -/
def k75_0 : VC := .reg [⟨(some 2), .mv (.const (.int .i64 0)), none⟩]
def k75_1 : VC := .reg [⟨(some 3), .mv (.tmp 0), none⟩,
    ⟨(some 4), .callF 116 [(.tmp 3)], none⟩,
    ⟨(some 5), .callF 115 [(.tmp 4)], none⟩,
    ⟨(some 2), .mv (.tmp 5), none⟩]
def k75_2 : VC := .seq k75_1 .ret
def k75_3 : VC := .seq k75_0 k75_2
def fn75 : VFn := ⟨6, k75_3, [.tmp 2]⟩
/- 116: cloakroom/cloakroomref03.Words -/
def k116_0 : VC := .reg [⟨(some 2), .mv (.const (.slice none 0 0)), none⟩]
def k116_1 : VC := .reg [⟨(some 5), .mv (.tmp 0), none⟩,
    ⟨(some 6), .lenS (.tmp 5), none⟩,
    ⟨(some 7), .bin .rem (.tmp 6) (.const (.int .i64 2)), none⟩,
    ⟨(some 8), .bin .eql (.tmp 7) (.const (.int .i64 1)), none⟩]
def k116_2 : VC := .reg [⟨(some 9), .mv (.tmp 0), none⟩,
    ⟨(some 10), .bin .add (.tmp 9) (.const (.string ⟨⟨[0]⟩⟩)), none⟩,
    ⟨(some 0), .mv (.tmp 10), none⟩]
def k116_3 : VC := .cond (.tmp 8) k116_2 .skip
def k116_4 : VC := .seq k116_1 k116_3
def k116_5 : VC := .reg [⟨(some 3), .mv (.const (.slice none 0 0)), none⟩]
def k116_6 : VC := .reg [⟨(some 4), .mv (.const (.int .i64 0)), none⟩]
def k116_7 : VC := .reg [⟨(some 11), .mv (.tmp 4), none⟩,
    ⟨(some 12), .mv (.tmp 0), none⟩,
    ⟨(some 13), .lenS (.tmp 12), none⟩,
    ⟨(some 14), .bin .lss (.tmp 11) (.tmp 13), none⟩]
def k116_8 : VC := .cond (.tmp 14) .skip (.exit 0)
def k116_9 : VC := .seq k116_7 k116_8
def k116_10 : VC := .reg [⟨(some 17), .mv (.tmp 3), none⟩,
    ⟨(some 18), .mv (.tmp 0), none⟩,
    ⟨(some 19), .mv (.tmp 4), none⟩,
    ⟨(some 20), .callF 74 [(.tmp 18), (.tmp 19), (.const (.int .i64 2))], none⟩,
    ⟨(some 21), .buildSl 1 1 [(.int .i64 0)] [(0, 1, (.tmp 20))], none⟩,
    ⟨(some 22), .app 3 1 8 (.tmp 17) (.tmp 21), none⟩,
    ⟨(some 3), .mv (.tmp 22), none⟩]
def k116_11 : VC := .block 1 k116_10
def k116_12 : VC := .reg [⟨(some 15), .mv (.tmp 4), none⟩,
    ⟨(some 16), .bin .add (.tmp 15) (.const (.int .i64 2)), none⟩,
    ⟨(some 4), .mv (.tmp 16), none⟩]
def k116_13 : VC := .seq k116_11 k116_12
def k116_14 : VC := .seq k116_9 k116_13
def k116_15 : VC := .loop k116_14
def k116_16 : VC := .block 0 k116_15
def k116_17 : VC := .seq k116_6 k116_16
def k116_18 : VC := .reg [⟨(some 23), .mv (.tmp 3), none⟩,
    ⟨(some 2), .mv (.tmp 23), none⟩]
def k116_19 : VC := .seq k116_18 .ret
def k116_20 : VC := .seq k116_17 k116_19
def k116_21 : VC := .seq k116_5 k116_20
def k116_22 : VC := .seq k116_4 k116_21
def k116_23 : VC := .seq k116_0 k116_22
def fn116 : VFn := ⟨24, k116_23, [.tmp 2]⟩
/- 74: cloakroom/cloakroomref02.Must -/
def k74_0 : VC := .reg [⟨(some 6), .mv (.const (.int .i64 0)), none⟩]
def k74_1 : VC := .reg [⟨(some 10), .mv (.tmp 0), none⟩,
    ⟨(some 11), .mv (.tmp 1), none⟩,
    ⟨(some 12), .mv (.tmp 2), none⟩,
    ⟨(some 13), .callF 114 [(.tmp 10), (.tmp 11), (.tmp 12)], none⟩,
    ⟨(some 9), .mv (.tmp 13), none⟩,
    ⟨(some 14), .extract 0 (.tmp 9), none⟩,
    ⟨(some 15), .extract 1 (.tmp 9), none⟩,
    ⟨(some 7), .mv (.tmp 14), none⟩,
    ⟨(some 8), .mv (.tmp 15), none⟩]
def k74_2 : VC := .reg [⟨(some 16), .mv (.tmp 7), none⟩,
    ⟨(some 17), .conv .i64 (.tmp 16), none⟩,
    ⟨(some 6), .mv (.tmp 17), none⟩]
def k74_3 : VC := .seq k74_2 .ret
def k74_4 : VC := .seq k74_1 k74_3
def k74_5 : VC := .seq k74_0 k74_4
def fn74 : VFn := ⟨18, k74_5, [.tmp 6]⟩
/- 114: cloakroom/cloakroomref02.Get -/
def k114_0 : VC := .reg [⟨(some 6), .mv (.const (.int .u64 0)), none⟩,
    ⟨(some 7), .mv (.const (.bool false)), none⟩]
def k114_1 : VC := .reg [⟨(some 10), .mv (.tmp 2), none⟩,
    ⟨(some 11), .bin .lss (.tmp 10) (.const (.int .i64 1)), none⟩,
    ⟨(some 12), .mv (.tmp 11), none⟩,
    ⟨(some 13), .mv (.tmp 2), (some (12, false))⟩,
    ⟨(some 14), .bin .gtr (.tmp 13) (.const (.int .i64 8)), (some (12, false))⟩,
    ⟨(some 15), .pick (.tmp 12) (.const (.bool true)) (.tmp 14), none⟩,
    ⟨(some 16), .mv (.tmp 15), none⟩,
    ⟨(some 17), .mv (.tmp 1), (some (16, false))⟩,
    ⟨(some 18), .bin .lss (.tmp 17) (.const (.int .i64 0)), (some (16, false))⟩,
    ⟨(some 19), .pick (.tmp 16) (.const (.bool true)) (.tmp 18), none⟩,
    ⟨(some 20), .mv (.tmp 19), none⟩,
    ⟨(some 21), .mv (.tmp 1), (some (20, false))⟩,
    ⟨(some 22), .mv (.tmp 0), (some (20, false))⟩,
    ⟨(some 23), .lenS (.tmp 22), (some (20, false))⟩,
    ⟨(some 24), .bin .gtr (.tmp 21) (.tmp 23), (some (20, false))⟩,
    ⟨(some 25), .pick (.tmp 20) (.const (.bool true)) (.tmp 24), none⟩,
    ⟨(some 26), .mv (.tmp 25), none⟩,
    ⟨(some 27), .mv (.tmp 2), (some (26, false))⟩,
    ⟨(some 28), .mv (.tmp 0), (some (26, false))⟩,
    ⟨(some 29), .lenS (.tmp 28), (some (26, false))⟩,
    ⟨(some 30), .mv (.tmp 1), (some (26, false))⟩,
    ⟨(some 31), .bin .sub (.tmp 29) (.tmp 30), (some (26, false))⟩,
    ⟨(some 32), .bin .gtr (.tmp 27) (.tmp 31), (some (26, false))⟩,
    ⟨(some 33), .pick (.tmp 26) (.const (.bool true)) (.tmp 32), none⟩]
def k114_2 : VC := .reg [⟨(some 6), .mv (.const (.int .u64 0)), none⟩,
    ⟨(some 7), .mv (.const (.bool false)), none⟩]
def k114_3 : VC := .seq k114_2 .ret
def k114_4 : VC := .cond (.tmp 33) k114_3 .skip
def k114_5 : VC := .seq k114_1 k114_4
def k114_6 : VC := .reg [⟨(some 8), .mv (.const (.int .u64 0)), none⟩]
def k114_7 : VC := .reg [⟨(some 9), .mv (.const (.int .i64 0)), none⟩]
def k114_8 : VC := .reg [⟨(some 34), .mv (.tmp 9), none⟩,
    ⟨(some 35), .mv (.tmp 2), none⟩,
    ⟨(some 36), .bin .lss (.tmp 34) (.tmp 35), none⟩]
def k114_9 : VC := .cond (.tmp 36) .skip (.exit 0)
def k114_10 : VC := .seq k114_8 k114_9
def k114_11 : VC := .reg [⟨(some 39), .mv (.tmp 8), none⟩,
    ⟨(some 40), .bin .mul (.tmp 39) (.const (.int .u64 256)), none⟩,
    ⟨(some 41), .mv (.tmp 0), none⟩,
    ⟨(some 42), .mv (.tmp 1), none⟩,
    ⟨(some 43), .mv (.tmp 9), none⟩,
    ⟨(some 44), .bin .add (.tmp 42) (.tmp 43), none⟩,
    ⟨(some 45), .idxS (.tmp 41) (.tmp 44), none⟩,
    ⟨(some 46), .conv .u64 (.tmp 45), none⟩,
    ⟨(some 47), .bin .add (.tmp 40) (.tmp 46), none⟩,
    ⟨(some 8), .mv (.tmp 47), none⟩]
def k114_12 : VC := .block 1 k114_11
def k114_13 : VC := .reg [⟨(some 37), .mv (.tmp 9), none⟩,
    ⟨(some 38), .bin .add (.tmp 37) (.const (.int .i64 1)), none⟩,
    ⟨(some 9), .mv (.tmp 38), none⟩]
def k114_14 : VC := .seq k114_12 k114_13
def k114_15 : VC := .seq k114_10 k114_14
def k114_16 : VC := .loop k114_15
def k114_17 : VC := .block 0 k114_16
def k114_18 : VC := .seq k114_7 k114_17
def k114_19 : VC := .reg [⟨(some 48), .mv (.tmp 8), none⟩,
    ⟨(some 6), .mv (.tmp 48), none⟩,
    ⟨(some 7), .mv (.const (.bool true)), none⟩]
def k114_20 : VC := .seq k114_19 .ret
def k114_21 : VC := .seq k114_18 k114_20
def k114_22 : VC := .seq k114_6 k114_21
def k114_23 : VC := .seq k114_5 k114_22
def k114_24 : VC := .seq k114_0 k114_23
def fn114 : VFn := ⟨49, k114_24, [.tmp 6, .tmp 7]⟩
/- 115: cloakroom/cloakroomref03.Add -/
def k115_0 : VC := .reg [⟨(some 2), .mv (.const (.int .i64 0)), none⟩]
def k115_1 : VC := .reg [⟨(some 3), .mv (.const (.int .i64 0)), none⟩]
def k115_2 : VC := .reg [⟨(some 4), .mv (.const (.int .i64 0)), none⟩]
def k115_3 : VC := .reg [⟨(some 5), .mv (.tmp 4), none⟩,
    ⟨(some 6), .mv (.tmp 0), none⟩,
    ⟨(some 7), .lenL (.tmp 6), none⟩,
    ⟨(some 8), .bin .lss (.tmp 5) (.tmp 7), none⟩]
def k115_4 : VC := .cond (.tmp 8) .skip (.exit 0)
def k115_5 : VC := .seq k115_3 k115_4
def k115_6 : VC := .reg [⟨(some 11), .mv (.tmp 3), none⟩,
    ⟨(some 12), .mv (.tmp 0), none⟩,
    ⟨(some 13), .mv (.tmp 4), none⟩,
    ⟨(some 14), .idxAL 1 (.tmp 12) (.tmp 13), none⟩,
    ⟨(some 15), .load1 (.int .i64) (.tmp 14), none⟩,
    ⟨(some 16), .bin .add (.tmp 11) (.tmp 15), none⟩,
    ⟨(some 3), .mv (.tmp 16), none⟩]
def k115_7 : VC := .block 1 k115_6
def k115_8 : VC := .reg [⟨(some 9), .mv (.tmp 4), none⟩,
    ⟨(some 10), .bin .add (.tmp 9) (.const (.int .i64 1)), none⟩,
    ⟨(some 4), .mv (.tmp 10), none⟩]
def k115_9 : VC := .seq k115_7 k115_8
def k115_10 : VC := .seq k115_5 k115_9
def k115_11 : VC := .loop k115_10
def k115_12 : VC := .block 0 k115_11
def k115_13 : VC := .seq k115_2 k115_12
def k115_14 : VC := .reg [⟨(some 17), .mv (.tmp 3), none⟩,
    ⟨(some 18), .bin .gtr (.tmp 17) (.const (.int .i64 65535)), none⟩]
def k115_15 : VC := .cond (.tmp 18) .skip (.exit 2)
def k115_16 : VC := .seq k115_14 k115_15
def k115_17 : VC := .reg [⟨(some 19), .mv (.tmp 3), none⟩,
    ⟨(some 20), .bin .rem (.tmp 19) (.const (.int .i64 65536)), none⟩,
    ⟨(some 21), .mv (.tmp 3), none⟩,
    ⟨(some 22), .bin .quo (.tmp 21) (.const (.int .i64 65536)), none⟩,
    ⟨(some 23), .bin .add (.tmp 20) (.tmp 22), none⟩,
    ⟨(some 3), .mv (.tmp 23), none⟩]
def k115_18 : VC := .block 3 k115_17
def k115_19 : VC := .seq k115_16 k115_18
def k115_20 : VC := .loop k115_19
def k115_21 : VC := .block 2 k115_20
def k115_22 : VC := .reg [⟨(some 24), .mv (.tmp 3), none⟩,
    ⟨(some 2), .mv (.tmp 24), none⟩]
def k115_23 : VC := .seq k115_22 .ret
def k115_24 : VC := .seq k115_21 k115_23
def k115_25 : VC := .seq k115_13 k115_24
def k115_26 : VC := .seq k115_1 k115_25
def k115_27 : VC := .seq k115_0 k115_26
def fn115 : VFn := ⟨25, k115_27, [.tmp 2]⟩
/- 69: cloakroom/cloakroomref03.Set -/
def k69_0 : VC := .reg [⟨(some 8), .mv (.const (.string ⟨⟨[]⟩⟩)), none⟩]
def k69_1 : VC := .reg [⟨(some 12), .mv (.tmp 0), none⟩,
    ⟨(some 13), .mv (.tmp 1), none⟩,
    ⟨(some 14), .mv (.tmp 2), none⟩,
    ⟨(some 15), .callF 114 [(.tmp 12), (.tmp 13), (.tmp 14)], none⟩,
    ⟨(some 11), .mv (.tmp 15), none⟩,
    ⟨(some 16), .extract 0 (.tmp 11), none⟩,
    ⟨(some 17), .extract 1 (.tmp 11), none⟩,
    ⟨(some 9), .mv (.tmp 16), none⟩,
    ⟨(some 10), .mv (.tmp 17), none⟩]
def k69_2 : VC := .reg [⟨(some 18), .mv (.tmp 10), none⟩,
    ⟨(some 19), .not (.tmp 18), none⟩]
def k69_3 : VC := .reg [⟨(some 20), .mv (.tmp 0), none⟩,
    ⟨(some 8), .mv (.tmp 20), none⟩]
def k69_4 : VC := .seq k69_3 .ret
def k69_5 : VC := .cond (.tmp 19) k69_4 .skip
def k69_6 : VC := .seq k69_2 k69_5
def k69_7 : VC := .regD [⟨(some 21), .mv (.tmp 0), none⟩,
    ⟨(some 22), .mv (.tmp 1), none⟩,
    ⟨(some 23), .sliceS (.tmp 21) none (some (.tmp 22)), none⟩,
    ⟨(some 24), .mv (.tmp 3), none⟩,
    ⟨(some 25), .mv (.tmp 2), none⟩,
    ⟨(some 26), .callF 67 [(.tmp 24), (.tmp 25)], none⟩,
    ⟨(some 27), .bin .add (.tmp 23) (.tmp 26), none⟩,
    ⟨(some 28), .mv (.tmp 0), none⟩,
    ⟨(some 29), .mv (.tmp 1), none⟩,
    ⟨(some 30), .mv (.tmp 2), none⟩,
    ⟨(some 31), .bin .add (.tmp 29) (.tmp 30), none⟩,
    ⟨(some 32), .sliceS (.tmp 28) (some (.tmp 31)) none, none⟩] [] [⟨(some 33), .bin .add (.tmp 27) (.tmp 32), none⟩,
    ⟨(some 8), .mv (.tmp 33), none⟩]
def k69_8 : VC := .seq k69_7 .ret
def k69_9 : VC := .seq k69_6 k69_8
def k69_10 : VC := .seq k69_1 k69_9
def k69_11 : VC := .seq k69_0 k69_10
def fn69 : VFn := ⟨34, k69_11, [.tmp 8]⟩
/- 19: cloakroom/cloakroomref08.Get -/
def k19_0 : VC := .reg [⟨(some 4), .box (.tmp 1), none⟩,
    ⟨(some 5), .box (.tmp 2), none⟩,
    ⟨(some 6), .alloc [(.int .i64 0), (.int .i64 0)], none⟩,
    ⟨(some 7), .mv (.const (.string ⟨⟨[]⟩⟩)), none⟩,
    ⟨(some 8), .mv (.const (.int .i64 0)), none⟩]
def k19_1 : VC := .reg [⟨(some 11), .mv (.tmp 0), none⟩,
    ⟨(some 12), .lenS (.tmp 11), none⟩,
    ⟨(some 13), .bin .lss (.tmp 12) (.const (.int .i64 8)), none⟩]
def k19_2 : VC := .reg [⟨(some 14), .build [(.int .i64 0), (.int .i64 0)] [], none⟩,
    ⟨none, .store 2 (.tmp 6) (.tmp 14), none⟩,
    ⟨(some 7), .mv (.const (.string ⟨⟨[]⟩⟩)), none⟩,
    ⟨(some 8), .mv (.const (.int .i64 2)), none⟩]
def k19_3 : VC := .seq k19_2 .ret
def k19_4 : VC := .cond (.tmp 13) k19_3 .skip
def k19_5 : VC := .seq k19_1 k19_4
def k19_6 : VC := .reg [⟨(some 15), .mv (.tmp 0), none⟩,
    ⟨(some 16), .callF 74 [(.tmp 15), (.const (.int .i64 4)), (.const (.int .i64 2))], none⟩,
    ⟨(some 9), .mv (.tmp 16), none⟩]
def k19_7 : VC := .reg [⟨(some 17), .mv (.tmp 9), none⟩,
    ⟨(some 18), .bin .lss (.tmp 17) (.const (.int .i64 8)), none⟩]
def k19_8 : VC := .reg [⟨(some 19), .build [(.int .i64 0), (.int .i64 0)] [], none⟩,
    ⟨none, .store 2 (.tmp 6) (.tmp 19), none⟩,
    ⟨(some 7), .mv (.const (.string ⟨⟨[]⟩⟩)), none⟩,
    ⟨(some 8), .mv (.const (.int .i64 3)), none⟩]
def k19_9 : VC := .seq k19_8 .ret
def k19_10 : VC := .cond (.tmp 18) k19_9 .skip
def k19_11 : VC := .seq k19_7 k19_10
def k19_12 : VC := .reg [⟨(some 20), .mv (.tmp 0), none⟩,
    ⟨(some 21), .lenS (.tmp 20), none⟩,
    ⟨(some 22), .mv (.tmp 9), none⟩,
    ⟨(some 23), .bin .lss (.tmp 21) (.tmp 22), none⟩]
def k19_13 : VC := .reg [⟨(some 24), .build [(.int .i64 0), (.int .i64 0)] [], none⟩,
    ⟨none, .store 2 (.tmp 6) (.tmp 24), none⟩,
    ⟨(some 7), .mv (.const (.string ⟨⟨[]⟩⟩)), none⟩,
    ⟨(some 8), .mv (.const (.int .i64 2)), none⟩]
def k19_14 : VC := .seq k19_13 .ret
def k19_15 : VC := .cond (.tmp 23) k19_14 .skip
def k19_16 : VC := .seq k19_12 k19_15
def k19_17 : VC := .reg [⟨(some 25), .loadN [.bool, (.int .u64), (.int .u64)] (.tmp 4), none⟩,
    ⟨(some 26), .loadN [.bool, (.int .u64), (.int .u64)] (.tmp 5), none⟩,
    ⟨(some 27), .mv (.tmp 9), none⟩,
    ⟨(some 28), .callF 28 [(.tmp 25), (.tmp 26), (.const (.int .i64 17)), (.tmp 27)], none⟩,
    ⟨(some 10), .mv (.tmp 28), none⟩]
def k19_18 : VC := .reg [⟨(some 29), .mv (.tmp 10), none⟩,
    ⟨(some 30), .bin .eql (.tmp 29) (.const (.string ⟨⟨[]⟩⟩)), none⟩]
def k19_19 : VC := .reg [⟨(some 31), .build [(.int .i64 0), (.int .i64 0)] [], none⟩,
    ⟨none, .store 2 (.tmp 6) (.tmp 31), none⟩,
    ⟨(some 7), .mv (.const (.string ⟨⟨[]⟩⟩)), none⟩,
    ⟨(some 8), .mv (.const (.int .i64 1)), none⟩]
def k19_20 : VC := .seq k19_19 .ret
def k19_21 : VC := .cond (.tmp 30) k19_20 .skip
def k19_22 : VC := .seq k19_18 k19_21
def k19_23 : VC := .reg [⟨(some 32), .mv (.tmp 0), none⟩,
    ⟨(some 33), .callF 74 [(.tmp 32), (.const (.int .i64 6)), (.const (.int .i64 2))], none⟩,
    ⟨(some 34), .bin .eql (.tmp 33) (.const (.int .i64 0)), none⟩]
def k19_24 : VC := .reg [⟨(some 35), .fieldA 0 (.tmp 4), none⟩,
    ⟨(some 36), .load1 .bool (.tmp 35), none⟩]
def k19_25 : VC := .reg [⟨(some 37), .build [(.int .i64 0), (.int .i64 0)] [], none⟩,
    ⟨none, .store 2 (.tmp 6) (.tmp 37), none⟩,
    ⟨(some 7), .mv (.const (.string ⟨⟨[]⟩⟩)), none⟩,
    ⟨(some 8), .mv (.const (.int .i64 4)), none⟩]
def k19_26 : VC := .seq k19_25 .ret
def k19_27 : VC := .cond (.tmp 36) k19_26 .skip
def k19_28 : VC := .seq k19_24 k19_27
def k19_29 : VC := .reg [⟨(some 38), .mv (.tmp 10), none⟩,
    ⟨(some 39), .mv (.tmp 0), none⟩,
    ⟨(some 40), .mv (.tmp 9), none⟩,
    ⟨(some 41), .sliceS (.tmp 39) none (some (.tmp 40)), none⟩,
    ⟨(some 42), .bin .add (.tmp 38) (.tmp 41), none⟩,
    ⟨(some 43), .callF 75 [(.tmp 42)], none⟩,
    ⟨(some 44), .bin .neq (.tmp 43) (.const (.int .i64 65535)), none⟩]
def k19_30 : VC := .reg [⟨(some 45), .build [(.int .i64 0), (.int .i64 0)] [], none⟩,
    ⟨none, .store 2 (.tmp 6) (.tmp 45), none⟩,
    ⟨(some 7), .mv (.const (.string ⟨⟨[]⟩⟩)), none⟩,
    ⟨(some 8), .mv (.const (.int .i64 4)), none⟩]
def k19_31 : VC := .seq k19_30 .ret
def k19_32 : VC := .cond (.tmp 44) k19_31 .skip
def k19_33 : VC := .seq k19_29 k19_32
def k19_34 : VC := .cond (.tmp 34) k19_28 k19_33
def k19_35 : VC := .seq k19_23 k19_34
def k19_36 : VC := .regD [⟨(some 46), .mv (.tmp 0), none⟩,
    ⟨(some 47), .callF 74 [(.tmp 46), (.const (.int .i64 0)), (.const (.int .i64 2))], none⟩,
    ⟨(some 48), .mv (.tmp 0), none⟩,
    ⟨(some 49), .callF 74 [(.tmp 48), (.const (.int .i64 2)), (.const (.int .i64 2))], none⟩,
    ⟨(some 50), .build [(.int .i64 0), (.int .i64 0)] [(0, 1, (.tmp 47)), (1, 1, (.tmp 49))], none⟩,
    ⟨(some 51), .mv (.tmp 0), none⟩,
    ⟨(some 52), .mv (.tmp 9), none⟩,
    ⟨(some 53), .sliceS (.tmp 51) (some (.const (.int .i64 8))) (some (.tmp 52)), none⟩,
    ⟨none, .store 2 (.tmp 6) (.tmp 50), none⟩] [] [⟨(some 7), .mv (.tmp 53), none⟩,
    ⟨(some 8), .mv (.const (.int .i64 0)), none⟩]
def k19_37 : VC := .seq k19_36 .ret
def k19_38 : VC := .seq k19_35 k19_37
def k19_39 : VC := .seq k19_22 k19_38
def k19_40 : VC := .seq k19_17 k19_39
def k19_41 : VC := .seq k19_16 k19_40
def k19_42 : VC := .seq k19_11 k19_41
def k19_43 : VC := .seq k19_6 k19_42
def k19_44 : VC := .seq k19_5 k19_43
def k19_45 : VC := .seq k19_0 k19_44
def fn19 : VFn := ⟨54, k19_45, [.cell 6 [(.int .i64), (.int .i64)] true, .tmp 7, .tmp 8]⟩
/- 4: cloakroom/cloakroomlaw08.UdpBack -/
def k4_0 : VC := .reg [⟨(some 6), .box (.tmp 0), none⟩,
    ⟨(some 7), .box (.tmp 1), none⟩,
    ⟨(some 8), .box (.tmp 2), none⟩,
    ⟨(some 12), .mv (.const (.bool false)), none⟩]
def k4_1 : VC := .reg [⟨(some 23), .mv (.tmp 3), none⟩,
    ⟨(some 24), .mv (.tmp 4), none⟩,
    ⟨(some 25), .buildSl 2 1 [(.string ⟨⟨[]⟩⟩), (.string ⟨⟨[]⟩⟩)] [(0, 1, (.tmp 23)), (1, 1, (.tmp 24))], none⟩,
    ⟨(some 26), .callF 14 [(.tmp 25), (.const (.int .i64 200))], none⟩,
    ⟨(some 27), .not (.tmp 26), none⟩]
def k4_2 : VC := .reg [⟨(some 28), .callF 15 [], none⟩,
    ⟨(some 12), .mv (.tmp 28), none⟩]
def k4_3 : VC := .seq k4_2 .ret
def k4_4 : VC := .cond (.tmp 27) k4_3 .skip
def k4_5 : VC := .seq k4_1 k4_4
def k4_6 : VC := .reg [⟨(some 30), .fieldA 0 (.tmp 6), none⟩,
    ⟨(some 31), .load1 (.int .i64) (.tmp 30), none⟩,
    ⟨(some 32), .fieldA 1 (.tmp 6), none⟩,
    ⟨(some 33), .load1 (.int .i64) (.tmp 32), none⟩,
    ⟨(some 34), .build [(.int .i64 0), (.int .i64 0)] [(0, 1, (.tmp 31)), (1, 1, (.tmp 33))], none⟩,
    ⟨(some 35), .loadN [.bool, (.int .u64), (.int .u64)] (.tmp 7), none⟩,
    ⟨(some 36), .loadN [.bool, (.int .u64), (.int .u64)] (.tmp 8), none⟩,
    ⟨(some 37), .mv (.tmp 3), none⟩,
    ⟨(some 38), .callF 16 [(.tmp 34), (.tmp 35), (.tmp 36), (.tmp 37)], none⟩,
    ⟨(some 29), .mv (.tmp 38), none⟩,
    ⟨(some 39), .extract 0 (.tmp 29), none⟩,
    ⟨(some 40), .extract 1 (.tmp 29), none⟩,
    ⟨(some 13), .mv (.tmp 39), none⟩,
    ⟨(some 14), .mv (.tmp 40), none⟩]
def k4_7 : VC := .reg [⟨(some 41), .mv (.tmp 14), none⟩,
    ⟨(some 42), .bin .neq (.tmp 41) (.const (.int .i64 0)), none⟩]
def k4_8 : VC := .reg [⟨(some 43), .mv (.tmp 13), none⟩,
    ⟨(some 44), .bin .eql (.tmp 43) (.const (.string ⟨⟨[]⟩⟩)), none⟩,
    ⟨(some 45), .mv (.tmp 44), none⟩,
    ⟨(some 46), .callF 15 [], (some (45, true))⟩,
    ⟨(some 47), .pick (.tmp 45) (.tmp 46) (.const (.bool false)), none⟩,
    ⟨(some 12), .mv (.tmp 47), none⟩]
def k4_9 : VC := .seq k4_8 .ret
def k4_10 : VC := .cond (.tmp 42) k4_9 .skip
def k4_11 : VC := .seq k4_7 k4_10
def k4_12 : VC := .reg [⟨(some 49), .mv (.tmp 13), none⟩,
    ⟨(some 50), .mv (.tmp 4), none⟩,
    ⟨(some 51), .bin .add (.tmp 49) (.tmp 50), none⟩,
    ⟨(some 52), .loadN [.bool, (.int .u64), (.int .u64)] (.tmp 7), none⟩,
    ⟨(some 53), .loadN [.bool, (.int .u64), (.int .u64)] (.tmp 8), none⟩,
    ⟨(some 54), .callF 18 [(.tmp 51), (.tmp 52), (.tmp 53)], none⟩,
    ⟨(some 48), .mv (.tmp 54), none⟩,
    ⟨(some 55), .extract 0 (.tmp 48), none⟩,
    ⟨(some 56), .extract 1 (.tmp 48), none⟩,
    ⟨(some 57), .extract 2 (.tmp 48), none⟩,
    ⟨(some 15), .alloc [(.int .i64 0), (.int .i64 0)], none⟩,
    ⟨none, .store 2 (.tmp 15) (.tmp 55), none⟩,
    ⟨(some 16), .mv (.tmp 56), none⟩,
    ⟨(some 17), .mv (.tmp 57), none⟩]
def k4_13 : VC := .reg [⟨(some 58), .mv (.tmp 17), none⟩,
    ⟨(some 59), .bin .neq (.tmp 58) (.const (.int .i64 0)), none⟩,
    ⟨(some 60), .mv (.tmp 59), none⟩,
    ⟨(some 61), .fieldA 0 (.tmp 15), (some (60, false))⟩,
    ⟨(some 62), .load1 (.int .i64) (.tmp 61), (some (60, false))⟩,
    ⟨(some 63), .fieldA 0 (.tmp 6), (some (60, false))⟩,
    ⟨(some 64), .load1 (.int .i64) (.tmp 63), (some (60, false))⟩,
    ⟨(some 65), .bin .neq (.tmp 62) (.tmp 64), (some (60, false))⟩,
    ⟨(some 66), .pick (.tmp 60) (.const (.bool true)) (.tmp 65), none⟩,
    ⟨(some 67), .mv (.tmp 66), none⟩,
    ⟨(some 68), .fieldA 1 (.tmp 15), (some (67, false))⟩,
    ⟨(some 69), .load1 (.int .i64) (.tmp 68), (some (67, false))⟩,
    ⟨(some 70), .fieldA 1 (.tmp 6), (some (67, false))⟩,
    ⟨(some 71), .load1 (.int .i64) (.tmp 70), (some (67, false))⟩,
    ⟨(some 72), .bin .neq (.tmp 69) (.tmp 71), (some (67, false))⟩,
    ⟨(some 73), .pick (.tmp 67) (.const (.bool true)) (.tmp 72), none⟩,
    ⟨(some 74), .mv (.tmp 73), none⟩,
    ⟨(some 75), .mv (.tmp 16), (some (74, false))⟩,
    ⟨(some 76), .mv (.tmp 3), (some (74, false))⟩,
    ⟨(some 77), .bin .neq (.tmp 75) (.tmp 76), (some (74, false))⟩,
    ⟨(some 78), .pick (.tmp 74) (.const (.bool true)) (.tmp 77), none⟩,
    ⟨(some 79), .mv (.tmp 78), none⟩,
    ⟨(some 80), .mv (.tmp 13), (some (79, false))⟩,
    ⟨(some 81), .lenS (.tmp 80), (some (79, false))⟩,
    ⟨(some 82), .mv (.tmp 3), (some (79, false))⟩,
    ⟨(some 83), .lenS (.tmp 82), (some (79, false))⟩,
    ⟨(some 84), .bin .add (.const (.int .i64 8)) (.tmp 83), (some (79, false))⟩,
    ⟨(some 85), .bin .neq (.tmp 81) (.tmp 84), (some (79, false))⟩,
    ⟨(some 86), .pick (.tmp 79) (.const (.bool true)) (.tmp 85), none⟩,
    ⟨(some 87), .mv (.tmp 86), none⟩,
    ⟨(some 88), .mv (.tmp 13), (some (87, false))⟩,
    ⟨(some 89), .sliceS (.tmp 88) (some (.const (.int .i64 6))) (some (.const (.int .i64 8))), (some (87, false))⟩,
    ⟨(some 90), .bin .eql (.tmp 89) (.const (.string ⟨⟨[0, 0]⟩⟩)), (some (87, false))⟩,
    ⟨(some 91), .pick (.tmp 87) (.const (.bool true)) (.tmp 90), none⟩]
def k4_14 : VC := .reg [⟨(some 12), .mv (.const (.bool false)), none⟩]
def k4_15 : VC := .seq k4_14 .ret
def k4_16 : VC := .cond (.tmp 91) k4_15 .skip
def k4_17 : VC := .seq k4_13 k4_16
def k4_18 : VC := .reg [⟨(some 92), .mv (.tmp 5), none⟩,
    ⟨(some 93), .conv .i64 (.tmp 92), none⟩,
    ⟨(some 94), .mv (.tmp 13), none⟩,
    ⟨(some 95), .lenS (.tmp 94), none⟩,
    ⟨(some 96), .bin .mul (.const (.int .i64 8)) (.tmp 95), none⟩,
    ⟨(some 97), .bin .sub (.tmp 96) (.const (.int .i64 32)), none⟩,
    ⟨(some 98), .bin .rem (.tmp 93) (.tmp 97), none⟩,
    ⟨(some 18), .mv (.tmp 98), none⟩]
def k4_19 : VC := .reg [⟨(some 99), .mv (.tmp 18), none⟩,
    ⟨(some 100), .bin .geq (.tmp 99) (.const (.int .i64 32)), none⟩]
def k4_20 : VC := .reg [⟨(some 101), .mv (.tmp 18), none⟩,
    ⟨(some 102), .bin .add (.tmp 101) (.const (.int .i64 32)), none⟩,
    ⟨(some 18), .mv (.tmp 102), none⟩]
def k4_21 : VC := .cond (.tmp 100) k4_20 .skip
def k4_22 : VC := .seq k4_19 k4_21
def k4_23 : VC := .reg [⟨(some 103), .mv (.tmp 13), none⟩,
    ⟨(some 104), .s2b (.tmp 103), none⟩,
    ⟨(some 19), .mv (.tmp 104), none⟩]
def k4_24 : VC := .regD [⟨(some 105), .mv (.tmp 19), none⟩,
    ⟨(some 106), .mv (.tmp 18), none⟩,
    ⟨(some 107), .bin .quo (.tmp 106) (.const (.int .i64 8)), none⟩,
    ⟨(some 108), .mv (.tmp 19), none⟩,
    ⟨(some 109), .mv (.tmp 18), none⟩,
    ⟨(some 110), .bin .quo (.tmp 109) (.const (.int .i64 8)), none⟩,
    ⟨(some 111), .idxAL 1 (.tmp 108) (.tmp 110), none⟩,
    ⟨(some 112), .load1 (.int .u8) (.tmp 111), none⟩,
    ⟨(some 113), .mv (.tmp 18), none⟩,
    ⟨(some 114), .bin .rem (.tmp 113) (.const (.int .i64 8)), none⟩,
    ⟨(some 115), .bin .shl (.const (.int .u8 1)) (.tmp 114), none⟩,
    ⟨(some 116), .bin .xor (.tmp 112) (.tmp 115), none⟩] [] [⟨(some 117), .idxAL 1 (.tmp 105) (.tmp 107), none⟩,
    ⟨none, .store 1 (.tmp 117) (.tmp 116), none⟩]
def k4_25 : VC := .reg [⟨(some 119), .mv (.tmp 19), none⟩,
    ⟨(some 120), .b2s (.tmp 119), none⟩,
    ⟨(some 121), .loadN [.bool, (.int .u64), (.int .u64)] (.tmp 7), none⟩,
    ⟨(some 122), .loadN [.bool, (.int .u64), (.int .u64)] (.tmp 8), none⟩,
    ⟨(some 123), .callF 18 [(.tmp 120), (.tmp 121), (.tmp 122)], none⟩,
    ⟨(some 118), .mv (.tmp 123), none⟩,
    ⟨(some 124), .extract 0 (.tmp 118), none⟩,
    ⟨(some 125), .extract 1 (.tmp 118), none⟩,
    ⟨(some 126), .extract 2 (.tmp 118), none⟩,
    ⟨(some 20), .alloc [(.int .i64 0), (.int .i64 0)], none⟩,
    ⟨none, .store 2 (.tmp 20) (.tmp 124), none⟩,
    ⟨(some 21), .mv (.tmp 125), none⟩,
    ⟨(some 22), .mv (.tmp 126), none⟩]
def k4_26 : VC := .reg [⟨(some 127), .mv (.tmp 22), none⟩,
    ⟨(some 128), .bin .eql (.tmp 127) (.const (.int .i64 4)), none⟩,
    ⟨(some 129), .mv (.tmp 128), none⟩,
    ⟨(some 130), .callF 15 [], (some (129, true))⟩,
    ⟨(some 131), .pick (.tmp 129) (.tmp 130) (.const (.bool false)), none⟩,
    ⟨(some 12), .mv (.tmp 131), none⟩]
def k4_27 : VC := .seq k4_26 .ret
def k4_28 : VC := .seq k4_25 k4_27
def k4_29 : VC := .seq k4_24 k4_28
def k4_30 : VC := .seq k4_23 k4_29
def k4_31 : VC := .seq k4_22 k4_30
def k4_32 : VC := .seq k4_18 k4_31
def k4_33 : VC := .seq k4_17 k4_32
def k4_34 : VC := .seq k4_12 k4_33
def k4_35 : VC := .seq k4_11 k4_34
def k4_36 : VC := .seq k4_6 k4_35
def k4_37 : VC := .seq k4_5 k4_36
def k4_38 : VC := .seq k4_0 k4_37
def fn4 : VFn := ⟨132, k4_38, [.tmp 12]⟩
theorem fn3_ok : (Try.prog.funcs[3]?).bind (compFn Try.prog) = some fn3 := by kernel_rfl
theorem fn14_ok : (Try.prog.funcs[14]?).bind (compFn Try.prog) = some fn14 := by kernel_rfl
theorem fn15_ok : (Try.prog.funcs[15]?).bind (compFn Try.prog) = some fn15 := by kernel_rfl
theorem fn16_ok : (Try.prog.funcs[16]?).bind (compFn Try.prog) = some fn16 := by kernel_rfl
theorem fn27_ok : (Try.prog.funcs[27]?).bind (compFn Try.prog) = some fn27 := by kernel_rfl
theorem fn85_ok : (Try.prog.funcs[85]?).bind (compFn Try.prog) = some fn85 := by kernel_rfl
theorem fn78_ok : (Try.prog.funcs[78]?).bind (compFn Try.prog) = some fn78 := by kernel_rfl
theorem fn62_ok : (Try.prog.funcs[62]?).bind (compFn Try.prog) = some fn62 := by kernel_rfl
theorem fn77_ok : (Try.prog.funcs[77]?).bind (compFn Try.prog) = some fn77 := by kernel_rfl
theorem fn61_ok : (Try.prog.funcs[61]?).bind (compFn Try.prog) = some fn61 := by kernel_rfl
theorem fn112_ok : (Try.prog.funcs[112]?).bind (compFn Try.prog) = some fn112 := by kernel_rfl
theorem fn63_ok : (Try.prog.funcs[63]?).bind (compFn Try.prog) = some fn63 := by kernel_rfl
theorem fn60_ok : (Try.prog.funcs[60]?).bind (compFn Try.prog) = some fn60 := by kernel_rfl
theorem fn64_ok : (Try.prog.funcs[64]?).bind (compFn Try.prog) = some fn64 := by kernel_rfl
theorem fn113_ok : (Try.prog.funcs[113]?).bind (compFn Try.prog) = some fn113 := by kernel_rfl
theorem fn130_ok : (Try.prog.funcs[130]?).bind (compFn Try.prog) = some fn130 := by kernel_rfl
theorem fn133_ok : (Try.prog.funcs[133]?).bind (compFn Try.prog) = some fn133 := by kernel_rfl
theorem fn131_ok : (Try.prog.funcs[131]?).bind (compFn Try.prog) = some fn131 := by kernel_rfl
theorem fn65_ok : (Try.prog.funcs[65]?).bind (compFn Try.prog) = some fn65 := by kernel_rfl
theorem fn18_ok : (Try.prog.funcs[18]?).bind (compFn Try.prog) = some fn18 := by kernel_rfl
theorem fn70_ok : (Try.prog.funcs[70]?).bind (compFn Try.prog) = some fn70 := by kernel_rfl
theorem fn71_ok : (Try.prog.funcs[71]?).bind (compFn Try.prog) = some fn71 := by kernel_rfl
theorem fn83_ok : (Try.prog.funcs[83]?).bind (compFn Try.prog) = some fn83 := by kernel_rfl
theorem fn72_ok : (Try.prog.funcs[72]?).bind (compFn Try.prog) = some fn72 := by kernel_rfl
theorem fn101_ok : (Try.prog.funcs[101]?).bind (compFn Try.prog) = some fn101 := by kernel_rfl
theorem fn73_ok : (Try.prog.funcs[73]?).bind (compFn Try.prog) = some fn73 := by kernel_rfl
theorem fn17_ok : (Try.prog.funcs[17]?).bind (compFn Try.prog) = some fn17 := by kernel_rfl
theorem fn28_ok : (Try.prog.funcs[28]?).bind (compFn Try.prog) = some fn28 := by kernel_rfl
theorem fn86_ok : (Try.prog.funcs[86]?).bind (compFn Try.prog) = some fn86 := by kernel_rfl
theorem fn81_ok : (Try.prog.funcs[81]?).bind (compFn Try.prog) = some fn81 := by kernel_rfl
theorem fn67_ok : (Try.prog.funcs[67]?).bind (compFn Try.prog) = some fn67 := by kernel_rfl
theorem fn80_ok : (Try.prog.funcs[80]?).bind (compFn Try.prog) = some fn80 := by kernel_rfl
theorem fn66_ok : (Try.prog.funcs[66]?).bind (compFn Try.prog) = some fn66 := by kernel_rfl
theorem fn68_ok : (Try.prog.funcs[68]?).bind (compFn Try.prog) = some fn68 := by kernel_rfl
theorem fn75_ok : (Try.prog.funcs[75]?).bind (compFn Try.prog) = some fn75 := by kernel_rfl
theorem fn116_ok : (Try.prog.funcs[116]?).bind (compFn Try.prog) = some fn116 := by kernel_rfl
theorem fn74_ok : (Try.prog.funcs[74]?).bind (compFn Try.prog) = some fn74 := by kernel_rfl
theorem fn114_ok : (Try.prog.funcs[114]?).bind (compFn Try.prog) = some fn114 := by kernel_rfl
theorem fn115_ok : (Try.prog.funcs[115]?).bind (compFn Try.prog) = some fn115 := by kernel_rfl
theorem fn69_ok : (Try.prog.funcs[69]?).bind (compFn Try.prog) = some fn69 := by kernel_rfl
theorem fn19_ok : (Try.prog.funcs[19]?).bind (compFn Try.prog) = some fn19 := by kernel_rfl
theorem fn4_ok : (Try.prog.funcs[4]?).bind (compFn Try.prog) = some fn4 := by kernel_rfl
def tab : List (Nat × VFn) := [(3, fn3), (14, fn14), (15, fn15), (16, fn16), (27, fn27), (85, fn85), (78, fn78), (62, fn62), (77, fn77), (61, fn61), (112, fn112), (63, fn63), (60, fn60), (64, fn64), (113, fn113), (130, fn130), (133, fn133), (131, fn131), (65, fn65), (18, fn18), (70, fn70), (71, fn71), (83, fn83), (72, fn72), (101, fn101), (73, fn73), (17, fn17), (28, fn28), (86, fn86), (81, fn81), (67, fn67), (80, fn80), (66, fn66), (68, fn68), (75, fn75), (116, fn116), (74, fn74), (114, fn114), (115, fn115), (69, fn69), (19, fn19), (4, fn4)]
theorem tab_ok : FnsOK Try.prog (aget tab) := FnsOK.of_tab ⟨fn3_ok, fn14_ok, fn15_ok, fn16_ok, fn27_ok, fn85_ok, fn78_ok, fn62_ok, fn77_ok, fn61_ok, fn112_ok, fn63_ok, fn60_ok, fn64_ok, fn113_ok, fn130_ok, fn133_ok, fn131_ok, fn65_ok, fn18_ok, fn70_ok, fn71_ok, fn83_ok, fn72_ok, fn101_ok, fn73_ok, fn17_ok, fn28_ok, fn86_ok, fn81_ok, fn67_ok, fn80_ok, fn66_ok, fn68_ok, fn75_ok, fn116_ok, fn74_ok, fn114_ok, fn115_ok, fn69_ok, fn19_ok, fn4_ok, trivial⟩
end Go.Vm.Code
