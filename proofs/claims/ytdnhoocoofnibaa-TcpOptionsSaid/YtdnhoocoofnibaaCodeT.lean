import Derived.Test.YtdnhoocoofnibaaVmLib
import Derived.Test.YtdnhoocoofnibaaProg
import Derived.KernelRfl
namespace Go.Vm.Code
open Go Go.Vm Go.Proofs
/- 11: cloakroom/cloakroomlaw07.TcpTells -/
def k11_0 : VC := .reg [⟨(some 5), .box (.tmp 0), none⟩,
    ⟨(some 6), .box (.tmp 1), none⟩,
    ⟨(some 7), .box (.tmp 2), none⟩,
    ⟨(some 10), .mv (.const (.bool false)), none⟩]
def k11_1 : VC := .reg [⟨(some 21), .fieldA 7 (.tmp 5), none⟩,
    ⟨(some 22), .load1 .str (.tmp 21), none⟩,
    ⟨(some 23), .mv (.tmp 3), none⟩,
    ⟨(some 24), .mv (.tmp 4), none⟩,
    ⟨(some 25), .buildSl 3 1 [(.string ⟨⟨[]⟩⟩), (.string ⟨⟨[]⟩⟩), (.string ⟨⟨[]⟩⟩)] [(0, 1, (.tmp 22)), (1, 1, (.tmp 23)), (2, 1, (.tmp 24))], none⟩,
    ⟨(some 26), .callF 14 [(.tmp 25), (.const (.int .i64 200))], none⟩,
    ⟨(some 27), .not (.tmp 26), none⟩]
def k11_2 : VC := .reg [⟨(some 28), .callF 47 [], none⟩,
    ⟨(some 10), .mv (.tmp 28), none⟩]
def k11_3 : VC := .seq k11_2 .ret
def k11_4 : VC := .cond (.tmp 27) k11_3 .skip
def k11_5 : VC := .seq k11_1 k11_4
def k11_6 : VC := .regD [⟨(some 30), .loadN [(.int .i64), (.int .i64), (.int .u32), (.int .u32), (.int .i64), (.int .i64), (.int .i64), .str] (.tmp 5), none⟩,
    ⟨(some 31), .callF 49 [(.tmp 30)], none⟩,
    ⟨(some 32), .loadN [.bool, (.int .u64), (.int .u64)] (.tmp 6), none⟩,
    ⟨(some 33), .loadN [.bool, (.int .u64), (.int .u64)] (.tmp 7), none⟩,
    ⟨(some 34), .mv (.tmp 3), none⟩,
    ⟨(some 35), .callF 48 [(.tmp 31), (.tmp 32), (.tmp 33), (.tmp 34)], none⟩,
    ⟨(some 29), .mv (.tmp 35), none⟩,
    ⟨(some 36), .extract 0 (.tmp 29), none⟩,
    ⟨(some 37), .extract 1 (.tmp 29), none⟩,
    ⟨(some 11), .mv (.tmp 36), none⟩] [(1, 2), (1, 3)] [⟨(some 12), .mv (.tmp 37), none⟩]
def k11_7 : VC := .reg [⟨(some 39), .loadN [(.int .i64), (.int .i64), (.int .u32), (.int .u32), (.int .i64), (.int .i64), (.int .i64), .str] (.tmp 5), none⟩,
    ⟨(some 40), .loadN [.bool, (.int .u64), (.int .u64)] (.tmp 6), none⟩,
    ⟨(some 41), .loadN [.bool, (.int .u64), (.int .u64)] (.tmp 7), none⟩,
    ⟨(some 42), .mv (.tmp 3), none⟩,
    ⟨(some 43), .callF 50 [(.tmp 39), (.tmp 40), (.tmp 41), (.tmp 42)], none⟩,
    ⟨(some 38), .mv (.tmp 43), none⟩,
    ⟨(some 44), .extract 0 (.tmp 38), none⟩,
    ⟨(some 45), .extract 1 (.tmp 38), none⟩,
    ⟨(some 13), .mv (.tmp 44), none⟩,
    ⟨(some 14), .mv (.tmp 45), none⟩]
def k11_8 : VC := .reg [⟨(some 47), .mv (.tmp 4), none⟩,
    ⟨(some 48), .loadN [.bool, (.int .u64), (.int .u64)] (.tmp 6), none⟩,
    ⟨(some 49), .loadN [.bool, (.int .u64), (.int .u64)] (.tmp 7), none⟩,
    ⟨(some 50), .callF 51 [(.tmp 47), (.tmp 48), (.tmp 49)], none⟩,
    ⟨(some 46), .mv (.tmp 50), none⟩,
    ⟨(some 51), .extract 0 (.tmp 46), none⟩,
    ⟨(some 52), .extract 1 (.tmp 46), none⟩,
    ⟨(some 53), .extract 2 (.tmp 46), none⟩,
    ⟨(some 15), .alloc [(.int .i64 0), (.int .i64 0), (.int .u32 0), (.int .u32 0), (.int .i64 0), (.int .i64 0), (.int .i64 0), (.string ⟨⟨[]⟩⟩)], none⟩,
    ⟨none, .store 8 (.tmp 15) (.tmp 51), none⟩,
    ⟨(some 16), .mv (.tmp 52), none⟩,
    ⟨(some 17), .mv (.tmp 53), none⟩]
def k11_9 : VC := .reg [⟨(some 55), .mv (.tmp 4), none⟩,
    ⟨(some 56), .loadN [.bool, (.int .u64), (.int .u64)] (.tmp 6), none⟩,
    ⟨(some 57), .loadN [.bool, (.int .u64), (.int .u64)] (.tmp 7), none⟩,
    ⟨(some 58), .callF 52 [(.tmp 55), (.tmp 56), (.tmp 57)], none⟩,
    ⟨(some 54), .mv (.tmp 58), none⟩,
    ⟨(some 59), .extract 0 (.tmp 54), none⟩,
    ⟨(some 60), .extract 1 (.tmp 54), none⟩,
    ⟨(some 61), .extract 2 (.tmp 54), none⟩,
    ⟨(some 18), .alloc [(.int .i64 0), (.int .i64 0), (.int .u32 0), (.int .u32 0), (.int .i64 0), (.int .i64 0), (.int .i64 0), (.string ⟨⟨[]⟩⟩)], none⟩,
    ⟨none, .store 8 (.tmp 18) (.tmp 59), none⟩,
    ⟨(some 19), .mv (.tmp 60), none⟩,
    ⟨(some 20), .mv (.tmp 61), none⟩]
def k11_10 : VC := .regD [⟨(some 62), .mv (.tmp 11), none⟩,
    ⟨(some 63), .mv (.tmp 13), none⟩,
    ⟨(some 64), .bin .eql (.tmp 62) (.tmp 63), none⟩,
    ⟨(some 65), .mv (.tmp 64), none⟩,
    ⟨(some 66), .mv (.tmp 12), (some (65, true))⟩,
    ⟨(some 67), .mv (.tmp 14), (some (65, true))⟩,
    ⟨(some 68), .bin .eql (.tmp 66) (.tmp 67), (some (65, true))⟩,
    ⟨(some 69), .pick (.tmp 65) (.tmp 68) (.const (.bool false)), none⟩,
    ⟨(some 70), .mv (.tmp 69), none⟩,
    ⟨(some 71), .loadN [(.int .i64), (.int .i64), (.int .u32), (.int .u32), (.int .i64), (.int .i64), (.int .i64), .str] (.tmp 15), (some (70, true))⟩,
    ⟨(some 72), .callF 53 [(.tmp 71)], (some (70, true))⟩,
    ⟨(some 73), .loadN [(.int .i64), (.int .i64), (.int .u32), (.int .u32), (.int .i64), (.int .i64), (.int .i64), .str] (.tmp 18), (some (70, true))⟩,
    ⟨(some 74), .eqAgg false [(0, (.int .i64)), (1, (.int .i64)), (2, (.int .u32)), (3, (.int .u32)), (4, (.int .i64)), (5, (.int .i64)), (6, (.int .i64)), (7, .str)] (.tmp 72) (.tmp 73), (some (70, true))⟩,
    ⟨(some 75), .pick (.tmp 70) (.tmp 74) (.const (.bool false)), none⟩,
    ⟨(some 76), .mv (.tmp 75), none⟩,
    ⟨(some 77), .mv (.tmp 16), (some (76, true))⟩,
    ⟨(some 78), .mv (.tmp 19), (some (76, true))⟩,
    ⟨(some 79), .bin .eql (.tmp 77) (.tmp 78), (some (76, true))⟩,
    ⟨(some 80), .pick (.tmp 76) (.tmp 79) (.const (.bool false)), none⟩,
    ⟨(some 81), .mv (.tmp 80), none⟩,
    ⟨(some 82), .mv (.tmp 17), (some (81, true))⟩,
    ⟨(some 83), .mv (.tmp 20), (some (81, true))⟩] [(10, 11)] [⟨(some 84), .bin .eql (.tmp 82) (.tmp 83), (some (81, true))⟩,
    ⟨(some 85), .pick (.tmp 81) (.tmp 84) (.const (.bool false)), none⟩,
    ⟨(some 86), .mv (.tmp 85), none⟩,
    ⟨(some 87), .callF 47 [], (some (86, true))⟩,
    ⟨(some 88), .pick (.tmp 86) (.tmp 87) (.const (.bool false)), none⟩,
    ⟨(some 10), .mv (.tmp 88), none⟩]
def k11_11 : VC := .seq k11_10 .ret
def k11_12 : VC := .seq k11_9 k11_11
def k11_13 : VC := .seq k11_8 k11_12
def k11_14 : VC := .seq k11_7 k11_13
def k11_15 : VC := .seq k11_6 k11_14
def k11_16 : VC := .seq k11_5 k11_15
def k11_17 : VC := .seq k11_0 k11_16
def fn11 : VFn := ⟨89, k11_17, [.tmp 10]⟩
/- 14: cloakroom/cloakroomref07.Small -/
def k14_0 : VC := .reg [⟨(some 4), .mv (.const (.bool false)), none⟩]
def k14_1 : VC := .reg [⟨(some 5), .mv (.const (.int .i64 0)), none⟩]
def k14_2 : VC := .reg [⟨(some 6), .mv (.tmp 5), none⟩,
    ⟨(some 7), .mv (.tmp 0), none⟩,
    ⟨(some 8), .lenL (.tmp 7), none⟩,
    ⟨(some 9), .bin .lss (.tmp 6) (.tmp 8), none⟩]
def k14_3 : VC := .cond (.tmp 9) .skip (.exit 0)
def k14_4 : VC := .seq k14_2 k14_3
def k14_5 : VC := .reg [⟨(some 12), .mv (.tmp 0), none⟩,
    ⟨(some 13), .mv (.tmp 5), none⟩,
    ⟨(some 14), .idxAL 1 (.tmp 12) (.tmp 13), none⟩,
    ⟨(some 15), .load1 .str (.tmp 14), none⟩,
    ⟨(some 16), .lenS (.tmp 15), none⟩,
    ⟨(some 17), .mv (.tmp 1), none⟩,
    ⟨(some 18), .bin .gtr (.tmp 16) (.tmp 17), none⟩]
def k14_6 : VC := .reg [⟨(some 4), .mv (.const (.bool false)), none⟩]
def k14_7 : VC := .seq k14_6 .ret
def k14_8 : VC := .cond (.tmp 18) k14_7 .skip
def k14_9 : VC := .seq k14_5 k14_8
def k14_10 : VC := .block 1 k14_9
def k14_11 : VC := .reg [⟨(some 10), .mv (.tmp 5), none⟩,
    ⟨(some 11), .bin .add (.tmp 10) (.const (.int .i64 1)), none⟩,
    ⟨(some 5), .mv (.tmp 11), none⟩]
def k14_12 : VC := .seq k14_10 k14_11
def k14_13 : VC := .seq k14_4 k14_12
def k14_14 : VC := .loop k14_13
def k14_15 : VC := .block 0 k14_14
def k14_16 : VC := .seq k14_1 k14_15
def k14_17 : VC := .reg [⟨(some 4), .mv (.const (.bool true)), none⟩]
def k14_18 : VC := .seq k14_17 .ret
def k14_19 : VC := .seq k14_16 k14_18
def k14_20 : VC := .seq k14_0 k14_19
def fn14 : VFn := ⟨19, k14_20, [.tmp 4]⟩
/- 47: cloakroom/cloakroomlaw07.awake -/
def k47_0 : VC := .reg [⟨(some 0), .mv (.const (.bool false)), none⟩]
def k47_1 : VC := .reg [⟨(some 12), .callF 58 [(.const (.int .u32 5)), (.const (.int .u32 6))], none⟩,
    ⟨(some 13), .callF 56 [(.tmp 12)], none⟩,
    ⟨(some 11), .mv (.tmp 13), none⟩,
    ⟨(some 14), .extract 0 (.tmp 11), none⟩,
    ⟨(some 15), .extract 1 (.tmp 11), none⟩,
    ⟨(some 16), .extract 2 (.tmp 11), none⟩,
    ⟨(some 1), .mv (.tmp 14), none⟩,
    ⟨(some 2), .mv (.tmp 15), none⟩,
    ⟨(some 3), .mv (.tmp 16), none⟩]
def k47_2 : VC := .reg [⟨(some 18), .build [(.int .i64 0), (.int .i64 0), (.int .u32 0), (.int .u32 0), (.int .i64 0), (.int .i64 0), (.int .i64 0), (.string ⟨⟨[]⟩⟩)] [(0, 1, (.const (.int .i64 1))), (1, 1, (.const (.int .i64 2)))], none⟩,
    ⟨(some 19), .build [(.bool false), (.int .u64 0), (.int .u64 0)] [(2, 1, (.const (.int .u64 1)))], none⟩,
    ⟨(some 20), .build [(.bool false), (.int .u64 0), (.int .u64 0)] [(2, 1, (.const (.int .u64 2)))], none⟩,
    ⟨(some 21), .callF 48 [(.tmp 18), (.tmp 19), (.tmp 20), (.const (.string ⟨⟨[97]⟩⟩))], none⟩,
    ⟨(some 17), .mv (.tmp 21), none⟩,
    ⟨(some 22), .extract 0 (.tmp 17), none⟩,
    ⟨(some 23), .extract 1 (.tmp 17), none⟩,
    ⟨(some 4), .mv (.tmp 22), none⟩,
    ⟨(some 5), .mv (.tmp 23), none⟩]
def k47_3 : VC := .reg [⟨(some 25), .mv (.tmp 4), none⟩,
    ⟨(some 26), .build [(.bool false), (.int .u64 0), (.int .u64 0)] [(2, 1, (.const (.int .u64 1)))], none⟩,
    ⟨(some 27), .build [(.bool false), (.int .u64 0), (.int .u64 0)] [(2, 1, (.const (.int .u64 2)))], none⟩,
    ⟨(some 28), .callF 51 [(.tmp 25), (.tmp 26), (.tmp 27)], none⟩,
    ⟨(some 24), .mv (.tmp 28), none⟩,
    ⟨(some 29), .extract 0 (.tmp 24), none⟩,
    ⟨(some 30), .extract 1 (.tmp 24), none⟩,
    ⟨(some 31), .extract 2 (.tmp 24), none⟩,
    ⟨(some 6), .alloc [(.int .i64 0), (.int .i64 0), (.int .u32 0), (.int .u32 0), (.int .i64 0), (.int .i64 0), (.int .i64 0), (.string ⟨⟨[]⟩⟩)], none⟩,
    ⟨none, .store 8 (.tmp 6) (.tmp 29), none⟩,
    ⟨(some 7), .mv (.tmp 30), none⟩,
    ⟨(some 8), .mv (.tmp 31), none⟩]
def k47_4 : VC := .reg [⟨(some 33), .callF 54 [(.const (.string ⟨⟨[5]⟩⟩))], none⟩,
    ⟨(some 32), .mv (.tmp 33), none⟩,
    ⟨(some 34), .extract 0 (.tmp 32), none⟩,
    ⟨(some 35), .extract 1 (.tmp 32), none⟩,
    ⟨(some 9), .mv (.tmp 34), none⟩,
    ⟨(some 10), .mv (.tmp 35), none⟩]
def k47_5 : VC := .reg [⟨(some 36), .mv (.tmp 1), none⟩,
    ⟨(some 37), .bin .eql (.tmp 36) (.const (.int .u32 5)), none⟩,
    ⟨(some 38), .mv (.tmp 37), none⟩,
    ⟨(some 39), .mv (.tmp 2), (some (38, true))⟩,
    ⟨(some 40), .bin .eql (.tmp 39) (.const (.int .u32 6)), (some (38, true))⟩,
    ⟨(some 41), .pick (.tmp 38) (.tmp 40) (.const (.bool false)), none⟩,
    ⟨(some 42), .mv (.tmp 41), none⟩,
    ⟨(some 43), .mv (.tmp 3), (some (42, true))⟩,
    ⟨(some 44), .bin .eql (.tmp 43) (.const (.int .i64 4)), (some (42, true))⟩,
    ⟨(some 45), .pick (.tmp 42) (.tmp 44) (.const (.bool false)), none⟩,
    ⟨(some 46), .mv (.tmp 45), none⟩,
    ⟨(some 47), .mv (.tmp 5), (some (46, true))⟩,
    ⟨(some 48), .bin .eql (.tmp 47) (.const (.int .i64 0)), (some (46, true))⟩,
    ⟨(some 49), .pick (.tmp 46) (.tmp 48) (.const (.bool false)), none⟩,
    ⟨(some 50), .mv (.tmp 49), none⟩,
    ⟨(some 51), .mv (.tmp 4), (some (50, true))⟩,
    ⟨(some 52), .lenS (.tmp 51), (some (50, true))⟩,
    ⟨(some 53), .bin .eql (.tmp 52) (.const (.int .i64 21)), (some (50, true))⟩,
    ⟨(some 54), .pick (.tmp 50) (.tmp 53) (.const (.bool false)), none⟩,
    ⟨(some 55), .mv (.tmp 54), none⟩,
    ⟨(some 56), .mv (.tmp 8), (some (55, true))⟩,
    ⟨(some 57), .bin .eql (.tmp 56) (.const (.int .i64 0)), (some (55, true))⟩,
    ⟨(some 58), .pick (.tmp 55) (.tmp 57) (.const (.bool false)), none⟩,
    ⟨(some 59), .mv (.tmp 58), none⟩,
    ⟨(some 60), .mv (.tmp 7), (some (59, true))⟩,
    ⟨(some 61), .bin .eql (.tmp 60) (.const (.string ⟨⟨[97]⟩⟩)), (some (59, true))⟩,
    ⟨(some 62), .pick (.tmp 59) (.tmp 61) (.const (.bool false)), none⟩,
    ⟨(some 63), .mv (.tmp 62), none⟩,
    ⟨(some 64), .mv (.tmp 10), (some (63, true))⟩,
    ⟨(some 65), .bin .eql (.tmp 64) (.const (.int .i64 3)), (some (63, true))⟩,
    ⟨(some 66), .pick (.tmp 63) (.tmp 65) (.const (.bool false)), none⟩,
    ⟨(some 0), .mv (.tmp 66), none⟩]
def k47_6 : VC := .seq k47_5 .ret
def k47_7 : VC := .seq k47_4 k47_6
def k47_8 : VC := .seq k47_3 k47_7
def k47_9 : VC := .seq k47_2 k47_8
def k47_10 : VC := .seq k47_1 k47_9
def k47_11 : VC := .seq k47_0 k47_10
def fn47 : VFn := ⟨67, k47_11, [.tmp 0]⟩
/- 58: cloakroom/tcp.Stamped -/
def k58_0 : VC := .reg [⟨(some 4), .mv (.const (.string ⟨⟨[]⟩⟩)), none⟩]
def k58_1 : VC := .reg [⟨(some 5), .callF 62 [(.const (.int .u64 16844810)), (.const (.int .i64 4))], none⟩,
    ⟨(some 6), .mv (.tmp 0), none⟩,
    ⟨(some 7), .conv .u64 (.tmp 6), none⟩,
    ⟨(some 8), .bin .shl (.tmp 7) (.const (.int .u64 32)), none⟩,
    ⟨(some 9), .mv (.tmp 1), none⟩,
    ⟨(some 10), .conv .u64 (.tmp 9), none⟩,
    ⟨(some 11), .bin .or (.tmp 8) (.tmp 10), none⟩,
    ⟨(some 12), .callF 62 [(.tmp 11), (.const (.int .i64 8))], none⟩,
    ⟨(some 13), .bin .add (.tmp 5) (.tmp 12), none⟩,
    ⟨(some 4), .mv (.tmp 13), none⟩]
def k58_2 : VC := .seq k58_1 .ret
def k58_3 : VC := .seq k58_0 k58_2
def fn58 : VFn := ⟨14, k58_3, [.tmp 4]⟩
/- 62: cloakroom/octet.Put -/
def k62_0 : VC := .reg [⟨(some 4), .mv (.const (.string ⟨⟨[]⟩⟩)), none⟩]
def k62_1 : VC := .reg [⟨(some 7), .mv (.tmp 1), none⟩,
    ⟨(some 8), .bin .lss (.tmp 7) (.const (.int .i64 1)), none⟩,
    ⟨(some 9), .mv (.tmp 8), none⟩,
    ⟨(some 10), .mv (.tmp 1), (some (9, false))⟩,
    ⟨(some 11), .bin .gtr (.tmp 10) (.const (.int .i64 8)), (some (9, false))⟩,
    ⟨(some 12), .pick (.tmp 9) (.const (.bool true)) (.tmp 11), none⟩]
def k62_2 : VC := .reg [⟨(some 4), .mv (.const (.string ⟨⟨[]⟩⟩)), none⟩]
def k62_3 : VC := .seq k62_2 .ret
def k62_4 : VC := .cond (.tmp 12) k62_3 .skip
def k62_5 : VC := .seq k62_1 k62_4
def k62_6 : VC := .reg [⟨(some 13), .mv (.tmp 1), none⟩,
    ⟨(some 14), .mkSl 1 1 [(.int .u8 0)] (.tmp 13) (.tmp 13), none⟩,
    ⟨(some 5), .mv (.tmp 14), none⟩]
def k62_7 : VC := .reg [⟨(some 15), .mv (.tmp 5), none⟩,
    ⟨(some 16), .lenL (.tmp 15), none⟩,
    ⟨(some 17), .mv (.const (.int .i64 0)), none⟩]
def k62_8 : VC := .reg [⟨(some 18), .bin .lss (.tmp 17) (.tmp 16), none⟩]
def k62_9 : VC := .cond (.tmp 18) .skip (.exit 0)
def k62_10 : VC := .reg [⟨(some 19), .mv (.tmp 17), none⟩,
    ⟨(some 6), .mv (.tmp 19), none⟩]
def k62_11 : VC := .reg [⟨(some 20), .mv (.tmp 5), none⟩,
    ⟨(some 21), .mv (.tmp 6), none⟩,
    ⟨(some 22), .mv (.tmp 0), none⟩,
    ⟨(some 23), .mv (.tmp 1), none⟩,
    ⟨(some 24), .bin .sub (.tmp 23) (.const (.int .i64 1)), none⟩,
    ⟨(some 25), .mv (.tmp 6), none⟩,
    ⟨(some 26), .bin .sub (.tmp 24) (.tmp 25), none⟩,
    ⟨(some 27), .bin .mul (.const (.int .i64 8)) (.tmp 26), none⟩,
    ⟨(some 28), .bin .shr (.tmp 22) (.tmp 27), none⟩,
    ⟨(some 29), .conv .u8 (.tmp 28), none⟩,
    ⟨(some 30), .idxAL 1 (.tmp 20) (.tmp 21), none⟩,
    ⟨none, .store 1 (.tmp 30) (.tmp 29), none⟩]
def k62_12 : VC := .seq k62_10 k62_11
def k62_13 : VC := .block 1 k62_12
def k62_14 : VC := .reg [⟨(some 31), .bin .add (.tmp 17) (.const (.int .i64 1)), none⟩,
    ⟨(some 17), .mv (.tmp 31), none⟩]
def k62_15 : VC := .seq k62_13 k62_14
def k62_16 : VC := .seq k62_9 k62_15
def k62_17 : VC := .seq k62_8 k62_16
def k62_18 : VC := .loop k62_17
def k62_19 : VC := .block 0 k62_18
def k62_20 : VC := .seq k62_7 k62_19
def k62_21 : VC := .reg [⟨(some 32), .mv (.tmp 5), none⟩,
    ⟨(some 33), .b2s (.tmp 32), none⟩,
    ⟨(some 4), .mv (.tmp 33), none⟩]
def k62_22 : VC := .seq k62_21 .ret
def k62_23 : VC := .seq k62_20 k62_22
def k62_24 : VC := .seq k62_6 k62_23
def k62_25 : VC := .seq k62_5 k62_24
def k62_26 : VC := .seq k62_0 k62_25
def fn62 : VFn := ⟨34, k62_26, [.tmp 4]⟩
/- 56: cloakroom/tcp.Stamp -/
def k56_0 : VC := .reg [⟨(some 2), .alloc [(.int .u32 0)], none⟩,
    ⟨(some 3), .alloc [(.int .u32 0)], none⟩,
    ⟨(some 4), .alloc [(.int .i64 0)], none⟩]
def k56_1 : VC := .reg [⟨(some 11), .mv (.tmp 0), none⟩,
    ⟨(some 12), .callF 54 [(.tmp 11)], none⟩,
    ⟨(some 10), .mv (.tmp 12), none⟩,
    ⟨(some 13), .extract 0 (.tmp 10), none⟩,
    ⟨(some 14), .extract 1 (.tmp 10), none⟩,
    ⟨(some 5), .mv (.tmp 13), none⟩,
    ⟨(some 6), .mv (.tmp 14), none⟩]
def k56_2 : VC := .reg [⟨(some 15), .mv (.tmp 6), none⟩,
    ⟨(some 16), .bin .neq (.tmp 15) (.const (.int .i64 0)), none⟩]
def k56_3 : VC := .reg [⟨none, .store 1 (.tmp 2) (.const (.int .u32 0)), none⟩,
    ⟨none, .store 1 (.tmp 3) (.const (.int .u32 0)), none⟩,
    ⟨none, .store 1 (.tmp 4) (.const (.int .i64 (-1))), none⟩]
def k56_4 : VC := .seq k56_3 .ret
def k56_5 : VC := .cond (.tmp 16) k56_4 .skip
def k56_6 : VC := .seq k56_2 k56_5
def k56_7 : VC := .seq k56_1 k56_6
def k56_8 : VC := .reg [⟨(some 17), .mv (.tmp 0), none⟩,
    ⟨(some 18), .callF 111 [(.tmp 17)], none⟩]
def k56_9 : VC := .reg [⟨(some 7), .alloc [(.int .i64 0), (.string ⟨⟨[]⟩⟩), (.int .i64 0)], none⟩,
    ⟨none, .store 3 (.tmp 7) (.tmp 19), none⟩]
def k56_10 : VC := .reg [⟨(some 20), .fieldA 0 (.tmp 7), none⟩,
    ⟨(some 21), .fieldA 0 (.tmp 20), none⟩,
    ⟨(some 22), .load1 (.int .i64) (.tmp 21), none⟩,
    ⟨(some 23), .bin .neq (.tmp 22) (.const (.int .i64 8)), none⟩]
def k56_11 : VC := .cond (.tmp 23) (.exit 1) .skip
def k56_12 : VC := .seq k56_10 k56_11
def k56_13 : VC := .reg [⟨(some 25), .fieldA 0 (.tmp 7), none⟩,
    ⟨(some 26), .fieldA 1 (.tmp 25), none⟩,
    ⟨(some 27), .load1 .str (.tmp 26), none⟩,
    ⟨(some 28), .callF 101 [(.tmp 27), (.const (.int .i64 0)), (.const (.int .i64 8))], none⟩,
    ⟨(some 24), .mv (.tmp 28), none⟩,
    ⟨(some 29), .extract 0 (.tmp 24), none⟩,
    ⟨(some 30), .extract 1 (.tmp 24), none⟩,
    ⟨(some 8), .mv (.tmp 29), none⟩,
    ⟨(some 9), .mv (.tmp 30), none⟩]
def k56_14 : VC := .reg [⟨(some 31), .mv (.tmp 9), none⟩,
    ⟨(some 32), .mv (.tmp 31), none⟩,
    ⟨(some 33), .fieldA 0 (.tmp 7), (some (32, true))⟩,
    ⟨(some 34), .fieldA 1 (.tmp 33), (some (32, true))⟩,
    ⟨(some 35), .load1 .str (.tmp 34), (some (32, true))⟩,
    ⟨(some 36), .lenS (.tmp 35), (some (32, true))⟩,
    ⟨(some 37), .bin .eql (.tmp 36) (.const (.int .i64 8)), (some (32, true))⟩,
    ⟨(some 38), .pick (.tmp 32) (.tmp 37) (.const (.bool false)), none⟩]
def k56_15 : VC := .regD [⟨(some 39), .mv (.tmp 8), none⟩,
    ⟨(some 40), .bin .shr (.tmp 39) (.const (.int .u64 32)), none⟩,
    ⟨(some 41), .conv .u32 (.tmp 40), none⟩,
    ⟨(some 42), .mv (.tmp 8), none⟩,
    ⟨(some 43), .conv .u32 (.tmp 42), none⟩,
    ⟨(some 44), .fieldA 2 (.tmp 7), none⟩,
    ⟨(some 45), .load1 (.int .i64) (.tmp 44), none⟩,
    ⟨none, .store 1 (.tmp 2) (.tmp 41), none⟩,
    ⟨none, .store 1 (.tmp 3) (.tmp 43), none⟩] [(6, 7), (6, 8)] [⟨none, .store 1 (.tmp 4) (.tmp 45), none⟩]
def k56_16 : VC := .seq k56_15 .ret
def k56_17 : VC := .cond (.tmp 38) k56_16 .skip
def k56_18 : VC := .seq k56_14 k56_17
def k56_19 : VC := .seq k56_13 k56_18
def k56_20 : VC := .seq k56_19 (.exit 0)
def k56_21 : VC := .seq k56_12 k56_20
def k56_22 : VC := .block 1 k56_21
def k56_23 : VC := .rangeF (.tmp 18) [19] k56_9 k56_22
def k56_24 : VC := .block 0 k56_23
def k56_25 : VC := .seq k56_8 k56_24
def k56_26 : VC := .reg [⟨none, .store 1 (.tmp 2) (.const (.int .u32 0)), none⟩,
    ⟨none, .store 1 (.tmp 3) (.const (.int .u32 0)), none⟩,
    ⟨none, .store 1 (.tmp 4) (.const (.int .i64 (-1))), none⟩]
def k56_27 : VC := .seq k56_26 .ret
def k56_28 : VC := .seq k56_25 k56_27
def k56_29 : VC := .seq k56_7 k56_28
def k56_30 : VC := .seq k56_0 k56_29
def fn56 : VFn := ⟨46, k56_30, [.cell 2 [(.int .u32)] false, .cell 3 [(.int .u32)] false, .cell 4 [(.int .i64)] false]⟩
/- 54: cloakroom/tcp.List -/
def k54_0 : VC := .reg [⟨(some 2), .alloc [(.slice none 0 0)], none⟩,
    ⟨(some 3), .alloc [(.int .i64 0)], none⟩]
def k54_1 : VC := .reg [⟨(some 4), .alloc [(.slice none 0 0)], none⟩]
def k54_2 : VC := .reg [⟨(some 6), .mv (.tmp 0), none⟩,
    ⟨(some 7), .callF 111 [(.tmp 6)], none⟩]
def k54_3 : VC := .reg [⟨(some 5), .alloc [(.int .i64 0), (.string ⟨⟨[]⟩⟩), (.int .i64 0)], none⟩,
    ⟨none, .store 3 (.tmp 5) (.tmp 8), none⟩]
def k54_4 : VC := .reg [⟨(some 9), .fieldA 2 (.tmp 5), none⟩,
    ⟨(some 10), .load1 (.int .i64) (.tmp 9), none⟩,
    ⟨(some 11), .bin .lss (.tmp 10) (.const (.int .i64 0)), none⟩]
def k54_5 : VC := .reg [⟨none, .store 1 (.tmp 2) (.const (.slice none 0 0)), none⟩,
    ⟨none, .store 1 (.tmp 3) (.const (.int .i64 3)), none⟩]
def k54_6 : VC := .seq k54_5 .ret
def k54_7 : VC := .cond (.tmp 11) k54_6 .skip
def k54_8 : VC := .seq k54_4 k54_7
def k54_9 : VC := .reg [⟨(some 12), .load1 .oth (.tmp 4), none⟩,
    ⟨(some 13), .fieldA 0 (.tmp 5), none⟩,
    ⟨(some 14), .loadN [(.int .i64), .str] (.tmp 13), none⟩,
    ⟨(some 15), .buildSl 1 2 [(.int .i64 0), (.string ⟨⟨[]⟩⟩)] [(0, 2, (.tmp 14))], none⟩,
    ⟨(some 16), .app 103 2 24 (.tmp 12) (.tmp 15), none⟩,
    ⟨none, .store 1 (.tmp 4) (.tmp 16), none⟩]
def k54_10 : VC := .seq k54_8 k54_9
def k54_11 : VC := .block 1 k54_10
def k54_12 : VC := .rangeF (.tmp 7) [8] k54_3 k54_11
def k54_13 : VC := .block 0 k54_12
def k54_14 : VC := .seq k54_2 k54_13
def k54_15 : VC := .reg [⟨(some 17), .load1 .oth (.tmp 4), none⟩,
    ⟨none, .store 1 (.tmp 2) (.tmp 17), none⟩,
    ⟨none, .store 1 (.tmp 3) (.const (.int .i64 0)), none⟩]
def k54_16 : VC := .seq k54_15 .ret
def k54_17 : VC := .seq k54_14 k54_16
def k54_18 : VC := .seq k54_1 k54_17
def k54_19 : VC := .seq k54_0 k54_18
def fn54 : VFn := ⟨18, k54_19, [.cell 2 [.oth] false, .cell 3 [(.int .i64)] false]⟩
/- 111: cloakroom/tcp.options -/
def k111_0 : VC := .reg [⟨(some 1), .box (.tmp 0), none⟩,
    ⟨(some 2), .mv (.const .nilFunc), none⟩]
def k111_1 : VC := .reg [⟨(some 3), .mkFunc 128 [] [(.tmp 1)], none⟩,
    ⟨(some 2), .mv (.tmp 3), none⟩]
def k111_2 : VC := .seq k111_1 .ret
def k111_3 : VC := .seq k111_0 k111_2
def fn111 : VFn := ⟨4, k111_3, [.tmp 2]⟩
/- 128: cloakroom/tcp.options$1 -/
def k128_0 : VC := .reg [⟨(some 3), .mv (.const (.int .i64 0)), none⟩]
def k128_1 : VC := .reg [⟨(some 5), .mv (.tmp 3), none⟩,
    ⟨(some 6), .load1 .str (.tmp 1), none⟩,
    ⟨(some 7), .lenS (.tmp 6), none⟩,
    ⟨(some 8), .bin .lss (.tmp 5) (.tmp 7), none⟩]
def k128_2 : VC := .cond (.tmp 8) .skip (.exit 0)
def k128_3 : VC := .seq k128_1 k128_2
def k128_4 : VC := .reg [⟨(some 9), .load1 .str (.tmp 1), none⟩,
    ⟨(some 10), .mv (.tmp 3), none⟩,
    ⟨(some 11), .idxS (.tmp 9) (.tmp 10), none⟩]
def k128_5 : VC := .reg [⟨(some 13), .bin .eql (.tmp 11) (.const (.int .u8 0)), none⟩,
    ⟨(some 12), .mv (.tmp 13), none⟩]
def k128_6 : VC := .reg [⟨(some 15), .bin .eql (.tmp 11) (.const (.int .u8 1)), none⟩,
    ⟨(some 14), .mv (.tmp 15), none⟩]
def k128_7 : VC := .reg [⟨(some 16), .mv (.tmp 3), none⟩,
    ⟨(some 17), .bin .add (.tmp 16) (.const (.int .i64 1)), none⟩,
    ⟨(some 3), .mv (.tmp 17), none⟩]
def k128_8 : VC := .seq k128_7 (.exit 1)
def k128_9 : VC := .cond (.tmp 14) k128_8 .skip
def k128_10 : VC := .seq k128_6 k128_9
def k128_11 : VC := .cond (.tmp 12) .ret k128_10
def k128_12 : VC := .seq k128_5 k128_11
def k128_13 : VC := .block 2 k128_12
def k128_14 : VC := .seq k128_4 k128_13
def k128_15 : VC := .reg [⟨(some 4), .mv (.const (.int .i64 0)), none⟩]
def k128_16 : VC := .reg [⟨(some 18), .mv (.tmp 3), none⟩,
    ⟨(some 19), .bin .add (.tmp 18) (.const (.int .i64 1)), none⟩,
    ⟨(some 20), .load1 .str (.tmp 1), none⟩,
    ⟨(some 21), .lenS (.tmp 20), none⟩,
    ⟨(some 22), .bin .lss (.tmp 19) (.tmp 21), none⟩]
def k128_17 : VC := .reg [⟨(some 23), .load1 .str (.tmp 1), none⟩,
    ⟨(some 24), .mv (.tmp 3), none⟩,
    ⟨(some 25), .bin .add (.tmp 24) (.const (.int .i64 1)), none⟩,
    ⟨(some 26), .idxS (.tmp 23) (.tmp 25), none⟩,
    ⟨(some 27), .conv .i64 (.tmp 26), none⟩,
    ⟨(some 4), .mv (.tmp 27), none⟩]
def k128_18 : VC := .cond (.tmp 22) k128_17 .skip
def k128_19 : VC := .seq k128_16 k128_18
def k128_20 : VC := .reg [⟨(some 28), .mv (.tmp 4), none⟩,
    ⟨(some 29), .bin .lss (.tmp 28) (.const (.int .i64 2)), none⟩,
    ⟨(some 30), .mv (.tmp 29), none⟩,
    ⟨(some 31), .mv (.tmp 4), (some (30, false))⟩,
    ⟨(some 32), .load1 .str (.tmp 1), (some (30, false))⟩,
    ⟨(some 33), .lenS (.tmp 32), (some (30, false))⟩,
    ⟨(some 34), .mv (.tmp 3), (some (30, false))⟩,
    ⟨(some 35), .bin .sub (.tmp 33) (.tmp 34), (some (30, false))⟩,
    ⟨(some 36), .bin .gtr (.tmp 31) (.tmp 35), (some (30, false))⟩,
    ⟨(some 37), .pick (.tmp 30) (.const (.bool true)) (.tmp 36), none⟩]
def k128_21 : VC := .reg [⟨(some 38), .mv (.tmp 0), none⟩,
    ⟨(some 39), .build [(.int .i64 0), (.string ⟨⟨[]⟩⟩), (.int .i64 0)] [(2, 1, (.const (.int .i64 (-1))))], none⟩,
    ⟨(some 40), .callV (.tmp 38) [(.tmp 39)], none⟩]
def k128_22 : VC := .seq k128_21 .ret
def k128_23 : VC := .cond (.tmp 37) k128_22 .skip
def k128_24 : VC := .seq k128_20 k128_23
def k128_25 : VC := .regD [⟨(some 41), .mv (.tmp 0), none⟩,
    ⟨(some 42), .load1 .str (.tmp 1), none⟩,
    ⟨(some 43), .mv (.tmp 3), none⟩,
    ⟨(some 44), .idxS (.tmp 42) (.tmp 43), none⟩,
    ⟨(some 45), .conv .i64 (.tmp 44), none⟩,
    ⟨(some 46), .load1 .str (.tmp 1), none⟩,
    ⟨(some 47), .mv (.tmp 3), none⟩,
    ⟨(some 48), .bin .add (.tmp 47) (.const (.int .i64 2)), none⟩,
    ⟨(some 49), .mv (.tmp 3), none⟩,
    ⟨(some 50), .mv (.tmp 4), none⟩,
    ⟨(some 51), .bin .add (.tmp 49) (.tmp 50), none⟩,
    ⟨(some 52), .sliceS (.tmp 46) (some (.tmp 48)) (some (.tmp 51)), none⟩,
    ⟨(some 53), .build [(.int .i64 0), (.string ⟨⟨[]⟩⟩)] [(0, 1, (.tmp 45)), (1, 1, (.tmp 52))], none⟩,
    ⟨(some 54), .mv (.tmp 3), none⟩,
    ⟨(some 55), .bin .add (.tmp 54) (.const (.int .i64 2)), none⟩,
    ⟨(some 56), .build [(.int .i64 0), (.string ⟨⟨[]⟩⟩), (.int .i64 0)] [(0, 2, (.tmp 53)), (2, 1, (.tmp 55))], none⟩] [] [⟨(some 57), .callV (.tmp 41) [(.tmp 56)], none⟩,
    ⟨(some 58), .not (.tmp 57), none⟩]
def k128_26 : VC := .cond (.tmp 58) .ret .skip
def k128_27 : VC := .seq k128_25 k128_26
def k128_28 : VC := .reg [⟨(some 59), .mv (.tmp 3), none⟩,
    ⟨(some 60), .mv (.tmp 4), none⟩,
    ⟨(some 61), .bin .add (.tmp 59) (.tmp 60), none⟩,
    ⟨(some 3), .mv (.tmp 61), none⟩]
def k128_29 : VC := .seq k128_27 k128_28
def k128_30 : VC := .seq k128_24 k128_29
def k128_31 : VC := .seq k128_19 k128_30
def k128_32 : VC := .seq k128_15 k128_31
def k128_33 : VC := .seq k128_14 k128_32
def k128_34 : VC := .block 1 k128_33
def k128_35 : VC := .seq k128_3 k128_34
def k128_36 : VC := .loop k128_35
def k128_37 : VC := .block 0 k128_36
def k128_38 : VC := .seq k128_0 k128_37
def fn128 : VFn := ⟨62, k128_38, []⟩
/- 101: cloakroom/octet.Get -/
def k101_0 : VC := .reg [⟨(some 6), .mv (.const (.int .u64 0)), none⟩,
    ⟨(some 7), .mv (.const (.bool false)), none⟩]
def k101_1 : VC := .reg [⟨(some 11), .mv (.tmp 2), none⟩,
    ⟨(some 12), .bin .lss (.tmp 11) (.const (.int .i64 1)), none⟩,
    ⟨(some 13), .mv (.tmp 12), none⟩,
    ⟨(some 14), .mv (.tmp 2), (some (13, false))⟩,
    ⟨(some 15), .bin .gtr (.tmp 14) (.const (.int .i64 8)), (some (13, false))⟩,
    ⟨(some 16), .pick (.tmp 13) (.const (.bool true)) (.tmp 15), none⟩,
    ⟨(some 17), .mv (.tmp 16), none⟩,
    ⟨(some 18), .mv (.tmp 1), (some (17, false))⟩,
    ⟨(some 19), .bin .lss (.tmp 18) (.const (.int .i64 0)), (some (17, false))⟩,
    ⟨(some 20), .pick (.tmp 17) (.const (.bool true)) (.tmp 19), none⟩,
    ⟨(some 21), .mv (.tmp 20), none⟩,
    ⟨(some 22), .mv (.tmp 0), (some (21, false))⟩,
    ⟨(some 23), .lenS (.tmp 22), (some (21, false))⟩,
    ⟨(some 24), .mv (.tmp 2), (some (21, false))⟩,
    ⟨(some 25), .bin .sub (.tmp 23) (.tmp 24), (some (21, false))⟩,
    ⟨(some 26), .mv (.tmp 1), (some (21, false))⟩,
    ⟨(some 27), .bin .lss (.tmp 25) (.tmp 26), (some (21, false))⟩,
    ⟨(some 28), .pick (.tmp 21) (.const (.bool true)) (.tmp 27), none⟩]
def k101_2 : VC := .reg [⟨(some 6), .mv (.const (.int .u64 0)), none⟩,
    ⟨(some 7), .mv (.const (.bool false)), none⟩]
def k101_3 : VC := .seq k101_2 .ret
def k101_4 : VC := .cond (.tmp 28) k101_3 .skip
def k101_5 : VC := .seq k101_1 k101_4
def k101_6 : VC := .reg [⟨(some 8), .mv (.const (.int .u64 0)), none⟩]
def k101_7 : VC := .reg [⟨(some 29), .mv (.tmp 0), none⟩,
    ⟨(some 30), .mv (.tmp 1), none⟩,
    ⟨(some 31), .mv (.tmp 1), none⟩,
    ⟨(some 32), .mv (.tmp 2), none⟩,
    ⟨(some 33), .bin .add (.tmp 31) (.tmp 32), none⟩,
    ⟨(some 34), .sliceS (.tmp 29) (some (.tmp 30)) (some (.tmp 33)), none⟩,
    ⟨(some 35), .s2b (.tmp 34), none⟩,
    ⟨(some 36), .lenL (.tmp 35), none⟩,
    ⟨(some 37), .mv (.const (.int .i64 0)), none⟩]
def k101_8 : VC := .reg [⟨(some 38), .bin .lss (.tmp 37) (.tmp 36), none⟩]
def k101_9 : VC := .cond (.tmp 38) .skip (.exit 0)
def k101_10 : VC := .reg [⟨(some 39), .idxAL 1 (.tmp 35) (.tmp 37), none⟩,
    ⟨(some 40), .load1 (.int .u8) (.tmp 39), none⟩,
    ⟨(some 10), .mv (.tmp 40), none⟩]
def k101_11 : VC := .reg [⟨(some 41), .mv (.tmp 8), none⟩,
    ⟨(some 42), .bin .shl (.tmp 41) (.const (.int .u64 8)), none⟩,
    ⟨(some 43), .mv (.tmp 10), none⟩,
    ⟨(some 44), .conv .u64 (.tmp 43), none⟩,
    ⟨(some 45), .bin .or (.tmp 42) (.tmp 44), none⟩,
    ⟨(some 8), .mv (.tmp 45), none⟩]
def k101_12 : VC := .seq k101_10 k101_11
def k101_13 : VC := .block 1 k101_12
def k101_14 : VC := .reg [⟨(some 46), .bin .add (.tmp 37) (.const (.int .i64 1)), none⟩,
    ⟨(some 37), .mv (.tmp 46), none⟩]
def k101_15 : VC := .seq k101_13 k101_14
def k101_16 : VC := .seq k101_9 k101_15
def k101_17 : VC := .seq k101_8 k101_16
def k101_18 : VC := .loop k101_17
def k101_19 : VC := .block 0 k101_18
def k101_20 : VC := .seq k101_7 k101_19
def k101_21 : VC := .reg [⟨(some 47), .mv (.tmp 8), none⟩,
    ⟨(some 6), .mv (.tmp 47), none⟩,
    ⟨(some 7), .mv (.const (.bool true)), none⟩]
def k101_22 : VC := .seq k101_21 .ret
def k101_23 : VC := .seq k101_20 k101_22
def k101_24 : VC := .seq k101_6 k101_23
def k101_25 : VC := .seq k101_5 k101_24
def k101_26 : VC := .seq k101_0 k101_25
def fn101 : VFn := ⟨48, k101_26, [.tmp 6, .tmp 7]⟩
/- 48: cloakroom/tcp.Put -/
def k48_0 : VC := .reg [⟨(some 4), .box (.tmp 0), none⟩,
    ⟨(some 5), .box (.tmp 1), none⟩,
    ⟨(some 6), .box (.tmp 2), none⟩,
    ⟨(some 8), .mv (.const (.string ⟨⟨[]⟩⟩)), none⟩,
    ⟨(some 9), .mv (.const (.int .i64 0)), none⟩]
def k48_1 : VC := .reg [⟨(some 13), .fieldA 7 (.tmp 4), none⟩,
    ⟨(some 14), .load1 .str (.tmp 13), none⟩,
    ⟨(some 15), .lenS (.tmp 14), none⟩,
    ⟨(some 16), .bin .add (.const (.int .i64 20)) (.tmp 15), none⟩,
    ⟨(some 10), .mv (.tmp 16), none⟩]
def k48_2 : VC := .reg [⟨(some 17), .loadN [.bool, (.int .u64), (.int .u64)] (.tmp 5), none⟩,
    ⟨(some 18), .loadN [.bool, (.int .u64), (.int .u64)] (.tmp 6), none⟩,
    ⟨(some 19), .mv (.tmp 10), none⟩,
    ⟨(some 20), .mv (.tmp 3), none⟩,
    ⟨(some 21), .lenS (.tmp 20), none⟩,
    ⟨(some 22), .bin .add (.tmp 19) (.tmp 21), none⟩,
    ⟨(some 23), .callF 27 [(.tmp 17), (.tmp 18), (.const (.int .i64 6)), (.tmp 22)], none⟩,
    ⟨(some 11), .mv (.tmp 23), none⟩]
def k48_3 : VC := .reg [⟨(some 25), .loadN [(.int .i64), (.int .i64), (.int .u32), (.int .u32), (.int .i64), (.int .i64), (.int .i64), .str] (.tmp 4), none⟩,
    ⟨(some 26), .callF 106 [(.tmp 25)], none⟩,
    ⟨(some 27), .not (.tmp 26), none⟩,
    ⟨(some 28), .mv (.tmp 27), none⟩,
    ⟨(some 29), .mv (.tmp 11), (some (28, false))⟩,
    ⟨(some 30), .bin .eql (.tmp 29) (.const (.string ⟨⟨[]⟩⟩)), (some (28, false))⟩,
    ⟨(some 31), .pick (.tmp 28) (.const (.bool true)) (.tmp 30), none⟩,
    ⟨(some 24), .mv (.tmp 31), none⟩]
def k48_4 : VC := .reg [⟨(some 8), .mv (.const (.string ⟨⟨[]⟩⟩)), none⟩,
    ⟨(some 9), .mv (.const (.int .i64 1)), none⟩]
def k48_5 : VC := .seq k48_4 .ret
def k48_6 : VC := .reg [⟨(some 33), .mv (.tmp 3), none⟩,
    ⟨(some 34), .lenS (.tmp 33), none⟩,
    ⟨(some 35), .mv (.tmp 10), none⟩,
    ⟨(some 36), .bin .sub (.const (.int .i64 65535)) (.tmp 35), none⟩,
    ⟨(some 37), .bin .gtr (.tmp 34) (.tmp 36), none⟩,
    ⟨(some 32), .mv (.tmp 37), none⟩]
def k48_7 : VC := .reg [⟨(some 8), .mv (.const (.string ⟨⟨[]⟩⟩)), none⟩,
    ⟨(some 9), .mv (.const (.int .i64 5)), none⟩]
def k48_8 : VC := .seq k48_7 .ret
def k48_9 : VC := .cond (.tmp 32) k48_8 .skip
def k48_10 : VC := .seq k48_6 k48_9
def k48_11 : VC := .cond (.tmp 24) k48_5 k48_10
def k48_12 : VC := .seq k48_3 k48_11
def k48_13 : VC := .block 0 k48_12
def k48_14 : VC := .reg [⟨(some 38), .loadN [(.int .i64), (.int .i64), (.int .u32), (.int .u32), (.int .i64), (.int .i64), (.int .i64), .str] (.tmp 4), none⟩,
    ⟨(some 39), .callF 107 [(.tmp 38)], none⟩,
    ⟨(some 40), .mv (.tmp 3), none⟩,
    ⟨(some 41), .bin .add (.tmp 39) (.tmp 40), none⟩,
    ⟨(some 12), .mv (.tmp 41), none⟩]
def k48_15 : VC := .reg [⟨(some 42), .mv (.tmp 12), none⟩,
    ⟨(some 43), .mv (.tmp 11), none⟩,
    ⟨(some 44), .mv (.tmp 12), none⟩,
    ⟨(some 45), .bin .add (.tmp 43) (.tmp 44), none⟩,
    ⟨(some 46), .callF 64 [(.tmp 45)], none⟩,
    ⟨(some 47), .conv .u64 (.tmp 46), none⟩,
    ⟨(some 48), .callF 65 [(.tmp 42), (.const (.int .i64 16)), (.const (.int .i64 2)), (.tmp 47)], none⟩,
    ⟨(some 8), .mv (.tmp 48), none⟩,
    ⟨(some 9), .mv (.const (.int .i64 0)), none⟩]
def k48_16 : VC := .seq k48_15 .ret
def k48_17 : VC := .seq k48_14 k48_16
def k48_18 : VC := .seq k48_13 k48_17
def k48_19 : VC := .seq k48_2 k48_18
def k48_20 : VC := .seq k48_1 k48_19
def k48_21 : VC := .seq k48_0 k48_20
def fn48 : VFn := ⟨49, k48_21, [.tmp 8, .tmp 9]⟩
/- 27: cloakroom/ipfour.Pseudo -/
def k27_0 : VC := .reg [⟨(some 4), .box (.tmp 0), none⟩,
    ⟨(some 5), .box (.tmp 1), none⟩,
    ⟨(some 8), .mv (.const (.string ⟨⟨[]⟩⟩)), none⟩]
def k27_1 : VC := .reg [⟨(some 10), .loadN [.bool, (.int .u64), (.int .u64)] (.tmp 4), none⟩,
    ⟨(some 11), .callF 85 [(.tmp 10)], none⟩,
    ⟨(some 12), .not (.tmp 11), none⟩,
    ⟨(some 13), .mv (.tmp 12), none⟩,
    ⟨(some 14), .loadN [.bool, (.int .u64), (.int .u64)] (.tmp 5), (some (13, false))⟩,
    ⟨(some 15), .callF 85 [(.tmp 14)], (some (13, false))⟩,
    ⟨(some 16), .not (.tmp 15), (some (13, false))⟩,
    ⟨(some 17), .pick (.tmp 13) (.const (.bool true)) (.tmp 16), none⟩,
    ⟨(some 18), .mv (.tmp 17), none⟩,
    ⟨(some 19), .fieldA 0 (.tmp 4), (some (18, false))⟩,
    ⟨(some 20), .load1 .bool (.tmp 19), (some (18, false))⟩,
    ⟨(some 21), .fieldA 0 (.tmp 5), (some (18, false))⟩,
    ⟨(some 22), .load1 .bool (.tmp 21), (some (18, false))⟩,
    ⟨(some 23), .eqB true (.tmp 20) (.tmp 22), (some (18, false))⟩,
    ⟨(some 24), .pick (.tmp 18) (.const (.bool true)) (.tmp 23), none⟩]
def k27_2 : VC := .reg [⟨(some 8), .mv (.const (.string ⟨⟨[]⟩⟩)), none⟩]
def k27_3 : VC := .seq k27_2 .ret
def k27_4 : VC := .cond (.tmp 24) k27_3 .skip
def k27_5 : VC := .seq k27_1 k27_4
def k27_6 : VC := .regD [⟨(some 25), .loadN [.bool, (.int .u64), (.int .u64)] (.tmp 4), none⟩,
    ⟨(some 26), .callF 78 [(.tmp 25)], none⟩,
    ⟨(some 27), .loadN [.bool, (.int .u64), (.int .u64)] (.tmp 5), none⟩] [(1, 2)] [⟨(some 28), .callF 78 [(.tmp 27)], none⟩,
    ⟨(some 29), .bin .add (.tmp 26) (.tmp 28), none⟩,
    ⟨(some 9), .mv (.tmp 29), none⟩]
def k27_7 : VC := .reg [⟨(some 30), .fieldA 0 (.tmp 4), none⟩,
    ⟨(some 31), .load1 .bool (.tmp 30), none⟩]
def k27_8 : VC := .reg [⟨(some 32), .mv (.tmp 9), none⟩,
    ⟨(some 33), .mv (.tmp 3), none⟩,
    ⟨(some 34), .mv (.tmp 2), none⟩,
    ⟨(some 35), .buildSl 6 1 [(.int .i64 0), (.int .i64 0), (.int .i64 0), (.int .i64 0), (.int .i64 0), (.int .i64 0)] [(0, 1, (.tmp 33)), (1, 1, (.const (.int .i64 4))), (2, 1, (.const (.int .i64 0))), (3, 1, (.const (.int .i64 3))), (4, 1, (.tmp 34)), (5, 1, (.const (.int .i64 1)))], none⟩,
    ⟨(some 36), .callF 77 [(.tmp 35)], none⟩,
    ⟨(some 37), .bin .add (.tmp 32) (.tmp 36), none⟩,
    ⟨(some 8), .mv (.tmp 37), none⟩]
def k27_9 : VC := .seq k27_8 .ret
def k27_10 : VC := .cond (.tmp 31) k27_9 .skip
def k27_11 : VC := .seq k27_7 k27_10
def k27_12 : VC := .reg [⟨(some 38), .mv (.tmp 9), none⟩,
    ⟨(some 39), .mv (.tmp 2), none⟩,
    ⟨(some 40), .mv (.tmp 3), none⟩,
    ⟨(some 41), .buildSl 6 1 [(.int .i64 0), (.int .i64 0), (.int .i64 0), (.int .i64 0), (.int .i64 0), (.int .i64 0)] [(0, 1, (.const (.int .i64 0))), (1, 1, (.const (.int .i64 1))), (2, 1, (.tmp 39)), (3, 1, (.const (.int .i64 1))), (4, 1, (.tmp 40)), (5, 1, (.const (.int .i64 2)))], none⟩,
    ⟨(some 42), .callF 77 [(.tmp 41)], none⟩,
    ⟨(some 43), .bin .add (.tmp 38) (.tmp 42), none⟩,
    ⟨(some 8), .mv (.tmp 43), none⟩]
def k27_13 : VC := .seq k27_12 .ret
def k27_14 : VC := .seq k27_11 k27_13
def k27_15 : VC := .seq k27_6 k27_14
def k27_16 : VC := .seq k27_5 k27_15
def k27_17 : VC := .seq k27_0 k27_16
def fn27 : VFn := ⟨44, k27_17, [.tmp 8]⟩
/- 85: cloakroom/addr.Right -/
def k85_0 : VC := .reg [⟨(some 1), .box (.tmp 0), none⟩,
    ⟨(some 2), .mv (.const (.bool false)), none⟩]
def k85_1 : VC := .reg [⟨(some 3), .fieldA 0 (.tmp 1), none⟩,
    ⟨(some 4), .load1 .bool (.tmp 3), none⟩,
    ⟨(some 5), .mv (.tmp 4), none⟩,
    ⟨(some 6), .fieldA 1 (.tmp 1), (some (5, false))⟩,
    ⟨(some 7), .load1 (.int .u64) (.tmp 6), (some (5, false))⟩,
    ⟨(some 8), .bin .eql (.tmp 7) (.const (.int .u64 0)), (some (5, false))⟩,
    ⟨(some 9), .mv (.tmp 8), (some (5, false))⟩,
    ⟨(some 10), .fieldA 2 (.tmp 1), (some (9, true))⟩,
    ⟨(some 11), .load1 (.int .u64) (.tmp 10), (some (9, true))⟩,
    ⟨(some 12), .bin .lss (.tmp 11) (.const (.int .u64 4294967296)), (some (9, true))⟩,
    ⟨(some 13), .pick (.tmp 9) (.tmp 12) (.const (.bool false)), (some (5, false))⟩,
    ⟨(some 14), .pick (.tmp 5) (.const (.bool true)) (.tmp 13), none⟩,
    ⟨(some 2), .mv (.tmp 14), none⟩]
def k85_2 : VC := .seq k85_1 .ret
def k85_3 : VC := .seq k85_0 k85_2
def fn85 : VFn := ⟨15, k85_3, [.tmp 2]⟩
/- 78: cloakroom/addr.Put -/
def k78_0 : VC := .reg [⟨(some 1), .box (.tmp 0), none⟩,
    ⟨(some 2), .mv (.const (.string ⟨⟨[]⟩⟩)), none⟩]
def k78_1 : VC := .reg [⟨(some 4), .loadN [.bool, (.int .u64), (.int .u64)] (.tmp 1), none⟩,
    ⟨(some 5), .callF 85 [(.tmp 4)], none⟩,
    ⟨(some 6), .not (.tmp 5), none⟩,
    ⟨(some 3), .mv (.tmp 6), none⟩]
def k78_2 : VC := .reg [⟨(some 2), .mv (.const (.string ⟨⟨[]⟩⟩)), none⟩]
def k78_3 : VC := .seq k78_2 .ret
def k78_4 : VC := .reg [⟨(some 8), .fieldA 0 (.tmp 1), none⟩,
    ⟨(some 9), .load1 .bool (.tmp 8), none⟩,
    ⟨(some 7), .mv (.tmp 9), none⟩]
def k78_5 : VC := .regD [⟨(some 10), .fieldA 1 (.tmp 1), none⟩,
    ⟨(some 11), .load1 (.int .u64) (.tmp 10), none⟩,
    ⟨(some 12), .callF 62 [(.tmp 11), (.const (.int .i64 8))], none⟩,
    ⟨(some 13), .fieldA 2 (.tmp 1), none⟩,
    ⟨(some 14), .load1 (.int .u64) (.tmp 13), none⟩] [(2, 4)] [⟨(some 15), .callF 62 [(.tmp 14), (.const (.int .i64 8))], none⟩,
    ⟨(some 16), .bin .add (.tmp 12) (.tmp 15), none⟩,
    ⟨(some 2), .mv (.tmp 16), none⟩]
def k78_6 : VC := .seq k78_5 .ret
def k78_7 : VC := .cond (.tmp 7) k78_6 .skip
def k78_8 : VC := .seq k78_4 k78_7
def k78_9 : VC := .cond (.tmp 3) k78_3 k78_8
def k78_10 : VC := .seq k78_1 k78_9
def k78_11 : VC := .block 0 k78_10
def k78_12 : VC := .reg [⟨(some 17), .fieldA 2 (.tmp 1), none⟩,
    ⟨(some 18), .load1 (.int .u64) (.tmp 17), none⟩,
    ⟨(some 19), .callF 62 [(.tmp 18), (.const (.int .i64 4))], none⟩,
    ⟨(some 2), .mv (.tmp 19), none⟩]
def k78_13 : VC := .seq k78_12 .ret
def k78_14 : VC := .seq k78_11 k78_13
def k78_15 : VC := .seq k78_0 k78_14
def fn78 : VFn := ⟨20, k78_15, [.tmp 2]⟩
/- 77: cloakroom/ipfour.row -/
def k77_0 : VC := .reg [⟨(some 2), .mv (.const (.string ⟨⟨[]⟩⟩)), none⟩]
def k77_1 : VC := .reg [⟨(some 3), .allocB 114 5, none⟩]
def k77_2 : VC := .reg [⟨(some 4), .mv (.const (.int .i64 0)), none⟩]
def k77_3 : VC := .reg [⟨(some 5), .mv (.tmp 4), none⟩,
    ⟨(some 6), .bin .add (.tmp 5) (.const (.int .i64 1)), none⟩,
    ⟨(some 7), .mv (.tmp 0), none⟩,
    ⟨(some 8), .lenL (.tmp 7), none⟩,
    ⟨(some 9), .bin .lss (.tmp 6) (.tmp 8), none⟩]
def k77_4 : VC := .cond (.tmp 9) .skip (.exit 0)
def k77_5 : VC := .seq k77_3 k77_4
def k77_6 : VC := .regD [⟨(some 12), .mv (.tmp 0), none⟩,
    ⟨(some 13), .mv (.tmp 4), none⟩,
    ⟨(some 14), .idxAL 1 (.tmp 12) (.tmp 13), none⟩,
    ⟨(some 15), .load1 (.int .i64) (.tmp 14), none⟩,
    ⟨(some 16), .conv .u64 (.tmp 15), none⟩,
    ⟨(some 17), .mv (.tmp 0), none⟩,
    ⟨(some 18), .mv (.tmp 4), none⟩,
    ⟨(some 19), .bin .add (.tmp 18) (.const (.int .i64 1)), none⟩,
    ⟨(some 20), .idxAL 1 (.tmp 17) (.tmp 19), none⟩,
    ⟨(some 21), .load1 (.int .i64) (.tmp 20), none⟩] [] [⟨(some 22), .callF 62 [(.tmp 16), (.tmp 21)], none⟩,
    ⟨(some 23), .callF 61 [(.tmp 3), (.tmp 22)], none⟩]
def k77_7 : VC := .block 1 k77_6
def k77_8 : VC := .reg [⟨(some 10), .mv (.tmp 4), none⟩,
    ⟨(some 11), .bin .add (.tmp 10) (.const (.int .i64 2)), none⟩,
    ⟨(some 4), .mv (.tmp 11), none⟩]
def k77_9 : VC := .seq k77_7 k77_8
def k77_10 : VC := .seq k77_5 k77_9
def k77_11 : VC := .loop k77_10
def k77_12 : VC := .block 0 k77_11
def k77_13 : VC := .seq k77_2 k77_12
def k77_14 : VC := .reg [⟨(some 24), .callF 63 [(.tmp 3)], none⟩,
    ⟨(some 2), .mv (.tmp 24), none⟩]
def k77_15 : VC := .seq k77_14 .ret
def k77_16 : VC := .seq k77_13 k77_15
def k77_17 : VC := .seq k77_1 k77_16
def k77_18 : VC := .seq k77_0 k77_17
def fn77 : VFn := ⟨25, k77_18, [.tmp 2]⟩
/- 61: (*strings.Builder).WriteString -/
def k61_0 : VC := .reg [⟨(some 4), .mv (.const (.int .i64 0)), none⟩,
    ⟨(some 5), .mv (.const .nilIface), none⟩]
def k61_1 : VC := .reg [⟨(some 6), .mv (.tmp 0), none⟩,
    ⟨(some 7), .callF 112 [(.tmp 6)], none⟩]
def k61_2 : VC := .reg [⟨(some 8), .mv (.tmp 0), none⟩,
    ⟨(some 9), .mv (.tmp 0), none⟩,
    ⟨(some 10), .nilCheck (.tmp 9), none⟩,
    ⟨(some 11), .fieldA 1 (.tmp 10), none⟩,
    ⟨(some 12), .load1 .oth (.tmp 11), none⟩,
    ⟨(some 13), .mv (.tmp 1), none⟩,
    ⟨(some 14), .app 5 1 1 (.tmp 12) (.tmp 13), none⟩,
    ⟨(some 15), .nilCheck (.tmp 8), none⟩,
    ⟨(some 16), .fieldA 1 (.tmp 15), none⟩,
    ⟨none, .store 1 (.tmp 16) (.tmp 14), none⟩]
def k61_3 : VC := .reg [⟨(some 17), .mv (.tmp 1), none⟩,
    ⟨(some 18), .lenS (.tmp 17), none⟩,
    ⟨(some 4), .mv (.tmp 18), none⟩,
    ⟨(some 5), .mv (.const .nilIface), none⟩]
def k61_4 : VC := .seq k61_3 .ret
def k61_5 : VC := .seq k61_2 k61_4
def k61_6 : VC := .seq k61_1 k61_5
def k61_7 : VC := .seq k61_0 k61_6
def fn61 : VFn := ⟨19, k61_7, [.tmp 4, .tmp 5]⟩
/- 112: (*strings.Builder).copyCheck -/
def k112_0 : VC := .reg [⟨(some 2), .mv (.tmp 0), none⟩,
    ⟨(some 3), .nilCheck (.tmp 2), none⟩,
    ⟨(some 4), .fieldA 0 (.tmp 3), none⟩,
    ⟨(some 5), .load1 .oth (.tmp 4), none⟩,
    ⟨(some 6), .isNil 0 false (.tmp 5), none⟩]
def k112_1 : VC := .reg [⟨(some 7), .mv (.tmp 0), none⟩,
    ⟨(some 8), .mv (.tmp 0), none⟩,
    ⟨(some 9), .toU (.tmp 8), none⟩,
    ⟨(some 10), .mv (.tmp 9), none⟩,
    ⟨(some 11), .ofU 114 2 (.tmp 10), none⟩,
    ⟨(some 12), .nilCheck (.tmp 7), none⟩,
    ⟨(some 13), .fieldA 0 (.tmp 12), none⟩,
    ⟨none, .store 1 (.tmp 13) (.tmp 11), none⟩]
def k112_2 : VC := .reg [⟨(some 14), .mv (.tmp 0), none⟩,
    ⟨(some 15), .nilCheck (.tmp 14), none⟩,
    ⟨(some 16), .fieldA 0 (.tmp 15), none⟩,
    ⟨(some 17), .load1 .oth (.tmp 16), none⟩,
    ⟨(some 18), .mv (.tmp 0), none⟩,
    ⟨(some 19), .eqP true (.tmp 17) (.tmp 18), none⟩]
def k112_3 : VC := .cond (.tmp 19) .stuck .skip
def k112_4 : VC := .seq k112_2 k112_3
def k112_5 : VC := .cond (.tmp 6) k112_1 k112_4
def k112_6 : VC := .seq k112_0 k112_5
def fn112 : VFn := ⟨20, k112_6, []⟩
/- 63: (*strings.Builder).String -/
def k63_0 : VC := .reg [⟨(some 2), .mv (.const (.string ⟨⟨[]⟩⟩)), none⟩]
def k63_1 : VC := .regD [⟨(some 3), .mv (.tmp 0), none⟩,
    ⟨(some 4), .nilCheck (.tmp 3), none⟩,
    ⟨(some 5), .fieldA 1 (.tmp 4), none⟩,
    ⟨(some 6), .load1 .oth (.tmp 5), none⟩,
    ⟨(some 7), .sdata (.tmp 6), none⟩,
    ⟨(some 8), .mv (.tmp 0), none⟩,
    ⟨(some 9), .nilCheck (.tmp 8), none⟩,
    ⟨(some 10), .fieldA 1 (.tmp 9), none⟩,
    ⟨(some 11), .load1 .oth (.tmp 10), none⟩,
    ⟨(some 12), .lenL (.tmp 11), none⟩] [] [⟨(some 13), .ustr 5 (.tmp 7) (.tmp 12), none⟩,
    ⟨(some 2), .mv (.tmp 13), none⟩]
def k63_2 : VC := .seq k63_1 .ret
def k63_3 : VC := .seq k63_0 k63_2
def fn63 : VFn := ⟨14, k63_3, [.tmp 2]⟩
/- 106: (cloakroom/tcp.Head).may -/
def k106_0 : VC := .reg [⟨(some 1), .box (.tmp 0), none⟩,
    ⟨(some 2), .mv (.const (.bool false)), none⟩]
def k106_1 : VC := .reg [⟨(some 3), .fieldA 0 (.tmp 1), none⟩,
    ⟨(some 4), .load1 (.int .i64) (.tmp 3), none⟩,
    ⟨(some 5), .fieldA 1 (.tmp 1), none⟩,
    ⟨(some 6), .load1 (.int .i64) (.tmp 5), none⟩,
    ⟨(some 7), .fieldA 5 (.tmp 1), none⟩,
    ⟨(some 8), .load1 (.int .i64) (.tmp 7), none⟩,
    ⟨(some 9), .fieldA 6 (.tmp 1), none⟩,
    ⟨(some 10), .load1 (.int .i64) (.tmp 9), none⟩,
    ⟨(some 11), .buildSl 4 1 [(.int .i64 0), (.int .i64 0), (.int .i64 0), (.int .i64 0)] [(0, 1, (.tmp 4)), (1, 1, (.tmp 6)), (2, 1, (.tmp 8)), (3, 1, (.tmp 10))], none⟩,
    ⟨(some 12), .callF 126 [(.const (.int .i64 65535)), (.tmp 11)], none⟩,
    ⟨(some 13), .mv (.tmp 12), none⟩,
    ⟨(some 14), .fieldA 4 (.tmp 1), (some (13, true))⟩,
    ⟨(some 15), .load1 (.int .i64) (.tmp 14), (some (13, true))⟩,
    ⟨(some 16), .buildSl 1 1 [(.int .i64 0)] [(0, 1, (.tmp 15))], (some (13, true))⟩,
    ⟨(some 17), .callF 126 [(.const (.int .i64 255)), (.tmp 16)], (some (13, true))⟩,
    ⟨(some 18), .pick (.tmp 13) (.tmp 17) (.const (.bool false)), none⟩,
    ⟨(some 19), .mv (.tmp 18), none⟩,
    ⟨(some 20), .fieldA 7 (.tmp 1), (some (19, true))⟩,
    ⟨(some 21), .load1 .str (.tmp 20), (some (19, true))⟩,
    ⟨(some 22), .lenS (.tmp 21), (some (19, true))⟩,
    ⟨(some 23), .bin .rem (.tmp 22) (.const (.int .i64 4)), (some (19, true))⟩,
    ⟨(some 24), .bin .eql (.tmp 23) (.const (.int .i64 0)), (some (19, true))⟩,
    ⟨(some 25), .pick (.tmp 19) (.tmp 24) (.const (.bool false)), none⟩,
    ⟨(some 26), .mv (.tmp 25), none⟩,
    ⟨(some 27), .fieldA 7 (.tmp 1), (some (26, true))⟩,
    ⟨(some 28), .load1 .str (.tmp 27), (some (26, true))⟩,
    ⟨(some 29), .lenS (.tmp 28), (some (26, true))⟩,
    ⟨(some 30), .bin .leq (.tmp 29) (.const (.int .i64 40)), (some (26, true))⟩,
    ⟨(some 31), .pick (.tmp 26) (.tmp 30) (.const (.bool false)), none⟩,
    ⟨(some 2), .mv (.tmp 31), none⟩]
def k106_2 : VC := .seq k106_1 .ret
def k106_3 : VC := .seq k106_0 k106_2
def fn106 : VFn := ⟨32, k106_3, [.tmp 2]⟩
/- 126: cloakroom/tcp.within -/
def k126_0 : VC := .reg [⟨(some 4), .mv (.const (.bool false)), none⟩]
def k126_1 : VC := .reg [⟨(some 7), .mv (.tmp 1), none⟩,
    ⟨(some 8), .lenL (.tmp 7), none⟩,
    ⟨(some 9), .mv (.const (.int .i64 0)), none⟩]
def k126_2 : VC := .reg [⟨(some 10), .bin .lss (.tmp 9) (.tmp 8), none⟩]
def k126_3 : VC := .cond (.tmp 10) .skip (.exit 0)
def k126_4 : VC := .reg [⟨(some 11), .idxAL 1 (.tmp 7) (.tmp 9), none⟩,
    ⟨(some 12), .load1 (.int .i64) (.tmp 11), none⟩,
    ⟨(some 6), .mv (.tmp 12), none⟩]
def k126_5 : VC := .reg [⟨(some 13), .mv (.tmp 6), none⟩,
    ⟨(some 14), .bin .lss (.tmp 13) (.const (.int .i64 0)), none⟩,
    ⟨(some 15), .mv (.tmp 14), none⟩,
    ⟨(some 16), .mv (.tmp 6), (some (15, false))⟩,
    ⟨(some 17), .mv (.tmp 0), (some (15, false))⟩,
    ⟨(some 18), .bin .gtr (.tmp 16) (.tmp 17), (some (15, false))⟩,
    ⟨(some 19), .pick (.tmp 15) (.const (.bool true)) (.tmp 18), none⟩]
def k126_6 : VC := .reg [⟨(some 4), .mv (.const (.bool false)), none⟩]
def k126_7 : VC := .seq k126_6 .ret
def k126_8 : VC := .cond (.tmp 19) k126_7 .skip
def k126_9 : VC := .seq k126_5 k126_8
def k126_10 : VC := .seq k126_4 k126_9
def k126_11 : VC := .block 1 k126_10
def k126_12 : VC := .reg [⟨(some 20), .bin .add (.tmp 9) (.const (.int .i64 1)), none⟩,
    ⟨(some 9), .mv (.tmp 20), none⟩]
def k126_13 : VC := .seq k126_11 k126_12
def k126_14 : VC := .seq k126_3 k126_13
def k126_15 : VC := .seq k126_2 k126_14
def k126_16 : VC := .loop k126_15
def k126_17 : VC := .block 0 k126_16
def k126_18 : VC := .seq k126_1 k126_17
def k126_19 : VC := .reg [⟨(some 4), .mv (.const (.bool true)), none⟩]
def k126_20 : VC := .seq k126_19 .ret
def k126_21 : VC := .seq k126_18 k126_20
def k126_22 : VC := .seq k126_0 k126_21
def fn126 : VFn := ⟨21, k126_22, [.tmp 4]⟩
/- 107: (cloakroom/tcp.Head).laid -/
def k107_0 : VC := .reg [⟨(some 1), .box (.tmp 0), none⟩,
    ⟨(some 2), .mv (.const (.string ⟨⟨[]⟩⟩)), none⟩]
def k107_1 : VC := .reg [⟨(some 7), .fieldA 7 (.tmp 1), none⟩,
    ⟨(some 8), .load1 .str (.tmp 7), none⟩,
    ⟨(some 9), .lenS (.tmp 8), none⟩,
    ⟨(some 10), .bin .add (.const (.int .i64 20)) (.tmp 9), none⟩,
    ⟨(some 11), .conv .u64 (.tmp 10), none⟩,
    ⟨(some 12), .bin .quo (.tmp 11) (.const (.int .u64 4)), none⟩,
    ⟨(some 3), .mv (.tmp 12), none⟩]
def k107_2 : VC := .reg [⟨(some 13), .fieldA 0 (.tmp 1), none⟩,
    ⟨(some 14), .load1 (.int .i64) (.tmp 13), none⟩,
    ⟨(some 15), .conv .u64 (.tmp 14), none⟩,
    ⟨(some 16), .bin .shl (.tmp 15) (.const (.int .u64 16)), none⟩,
    ⟨(some 17), .fieldA 1 (.tmp 1), none⟩,
    ⟨(some 18), .load1 (.int .i64) (.tmp 17), none⟩,
    ⟨(some 19), .conv .u64 (.tmp 18), none⟩,
    ⟨(some 20), .bin .or (.tmp 16) (.tmp 19), none⟩,
    ⟨(some 21), .callF 62 [(.tmp 20), (.const (.int .i64 4))], none⟩,
    ⟨(some 4), .mv (.tmp 21), none⟩]
def k107_3 : VC := .reg [⟨(some 22), .fieldA 2 (.tmp 1), none⟩,
    ⟨(some 23), .load1 (.int .u32) (.tmp 22), none⟩,
    ⟨(some 24), .conv .u64 (.tmp 23), none⟩,
    ⟨(some 25), .bin .shl (.tmp 24) (.const (.int .u64 32)), none⟩,
    ⟨(some 26), .fieldA 3 (.tmp 1), none⟩,
    ⟨(some 27), .load1 (.int .u32) (.tmp 26), none⟩,
    ⟨(some 28), .conv .u64 (.tmp 27), none⟩,
    ⟨(some 29), .bin .or (.tmp 25) (.tmp 28), none⟩,
    ⟨(some 30), .callF 62 [(.tmp 29), (.const (.int .i64 8))], none⟩,
    ⟨(some 5), .mv (.tmp 30), none⟩]
def k107_4 : VC := .regD [⟨(some 31), .mv (.tmp 3), none⟩,
    ⟨(some 32), .bin .shl (.tmp 31) (.const (.int .u64 12)), none⟩,
    ⟨(some 33), .fieldA 4 (.tmp 1), none⟩,
    ⟨(some 34), .load1 (.int .i64) (.tmp 33), none⟩,
    ⟨(some 35), .conv .u64 (.tmp 34), none⟩,
    ⟨(some 36), .bin .or (.tmp 32) (.tmp 35), none⟩,
    ⟨(some 37), .callF 62 [(.tmp 36), (.const (.int .i64 2))], none⟩,
    ⟨(some 38), .fieldA 5 (.tmp 1), none⟩,
    ⟨(some 39), .load1 (.int .i64) (.tmp 38), none⟩,
    ⟨(some 40), .conv .u64 (.tmp 39), none⟩] [(6, 8)] [⟨(some 41), .callF 62 [(.tmp 40), (.const (.int .i64 2))], none⟩,
    ⟨(some 42), .bin .add (.tmp 37) (.tmp 41), none⟩,
    ⟨(some 6), .mv (.tmp 42), none⟩]
def k107_5 : VC := .regD [⟨(some 43), .mv (.tmp 4), none⟩,
    ⟨(some 44), .mv (.tmp 5), none⟩,
    ⟨(some 45), .bin .add (.tmp 43) (.tmp 44), none⟩,
    ⟨(some 46), .mv (.tmp 6), none⟩,
    ⟨(some 47), .bin .add (.tmp 45) (.tmp 46), none⟩,
    ⟨(some 48), .fieldA 6 (.tmp 1), none⟩,
    ⟨(some 49), .load1 (.int .i64) (.tmp 48), none⟩,
    ⟨(some 50), .conv .u64 (.tmp 49), none⟩,
    ⟨(some 51), .callF 62 [(.tmp 50), (.const (.int .i64 4))], none⟩,
    ⟨(some 52), .bin .add (.tmp 47) (.tmp 51), none⟩,
    ⟨(some 53), .fieldA 7 (.tmp 1), none⟩,
    ⟨(some 54), .load1 .str (.tmp 53), none⟩] [(8, 11)] [⟨(some 55), .bin .add (.tmp 52) (.tmp 54), none⟩,
    ⟨(some 2), .mv (.tmp 55), none⟩]
def k107_6 : VC := .seq k107_5 .ret
def k107_7 : VC := .seq k107_4 k107_6
def k107_8 : VC := .seq k107_3 k107_7
def k107_9 : VC := .seq k107_2 k107_8
def k107_10 : VC := .seq k107_1 k107_9
def k107_11 : VC := .seq k107_0 k107_10
def fn107 : VFn := ⟨56, k107_11, [.tmp 2]⟩
/- 64: cloakroom/check.Of -/
def k64_0 : VC := .reg [⟨(some 2), .mv (.const (.int .i64 0)), none⟩]
def k64_1 : VC := .reg [⟨(some 3), .mv (.tmp 0), none⟩,
    ⟨(some 4), .callF 113 [(.tmp 3)], none⟩,
    ⟨(some 5), .bin .sub (.const (.int .i64 65535)) (.tmp 4), none⟩,
    ⟨(some 2), .mv (.tmp 5), none⟩]
def k64_2 : VC := .seq k64_1 .ret
def k64_3 : VC := .seq k64_0 k64_2
def fn64 : VFn := ⟨6, k64_3, [.tmp 2]⟩
/- 113: cloakroom/check.Sum -/
def k113_0 : VC := .reg [⟨(some 2), .mv (.const (.int .i64 0)), none⟩]
def k113_1 : VC := .reg [⟨(some 3), .alloc [(.int .i64 0)], none⟩,
    ⟨none, .store 1 (.tmp 3) (.const (.int .i64 0)), none⟩]
def k113_2 : VC := .reg [⟨(some 5), .mv (.tmp 0), none⟩,
    ⟨(some 6), .callF 130 [(.tmp 5)], none⟩]
def k113_3 : VC := .reg [⟨(some 4), .mv (.tmp 7), none⟩]
def k113_4 : VC := .reg [⟨(some 8), .load1 (.int .i64) (.tmp 3), none⟩,
    ⟨(some 9), .mv (.tmp 4), none⟩,
    ⟨(some 10), .bin .add (.tmp 8) (.tmp 9), none⟩,
    ⟨(some 11), .callF 131 [(.tmp 10)], none⟩,
    ⟨none, .store 1 (.tmp 3) (.tmp 11), none⟩]
def k113_5 : VC := .block 1 k113_4
def k113_6 : VC := .rangeF (.tmp 6) [7] k113_3 k113_5
def k113_7 : VC := .block 0 k113_6
def k113_8 : VC := .seq k113_2 k113_7
def k113_9 : VC := .reg [⟨(some 12), .load1 (.int .i64) (.tmp 3), none⟩,
    ⟨(some 2), .mv (.tmp 12), none⟩]
def k113_10 : VC := .seq k113_9 .ret
def k113_11 : VC := .seq k113_8 k113_10
def k113_12 : VC := .seq k113_1 k113_11
def k113_13 : VC := .seq k113_0 k113_12
def fn113 : VFn := ⟨13, k113_13, [.tmp 2]⟩
/- 130: cloakroom/check.words -/
def k130_0 : VC := .reg [⟨(some 1), .box (.tmp 0), none⟩,
    ⟨(some 2), .mv (.const .nilFunc), none⟩]
def k130_1 : VC := .reg [⟨(some 3), .mkFunc 133 [] [(.tmp 1)], none⟩,
    ⟨(some 2), .mv (.tmp 3), none⟩]
def k130_2 : VC := .seq k130_1 .ret
def k130_3 : VC := .seq k130_0 k130_2
def fn130 : VFn := ⟨4, k130_3, [.tmp 2]⟩
/- 133: cloakroom/check.words$1 -/
def k133_0 : VC := .reg [⟨(some 3), .mv (.const (.int .i64 0)), none⟩]
def k133_1 : VC := .reg [⟨(some 5), .mv (.tmp 3), none⟩,
    ⟨(some 6), .load1 .str (.tmp 1), none⟩,
    ⟨(some 7), .lenS (.tmp 6), none⟩,
    ⟨(some 8), .bin .lss (.tmp 5) (.tmp 7), none⟩]
def k133_2 : VC := .cond (.tmp 8) .skip (.exit 0)
def k133_3 : VC := .seq k133_1 k133_2
def k133_4 : VC := .reg [⟨(some 11), .load1 .str (.tmp 1), none⟩,
    ⟨(some 12), .mv (.tmp 3), none⟩,
    ⟨(some 13), .idxS (.tmp 11) (.tmp 12), none⟩,
    ⟨(some 14), .conv .i64 (.tmp 13), none⟩,
    ⟨(some 15), .bin .shl (.tmp 14) (.const (.int .u64 8)), none⟩,
    ⟨(some 4), .mv (.tmp 15), none⟩]
def k133_5 : VC := .reg [⟨(some 16), .mv (.tmp 3), none⟩,
    ⟨(some 17), .bin .add (.tmp 16) (.const (.int .i64 1)), none⟩,
    ⟨(some 18), .load1 .str (.tmp 1), none⟩,
    ⟨(some 19), .lenS (.tmp 18), none⟩,
    ⟨(some 20), .bin .lss (.tmp 17) (.tmp 19), none⟩]
def k133_6 : VC := .reg [⟨(some 21), .mv (.tmp 4), none⟩,
    ⟨(some 22), .load1 .str (.tmp 1), none⟩,
    ⟨(some 23), .mv (.tmp 3), none⟩,
    ⟨(some 24), .bin .add (.tmp 23) (.const (.int .i64 1)), none⟩,
    ⟨(some 25), .idxS (.tmp 22) (.tmp 24), none⟩,
    ⟨(some 26), .conv .i64 (.tmp 25), none⟩,
    ⟨(some 27), .bin .or (.tmp 21) (.tmp 26), none⟩,
    ⟨(some 4), .mv (.tmp 27), none⟩]
def k133_7 : VC := .cond (.tmp 20) k133_6 .skip
def k133_8 : VC := .seq k133_5 k133_7
def k133_9 : VC := .reg [⟨(some 28), .mv (.tmp 0), none⟩,
    ⟨(some 29), .mv (.tmp 4), none⟩,
    ⟨(some 30), .callV (.tmp 28) [(.tmp 29)], none⟩,
    ⟨(some 31), .not (.tmp 30), none⟩]
def k133_10 : VC := .cond (.tmp 31) .ret .skip
def k133_11 : VC := .seq k133_9 k133_10
def k133_12 : VC := .seq k133_8 k133_11
def k133_13 : VC := .seq k133_4 k133_12
def k133_14 : VC := .block 1 k133_13
def k133_15 : VC := .reg [⟨(some 9), .mv (.tmp 3), none⟩,
    ⟨(some 10), .bin .add (.tmp 9) (.const (.int .i64 2)), none⟩,
    ⟨(some 3), .mv (.tmp 10), none⟩]
def k133_16 : VC := .seq k133_14 k133_15
def k133_17 : VC := .seq k133_3 k133_16
def k133_18 : VC := .loop k133_17
def k133_19 : VC := .block 0 k133_18
def k133_20 : VC := .seq k133_0 k133_19
def fn133 : VFn := ⟨32, k133_20, []⟩
/- 131: cloakroom/check.fold -/
def k131_0 : VC := .reg [⟨(some 2), .mv (.const (.int .i64 0)), none⟩]
def k131_1 : VC := .reg [⟨(some 3), .mv (.tmp 0), none⟩,
    ⟨(some 4), .bin .gtr (.tmp 3) (.const (.int .i64 65535)), none⟩]
def k131_2 : VC := .cond (.tmp 4) .skip (.exit 0)
def k131_3 : VC := .seq k131_1 k131_2
def k131_4 : VC := .reg [⟨(some 5), .mv (.tmp 0), none⟩,
    ⟨(some 6), .bin .and (.tmp 5) (.const (.int .i64 65535)), none⟩,
    ⟨(some 7), .mv (.tmp 0), none⟩,
    ⟨(some 8), .bin .shr (.tmp 7) (.const (.int .u64 16)), none⟩,
    ⟨(some 9), .bin .add (.tmp 6) (.tmp 8), none⟩,
    ⟨(some 0), .mv (.tmp 9), none⟩]
def k131_5 : VC := .block 1 k131_4
def k131_6 : VC := .seq k131_3 k131_5
def k131_7 : VC := .loop k131_6
def k131_8 : VC := .block 0 k131_7
def k131_9 : VC := .reg [⟨(some 10), .mv (.tmp 0), none⟩,
    ⟨(some 2), .mv (.tmp 10), none⟩]
def k131_10 : VC := .seq k131_9 .ret
def k131_11 : VC := .seq k131_8 k131_10
def k131_12 : VC := .seq k131_0 k131_11
def fn131 : VFn := ⟨11, k131_12, [.tmp 2]⟩
/- 65: cloakroom/check.Set -/
def k65_0 : VC := .reg [⟨(some 8), .mv (.const (.string ⟨⟨[]⟩⟩)), none⟩]
def k65_1 : VC := .reg [⟨(some 10), .mv (.tmp 3), none⟩,
    ⟨(some 11), .mv (.tmp 2), none⟩,
    ⟨(some 12), .callF 62 [(.tmp 10), (.tmp 11)], none⟩,
    ⟨(some 9), .mv (.tmp 12), none⟩]
def k65_2 : VC := .reg [⟨(some 13), .mv (.tmp 9), none⟩,
    ⟨(some 14), .bin .eql (.tmp 13) (.const (.string ⟨⟨[]⟩⟩)), none⟩,
    ⟨(some 15), .mv (.tmp 14), none⟩,
    ⟨(some 16), .mv (.tmp 1), (some (15, false))⟩,
    ⟨(some 17), .bin .lss (.tmp 16) (.const (.int .i64 0)), (some (15, false))⟩,
    ⟨(some 18), .pick (.tmp 15) (.const (.bool true)) (.tmp 17), none⟩,
    ⟨(some 19), .mv (.tmp 18), none⟩,
    ⟨(some 20), .mv (.tmp 0), (some (19, false))⟩,
    ⟨(some 21), .lenS (.tmp 20), (some (19, false))⟩,
    ⟨(some 22), .mv (.tmp 2), (some (19, false))⟩,
    ⟨(some 23), .bin .sub (.tmp 21) (.tmp 22), (some (19, false))⟩,
    ⟨(some 24), .mv (.tmp 1), (some (19, false))⟩,
    ⟨(some 25), .bin .lss (.tmp 23) (.tmp 24), (some (19, false))⟩,
    ⟨(some 26), .pick (.tmp 19) (.const (.bool true)) (.tmp 25), none⟩]
def k65_3 : VC := .reg [⟨(some 27), .mv (.tmp 0), none⟩,
    ⟨(some 8), .mv (.tmp 27), none⟩]
def k65_4 : VC := .seq k65_3 .ret
def k65_5 : VC := .cond (.tmp 26) k65_4 .skip
def k65_6 : VC := .seq k65_2 k65_5
def k65_7 : VC := .regD [⟨(some 28), .mv (.tmp 0), none⟩,
    ⟨(some 29), .mv (.tmp 1), none⟩,
    ⟨(some 30), .sliceS (.tmp 28) none (some (.tmp 29)), none⟩,
    ⟨(some 31), .mv (.tmp 9), none⟩,
    ⟨(some 32), .bin .add (.tmp 30) (.tmp 31), none⟩,
    ⟨(some 33), .mv (.tmp 0), none⟩,
    ⟨(some 34), .mv (.tmp 1), none⟩,
    ⟨(some 35), .mv (.tmp 2), none⟩,
    ⟨(some 36), .bin .add (.tmp 34) (.tmp 35), none⟩,
    ⟨(some 37), .sliceS (.tmp 33) (some (.tmp 36)) none, none⟩] [] [⟨(some 38), .bin .add (.tmp 32) (.tmp 37), none⟩,
    ⟨(some 8), .mv (.tmp 38), none⟩]
def k65_8 : VC := .seq k65_7 .ret
def k65_9 : VC := .seq k65_6 k65_8
def k65_10 : VC := .seq k65_1 k65_9
def k65_11 : VC := .seq k65_0 k65_10
def fn65 : VFn := ⟨39, k65_11, [.tmp 8]⟩
/- 51: cloakroom/tcp.Get -/
def k51_0 : VC := .reg [⟨(some 4), .box (.tmp 1), none⟩,
    ⟨(some 5), .box (.tmp 2), none⟩,
    ⟨(some 6), .alloc [(.int .i64 0), (.int .i64 0), (.int .u32 0), (.int .u32 0), (.int .i64 0), (.int .i64 0), (.int .i64 0), (.string ⟨⟨[]⟩⟩)], none⟩,
    ⟨(some 7), .mv (.const (.string ⟨⟨[]⟩⟩)), none⟩,
    ⟨(some 8), .mv (.const (.int .i64 0)), none⟩]
def k51_1 : VC := .reg [⟨(some 16), .mv (.tmp 0), none⟩,
    ⟨(some 17), .lenS (.tmp 16), none⟩,
    ⟨(some 18), .bin .lss (.tmp 17) (.const (.int .i64 20)), none⟩]
def k51_2 : VC := .reg [⟨(some 19), .build [(.int .i64 0), (.int .i64 0), (.int .u32 0), (.int .u32 0), (.int .i64 0), (.int .i64 0), (.int .i64 0), (.string ⟨⟨[]⟩⟩)] [], none⟩,
    ⟨none, .store 8 (.tmp 6) (.tmp 19), none⟩,
    ⟨(some 7), .mv (.const (.string ⟨⟨[]⟩⟩)), none⟩,
    ⟨(some 8), .mv (.const (.int .i64 2)), none⟩]
def k51_3 : VC := .seq k51_2 .ret
def k51_4 : VC := .cond (.tmp 18) k51_3 .skip
def k51_5 : VC := .seq k51_1 k51_4
def k51_6 : VC := .regD [⟨(some 20), .mv (.tmp 0), none⟩,
    ⟨(some 21), .idxS (.tmp 20) (.const (.int .i64 12)), none⟩,
    ⟨(some 22), .bin .shr (.tmp 21) (.const (.int .u64 4)), none⟩,
    ⟨(some 23), .conv .i64 (.tmp 22), none⟩,
    ⟨(some 24), .mv (.tmp 0), none⟩,
    ⟨(some 25), .idxS (.tmp 24) (.const (.int .i64 12)), none⟩,
    ⟨(some 26), .bin .and (.tmp 25) (.const (.int .u8 15)), none⟩,
    ⟨(some 9), .mv (.tmp 23), none⟩] [] [⟨(some 10), .mv (.tmp 26), none⟩]
def k51_7 : VC := .reg [⟨(some 27), .mv (.tmp 9), none⟩,
    ⟨(some 28), .bin .mul (.const (.int .i64 4)) (.tmp 27), none⟩,
    ⟨(some 11), .mv (.tmp 28), none⟩]
def k51_8 : VC := .reg [⟨(some 30), .mv (.tmp 11), none⟩,
    ⟨(some 31), .bin .lss (.tmp 30) (.const (.int .i64 20)), none⟩,
    ⟨(some 32), .mv (.tmp 31), none⟩,
    ⟨(some 33), .mv (.tmp 10), (some (32, false))⟩,
    ⟨(some 34), .bin .neq (.tmp 33) (.const (.int .u8 0)), (some (32, false))⟩,
    ⟨(some 35), .pick (.tmp 32) (.const (.bool true)) (.tmp 34), none⟩,
    ⟨(some 29), .mv (.tmp 35), none⟩]
def k51_9 : VC := .reg [⟨(some 36), .build [(.int .i64 0), (.int .i64 0), (.int .u32 0), (.int .u32 0), (.int .i64 0), (.int .i64 0), (.int .i64 0), (.string ⟨⟨[]⟩⟩)] [], none⟩,
    ⟨none, .store 8 (.tmp 6) (.tmp 36), none⟩,
    ⟨(some 7), .mv (.const (.string ⟨⟨[]⟩⟩)), none⟩,
    ⟨(some 8), .mv (.const (.int .i64 3)), none⟩]
def k51_10 : VC := .seq k51_9 .ret
def k51_11 : VC := .reg [⟨(some 38), .mv (.tmp 11), none⟩,
    ⟨(some 39), .mv (.tmp 0), none⟩,
    ⟨(some 40), .lenS (.tmp 39), none⟩,
    ⟨(some 41), .bin .gtr (.tmp 38) (.tmp 40), none⟩,
    ⟨(some 37), .mv (.tmp 41), none⟩]
def k51_12 : VC := .reg [⟨(some 42), .build [(.int .i64 0), (.int .i64 0), (.int .u32 0), (.int .u32 0), (.int .i64 0), (.int .i64 0), (.int .i64 0), (.string ⟨⟨[]⟩⟩)] [], none⟩,
    ⟨none, .store 8 (.tmp 6) (.tmp 42), none⟩,
    ⟨(some 7), .mv (.const (.string ⟨⟨[]⟩⟩)), none⟩,
    ⟨(some 8), .mv (.const (.int .i64 2)), none⟩]
def k51_13 : VC := .seq k51_12 .ret
def k51_14 : VC := .cond (.tmp 37) k51_13 .skip
def k51_15 : VC := .seq k51_11 k51_14
def k51_16 : VC := .cond (.tmp 29) k51_10 k51_15
def k51_17 : VC := .seq k51_8 k51_16
def k51_18 : VC := .block 0 k51_17
def k51_19 : VC := .reg [⟨(some 43), .loadN [.bool, (.int .u64), (.int .u64)] (.tmp 4), none⟩,
    ⟨(some 44), .loadN [.bool, (.int .u64), (.int .u64)] (.tmp 5), none⟩,
    ⟨(some 45), .mv (.tmp 0), none⟩,
    ⟨(some 46), .lenS (.tmp 45), none⟩,
    ⟨(some 47), .callF 27 [(.tmp 43), (.tmp 44), (.const (.int .i64 6)), (.tmp 46)], none⟩,
    ⟨(some 12), .mv (.tmp 47), none⟩]
def k51_20 : VC := .reg [⟨(some 49), .mv (.tmp 12), none⟩,
    ⟨(some 50), .bin .eql (.tmp 49) (.const (.string ⟨⟨[]⟩⟩)), none⟩,
    ⟨(some 48), .mv (.tmp 50), none⟩]
def k51_21 : VC := .reg [⟨(some 51), .build [(.int .i64 0), (.int .i64 0), (.int .u32 0), (.int .u32 0), (.int .i64 0), (.int .i64 0), (.int .i64 0), (.string ⟨⟨[]⟩⟩)] [], none⟩,
    ⟨none, .store 8 (.tmp 6) (.tmp 51), none⟩,
    ⟨(some 7), .mv (.const (.string ⟨⟨[]⟩⟩)), none⟩,
    ⟨(some 8), .mv (.const (.int .i64 1)), none⟩]
def k51_22 : VC := .seq k51_21 .ret
def k51_23 : VC := .reg [⟨(some 53), .mv (.tmp 12), none⟩,
    ⟨(some 54), .mv (.tmp 0), none⟩,
    ⟨(some 55), .bin .add (.tmp 53) (.tmp 54), none⟩,
    ⟨(some 56), .callF 73 [(.tmp 55)], none⟩,
    ⟨(some 57), .not (.tmp 56), none⟩,
    ⟨(some 52), .mv (.tmp 57), none⟩]
def k51_24 : VC := .reg [⟨(some 58), .build [(.int .i64 0), (.int .i64 0), (.int .u32 0), (.int .u32 0), (.int .i64 0), (.int .i64 0), (.int .i64 0), (.string ⟨⟨[]⟩⟩)] [], none⟩,
    ⟨none, .store 8 (.tmp 6) (.tmp 58), none⟩,
    ⟨(some 7), .mv (.const (.string ⟨⟨[]⟩⟩)), none⟩,
    ⟨(some 8), .mv (.const (.int .i64 4)), none⟩]
def k51_25 : VC := .seq k51_24 .ret
def k51_26 : VC := .cond (.tmp 52) k51_25 .skip
def k51_27 : VC := .seq k51_23 k51_26
def k51_28 : VC := .cond (.tmp 48) k51_22 k51_27
def k51_29 : VC := .seq k51_20 k51_28
def k51_30 : VC := .block 1 k51_29
def k51_31 : VC := .reg [⟨(some 59), .mv (.tmp 0), none⟩,
    ⟨(some 60), .mv (.tmp 11), none⟩,
    ⟨(some 61), .callF 110 [(.tmp 59), (.tmp 60)], none⟩,
    ⟨(some 13), .alloc [(.int .i64 0), (.int .i64 0), (.int .u32 0), (.int .u32 0), (.int .i64 0), (.int .i64 0), (.int .i64 0), (.string ⟨⟨[]⟩⟩)], none⟩,
    ⟨none, .store 8 (.tmp 13) (.tmp 61), none⟩]
def k51_32 : VC := .reg [⟨(some 63), .fieldA 7 (.tmp 13), none⟩,
    ⟨(some 64), .load1 .str (.tmp 63), none⟩,
    ⟨(some 65), .callF 54 [(.tmp 64)], none⟩,
    ⟨(some 62), .mv (.tmp 65), none⟩,
    ⟨(some 66), .extract 0 (.tmp 62), none⟩,
    ⟨(some 67), .extract 1 (.tmp 62), none⟩,
    ⟨(some 14), .mv (.tmp 66), none⟩,
    ⟨(some 15), .mv (.tmp 67), none⟩]
def k51_33 : VC := .reg [⟨(some 68), .mv (.tmp 15), none⟩,
    ⟨(some 69), .bin .neq (.tmp 68) (.const (.int .i64 0)), none⟩]
def k51_34 : VC := .reg [⟨(some 70), .build [(.int .i64 0), (.int .i64 0), (.int .u32 0), (.int .u32 0), (.int .i64 0), (.int .i64 0), (.int .i64 0), (.string ⟨⟨[]⟩⟩)] [], none⟩,
    ⟨(some 71), .mv (.tmp 15), none⟩,
    ⟨none, .store 8 (.tmp 6) (.tmp 70), none⟩,
    ⟨(some 7), .mv (.const (.string ⟨⟨[]⟩⟩)), none⟩,
    ⟨(some 8), .mv (.tmp 71), none⟩]
def k51_35 : VC := .seq k51_34 .ret
def k51_36 : VC := .cond (.tmp 69) k51_35 .skip
def k51_37 : VC := .seq k51_33 k51_36
def k51_38 : VC := .seq k51_32 k51_37
def k51_39 : VC := .regD [⟨(some 72), .loadN [(.int .i64), (.int .i64), (.int .u32), (.int .u32), (.int .i64), (.int .i64), (.int .i64), .str] (.tmp 13), none⟩,
    ⟨(some 73), .mv (.tmp 0), none⟩,
    ⟨(some 74), .mv (.tmp 11), none⟩,
    ⟨(some 75), .sliceS (.tmp 73) (some (.tmp 74)) none, none⟩,
    ⟨none, .store 8 (.tmp 6) (.tmp 72), none⟩] [] [⟨(some 7), .mv (.tmp 75), none⟩,
    ⟨(some 8), .mv (.const (.int .i64 0)), none⟩]
def k51_40 : VC := .seq k51_39 .ret
def k51_41 : VC := .seq k51_38 k51_40
def k51_42 : VC := .seq k51_31 k51_41
def k51_43 : VC := .seq k51_30 k51_42
def k51_44 : VC := .seq k51_19 k51_43
def k51_45 : VC := .seq k51_18 k51_44
def k51_46 : VC := .seq k51_7 k51_45
def k51_47 : VC := .seq k51_6 k51_46
def k51_48 : VC := .seq k51_5 k51_47
def k51_49 : VC := .seq k51_0 k51_48
def fn51 : VFn := ⟨76, k51_49, [.cell 6 [(.int .i64), (.int .i64), (.int .u32), (.int .u32), (.int .i64), (.int .i64), (.int .i64), .str] true, .tmp 7, .tmp 8]⟩
/- 73: cloakroom/check.Right -/
def k73_0 : VC := .reg [⟨(some 2), .mv (.const (.bool false)), none⟩]
def k73_1 : VC := .reg [⟨(some 3), .mv (.tmp 0), none⟩,
    ⟨(some 4), .callF 113 [(.tmp 3)], none⟩,
    ⟨(some 5), .bin .eql (.tmp 4) (.const (.int .i64 65535)), none⟩,
    ⟨(some 2), .mv (.tmp 5), none⟩]
def k73_2 : VC := .seq k73_1 .ret
def k73_3 : VC := .seq k73_0 k73_2
def fn73 : VFn := ⟨6, k73_3, [.tmp 2]⟩
/- 110: cloakroom/tcp.parsed -/
def k110_0 : VC := .reg [⟨(some 4), .alloc [(.int .i64 0), (.int .i64 0), (.int .u32 0), (.int .u32 0), (.int .i64 0), (.int .i64 0), (.int .i64 0), (.string ⟨⟨[]⟩⟩)], none⟩]
def k110_1 : VC := .reg [⟨(some 7), .mv (.tmp 0), none⟩,
    ⟨(some 8), .callF 70 [(.tmp 7)], none⟩,
    ⟨(some 5), .mv (.tmp 8), none⟩]
def k110_2 : VC := .reg [⟨(some 9), .mv (.tmp 5), none⟩,
    ⟨(some 10), .callF 71 [(.tmp 9), (.const (.int .i64 2))], none⟩,
    ⟨(some 11), .mv (.tmp 5), none⟩,
    ⟨(some 12), .callF 71 [(.tmp 11), (.const (.int .i64 2))], none⟩,
    ⟨(some 13), .mv (.tmp 5), none⟩,
    ⟨(some 14), .callF 71 [(.tmp 13), (.const (.int .i64 4))], none⟩,
    ⟨(some 15), .conv .u32 (.tmp 14), none⟩,
    ⟨(some 16), .mv (.tmp 5), none⟩,
    ⟨(some 17), .callF 71 [(.tmp 16), (.const (.int .i64 4))], none⟩,
    ⟨(some 18), .conv .u32 (.tmp 17), none⟩,
    ⟨(some 19), .build [(.int .i64 0), (.int .i64 0), (.int .u32 0), (.int .u32 0), (.int .i64 0), (.int .i64 0), (.int .i64 0), (.string ⟨⟨[]⟩⟩)] [(0, 1, (.tmp 10)), (1, 1, (.tmp 12)), (2, 1, (.tmp 15)), (3, 1, (.tmp 18))], none⟩,
    ⟨(some 6), .alloc [(.int .i64 0), (.int .i64 0), (.int .u32 0), (.int .u32 0), (.int .i64 0), (.int .i64 0), (.int .i64 0), (.string ⟨⟨[]⟩⟩)], none⟩,
    ⟨none, .store 8 (.tmp 6) (.tmp 19), none⟩]
def k110_3 : VC := .reg [⟨(some 20), .mv (.tmp 5), none⟩,
    ⟨(some 21), .callF 71 [(.tmp 20), (.const (.int .i64 2))], none⟩,
    ⟨(some 22), .bin .and (.tmp 21) (.const (.int .i64 255)), none⟩,
    ⟨(some 23), .fieldA 4 (.tmp 6), none⟩,
    ⟨none, .store 1 (.tmp 23) (.tmp 22), none⟩]
def k110_4 : VC := .reg [⟨(some 24), .mv (.tmp 5), none⟩,
    ⟨(some 25), .callF 71 [(.tmp 24), (.const (.int .i64 2))], none⟩,
    ⟨(some 26), .fieldA 5 (.tmp 6), none⟩,
    ⟨none, .store 1 (.tmp 26) (.tmp 25), none⟩]
def k110_5 : VC := .reg [⟨(some 27), .mv (.tmp 5), none⟩,
    ⟨(some 28), .callF 71 [(.tmp 27), (.const (.int .i64 2))], none⟩]
def k110_6 : VC := .reg [⟨(some 29), .mv (.tmp 5), none⟩,
    ⟨(some 30), .callF 71 [(.tmp 29), (.const (.int .i64 2))], none⟩,
    ⟨(some 31), .fieldA 6 (.tmp 6), none⟩,
    ⟨none, .store 1 (.tmp 31) (.tmp 30), none⟩]
def k110_7 : VC := .reg [⟨(some 32), .mv (.tmp 5), none⟩,
    ⟨(some 33), .mv (.tmp 1), none⟩,
    ⟨(some 34), .bin .sub (.tmp 33) (.const (.int .i64 20)), none⟩,
    ⟨(some 35), .callF 83 [(.tmp 32), (.tmp 34)], none⟩,
    ⟨(some 36), .fieldA 7 (.tmp 6), none⟩,
    ⟨none, .store 1 (.tmp 36) (.tmp 35), none⟩]
def k110_8 : VC := .reg [⟨(some 37), .loadN [(.int .i64), (.int .i64), (.int .u32), (.int .u32), (.int .i64), (.int .i64), (.int .i64), .str] (.tmp 6), none⟩,
    ⟨none, .store 8 (.tmp 4) (.tmp 37), none⟩]
def k110_9 : VC := .seq k110_8 .ret
def k110_10 : VC := .seq k110_7 k110_9
def k110_11 : VC := .seq k110_6 k110_10
def k110_12 : VC := .seq k110_5 k110_11
def k110_13 : VC := .seq k110_4 k110_12
def k110_14 : VC := .seq k110_3 k110_13
def k110_15 : VC := .seq k110_2 k110_14
def k110_16 : VC := .seq k110_1 k110_15
def k110_17 : VC := .seq k110_0 k110_16
def fn110 : VFn := ⟨38, k110_17, [.cell 4 [(.int .i64), (.int .i64), (.int .u32), (.int .u32), (.int .i64), (.int .i64), (.int .i64), .str] true]⟩
/- 70: cloakroom/octet.New -/
def k70_0 : VC := .reg [⟨(some 2), .mv (.const (.pointer none)), none⟩]
def k70_1 : VC := .reg [⟨(some 3), .mv (.tmp 0), none⟩,
    ⟨(some 4), .build [(.string ⟨⟨[]⟩⟩), (.bool false), (.bool false)] [(0, 1, (.tmp 3)), (1, 1, (.const (.bool true)))], none⟩,
    ⟨(some 5), .box (.tmp 4), none⟩,
    ⟨(some 2), .mv (.tmp 5), none⟩]
def k70_2 : VC := .seq k70_1 .ret
def k70_3 : VC := .seq k70_0 k70_2
def fn70 : VFn := ⟨6, k70_3, [.tmp 2]⟩
/- 71: (*cloakroom/octet.Reader).Num -/
def k71_0 : VC := .reg [⟨(some 4), .mv (.const (.int .i64 0)), none⟩]
def k71_1 : VC := .reg [⟨(some 7), .mv (.tmp 1), none⟩,
    ⟨(some 8), .bin .lss (.tmp 7) (.const (.int .i64 1)), none⟩,
    ⟨(some 9), .mv (.tmp 8), none⟩,
    ⟨(some 10), .mv (.tmp 1), (some (9, false))⟩,
    ⟨(some 11), .bin .gtr (.tmp 10) (.const (.int .i64 7)), (some (9, false))⟩,
    ⟨(some 12), .pick (.tmp 9) (.const (.bool true)) (.tmp 11), none⟩]
def k71_2 : VC := .reg [⟨(some 1), .mv (.const (.int .i64 (-1))), none⟩]
def k71_3 : VC := .cond (.tmp 12) k71_2 .skip
def k71_4 : VC := .seq k71_1 k71_3
def k71_5 : VC := .reg [⟨(some 14), .mv (.tmp 0), none⟩,
    ⟨(some 15), .mv (.tmp 1), none⟩,
    ⟨(some 16), .callF 83 [(.tmp 14), (.tmp 15)], none⟩,
    ⟨(some 17), .mv (.tmp 1), none⟩,
    ⟨(some 18), .callF 101 [(.tmp 16), (.const (.int .i64 0)), (.tmp 17)], none⟩,
    ⟨(some 13), .mv (.tmp 18), none⟩,
    ⟨(some 19), .extract 0 (.tmp 13), none⟩,
    ⟨(some 20), .extract 1 (.tmp 13), none⟩,
    ⟨(some 5), .mv (.tmp 19), none⟩,
    ⟨(some 6), .mv (.tmp 20), none⟩]
def k71_6 : VC := .reg [⟨(some 21), .mv (.tmp 5), none⟩,
    ⟨(some 22), .conv .i64 (.tmp 21), none⟩,
    ⟨(some 4), .mv (.tmp 22), none⟩]
def k71_7 : VC := .seq k71_6 .ret
def k71_8 : VC := .seq k71_5 k71_7
def k71_9 : VC := .seq k71_4 k71_8
def k71_10 : VC := .seq k71_0 k71_9
def fn71 : VFn := ⟨23, k71_10, [.tmp 4]⟩
/- 83: (*cloakroom/octet.Reader).Text -/
def k83_0 : VC := .reg [⟨(some 4), .mv (.const (.string ⟨⟨[]⟩⟩)), none⟩]
def k83_1 : VC := .reg [⟨(some 6), .mv (.tmp 0), none⟩,
    ⟨(some 7), .callF 72 [(.tmp 6)], none⟩]
def k83_2 : VC := .reg [⟨(some 4), .mv (.const (.string ⟨⟨[]⟩⟩)), none⟩]
def k83_3 : VC := .seq k83_2 .ret
def k83_4 : VC := .cond (.tmp 7) k83_3 .skip
def k83_5 : VC := .seq k83_1 k83_4
def k83_6 : VC := .reg [⟨(some 8), .mv (.tmp 1), none⟩,
    ⟨(some 9), .bin .lss (.tmp 8) (.const (.int .i64 0)), none⟩,
    ⟨(some 10), .mv (.tmp 9), none⟩,
    ⟨(some 11), .mv (.tmp 1), (some (10, false))⟩,
    ⟨(some 12), .mv (.tmp 0), (some (10, false))⟩,
    ⟨(some 13), .nilCheck (.tmp 12), (some (10, false))⟩,
    ⟨(some 14), .fieldA 0 (.tmp 13), (some (10, false))⟩,
    ⟨(some 15), .load1 .str (.tmp 14), (some (10, false))⟩,
    ⟨(some 16), .lenS (.tmp 15), (some (10, false))⟩,
    ⟨(some 17), .bin .gtr (.tmp 11) (.tmp 16), (some (10, false))⟩,
    ⟨(some 18), .pick (.tmp 10) (.const (.bool true)) (.tmp 17), none⟩]
def k83_7 : VC := .reg [⟨(some 19), .mv (.tmp 0), none⟩,
    ⟨(some 20), .nilCheck (.tmp 19), none⟩,
    ⟨(some 21), .fieldA 2 (.tmp 20), none⟩,
    ⟨none, .store 1 (.tmp 21) (.const (.bool true)), none⟩]
def k83_8 : VC := .reg [⟨(some 4), .mv (.const (.string ⟨⟨[]⟩⟩)), none⟩]
def k83_9 : VC := .seq k83_8 .ret
def k83_10 : VC := .seq k83_7 k83_9
def k83_11 : VC := .cond (.tmp 18) k83_10 .skip
def k83_12 : VC := .seq k83_6 k83_11
def k83_13 : VC := .reg [⟨(some 22), .mv (.tmp 0), none⟩,
    ⟨(some 23), .nilCheck (.tmp 22), none⟩,
    ⟨(some 24), .fieldA 0 (.tmp 23), none⟩,
    ⟨(some 25), .load1 .str (.tmp 24), none⟩,
    ⟨(some 26), .mv (.tmp 1), none⟩,
    ⟨(some 27), .sliceS (.tmp 25) none (some (.tmp 26)), none⟩,
    ⟨(some 5), .mv (.tmp 27), none⟩]
def k83_14 : VC := .reg [⟨(some 28), .mv (.tmp 0), none⟩,
    ⟨(some 29), .mv (.tmp 0), none⟩,
    ⟨(some 30), .nilCheck (.tmp 29), none⟩,
    ⟨(some 31), .fieldA 0 (.tmp 30), none⟩,
    ⟨(some 32), .load1 .str (.tmp 31), none⟩,
    ⟨(some 33), .mv (.tmp 1), none⟩,
    ⟨(some 34), .sliceS (.tmp 32) (some (.tmp 33)) none, none⟩,
    ⟨(some 35), .nilCheck (.tmp 28), none⟩,
    ⟨(some 36), .fieldA 0 (.tmp 35), none⟩,
    ⟨none, .store 1 (.tmp 36) (.tmp 34), none⟩]
def k83_15 : VC := .reg [⟨(some 37), .mv (.tmp 5), none⟩,
    ⟨(some 4), .mv (.tmp 37), none⟩]
def k83_16 : VC := .seq k83_15 .ret
def k83_17 : VC := .seq k83_14 k83_16
def k83_18 : VC := .seq k83_13 k83_17
def k83_19 : VC := .seq k83_12 k83_18
def k83_20 : VC := .seq k83_5 k83_19
def k83_21 : VC := .seq k83_0 k83_20
def fn83 : VFn := ⟨38, k83_21, [.tmp 4]⟩
/- 72: (*cloakroom/octet.Reader).Bad -/
def k72_0 : VC := .reg [⟨(some 2), .mv (.const (.bool false)), none⟩]
def k72_1 : VC := .reg [⟨(some 3), .mv (.tmp 0), none⟩,
    ⟨(some 4), .isNil 0 false (.tmp 3), none⟩,
    ⟨(some 5), .mv (.tmp 4), none⟩,
    ⟨(some 6), .mv (.tmp 0), (some (5, false))⟩,
    ⟨(some 7), .nilCheck (.tmp 6), (some (5, false))⟩,
    ⟨(some 8), .fieldA 1 (.tmp 7), (some (5, false))⟩,
    ⟨(some 9), .load1 .bool (.tmp 8), (some (5, false))⟩,
    ⟨(some 10), .not (.tmp 9), (some (5, false))⟩,
    ⟨(some 11), .pick (.tmp 5) (.const (.bool true)) (.tmp 10), none⟩,
    ⟨(some 12), .mv (.tmp 11), none⟩,
    ⟨(some 13), .mv (.tmp 0), (some (12, false))⟩,
    ⟨(some 14), .nilCheck (.tmp 13), (some (12, false))⟩,
    ⟨(some 15), .fieldA 2 (.tmp 14), (some (12, false))⟩,
    ⟨(some 16), .load1 .bool (.tmp 15), (some (12, false))⟩,
    ⟨(some 17), .pick (.tmp 12) (.const (.bool true)) (.tmp 16), none⟩,
    ⟨(some 2), .mv (.tmp 17), none⟩]
def k72_2 : VC := .seq k72_1 .ret
def k72_3 : VC := .seq k72_0 k72_2
def fn72 : VFn := ⟨18, k72_3, [.tmp 2]⟩
/- 49: cloakroom/cloakroomlaw07.of -/
def k49_0 : VC := .reg [⟨(some 1), .box (.tmp 0), none⟩,
    ⟨(some 2), .alloc [(.int .i64 0), (.int .i64 0), (.int .u32 0), (.int .u32 0), (.int .i64 0), (.int .i64 0), (.int .i64 0), (.string ⟨⟨[]⟩⟩)], none⟩]
def k49_1 : VC := .reg [⟨(some 3), .fieldA 0 (.tmp 1), none⟩,
    ⟨(some 4), .load1 (.int .i64) (.tmp 3), none⟩,
    ⟨(some 5), .fieldA 1 (.tmp 1), none⟩,
    ⟨(some 6), .load1 (.int .i64) (.tmp 5), none⟩,
    ⟨(some 7), .fieldA 2 (.tmp 1), none⟩,
    ⟨(some 8), .load1 (.int .u32) (.tmp 7), none⟩,
    ⟨(some 9), .fieldA 3 (.tmp 1), none⟩,
    ⟨(some 10), .load1 (.int .u32) (.tmp 9), none⟩,
    ⟨(some 11), .fieldA 4 (.tmp 1), none⟩,
    ⟨(some 12), .load1 (.int .i64) (.tmp 11), none⟩,
    ⟨(some 13), .fieldA 5 (.tmp 1), none⟩,
    ⟨(some 14), .load1 (.int .i64) (.tmp 13), none⟩,
    ⟨(some 15), .fieldA 6 (.tmp 1), none⟩,
    ⟨(some 16), .load1 (.int .i64) (.tmp 15), none⟩,
    ⟨(some 17), .fieldA 7 (.tmp 1), none⟩,
    ⟨(some 18), .load1 .str (.tmp 17), none⟩,
    ⟨(some 19), .build [(.int .i64 0), (.int .i64 0), (.int .u32 0), (.int .u32 0), (.int .i64 0), (.int .i64 0), (.int .i64 0), (.string ⟨⟨[]⟩⟩)] [(0, 1, (.tmp 4)), (1, 1, (.tmp 6)), (2, 1, (.tmp 8)), (3, 1, (.tmp 10)), (4, 1, (.tmp 12)), (5, 1, (.tmp 14)), (6, 1, (.tmp 16)), (7, 1, (.tmp 18))], none⟩,
    ⟨none, .store 8 (.tmp 2) (.tmp 19), none⟩]
def k49_2 : VC := .seq k49_1 .ret
def k49_3 : VC := .seq k49_0 k49_2
def fn49 : VFn := ⟨20, k49_3, [.cell 2 [(.int .i64), (.int .i64), (.int .u32), (.int .u32), (.int .i64), (.int .i64), (.int .i64), .str] true]⟩
/- 50: cloakroom/cloakroomref07.Put -/
def k50_0 : VC := .reg [⟨(some 4), .box (.tmp 0), none⟩,
    ⟨(some 5), .box (.tmp 1), none⟩,
    ⟨(some 6), .box (.tmp 2), none⟩,
    ⟨(some 8), .mv (.const (.string ⟨⟨[]⟩⟩)), none⟩,
    ⟨(some 9), .mv (.const (.int .i64 0)), none⟩]
def k50_1 : VC := .reg [⟨(some 13), .fieldA 7 (.tmp 4), none⟩,
    ⟨(some 14), .load1 .str (.tmp 13), none⟩,
    ⟨(some 15), .lenS (.tmp 14), none⟩,
    ⟨(some 16), .bin .add (.const (.int .i64 20)) (.tmp 15), none⟩,
    ⟨(some 10), .mv (.tmp 16), none⟩]
def k50_2 : VC := .reg [⟨(some 17), .loadN [.bool, (.int .u64), (.int .u64)] (.tmp 5), none⟩,
    ⟨(some 18), .loadN [.bool, (.int .u64), (.int .u64)] (.tmp 6), none⟩,
    ⟨(some 19), .mv (.tmp 10), none⟩,
    ⟨(some 20), .mv (.tmp 3), none⟩,
    ⟨(some 21), .lenS (.tmp 20), none⟩,
    ⟨(some 22), .bin .add (.tmp 19) (.tmp 21), none⟩,
    ⟨(some 23), .callF 28 [(.tmp 17), (.tmp 18), (.const (.int .i64 6)), (.tmp 22)], none⟩,
    ⟨(some 11), .mv (.tmp 23), none⟩]
def k50_3 : VC := .reg [⟨(some 24), .loadN [(.int .i64), (.int .i64), (.int .u32), (.int .u32), (.int .i64), (.int .i64), (.int .i64), .str] (.tmp 4), none⟩,
    ⟨(some 25), .callF 108 [(.tmp 24)], none⟩,
    ⟨(some 26), .not (.tmp 25), none⟩,
    ⟨(some 27), .mv (.tmp 26), none⟩,
    ⟨(some 28), .mv (.tmp 11), (some (27, false))⟩,
    ⟨(some 29), .bin .eql (.tmp 28) (.const (.string ⟨⟨[]⟩⟩)), (some (27, false))⟩,
    ⟨(some 30), .pick (.tmp 27) (.const (.bool true)) (.tmp 29), none⟩]
def k50_4 : VC := .reg [⟨(some 8), .mv (.const (.string ⟨⟨[]⟩⟩)), none⟩,
    ⟨(some 9), .mv (.const (.int .i64 1)), none⟩]
def k50_5 : VC := .seq k50_4 .ret
def k50_6 : VC := .cond (.tmp 30) k50_5 .skip
def k50_7 : VC := .seq k50_3 k50_6
def k50_8 : VC := .reg [⟨(some 31), .mv (.tmp 3), none⟩,
    ⟨(some 32), .lenS (.tmp 31), none⟩,
    ⟨(some 33), .mv (.tmp 10), none⟩,
    ⟨(some 34), .bin .sub (.const (.int .i64 65535)) (.tmp 33), none⟩,
    ⟨(some 35), .bin .gtr (.tmp 32) (.tmp 34), none⟩]
def k50_9 : VC := .reg [⟨(some 8), .mv (.const (.string ⟨⟨[]⟩⟩)), none⟩,
    ⟨(some 9), .mv (.const (.int .i64 5)), none⟩]
def k50_10 : VC := .seq k50_9 .ret
def k50_11 : VC := .cond (.tmp 35) k50_10 .skip
def k50_12 : VC := .seq k50_8 k50_11
def k50_13 : VC := .regD [⟨(some 36), .fieldA 0 (.tmp 4), none⟩,
    ⟨(some 37), .load1 (.int .i64) (.tmp 36), none⟩,
    ⟨(some 38), .callF 109 [(.tmp 37), (.const (.int .i64 2))], none⟩,
    ⟨(some 39), .fieldA 1 (.tmp 4), none⟩,
    ⟨(some 40), .load1 (.int .i64) (.tmp 39), none⟩,
    ⟨(some 41), .callF 109 [(.tmp 40), (.const (.int .i64 2))], none⟩,
    ⟨(some 42), .bin .add (.tmp 38) (.tmp 41), none⟩,
    ⟨(some 43), .fieldA 2 (.tmp 4), none⟩,
    ⟨(some 44), .load1 (.int .u32) (.tmp 43), none⟩,
    ⟨(some 45), .conv .i64 (.tmp 44), none⟩,
    ⟨(some 46), .callF 109 [(.tmp 45), (.const (.int .i64 4))], none⟩,
    ⟨(some 47), .bin .add (.tmp 42) (.tmp 46), none⟩,
    ⟨(some 48), .fieldA 3 (.tmp 4), none⟩,
    ⟨(some 49), .load1 (.int .u32) (.tmp 48), none⟩,
    ⟨(some 50), .conv .i64 (.tmp 49), none⟩,
    ⟨(some 51), .callF 109 [(.tmp 50), (.const (.int .i64 4))], none⟩,
    ⟨(some 52), .bin .add (.tmp 47) (.tmp 51), none⟩,
    ⟨(some 53), .mv (.tmp 10), none⟩,
    ⟨(some 54), .bin .mul (.const (.int .i64 4)) (.tmp 53), none⟩,
    ⟨(some 55), .callF 109 [(.tmp 54), (.const (.int .i64 1))], none⟩,
    ⟨(some 56), .bin .add (.tmp 52) (.tmp 55), none⟩,
    ⟨(some 57), .fieldA 4 (.tmp 4), none⟩,
    ⟨(some 58), .load1 (.int .i64) (.tmp 57), none⟩,
    ⟨(some 59), .callF 109 [(.tmp 58), (.const (.int .i64 1))], none⟩,
    ⟨(some 60), .bin .add (.tmp 56) (.tmp 59), none⟩,
    ⟨(some 61), .fieldA 5 (.tmp 4), none⟩,
    ⟨(some 62), .load1 (.int .i64) (.tmp 61), none⟩,
    ⟨(some 63), .callF 109 [(.tmp 62), (.const (.int .i64 2))], none⟩,
    ⟨(some 64), .bin .add (.tmp 60) (.tmp 63), none⟩,
    ⟨(some 65), .callF 109 [(.const (.int .i64 0)), (.const (.int .i64 2))], none⟩,
    ⟨(some 66), .bin .add (.tmp 64) (.tmp 65), none⟩,
    ⟨(some 67), .fieldA 6 (.tmp 4), none⟩,
    ⟨(some 68), .load1 (.int .i64) (.tmp 67), none⟩,
    ⟨(some 69), .callF 109 [(.tmp 68), (.const (.int .i64 2))], none⟩,
    ⟨(some 70), .bin .add (.tmp 66) (.tmp 69), none⟩,
    ⟨(some 71), .fieldA 7 (.tmp 4), none⟩,
    ⟨(some 72), .load1 .str (.tmp 71), none⟩,
    ⟨(some 73), .bin .add (.tmp 70) (.tmp 72), none⟩,
    ⟨(some 74), .mv (.tmp 3), none⟩] [(2, 4), (2, 8), (2, 13), (2, 22), (2, 26), (2, 32), (2, 36), (5, 8), (5, 13), (5, 22), (5, 26), (5, 32), (5, 36), (10, 13), (10, 22), (10, 26), (10, 32), (10, 36), (15, 22), (15, 26), (15, 32), (15, 36), (19, 22), (19, 26), (19, 32), (19, 36), (23, 26), (23, 32), (23, 36), (27, 32), (27, 36), (29, 32), (29, 36), (33, 36)] [⟨(some 75), .bin .add (.tmp 73) (.tmp 74), none⟩,
    ⟨(some 12), .mv (.tmp 75), none⟩]
def k50_14 : VC := .reg [⟨(some 76), .mv (.tmp 12), none⟩,
    ⟨(some 77), .mv (.tmp 11), none⟩,
    ⟨(some 78), .mv (.tmp 12), none⟩,
    ⟨(some 79), .bin .add (.tmp 77) (.tmp 78), none⟩,
    ⟨(some 80), .callF 68 [(.tmp 79)], none⟩,
    ⟨(some 81), .conv .u64 (.tmp 80), none⟩,
    ⟨(some 82), .callF 69 [(.tmp 76), (.const (.int .i64 16)), (.const (.int .i64 2)), (.tmp 81)], none⟩,
    ⟨(some 8), .mv (.tmp 82), none⟩,
    ⟨(some 9), .mv (.const (.int .i64 0)), none⟩]
def k50_15 : VC := .seq k50_14 .ret
def k50_16 : VC := .seq k50_13 k50_15
def k50_17 : VC := .seq k50_12 k50_16
def k50_18 : VC := .seq k50_7 k50_17
def k50_19 : VC := .seq k50_2 k50_18
def k50_20 : VC := .seq k50_1 k50_19
def k50_21 : VC := .seq k50_0 k50_20
def fn50 : VFn := ⟨83, k50_21, [.tmp 8, .tmp 9]⟩
/- 28: cloakroom/cloakroomref05.Pseudo -/
def k28_0 : VC := .reg [⟨(some 4), .box (.tmp 0), none⟩,
    ⟨(some 5), .box (.tmp 1), none⟩,
    ⟨(some 8), .mv (.const (.string ⟨⟨[]⟩⟩)), none⟩]
def k28_1 : VC := .reg [⟨(some 9), .loadN [.bool, (.int .u64), (.int .u64)] (.tmp 4), none⟩,
    ⟨(some 10), .callF 86 [(.tmp 9)], none⟩,
    ⟨(some 11), .not (.tmp 10), none⟩,
    ⟨(some 12), .mv (.tmp 11), none⟩,
    ⟨(some 13), .loadN [.bool, (.int .u64), (.int .u64)] (.tmp 5), (some (12, false))⟩,
    ⟨(some 14), .callF 86 [(.tmp 13)], (some (12, false))⟩,
    ⟨(some 15), .not (.tmp 14), (some (12, false))⟩,
    ⟨(some 16), .pick (.tmp 12) (.const (.bool true)) (.tmp 15), none⟩,
    ⟨(some 17), .mv (.tmp 16), none⟩,
    ⟨(some 18), .fieldA 0 (.tmp 4), (some (17, false))⟩,
    ⟨(some 19), .load1 .bool (.tmp 18), (some (17, false))⟩,
    ⟨(some 20), .fieldA 0 (.tmp 5), (some (17, false))⟩,
    ⟨(some 21), .load1 .bool (.tmp 20), (some (17, false))⟩,
    ⟨(some 22), .eqB true (.tmp 19) (.tmp 21), (some (17, false))⟩,
    ⟨(some 23), .pick (.tmp 17) (.const (.bool true)) (.tmp 22), none⟩]
def k28_2 : VC := .reg [⟨(some 8), .mv (.const (.string ⟨⟨[]⟩⟩)), none⟩]
def k28_3 : VC := .seq k28_2 .ret
def k28_4 : VC := .cond (.tmp 23) k28_3 .skip
def k28_5 : VC := .seq k28_1 k28_4
def k28_6 : VC := .reg [⟨(some 24), .fieldA 0 (.tmp 4), none⟩,
    ⟨(some 25), .load1 .bool (.tmp 24), none⟩]
def k28_7 : VC := .regD [⟨(some 26), .loadN [.bool, (.int .u64), (.int .u64)] (.tmp 4), none⟩,
    ⟨(some 27), .callF 81 [(.tmp 26)], none⟩,
    ⟨(some 28), .loadN [.bool, (.int .u64), (.int .u64)] (.tmp 5), none⟩,
    ⟨(some 29), .callF 81 [(.tmp 28)], none⟩,
    ⟨(some 30), .bin .add (.tmp 27) (.tmp 29), none⟩,
    ⟨(some 31), .mv (.tmp 3), none⟩,
    ⟨(some 32), .callF 80 [(.tmp 31), (.const (.int .i64 4))], none⟩,
    ⟨(some 33), .bin .add (.tmp 30) (.tmp 32), none⟩,
    ⟨(some 34), .callF 80 [(.const (.int .i64 0)), (.const (.int .i64 3))], none⟩,
    ⟨(some 35), .bin .add (.tmp 33) (.tmp 34), none⟩,
    ⟨(some 36), .mv (.tmp 2), none⟩,
    ⟨(some 37), .callF 80 [(.tmp 36), (.const (.int .i64 1))], none⟩] [(1, 2)] [⟨(some 38), .bin .add (.tmp 35) (.tmp 37), none⟩,
    ⟨(some 8), .mv (.tmp 38), none⟩]
def k28_8 : VC := .seq k28_7 .ret
def k28_9 : VC := .cond (.tmp 25) k28_8 .skip
def k28_10 : VC := .seq k28_6 k28_9
def k28_11 : VC := .regD [⟨(some 39), .loadN [.bool, (.int .u64), (.int .u64)] (.tmp 4), none⟩,
    ⟨(some 40), .callF 81 [(.tmp 39)], none⟩,
    ⟨(some 41), .loadN [.bool, (.int .u64), (.int .u64)] (.tmp 5), none⟩,
    ⟨(some 42), .callF 81 [(.tmp 41)], none⟩,
    ⟨(some 43), .bin .add (.tmp 40) (.tmp 42), none⟩,
    ⟨(some 44), .callF 80 [(.const (.int .i64 0)), (.const (.int .i64 1))], none⟩,
    ⟨(some 45), .bin .add (.tmp 43) (.tmp 44), none⟩,
    ⟨(some 46), .mv (.tmp 2), none⟩,
    ⟨(some 47), .callF 80 [(.tmp 46), (.const (.int .i64 1))], none⟩,
    ⟨(some 48), .bin .add (.tmp 45) (.tmp 47), none⟩,
    ⟨(some 49), .mv (.tmp 3), none⟩,
    ⟨(some 50), .callF 80 [(.tmp 49), (.const (.int .i64 2))], none⟩] [(1, 2)] [⟨(some 51), .bin .add (.tmp 48) (.tmp 50), none⟩,
    ⟨(some 8), .mv (.tmp 51), none⟩]
def k28_12 : VC := .seq k28_11 .ret
def k28_13 : VC := .seq k28_10 k28_12
def k28_14 : VC := .seq k28_5 k28_13
def k28_15 : VC := .seq k28_0 k28_14
def fn28 : VFn := ⟨52, k28_15, [.tmp 8]⟩
/- 86: cloakroom/cloakroomref04.Right -/
def k86_0 : VC := .reg [⟨(some 1), .box (.tmp 0), none⟩,
    ⟨(some 2), .mv (.const (.bool false)), none⟩]
def k86_1 : VC := .reg [⟨(some 3), .fieldA 0 (.tmp 1), none⟩,
    ⟨(some 4), .load1 .bool (.tmp 3), none⟩,
    ⟨(some 5), .mv (.tmp 4), none⟩,
    ⟨(some 6), .fieldA 1 (.tmp 1), (some (5, false))⟩,
    ⟨(some 7), .load1 (.int .u64) (.tmp 6), (some (5, false))⟩,
    ⟨(some 8), .bin .eql (.tmp 7) (.const (.int .u64 0)), (some (5, false))⟩,
    ⟨(some 9), .mv (.tmp 8), (some (5, false))⟩,
    ⟨(some 10), .fieldA 2 (.tmp 1), (some (9, true))⟩,
    ⟨(some 11), .load1 (.int .u64) (.tmp 10), (some (9, true))⟩,
    ⟨(some 12), .bin .lss (.tmp 11) (.const (.int .u64 4294967296)), (some (9, true))⟩,
    ⟨(some 13), .pick (.tmp 9) (.tmp 12) (.const (.bool false)), (some (5, false))⟩,
    ⟨(some 14), .pick (.tmp 5) (.const (.bool true)) (.tmp 13), none⟩,
    ⟨(some 2), .mv (.tmp 14), none⟩]
def k86_2 : VC := .seq k86_1 .ret
def k86_3 : VC := .seq k86_0 k86_2
def fn86 : VFn := ⟨15, k86_3, [.tmp 2]⟩
/- 81: cloakroom/cloakroomref04.Put -/
def k81_0 : VC := .reg [⟨(some 1), .box (.tmp 0), none⟩,
    ⟨(some 2), .mv (.const (.string ⟨⟨[]⟩⟩)), none⟩]
def k81_1 : VC := .reg [⟨(some 3), .loadN [.bool, (.int .u64), (.int .u64)] (.tmp 1), none⟩,
    ⟨(some 4), .callF 86 [(.tmp 3)], none⟩,
    ⟨(some 5), .not (.tmp 4), none⟩]
def k81_2 : VC := .reg [⟨(some 2), .mv (.const (.string ⟨⟨[]⟩⟩)), none⟩]
def k81_3 : VC := .seq k81_2 .ret
def k81_4 : VC := .cond (.tmp 5) k81_3 .skip
def k81_5 : VC := .seq k81_1 k81_4
def k81_6 : VC := .reg [⟨(some 6), .fieldA 0 (.tmp 1), none⟩,
    ⟨(some 7), .load1 .bool (.tmp 6), none⟩]
def k81_7 : VC := .regD [⟨(some 8), .fieldA 1 (.tmp 1), none⟩,
    ⟨(some 9), .load1 (.int .u64) (.tmp 8), none⟩,
    ⟨(some 10), .callF 67 [(.tmp 9), (.const (.int .i64 8))], none⟩,
    ⟨(some 11), .fieldA 2 (.tmp 1), none⟩,
    ⟨(some 12), .load1 (.int .u64) (.tmp 11), none⟩] [(2, 4)] [⟨(some 13), .callF 67 [(.tmp 12), (.const (.int .i64 8))], none⟩,
    ⟨(some 14), .bin .add (.tmp 10) (.tmp 13), none⟩,
    ⟨(some 2), .mv (.tmp 14), none⟩]
def k81_8 : VC := .seq k81_7 .ret
def k81_9 : VC := .cond (.tmp 7) k81_8 .skip
def k81_10 : VC := .seq k81_6 k81_9
def k81_11 : VC := .reg [⟨(some 15), .fieldA 2 (.tmp 1), none⟩,
    ⟨(some 16), .load1 (.int .u64) (.tmp 15), none⟩,
    ⟨(some 17), .callF 67 [(.tmp 16), (.const (.int .i64 4))], none⟩,
    ⟨(some 2), .mv (.tmp 17), none⟩]
def k81_12 : VC := .seq k81_11 .ret
def k81_13 : VC := .seq k81_10 k81_12
def k81_14 : VC := .seq k81_5 k81_13
def k81_15 : VC := .seq k81_0 k81_14
def fn81 : VFn := ⟨18, k81_15, [.tmp 2]⟩
/- 67: cloakroom/cloakroomref02.Put -/
def k67_0 : VC := .reg [⟨(some 4), .mv (.const (.string ⟨⟨[]⟩⟩)), none⟩]
def k67_1 : VC := .reg [⟨(some 5), .mv (.const (.string ⟨⟨[]⟩⟩)), none⟩]
def k67_2 : VC := .reg [⟨(some 6), .mv (.const (.int .i64 0)), none⟩]
def k67_3 : VC := .reg [⟨(some 7), .mv (.tmp 6), none⟩,
    ⟨(some 8), .mv (.tmp 1), none⟩,
    ⟨(some 9), .bin .lss (.tmp 7) (.tmp 8), none⟩,
    ⟨(some 10), .mv (.tmp 9), none⟩,
    ⟨(some 11), .mv (.tmp 1), (some (10, true))⟩,
    ⟨(some 12), .bin .leq (.tmp 11) (.const (.int .i64 8)), (some (10, true))⟩,
    ⟨(some 13), .pick (.tmp 10) (.tmp 12) (.const (.bool false)), none⟩]
def k67_4 : VC := .cond (.tmp 13) .skip (.exit 0)
def k67_5 : VC := .seq k67_3 k67_4
def k67_6 : VC := .reg [⟨(some 16), .mv (.tmp 0), none⟩,
    ⟨(some 17), .bin .rem (.tmp 16) (.const (.int .u64 256)), none⟩,
    ⟨(some 18), .conv .u8 (.tmp 17), none⟩,
    ⟨(some 19), .buildSl 1 1 [(.int .u8 0)] [(0, 1, (.tmp 18))], none⟩,
    ⟨(some 20), .b2s (.tmp 19), none⟩,
    ⟨(some 21), .mv (.tmp 5), none⟩,
    ⟨(some 22), .bin .add (.tmp 20) (.tmp 21), none⟩,
    ⟨(some 5), .mv (.tmp 22), none⟩]
def k67_7 : VC := .reg [⟨(some 23), .mv (.tmp 0), none⟩,
    ⟨(some 24), .bin .quo (.tmp 23) (.const (.int .u64 256)), none⟩,
    ⟨(some 0), .mv (.tmp 24), none⟩]
def k67_8 : VC := .seq k67_6 k67_7
def k67_9 : VC := .block 1 k67_8
def k67_10 : VC := .reg [⟨(some 14), .mv (.tmp 6), none⟩,
    ⟨(some 15), .bin .add (.tmp 14) (.const (.int .i64 1)), none⟩,
    ⟨(some 6), .mv (.tmp 15), none⟩]
def k67_11 : VC := .seq k67_9 k67_10
def k67_12 : VC := .seq k67_5 k67_11
def k67_13 : VC := .loop k67_12
def k67_14 : VC := .block 0 k67_13
def k67_15 : VC := .seq k67_2 k67_14
def k67_16 : VC := .reg [⟨(some 25), .mv (.tmp 5), none⟩,
    ⟨(some 4), .mv (.tmp 25), none⟩]
def k67_17 : VC := .seq k67_16 .ret
def k67_18 : VC := .seq k67_15 k67_17
def k67_19 : VC := .seq k67_1 k67_18
def k67_20 : VC := .seq k67_0 k67_19
def fn67 : VFn := ⟨26, k67_20, [.tmp 4]⟩
/- 80: cloakroom/cloakroomref05.num -/
def k80_0 : VC := .reg [⟨(some 4), .mv (.const (.string ⟨⟨[]⟩⟩)), none⟩]
def k80_1 : VC := .reg [⟨(some 5), .mv (.tmp 0), none⟩,
    ⟨(some 6), .conv .u64 (.tmp 5), none⟩,
    ⟨(some 7), .mv (.tmp 1), none⟩,
    ⟨(some 8), .callF 67 [(.tmp 6), (.tmp 7)], none⟩,
    ⟨(some 4), .mv (.tmp 8), none⟩]
def k80_2 : VC := .seq k80_1 .ret
def k80_3 : VC := .seq k80_0 k80_2
def fn80 : VFn := ⟨9, k80_3, [.tmp 4]⟩
/- 108: cloakroom/cloakroomref07.Right -/
def k108_0 : VC := .reg [⟨(some 1), .box (.tmp 0), none⟩,
    ⟨(some 2), .mv (.const (.bool false)), none⟩]
def k108_1 : VC := .reg [⟨(some 3), .fieldA 0 (.tmp 1), none⟩,
    ⟨(some 4), .load1 (.int .i64) (.tmp 3), none⟩,
    ⟨(some 5), .callF 127 [(.tmp 4), (.const (.int .i64 65535))], none⟩,
    ⟨(some 6), .mv (.tmp 5), none⟩,
    ⟨(some 7), .fieldA 1 (.tmp 1), (some (6, true))⟩,
    ⟨(some 8), .load1 (.int .i64) (.tmp 7), (some (6, true))⟩,
    ⟨(some 9), .callF 127 [(.tmp 8), (.const (.int .i64 65535))], (some (6, true))⟩,
    ⟨(some 10), .pick (.tmp 6) (.tmp 9) (.const (.bool false)), none⟩,
    ⟨(some 11), .mv (.tmp 10), none⟩,
    ⟨(some 12), .fieldA 4 (.tmp 1), (some (11, true))⟩,
    ⟨(some 13), .load1 (.int .i64) (.tmp 12), (some (11, true))⟩,
    ⟨(some 14), .callF 127 [(.tmp 13), (.const (.int .i64 255))], (some (11, true))⟩,
    ⟨(some 15), .pick (.tmp 11) (.tmp 14) (.const (.bool false)), none⟩,
    ⟨(some 16), .mv (.tmp 15), none⟩,
    ⟨(some 17), .fieldA 5 (.tmp 1), (some (16, true))⟩,
    ⟨(some 18), .load1 (.int .i64) (.tmp 17), (some (16, true))⟩,
    ⟨(some 19), .callF 127 [(.tmp 18), (.const (.int .i64 65535))], (some (16, true))⟩,
    ⟨(some 20), .pick (.tmp 16) (.tmp 19) (.const (.bool false)), none⟩,
    ⟨(some 21), .mv (.tmp 20), none⟩,
    ⟨(some 22), .fieldA 6 (.tmp 1), (some (21, true))⟩,
    ⟨(some 23), .load1 (.int .i64) (.tmp 22), (some (21, true))⟩,
    ⟨(some 24), .callF 127 [(.tmp 23), (.const (.int .i64 65535))], (some (21, true))⟩,
    ⟨(some 25), .pick (.tmp 21) (.tmp 24) (.const (.bool false)), none⟩,
    ⟨(some 26), .mv (.tmp 25), none⟩,
    ⟨(some 27), .fieldA 7 (.tmp 1), (some (26, true))⟩,
    ⟨(some 28), .load1 .str (.tmp 27), (some (26, true))⟩,
    ⟨(some 29), .lenS (.tmp 28), (some (26, true))⟩,
    ⟨(some 30), .bin .leq (.tmp 29) (.const (.int .i64 40)), (some (26, true))⟩,
    ⟨(some 31), .pick (.tmp 26) (.tmp 30) (.const (.bool false)), none⟩,
    ⟨(some 32), .mv (.tmp 31), none⟩,
    ⟨(some 33), .fieldA 7 (.tmp 1), (some (32, true))⟩,
    ⟨(some 34), .load1 .str (.tmp 33), (some (32, true))⟩,
    ⟨(some 35), .lenS (.tmp 34), (some (32, true))⟩,
    ⟨(some 36), .bin .rem (.tmp 35) (.const (.int .i64 4)), (some (32, true))⟩,
    ⟨(some 37), .bin .eql (.tmp 36) (.const (.int .i64 0)), (some (32, true))⟩,
    ⟨(some 38), .pick (.tmp 32) (.tmp 37) (.const (.bool false)), none⟩,
    ⟨(some 2), .mv (.tmp 38), none⟩]
def k108_2 : VC := .seq k108_1 .ret
def k108_3 : VC := .seq k108_0 k108_2
def fn108 : VFn := ⟨39, k108_3, [.tmp 2]⟩
/- 127: cloakroom/cloakroomref07.in -/
def k127_0 : VC := .reg [⟨(some 4), .mv (.const (.bool false)), none⟩]
def k127_1 : VC := .reg [⟨(some 5), .mv (.tmp 0), none⟩,
    ⟨(some 6), .bin .geq (.tmp 5) (.const (.int .i64 0)), none⟩,
    ⟨(some 7), .mv (.tmp 6), none⟩,
    ⟨(some 8), .mv (.tmp 0), (some (7, true))⟩,
    ⟨(some 9), .mv (.tmp 1), (some (7, true))⟩,
    ⟨(some 10), .bin .leq (.tmp 8) (.tmp 9), (some (7, true))⟩,
    ⟨(some 11), .pick (.tmp 7) (.tmp 10) (.const (.bool false)), none⟩,
    ⟨(some 4), .mv (.tmp 11), none⟩]
def k127_2 : VC := .seq k127_1 .ret
def k127_3 : VC := .seq k127_0 k127_2
def fn127 : VFn := ⟨12, k127_3, [.tmp 4]⟩
/- 109: cloakroom/cloakroomref07.num -/
def k109_0 : VC := .reg [⟨(some 4), .mv (.const (.string ⟨⟨[]⟩⟩)), none⟩]
def k109_1 : VC := .reg [⟨(some 5), .mv (.tmp 0), none⟩,
    ⟨(some 6), .conv .u64 (.tmp 5), none⟩,
    ⟨(some 7), .mv (.tmp 1), none⟩,
    ⟨(some 8), .callF 67 [(.tmp 6), (.tmp 7)], none⟩,
    ⟨(some 4), .mv (.tmp 8), none⟩]
def k109_2 : VC := .seq k109_1 .ret
def k109_3 : VC := .seq k109_0 k109_2
def fn109 : VFn := ⟨9, k109_3, [.tmp 4]⟩
/- 68: cloakroom/cloakroomref03.Of -/
def k68_0 : VC := .reg [⟨(some 2), .mv (.const (.int .i64 0)), none⟩]
def k68_1 : VC := .reg [⟨(some 3), .mv (.tmp 0), none⟩,
    ⟨(some 4), .callF 75 [(.tmp 3)], none⟩,
    ⟨(some 5), .bin .sub (.const (.int .i64 65535)) (.tmp 4), none⟩,
    ⟨(some 2), .mv (.tmp 5), none⟩]
def k68_2 : VC := .seq k68_1 .ret
def k68_3 : VC := .seq k68_0 k68_2
def fn68 : VFn := ⟨6, k68_3, [.tmp 2]⟩
/- 75: cloakroom/cloakroomref03.Sum -/
def k75_0 : VC := .reg [⟨(some 2), .mv (.const (.int .i64 0)), none⟩]
def k75_1 : VC := .reg [⟨(some 3), .mv (.tmp 0), none⟩,
    ⟨(some 4), .callF 116 [(.tmp 3)], none⟩,
    ⟨(some 5), .callF 115 [(.tmp 4)], none⟩,
    ⟨(some 2), .mv (.tmp 5), none⟩]
def k75_2 : VC := .seq k75_1 .ret
def k75_3 : VC := .seq k75_0 k75_2
def fn75 : VFn := ⟨6, k75_3, [.tmp 2]⟩
/- 116: cloakroom/cloakroomref03.Words -/
def k116_0 : VC := .reg [⟨(some 2), .mv (.const (.slice none 0 0)), none⟩]
def k116_1 : VC := .reg [⟨(some 5), .mv (.tmp 0), none⟩,
    ⟨(some 6), .lenS (.tmp 5), none⟩,
    ⟨(some 7), .bin .rem (.tmp 6) (.const (.int .i64 2)), none⟩,
    ⟨(some 8), .bin .eql (.tmp 7) (.const (.int .i64 1)), none⟩]
def k116_2 : VC := .reg [⟨(some 9), .mv (.tmp 0), none⟩,
    ⟨(some 10), .bin .add (.tmp 9) (.const (.string ⟨⟨[0]⟩⟩)), none⟩,
    ⟨(some 0), .mv (.tmp 10), none⟩]
def k116_3 : VC := .cond (.tmp 8) k116_2 .skip
def k116_4 : VC := .seq k116_1 k116_3
def k116_5 : VC := .reg [⟨(some 3), .mv (.const (.slice none 0 0)), none⟩]
def k116_6 : VC := .reg [⟨(some 4), .mv (.const (.int .i64 0)), none⟩]
def k116_7 : VC := .reg [⟨(some 11), .mv (.tmp 4), none⟩,
    ⟨(some 12), .mv (.tmp 0), none⟩,
    ⟨(some 13), .lenS (.tmp 12), none⟩,
    ⟨(some 14), .bin .lss (.tmp 11) (.tmp 13), none⟩]
def k116_8 : VC := .cond (.tmp 14) .skip (.exit 0)
def k116_9 : VC := .seq k116_7 k116_8
def k116_10 : VC := .reg [⟨(some 17), .mv (.tmp 3), none⟩,
    ⟨(some 18), .mv (.tmp 0), none⟩,
    ⟨(some 19), .mv (.tmp 4), none⟩,
    ⟨(some 20), .callF 74 [(.tmp 18), (.tmp 19), (.const (.int .i64 2))], none⟩,
    ⟨(some 21), .buildSl 1 1 [(.int .i64 0)] [(0, 1, (.tmp 20))], none⟩,
    ⟨(some 22), .app 3 1 8 (.tmp 17) (.tmp 21), none⟩,
    ⟨(some 3), .mv (.tmp 22), none⟩]
def k116_11 : VC := .block 1 k116_10
def k116_12 : VC := .reg [⟨(some 15), .mv (.tmp 4), none⟩,
    ⟨(some 16), .bin .add (.tmp 15) (.const (.int .i64 2)), none⟩,
    ⟨(some 4), .mv (.tmp 16), none⟩]
def k116_13 : VC := .seq k116_11 k116_12
def k116_14 : VC := .seq k116_9 k116_13
def k116_15 : VC := .loop k116_14
def k116_16 : VC := .block 0 k116_15
def k116_17 : VC := .seq k116_6 k116_16
def k116_18 : VC := .reg [⟨(some 23), .mv (.tmp 3), none⟩,
    ⟨(some 2), .mv (.tmp 23), none⟩]
def k116_19 : VC := .seq k116_18 .ret
def k116_20 : VC := .seq k116_17 k116_19
def k116_21 : VC := .seq k116_5 k116_20
def k116_22 : VC := .seq k116_4 k116_21
def k116_23 : VC := .seq k116_0 k116_22
def fn116 : VFn := ⟨24, k116_23, [.tmp 2]⟩
/- 74: cloakroom/cloakroomref02.Must -/
def k74_0 : VC := .reg [⟨(some 6), .mv (.const (.int .i64 0)), none⟩]
def k74_1 : VC := .reg [⟨(some 10), .mv (.tmp 0), none⟩,
    ⟨(some 11), .mv (.tmp 1), none⟩,
    ⟨(some 12), .mv (.tmp 2), none⟩,
    ⟨(some 13), .callF 114 [(.tmp 10), (.tmp 11), (.tmp 12)], none⟩,
    ⟨(some 9), .mv (.tmp 13), none⟩,
    ⟨(some 14), .extract 0 (.tmp 9), none⟩,
    ⟨(some 15), .extract 1 (.tmp 9), none⟩,
    ⟨(some 7), .mv (.tmp 14), none⟩,
    ⟨(some 8), .mv (.tmp 15), none⟩]
def k74_2 : VC := .reg [⟨(some 16), .mv (.tmp 7), none⟩,
    ⟨(some 17), .conv .i64 (.tmp 16), none⟩,
    ⟨(some 6), .mv (.tmp 17), none⟩]
def k74_3 : VC := .seq k74_2 .ret
def k74_4 : VC := .seq k74_1 k74_3
def k74_5 : VC := .seq k74_0 k74_4
def fn74 : VFn := ⟨18, k74_5, [.tmp 6]⟩
/- 114: cloakroom/cloakroomref02.Get -/
def k114_0 : VC := .reg [⟨(some 6), .mv (.const (.int .u64 0)), none⟩,
    ⟨(some 7), .mv (.const (.bool false)), none⟩]
def k114_1 : VC := .reg [⟨(some 10), .mv (.tmp 2), none⟩,
    ⟨(some 11), .bin .lss (.tmp 10) (.const (.int .i64 1)), none⟩,
    ⟨(some 12), .mv (.tmp 11), none⟩,
    ⟨(some 13), .mv (.tmp 2), (some (12, false))⟩,
    ⟨(some 14), .bin .gtr (.tmp 13) (.const (.int .i64 8)), (some (12, false))⟩,
    ⟨(some 15), .pick (.tmp 12) (.const (.bool true)) (.tmp 14), none⟩,
    ⟨(some 16), .mv (.tmp 15), none⟩,
    ⟨(some 17), .mv (.tmp 1), (some (16, false))⟩,
    ⟨(some 18), .bin .lss (.tmp 17) (.const (.int .i64 0)), (some (16, false))⟩,
    ⟨(some 19), .pick (.tmp 16) (.const (.bool true)) (.tmp 18), none⟩,
    ⟨(some 20), .mv (.tmp 19), none⟩,
    ⟨(some 21), .mv (.tmp 1), (some (20, false))⟩,
    ⟨(some 22), .mv (.tmp 0), (some (20, false))⟩,
    ⟨(some 23), .lenS (.tmp 22), (some (20, false))⟩,
    ⟨(some 24), .bin .gtr (.tmp 21) (.tmp 23), (some (20, false))⟩,
    ⟨(some 25), .pick (.tmp 20) (.const (.bool true)) (.tmp 24), none⟩,
    ⟨(some 26), .mv (.tmp 25), none⟩,
    ⟨(some 27), .mv (.tmp 2), (some (26, false))⟩,
    ⟨(some 28), .mv (.tmp 0), (some (26, false))⟩,
    ⟨(some 29), .lenS (.tmp 28), (some (26, false))⟩,
    ⟨(some 30), .mv (.tmp 1), (some (26, false))⟩,
    ⟨(some 31), .bin .sub (.tmp 29) (.tmp 30), (some (26, false))⟩,
    ⟨(some 32), .bin .gtr (.tmp 27) (.tmp 31), (some (26, false))⟩,
    ⟨(some 33), .pick (.tmp 26) (.const (.bool true)) (.tmp 32), none⟩]
def k114_2 : VC := .reg [⟨(some 6), .mv (.const (.int .u64 0)), none⟩,
    ⟨(some 7), .mv (.const (.bool false)), none⟩]
def k114_3 : VC := .seq k114_2 .ret
def k114_4 : VC := .cond (.tmp 33) k114_3 .skip
def k114_5 : VC := .seq k114_1 k114_4
def k114_6 : VC := .reg [⟨(some 8), .mv (.const (.int .u64 0)), none⟩]
def k114_7 : VC := .reg [⟨(some 9), .mv (.const (.int .i64 0)), none⟩]
def k114_8 : VC := .reg [⟨(some 34), .mv (.tmp 9), none⟩,
    ⟨(some 35), .mv (.tmp 2), none⟩,
    ⟨(some 36), .bin .lss (.tmp 34) (.tmp 35), none⟩]
def k114_9 : VC := .cond (.tmp 36) .skip (.exit 0)
def k114_10 : VC := .seq k114_8 k114_9
def k114_11 : VC := .reg [⟨(some 39), .mv (.tmp 8), none⟩,
    ⟨(some 40), .bin .mul (.tmp 39) (.const (.int .u64 256)), none⟩,
    ⟨(some 41), .mv (.tmp 0), none⟩,
    ⟨(some 42), .mv (.tmp 1), none⟩,
    ⟨(some 43), .mv (.tmp 9), none⟩,
    ⟨(some 44), .bin .add (.tmp 42) (.tmp 43), none⟩,
    ⟨(some 45), .idxS (.tmp 41) (.tmp 44), none⟩,
    ⟨(some 46), .conv .u64 (.tmp 45), none⟩,
    ⟨(some 47), .bin .add (.tmp 40) (.tmp 46), none⟩,
    ⟨(some 8), .mv (.tmp 47), none⟩]
def k114_12 : VC := .block 1 k114_11
def k114_13 : VC := .reg [⟨(some 37), .mv (.tmp 9), none⟩,
    ⟨(some 38), .bin .add (.tmp 37) (.const (.int .i64 1)), none⟩,
    ⟨(some 9), .mv (.tmp 38), none⟩]
def k114_14 : VC := .seq k114_12 k114_13
def k114_15 : VC := .seq k114_10 k114_14
def k114_16 : VC := .loop k114_15
def k114_17 : VC := .block 0 k114_16
def k114_18 : VC := .seq k114_7 k114_17
def k114_19 : VC := .reg [⟨(some 48), .mv (.tmp 8), none⟩,
    ⟨(some 6), .mv (.tmp 48), none⟩,
    ⟨(some 7), .mv (.const (.bool true)), none⟩]
def k114_20 : VC := .seq k114_19 .ret
def k114_21 : VC := .seq k114_18 k114_20
def k114_22 : VC := .seq k114_6 k114_21
def k114_23 : VC := .seq k114_5 k114_22
def k114_24 : VC := .seq k114_0 k114_23
def fn114 : VFn := ⟨49, k114_24, [.tmp 6, .tmp 7]⟩
/- 115: cloakroom/cloakroomref03.Add -/
def k115_0 : VC := .reg [⟨(some 2), .mv (.const (.int .i64 0)), none⟩]
def k115_1 : VC := .reg [⟨(some 3), .mv (.const (.int .i64 0)), none⟩]
def k115_2 : VC := .reg [⟨(some 4), .mv (.const (.int .i64 0)), none⟩]
def k115_3 : VC := .reg [⟨(some 5), .mv (.tmp 4), none⟩,
    ⟨(some 6), .mv (.tmp 0), none⟩,
    ⟨(some 7), .lenL (.tmp 6), none⟩,
    ⟨(some 8), .bin .lss (.tmp 5) (.tmp 7), none⟩]
def k115_4 : VC := .cond (.tmp 8) .skip (.exit 0)
def k115_5 : VC := .seq k115_3 k115_4
def k115_6 : VC := .reg [⟨(some 11), .mv (.tmp 3), none⟩,
    ⟨(some 12), .mv (.tmp 0), none⟩,
    ⟨(some 13), .mv (.tmp 4), none⟩,
    ⟨(some 14), .idxAL 1 (.tmp 12) (.tmp 13), none⟩,
    ⟨(some 15), .load1 (.int .i64) (.tmp 14), none⟩,
    ⟨(some 16), .bin .add (.tmp 11) (.tmp 15), none⟩,
    ⟨(some 3), .mv (.tmp 16), none⟩]
def k115_7 : VC := .block 1 k115_6
def k115_8 : VC := .reg [⟨(some 9), .mv (.tmp 4), none⟩,
    ⟨(some 10), .bin .add (.tmp 9) (.const (.int .i64 1)), none⟩,
    ⟨(some 4), .mv (.tmp 10), none⟩]
def k115_9 : VC := .seq k115_7 k115_8
def k115_10 : VC := .seq k115_5 k115_9
def k115_11 : VC := .loop k115_10
def k115_12 : VC := .block 0 k115_11
def k115_13 : VC := .seq k115_2 k115_12
def k115_14 : VC := .reg [⟨(some 17), .mv (.tmp 3), none⟩,
    ⟨(some 18), .bin .gtr (.tmp 17) (.const (.int .i64 65535)), none⟩]
def k115_15 : VC := .cond (.tmp 18) .skip (.exit 2)
def k115_16 : VC := .seq k115_14 k115_15
def k115_17 : VC := .reg [⟨(some 19), .mv (.tmp 3), none⟩,
    ⟨(some 20), .bin .rem (.tmp 19) (.const (.int .i64 65536)), none⟩,
    ⟨(some 21), .mv (.tmp 3), none⟩,
    ⟨(some 22), .bin .quo (.tmp 21) (.const (.int .i64 65536)), none⟩,
    ⟨(some 23), .bin .add (.tmp 20) (.tmp 22), none⟩,
    ⟨(some 3), .mv (.tmp 23), none⟩]
def k115_18 : VC := .block 3 k115_17
def k115_19 : VC := .seq k115_16 k115_18
def k115_20 : VC := .loop k115_19
def k115_21 : VC := .block 2 k115_20
def k115_22 : VC := .reg [⟨(some 24), .mv (.tmp 3), none⟩,
    ⟨(some 2), .mv (.tmp 24), none⟩]
def k115_23 : VC := .seq k115_22 .ret
def k115_24 : VC := .seq k115_21 k115_23
def k115_25 : VC := .seq k115_13 k115_24
def k115_26 : VC := .seq k115_1 k115_25
def k115_27 : VC := .seq k115_0 k115_26
def fn115 : VFn := ⟨25, k115_27, [.tmp 2]⟩
/- 69: cloakroom/cloakroomref03.Set -/
def k69_0 : VC := .reg [⟨(some 8), .mv (.const (.string ⟨⟨[]⟩⟩)), none⟩]
def k69_1 : VC := .reg [⟨(some 12), .mv (.tmp 0), none⟩,
    ⟨(some 13), .mv (.tmp 1), none⟩,
    ⟨(some 14), .mv (.tmp 2), none⟩,
    ⟨(some 15), .callF 114 [(.tmp 12), (.tmp 13), (.tmp 14)], none⟩,
    ⟨(some 11), .mv (.tmp 15), none⟩,
    ⟨(some 16), .extract 0 (.tmp 11), none⟩,
    ⟨(some 17), .extract 1 (.tmp 11), none⟩,
    ⟨(some 9), .mv (.tmp 16), none⟩,
    ⟨(some 10), .mv (.tmp 17), none⟩]
def k69_2 : VC := .reg [⟨(some 18), .mv (.tmp 10), none⟩,
    ⟨(some 19), .not (.tmp 18), none⟩]
def k69_3 : VC := .reg [⟨(some 20), .mv (.tmp 0), none⟩,
    ⟨(some 8), .mv (.tmp 20), none⟩]
def k69_4 : VC := .seq k69_3 .ret
def k69_5 : VC := .cond (.tmp 19) k69_4 .skip
def k69_6 : VC := .seq k69_2 k69_5
def k69_7 : VC := .regD [⟨(some 21), .mv (.tmp 0), none⟩,
    ⟨(some 22), .mv (.tmp 1), none⟩,
    ⟨(some 23), .sliceS (.tmp 21) none (some (.tmp 22)), none⟩,
    ⟨(some 24), .mv (.tmp 3), none⟩,
    ⟨(some 25), .mv (.tmp 2), none⟩,
    ⟨(some 26), .callF 67 [(.tmp 24), (.tmp 25)], none⟩,
    ⟨(some 27), .bin .add (.tmp 23) (.tmp 26), none⟩,
    ⟨(some 28), .mv (.tmp 0), none⟩,
    ⟨(some 29), .mv (.tmp 1), none⟩,
    ⟨(some 30), .mv (.tmp 2), none⟩,
    ⟨(some 31), .bin .add (.tmp 29) (.tmp 30), none⟩,
    ⟨(some 32), .sliceS (.tmp 28) (some (.tmp 31)) none, none⟩] [] [⟨(some 33), .bin .add (.tmp 27) (.tmp 32), none⟩,
    ⟨(some 8), .mv (.tmp 33), none⟩]
def k69_8 : VC := .seq k69_7 .ret
def k69_9 : VC := .seq k69_6 k69_8
def k69_10 : VC := .seq k69_1 k69_9
def k69_11 : VC := .seq k69_0 k69_10
def fn69 : VFn := ⟨34, k69_11, [.tmp 8]⟩
/- 52: cloakroom/cloakroomref07.Get -/
def k52_0 : VC := .reg [⟨(some 4), .box (.tmp 1), none⟩,
    ⟨(some 5), .box (.tmp 2), none⟩,
    ⟨(some 6), .alloc [(.int .i64 0), (.int .i64 0), (.int .u32 0), (.int .u32 0), (.int .i64 0), (.int .i64 0), (.int .i64 0), (.string ⟨⟨[]⟩⟩)], none⟩,
    ⟨(some 7), .mv (.const (.string ⟨⟨[]⟩⟩)), none⟩,
    ⟨(some 8), .mv (.const (.int .i64 0)), none⟩]
def k52_1 : VC := .reg [⟨(some 13), .mv (.tmp 0), none⟩,
    ⟨(some 14), .lenS (.tmp 13), none⟩,
    ⟨(some 15), .bin .lss (.tmp 14) (.const (.int .i64 20)), none⟩]
def k52_2 : VC := .reg [⟨(some 16), .build [(.int .i64 0), (.int .i64 0), (.int .u32 0), (.int .u32 0), (.int .i64 0), (.int .i64 0), (.int .i64 0), (.string ⟨⟨[]⟩⟩)] [], none⟩,
    ⟨none, .store 8 (.tmp 6) (.tmp 16), none⟩,
    ⟨(some 7), .mv (.const (.string ⟨⟨[]⟩⟩)), none⟩,
    ⟨(some 8), .mv (.const (.int .i64 2)), none⟩]
def k52_3 : VC := .seq k52_2 .ret
def k52_4 : VC := .cond (.tmp 15) k52_3 .skip
def k52_5 : VC := .seq k52_1 k52_4
def k52_6 : VC := .reg [⟨(some 17), .mv (.tmp 0), none⟩,
    ⟨(some 18), .idxS (.tmp 17) (.const (.int .i64 12)), none⟩,
    ⟨(some 19), .bin .quo (.tmp 18) (.const (.int .u8 16)), none⟩,
    ⟨(some 20), .conv .i64 (.tmp 19), none⟩,
    ⟨(some 21), .bin .mul (.const (.int .i64 4)) (.tmp 20), none⟩,
    ⟨(some 9), .mv (.tmp 21), none⟩]
def k52_7 : VC := .reg [⟨(some 22), .mv (.tmp 9), none⟩,
    ⟨(some 23), .bin .lss (.tmp 22) (.const (.int .i64 20)), none⟩,
    ⟨(some 24), .mv (.tmp 23), none⟩,
    ⟨(some 25), .mv (.tmp 0), (some (24, false))⟩,
    ⟨(some 26), .idxS (.tmp 25) (.const (.int .i64 12)), (some (24, false))⟩,
    ⟨(some 27), .bin .rem (.tmp 26) (.const (.int .u8 16)), (some (24, false))⟩,
    ⟨(some 28), .bin .neq (.tmp 27) (.const (.int .u8 0)), (some (24, false))⟩,
    ⟨(some 29), .pick (.tmp 24) (.const (.bool true)) (.tmp 28), none⟩]
def k52_8 : VC := .reg [⟨(some 30), .build [(.int .i64 0), (.int .i64 0), (.int .u32 0), (.int .u32 0), (.int .i64 0), (.int .i64 0), (.int .i64 0), (.string ⟨⟨[]⟩⟩)] [], none⟩,
    ⟨none, .store 8 (.tmp 6) (.tmp 30), none⟩,
    ⟨(some 7), .mv (.const (.string ⟨⟨[]⟩⟩)), none⟩,
    ⟨(some 8), .mv (.const (.int .i64 3)), none⟩]
def k52_9 : VC := .seq k52_8 .ret
def k52_10 : VC := .cond (.tmp 29) k52_9 .skip
def k52_11 : VC := .seq k52_7 k52_10
def k52_12 : VC := .reg [⟨(some 31), .mv (.tmp 0), none⟩,
    ⟨(some 32), .lenS (.tmp 31), none⟩,
    ⟨(some 33), .mv (.tmp 9), none⟩,
    ⟨(some 34), .bin .lss (.tmp 32) (.tmp 33), none⟩]
def k52_13 : VC := .reg [⟨(some 35), .build [(.int .i64 0), (.int .i64 0), (.int .u32 0), (.int .u32 0), (.int .i64 0), (.int .i64 0), (.int .i64 0), (.string ⟨⟨[]⟩⟩)] [], none⟩,
    ⟨none, .store 8 (.tmp 6) (.tmp 35), none⟩,
    ⟨(some 7), .mv (.const (.string ⟨⟨[]⟩⟩)), none⟩,
    ⟨(some 8), .mv (.const (.int .i64 2)), none⟩]
def k52_14 : VC := .seq k52_13 .ret
def k52_15 : VC := .cond (.tmp 34) k52_14 .skip
def k52_16 : VC := .seq k52_12 k52_15
def k52_17 : VC := .reg [⟨(some 36), .loadN [.bool, (.int .u64), (.int .u64)] (.tmp 4), none⟩,
    ⟨(some 37), .loadN [.bool, (.int .u64), (.int .u64)] (.tmp 5), none⟩,
    ⟨(some 38), .mv (.tmp 0), none⟩,
    ⟨(some 39), .lenS (.tmp 38), none⟩,
    ⟨(some 40), .callF 28 [(.tmp 36), (.tmp 37), (.const (.int .i64 6)), (.tmp 39)], none⟩,
    ⟨(some 10), .mv (.tmp 40), none⟩]
def k52_18 : VC := .reg [⟨(some 41), .mv (.tmp 10), none⟩,
    ⟨(some 42), .bin .eql (.tmp 41) (.const (.string ⟨⟨[]⟩⟩)), none⟩]
def k52_19 : VC := .reg [⟨(some 43), .build [(.int .i64 0), (.int .i64 0), (.int .u32 0), (.int .u32 0), (.int .i64 0), (.int .i64 0), (.int .i64 0), (.string ⟨⟨[]⟩⟩)] [], none⟩,
    ⟨none, .store 8 (.tmp 6) (.tmp 43), none⟩,
    ⟨(some 7), .mv (.const (.string ⟨⟨[]⟩⟩)), none⟩,
    ⟨(some 8), .mv (.const (.int .i64 1)), none⟩]
def k52_20 : VC := .seq k52_19 .ret
def k52_21 : VC := .cond (.tmp 42) k52_20 .skip
def k52_22 : VC := .seq k52_18 k52_21
def k52_23 : VC := .reg [⟨(some 44), .mv (.tmp 10), none⟩,
    ⟨(some 45), .mv (.tmp 0), none⟩,
    ⟨(some 46), .bin .add (.tmp 44) (.tmp 45), none⟩,
    ⟨(some 47), .callF 75 [(.tmp 46)], none⟩,
    ⟨(some 48), .bin .neq (.tmp 47) (.const (.int .i64 65535)), none⟩]
def k52_24 : VC := .reg [⟨(some 49), .build [(.int .i64 0), (.int .i64 0), (.int .u32 0), (.int .u32 0), (.int .i64 0), (.int .i64 0), (.int .i64 0), (.string ⟨⟨[]⟩⟩)] [], none⟩,
    ⟨none, .store 8 (.tmp 6) (.tmp 49), none⟩,
    ⟨(some 7), .mv (.const (.string ⟨⟨[]⟩⟩)), none⟩,
    ⟨(some 8), .mv (.const (.int .i64 4)), none⟩]
def k52_25 : VC := .seq k52_24 .ret
def k52_26 : VC := .cond (.tmp 48) k52_25 .skip
def k52_27 : VC := .seq k52_23 k52_26
def k52_28 : VC := .reg [⟨(some 51), .mv (.tmp 0), none⟩,
    ⟨(some 52), .mv (.tmp 9), none⟩,
    ⟨(some 53), .sliceS (.tmp 51) (some (.const (.int .i64 20))) (some (.tmp 52)), none⟩,
    ⟨(some 54), .callF 55 [(.tmp 53)], none⟩,
    ⟨(some 50), .mv (.tmp 54), none⟩,
    ⟨(some 55), .extract 0 (.tmp 50), none⟩,
    ⟨(some 56), .extract 1 (.tmp 50), none⟩,
    ⟨(some 11), .mv (.tmp 55), none⟩,
    ⟨(some 12), .mv (.tmp 56), none⟩]
def k52_29 : VC := .reg [⟨(some 57), .mv (.tmp 12), none⟩,
    ⟨(some 58), .bin .neq (.tmp 57) (.const (.int .i64 0)), none⟩]
def k52_30 : VC := .reg [⟨(some 59), .build [(.int .i64 0), (.int .i64 0), (.int .u32 0), (.int .u32 0), (.int .i64 0), (.int .i64 0), (.int .i64 0), (.string ⟨⟨[]⟩⟩)] [], none⟩,
    ⟨(some 60), .mv (.tmp 12), none⟩,
    ⟨none, .store 8 (.tmp 6) (.tmp 59), none⟩,
    ⟨(some 7), .mv (.const (.string ⟨⟨[]⟩⟩)), none⟩,
    ⟨(some 8), .mv (.tmp 60), none⟩]
def k52_31 : VC := .seq k52_30 .ret
def k52_32 : VC := .cond (.tmp 58) k52_31 .skip
def k52_33 : VC := .seq k52_29 k52_32
def k52_34 : VC := .regD [⟨(some 61), .mv (.tmp 0), none⟩,
    ⟨(some 62), .callF 74 [(.tmp 61), (.const (.int .i64 0)), (.const (.int .i64 2))], none⟩,
    ⟨(some 63), .mv (.tmp 0), none⟩,
    ⟨(some 64), .callF 74 [(.tmp 63), (.const (.int .i64 2)), (.const (.int .i64 2))], none⟩,
    ⟨(some 65), .mv (.tmp 0), none⟩,
    ⟨(some 66), .callF 74 [(.tmp 65), (.const (.int .i64 4)), (.const (.int .i64 4))], none⟩,
    ⟨(some 67), .conv .u32 (.tmp 66), none⟩,
    ⟨(some 68), .mv (.tmp 0), none⟩,
    ⟨(some 69), .callF 74 [(.tmp 68), (.const (.int .i64 8)), (.const (.int .i64 4))], none⟩,
    ⟨(some 70), .conv .u32 (.tmp 69), none⟩,
    ⟨(some 71), .mv (.tmp 0), none⟩,
    ⟨(some 72), .idxS (.tmp 71) (.const (.int .i64 13)), none⟩,
    ⟨(some 73), .conv .i64 (.tmp 72), none⟩,
    ⟨(some 74), .mv (.tmp 0), none⟩,
    ⟨(some 75), .callF 74 [(.tmp 74), (.const (.int .i64 14)), (.const (.int .i64 2))], none⟩,
    ⟨(some 76), .mv (.tmp 0), none⟩,
    ⟨(some 77), .callF 74 [(.tmp 76), (.const (.int .i64 18)), (.const (.int .i64 2))], none⟩,
    ⟨(some 78), .mv (.tmp 0), none⟩,
    ⟨(some 79), .mv (.tmp 9), none⟩,
    ⟨(some 80), .sliceS (.tmp 78) (some (.const (.int .i64 20))) (some (.tmp 79)), none⟩,
    ⟨(some 81), .build [(.int .i64 0), (.int .i64 0), (.int .u32 0), (.int .u32 0), (.int .i64 0), (.int .i64 0), (.int .i64 0), (.string ⟨⟨[]⟩⟩)] [(0, 1, (.tmp 62)), (1, 1, (.tmp 64)), (2, 1, (.tmp 67)), (3, 1, (.tmp 70)), (4, 1, (.tmp 73)), (5, 1, (.tmp 75)), (6, 1, (.tmp 77)), (7, 1, (.tmp 80))], none⟩,
    ⟨(some 82), .mv (.tmp 0), none⟩,
    ⟨(some 83), .mv (.tmp 9), none⟩,
    ⟨(some 84), .sliceS (.tmp 82) (some (.tmp 83)) none, none⟩,
    ⟨none, .store 8 (.tmp 6) (.tmp 81), none⟩] [] [⟨(some 7), .mv (.tmp 84), none⟩,
    ⟨(some 8), .mv (.const (.int .i64 0)), none⟩]
def k52_35 : VC := .seq k52_34 .ret
def k52_36 : VC := .seq k52_33 k52_35
def k52_37 : VC := .seq k52_28 k52_36
def k52_38 : VC := .seq k52_27 k52_37
def k52_39 : VC := .seq k52_22 k52_38
def k52_40 : VC := .seq k52_17 k52_39
def k52_41 : VC := .seq k52_16 k52_40
def k52_42 : VC := .seq k52_11 k52_41
def k52_43 : VC := .seq k52_6 k52_42
def k52_44 : VC := .seq k52_5 k52_43
def k52_45 : VC := .seq k52_0 k52_44
def fn52 : VFn := ⟨85, k52_45, [.cell 6 [(.int .i64), (.int .i64), (.int .u32), (.int .u32), (.int .i64), (.int .i64), (.int .i64), .str] true, .tmp 7, .tmp 8]⟩
/- 55: cloakroom/cloakroomref07.List -/
def k55_0 : VC := .reg [⟨(some 2), .mv (.const (.slice none 0 0)), none⟩,
    ⟨(some 3), .mv (.const (.int .i64 0)), none⟩]
def k55_1 : VC := .reg [⟨(some 4), .mv (.const (.slice none 0 0)), none⟩]
def k55_2 : VC := .reg [⟨(some 5), .mv (.const (.int .i64 0)), none⟩]
def k55_3 : VC := .reg [⟨(some 7), .mv (.tmp 5), none⟩,
    ⟨(some 8), .mv (.tmp 0), none⟩,
    ⟨(some 9), .lenS (.tmp 8), none⟩,
    ⟨(some 10), .bin .lss (.tmp 7) (.tmp 9), none⟩,
    ⟨(some 11), .mv (.tmp 10), none⟩,
    ⟨(some 12), .mv (.tmp 0), (some (11, true))⟩,
    ⟨(some 13), .mv (.tmp 5), (some (11, true))⟩,
    ⟨(some 14), .idxS (.tmp 12) (.tmp 13), (some (11, true))⟩,
    ⟨(some 15), .bin .neq (.tmp 14) (.const (.int .u8 0)), (some (11, true))⟩,
    ⟨(some 16), .pick (.tmp 11) (.tmp 15) (.const (.bool false)), none⟩]
def k55_4 : VC := .cond (.tmp 16) .skip (.exit 0)
def k55_5 : VC := .seq k55_3 k55_4
def k55_6 : VC := .reg [⟨(some 17), .mv (.tmp 0), none⟩,
    ⟨(some 18), .mv (.tmp 5), none⟩,
    ⟨(some 19), .idxS (.tmp 17) (.tmp 18), none⟩,
    ⟨(some 20), .bin .eql (.tmp 19) (.const (.int .u8 1)), none⟩]
def k55_7 : VC := .reg [⟨(some 21), .mv (.tmp 5), none⟩,
    ⟨(some 22), .bin .add (.tmp 21) (.const (.int .i64 1)), none⟩,
    ⟨(some 5), .mv (.tmp 22), none⟩]
def k55_8 : VC := .seq k55_7 (.exit 1)
def k55_9 : VC := .cond (.tmp 20) k55_8 .skip
def k55_10 : VC := .seq k55_6 k55_9
def k55_11 : VC := .reg [⟨(some 23), .mv (.tmp 5), none⟩,
    ⟨(some 24), .bin .add (.tmp 23) (.const (.int .i64 1)), none⟩,
    ⟨(some 25), .mv (.tmp 0), none⟩,
    ⟨(some 26), .lenS (.tmp 25), none⟩,
    ⟨(some 27), .bin .geq (.tmp 24) (.tmp 26), none⟩,
    ⟨(some 28), .mv (.tmp 27), none⟩,
    ⟨(some 29), .mv (.tmp 0), (some (28, false))⟩,
    ⟨(some 30), .mv (.tmp 5), (some (28, false))⟩,
    ⟨(some 31), .bin .add (.tmp 30) (.const (.int .i64 1)), (some (28, false))⟩,
    ⟨(some 32), .idxS (.tmp 29) (.tmp 31), (some (28, false))⟩,
    ⟨(some 33), .bin .lss (.tmp 32) (.const (.int .u8 2)), (some (28, false))⟩,
    ⟨(some 34), .pick (.tmp 28) (.const (.bool true)) (.tmp 33), none⟩,
    ⟨(some 35), .mv (.tmp 34), none⟩,
    ⟨(some 36), .mv (.tmp 0), (some (35, false))⟩,
    ⟨(some 37), .mv (.tmp 5), (some (35, false))⟩,
    ⟨(some 38), .bin .add (.tmp 37) (.const (.int .i64 1)), (some (35, false))⟩,
    ⟨(some 39), .idxS (.tmp 36) (.tmp 38), (some (35, false))⟩,
    ⟨(some 40), .conv .i64 (.tmp 39), (some (35, false))⟩,
    ⟨(some 41), .mv (.tmp 0), (some (35, false))⟩,
    ⟨(some 42), .lenS (.tmp 41), (some (35, false))⟩,
    ⟨(some 43), .mv (.tmp 5), (some (35, false))⟩,
    ⟨(some 44), .bin .sub (.tmp 42) (.tmp 43), (some (35, false))⟩,
    ⟨(some 45), .bin .gtr (.tmp 40) (.tmp 44), (some (35, false))⟩,
    ⟨(some 46), .pick (.tmp 35) (.const (.bool true)) (.tmp 45), none⟩]
def k55_12 : VC := .reg [⟨(some 2), .mv (.const (.slice none 0 0)), none⟩,
    ⟨(some 3), .mv (.const (.int .i64 3)), none⟩]
def k55_13 : VC := .seq k55_12 .ret
def k55_14 : VC := .cond (.tmp 46) k55_13 .skip
def k55_15 : VC := .seq k55_11 k55_14
def k55_16 : VC := .reg [⟨(some 47), .mv (.tmp 0), none⟩,
    ⟨(some 48), .mv (.tmp 5), none⟩,
    ⟨(some 49), .bin .add (.tmp 48) (.const (.int .i64 1)), none⟩,
    ⟨(some 50), .idxS (.tmp 47) (.tmp 49), none⟩,
    ⟨(some 51), .conv .i64 (.tmp 50), none⟩,
    ⟨(some 6), .mv (.tmp 51), none⟩]
def k55_17 : VC := .regD [⟨(some 52), .mv (.tmp 4), none⟩,
    ⟨(some 53), .mv (.tmp 0), none⟩,
    ⟨(some 54), .mv (.tmp 5), none⟩,
    ⟨(some 55), .idxS (.tmp 53) (.tmp 54), none⟩,
    ⟨(some 56), .conv .i64 (.tmp 55), none⟩,
    ⟨(some 57), .mv (.tmp 0), none⟩,
    ⟨(some 58), .mv (.tmp 5), none⟩,
    ⟨(some 59), .bin .add (.tmp 58) (.const (.int .i64 2)), none⟩,
    ⟨(some 60), .mv (.tmp 5), none⟩,
    ⟨(some 61), .mv (.tmp 6), none⟩,
    ⟨(some 62), .bin .add (.tmp 60) (.tmp 61), none⟩,
    ⟨(some 63), .sliceS (.tmp 57) (some (.tmp 59)) (some (.tmp 62)), none⟩,
    ⟨(some 64), .mv (.tmp 5), none⟩,
    ⟨(some 65), .bin .add (.tmp 64) (.const (.int .i64 2)), none⟩,
    ⟨(some 66), .build [(.int .i64 0), (.string ⟨⟨[]⟩⟩), (.int .i64 0)] [(0, 1, (.tmp 56)), (1, 1, (.tmp 63)), (2, 1, (.tmp 65))], none⟩,
    ⟨(some 67), .buildSl 1 3 [(.int .i64 0), (.string ⟨⟨[]⟩⟩), (.int .i64 0)] [(0, 3, (.tmp 66))], none⟩] [] [⟨(some 68), .app 105 3 32 (.tmp 52) (.tmp 67), none⟩,
    ⟨(some 4), .mv (.tmp 68), none⟩]
def k55_18 : VC := .reg [⟨(some 69), .mv (.tmp 5), none⟩,
    ⟨(some 70), .mv (.tmp 6), none⟩,
    ⟨(some 71), .bin .add (.tmp 69) (.tmp 70), none⟩,
    ⟨(some 5), .mv (.tmp 71), none⟩]
def k55_19 : VC := .seq k55_17 k55_18
def k55_20 : VC := .seq k55_16 k55_19
def k55_21 : VC := .seq k55_15 k55_20
def k55_22 : VC := .seq k55_10 k55_21
def k55_23 : VC := .block 1 k55_22
def k55_24 : VC := .seq k55_5 k55_23
def k55_25 : VC := .loop k55_24
def k55_26 : VC := .block 0 k55_25
def k55_27 : VC := .seq k55_2 k55_26
def k55_28 : VC := .reg [⟨(some 72), .mv (.tmp 4), none⟩,
    ⟨(some 2), .mv (.tmp 72), none⟩,
    ⟨(some 3), .mv (.const (.int .i64 0)), none⟩]
def k55_29 : VC := .seq k55_28 .ret
def k55_30 : VC := .seq k55_27 k55_29
def k55_31 : VC := .seq k55_1 k55_30
def k55_32 : VC := .seq k55_0 k55_31
def fn55 : VFn := ⟨73, k55_32, [.tmp 2, .tmp 3]⟩
/- 53: cloakroom/cloakroomlaw07.back -/
def k53_0 : VC := .reg [⟨(some 1), .box (.tmp 0), none⟩,
    ⟨(some 2), .alloc [(.int .i64 0), (.int .i64 0), (.int .u32 0), (.int .u32 0), (.int .i64 0), (.int .i64 0), (.int .i64 0), (.string ⟨⟨[]⟩⟩)], none⟩]
def k53_1 : VC := .reg [⟨(some 3), .fieldA 0 (.tmp 1), none⟩,
    ⟨(some 4), .load1 (.int .i64) (.tmp 3), none⟩,
    ⟨(some 5), .fieldA 1 (.tmp 1), none⟩,
    ⟨(some 6), .load1 (.int .i64) (.tmp 5), none⟩,
    ⟨(some 7), .fieldA 2 (.tmp 1), none⟩,
    ⟨(some 8), .load1 (.int .u32) (.tmp 7), none⟩,
    ⟨(some 9), .fieldA 3 (.tmp 1), none⟩,
    ⟨(some 10), .load1 (.int .u32) (.tmp 9), none⟩,
    ⟨(some 11), .fieldA 4 (.tmp 1), none⟩,
    ⟨(some 12), .load1 (.int .i64) (.tmp 11), none⟩,
    ⟨(some 13), .fieldA 5 (.tmp 1), none⟩,
    ⟨(some 14), .load1 (.int .i64) (.tmp 13), none⟩,
    ⟨(some 15), .fieldA 6 (.tmp 1), none⟩,
    ⟨(some 16), .load1 (.int .i64) (.tmp 15), none⟩,
    ⟨(some 17), .fieldA 7 (.tmp 1), none⟩,
    ⟨(some 18), .load1 .str (.tmp 17), none⟩,
    ⟨(some 19), .build [(.int .i64 0), (.int .i64 0), (.int .u32 0), (.int .u32 0), (.int .i64 0), (.int .i64 0), (.int .i64 0), (.string ⟨⟨[]⟩⟩)] [(0, 1, (.tmp 4)), (1, 1, (.tmp 6)), (2, 1, (.tmp 8)), (3, 1, (.tmp 10)), (4, 1, (.tmp 12)), (5, 1, (.tmp 14)), (6, 1, (.tmp 16)), (7, 1, (.tmp 18))], none⟩,
    ⟨none, .store 8 (.tmp 2) (.tmp 19), none⟩]
def k53_2 : VC := .seq k53_1 .ret
def k53_3 : VC := .seq k53_0 k53_2
def fn53 : VFn := ⟨20, k53_3, [.cell 2 [(.int .i64), (.int .i64), (.int .u32), (.int .u32), (.int .i64), (.int .i64), (.int .i64), .str] true]⟩
/- 12: cloakroom/cloakroomlaw07.TcpOptions -/
def k12_0 : VC := .reg [⟨(some 6), .mv (.const (.bool false)), none⟩]
def k12_1 : VC := .reg [⟨(some 21), .mv (.tmp 0), none⟩,
    ⟨(some 22), .lenS (.tmp 21), none⟩,
    ⟨(some 23), .bin .gtr (.tmp 22) (.const (.int .i64 100)), none⟩]
def k12_2 : VC := .reg [⟨(some 24), .callF 47 [], none⟩,
    ⟨(some 6), .mv (.tmp 24), none⟩]
def k12_3 : VC := .seq k12_2 .ret
def k12_4 : VC := .cond (.tmp 23) k12_3 .skip
def k12_5 : VC := .seq k12_1 k12_4
def k12_6 : VC := .reg [⟨(some 26), .mv (.tmp 0), none⟩,
    ⟨(some 27), .callF 54 [(.tmp 26)], none⟩,
    ⟨(some 25), .mv (.tmp 27), none⟩,
    ⟨(some 28), .extract 0 (.tmp 25), none⟩,
    ⟨(some 29), .extract 1 (.tmp 25), none⟩,
    ⟨(some 7), .mv (.tmp 28), none⟩,
    ⟨(some 8), .mv (.tmp 29), none⟩]
def k12_7 : VC := .reg [⟨(some 31), .mv (.tmp 0), none⟩,
    ⟨(some 32), .callF 55 [(.tmp 31)], none⟩,
    ⟨(some 30), .mv (.tmp 32), none⟩,
    ⟨(some 33), .extract 0 (.tmp 30), none⟩,
    ⟨(some 34), .extract 1 (.tmp 30), none⟩,
    ⟨(some 9), .mv (.tmp 33), none⟩,
    ⟨(some 10), .mv (.tmp 34), none⟩]
def k12_8 : VC := .reg [⟨(some 35), .mv (.tmp 7), none⟩,
    ⟨(some 36), .lenL (.tmp 35), none⟩,
    ⟨(some 37), .mv (.tmp 9), none⟩,
    ⟨(some 38), .lenL (.tmp 37), none⟩,
    ⟨(some 39), .bin .neq (.tmp 36) (.tmp 38), none⟩,
    ⟨(some 40), .mv (.tmp 39), none⟩,
    ⟨(some 41), .mv (.tmp 8), (some (40, false))⟩,
    ⟨(some 42), .mv (.tmp 10), (some (40, false))⟩,
    ⟨(some 43), .bin .neq (.tmp 41) (.tmp 42), (some (40, false))⟩,
    ⟨(some 44), .pick (.tmp 40) (.const (.bool true)) (.tmp 43), none⟩]
def k12_9 : VC := .reg [⟨(some 6), .mv (.const (.bool false)), none⟩]
def k12_10 : VC := .seq k12_9 .ret
def k12_11 : VC := .cond (.tmp 44) k12_10 .skip
def k12_12 : VC := .seq k12_8 k12_11
def k12_13 : VC := .reg [⟨(some 11), .mv (.const (.int .i64 0)), none⟩]
def k12_14 : VC := .reg [⟨(some 45), .mv (.tmp 11), none⟩,
    ⟨(some 46), .mv (.tmp 7), none⟩,
    ⟨(some 47), .lenL (.tmp 46), none⟩,
    ⟨(some 48), .bin .lss (.tmp 45) (.tmp 47), none⟩]
def k12_15 : VC := .cond (.tmp 48) .skip (.exit 0)
def k12_16 : VC := .seq k12_14 k12_15
def k12_17 : VC := .regD [⟨(some 51), .mv (.tmp 7), none⟩,
    ⟨(some 52), .mv (.tmp 11), none⟩,
    ⟨(some 53), .idxAL 2 (.tmp 51) (.tmp 52), none⟩,
    ⟨(some 54), .fieldA 0 (.tmp 53), none⟩,
    ⟨(some 55), .load1 (.int .i64) (.tmp 54), none⟩,
    ⟨(some 56), .mv (.tmp 9), none⟩,
    ⟨(some 57), .mv (.tmp 11), none⟩,
    ⟨(some 58), .idxAL 3 (.tmp 56) (.tmp 57), none⟩,
    ⟨(some 59), .fieldA 0 (.tmp 58), none⟩,
    ⟨(some 60), .load1 (.int .i64) (.tmp 59), none⟩,
    ⟨(some 61), .bin .neq (.tmp 55) (.tmp 60), none⟩,
    ⟨(some 62), .mv (.tmp 61), none⟩,
    ⟨(some 63), .mv (.tmp 7), (some (62, false))⟩,
    ⟨(some 64), .mv (.tmp 11), (some (62, false))⟩,
    ⟨(some 65), .idxAL 2 (.tmp 63) (.tmp 64), (some (62, false))⟩,
    ⟨(some 66), .fieldA 1 (.tmp 65), (some (62, false))⟩,
    ⟨(some 67), .load1 .str (.tmp 66), (some (62, false))⟩,
    ⟨(some 68), .mv (.tmp 9), (some (62, false))⟩,
    ⟨(some 69), .mv (.tmp 11), (some (62, false))⟩,
    ⟨(some 70), .idxAL 3 (.tmp 68) (.tmp 69), (some (62, false))⟩,
    ⟨(some 71), .fieldA 1 (.tmp 70), (some (62, false))⟩,
    ⟨(some 72), .load1 .str (.tmp 71), (some (62, false))⟩] [] [⟨(some 73), .bin .neq (.tmp 67) (.tmp 72), (some (62, false))⟩,
    ⟨(some 74), .pick (.tmp 62) (.const (.bool true)) (.tmp 73), none⟩]
def k12_18 : VC := .reg [⟨(some 6), .mv (.const (.bool false)), none⟩]
def k12_19 : VC := .seq k12_18 .ret
def k12_20 : VC := .cond (.tmp 74) k12_19 .skip
def k12_21 : VC := .seq k12_17 k12_20
def k12_22 : VC := .block 1 k12_21
def k12_23 : VC := .reg [⟨(some 49), .mv (.tmp 11), none⟩,
    ⟨(some 50), .bin .add (.tmp 49) (.const (.int .i64 1)), none⟩,
    ⟨(some 11), .mv (.tmp 50), none⟩]
def k12_24 : VC := .seq k12_22 k12_23
def k12_25 : VC := .seq k12_16 k12_24
def k12_26 : VC := .loop k12_25
def k12_27 : VC := .block 0 k12_26
def k12_28 : VC := .seq k12_13 k12_27
def k12_29 : VC := .reg [⟨(some 76), .mv (.tmp 0), none⟩,
    ⟨(some 77), .callF 56 [(.tmp 76)], none⟩,
    ⟨(some 75), .mv (.tmp 77), none⟩,
    ⟨(some 78), .extract 0 (.tmp 75), none⟩,
    ⟨(some 79), .extract 1 (.tmp 75), none⟩,
    ⟨(some 80), .extract 2 (.tmp 75), none⟩,
    ⟨(some 12), .mv (.tmp 78), none⟩,
    ⟨(some 13), .mv (.tmp 79), none⟩,
    ⟨(some 14), .mv (.tmp 80), none⟩]
def k12_30 : VC := .reg [⟨(some 82), .mv (.tmp 0), none⟩,
    ⟨(some 83), .callF 57 [(.tmp 82)], none⟩,
    ⟨(some 81), .mv (.tmp 83), none⟩,
    ⟨(some 84), .extract 0 (.tmp 81), none⟩,
    ⟨(some 85), .extract 1 (.tmp 81), none⟩,
    ⟨(some 86), .extract 2 (.tmp 81), none⟩,
    ⟨(some 15), .mv (.tmp 84), none⟩,
    ⟨(some 16), .mv (.tmp 85), none⟩,
    ⟨(some 17), .mv (.tmp 86), none⟩]
def k12_31 : VC := .reg [⟨(some 88), .mv (.tmp 1), none⟩,
    ⟨(some 89), .mv (.tmp 2), none⟩,
    ⟨(some 90), .callF 58 [(.tmp 88), (.tmp 89)], none⟩,
    ⟨(some 91), .callF 56 [(.tmp 90)], none⟩,
    ⟨(some 87), .mv (.tmp 91), none⟩,
    ⟨(some 92), .extract 0 (.tmp 87), none⟩,
    ⟨(some 93), .extract 1 (.tmp 87), none⟩,
    ⟨(some 94), .extract 2 (.tmp 87), none⟩,
    ⟨(some 18), .mv (.tmp 92), none⟩,
    ⟨(some 19), .mv (.tmp 93), none⟩,
    ⟨(some 20), .mv (.tmp 94), none⟩]
def k12_32 : VC := .reg [⟨(some 95), .mv (.tmp 12), none⟩,
    ⟨(some 96), .mv (.tmp 15), none⟩,
    ⟨(some 97), .bin .eql (.tmp 95) (.tmp 96), none⟩,
    ⟨(some 98), .mv (.tmp 97), none⟩,
    ⟨(some 99), .mv (.tmp 13), (some (98, true))⟩,
    ⟨(some 100), .mv (.tmp 16), (some (98, true))⟩,
    ⟨(some 101), .bin .eql (.tmp 99) (.tmp 100), (some (98, true))⟩,
    ⟨(some 102), .pick (.tmp 98) (.tmp 101) (.const (.bool false)), none⟩,
    ⟨(some 103), .mv (.tmp 102), none⟩,
    ⟨(some 104), .mv (.tmp 14), (some (103, true))⟩,
    ⟨(some 105), .mv (.tmp 17), (some (103, true))⟩,
    ⟨(some 106), .bin .eql (.tmp 104) (.tmp 105), (some (103, true))⟩,
    ⟨(some 107), .pick (.tmp 103) (.tmp 106) (.const (.bool false)), none⟩,
    ⟨(some 108), .mv (.tmp 107), none⟩,
    ⟨(some 109), .mv (.tmp 1), (some (108, true))⟩,
    ⟨(some 110), .mv (.tmp 2), (some (108, true))⟩,
    ⟨(some 111), .callF 58 [(.tmp 109), (.tmp 110)], (some (108, true))⟩,
    ⟨(some 112), .mv (.tmp 1), (some (108, true))⟩,
    ⟨(some 113), .mv (.tmp 2), (some (108, true))⟩,
    ⟨(some 114), .callF 59 [(.tmp 112), (.tmp 113)], (some (108, true))⟩,
    ⟨(some 115), .bin .eql (.tmp 111) (.tmp 114), (some (108, true))⟩,
    ⟨(some 116), .pick (.tmp 108) (.tmp 115) (.const (.bool false)), none⟩,
    ⟨(some 117), .mv (.tmp 116), none⟩,
    ⟨(some 118), .mv (.tmp 18), (some (117, true))⟩,
    ⟨(some 119), .mv (.tmp 1), (some (117, true))⟩,
    ⟨(some 120), .bin .eql (.tmp 118) (.tmp 119), (some (117, true))⟩,
    ⟨(some 121), .pick (.tmp 117) (.tmp 120) (.const (.bool false)), none⟩,
    ⟨(some 122), .mv (.tmp 121), none⟩,
    ⟨(some 123), .mv (.tmp 19), (some (122, true))⟩,
    ⟨(some 124), .mv (.tmp 2), (some (122, true))⟩,
    ⟨(some 125), .bin .eql (.tmp 123) (.tmp 124), (some (122, true))⟩,
    ⟨(some 126), .pick (.tmp 122) (.tmp 125) (.const (.bool false)), none⟩,
    ⟨(some 127), .mv (.tmp 126), none⟩,
    ⟨(some 128), .mv (.tmp 20), (some (127, true))⟩,
    ⟨(some 129), .bin .eql (.tmp 128) (.const (.int .i64 4)), (some (127, true))⟩,
    ⟨(some 130), .pick (.tmp 127) (.tmp 129) (.const (.bool false)), none⟩,
    ⟨(some 131), .mv (.tmp 130), none⟩,
    ⟨(some 132), .callF 47 [], (some (131, true))⟩,
    ⟨(some 133), .pick (.tmp 131) (.tmp 132) (.const (.bool false)), none⟩,
    ⟨(some 6), .mv (.tmp 133), none⟩]
def k12_33 : VC := .seq k12_32 .ret
def k12_34 : VC := .seq k12_31 k12_33
def k12_35 : VC := .seq k12_30 k12_34
def k12_36 : VC := .seq k12_29 k12_35
def k12_37 : VC := .seq k12_28 k12_36
def k12_38 : VC := .seq k12_12 k12_37
def k12_39 : VC := .seq k12_7 k12_38
def k12_40 : VC := .seq k12_6 k12_39
def k12_41 : VC := .seq k12_5 k12_40
def k12_42 : VC := .seq k12_0 k12_41
def fn12 : VFn := ⟨134, k12_42, [.tmp 6]⟩
/- 57: cloakroom/cloakroomref07.Stamp -/
def k57_0 : VC := .reg [⟨(some 2), .mv (.const (.int .u32 0)), none⟩,
    ⟨(some 3), .mv (.const (.int .u32 0)), none⟩,
    ⟨(some 4), .mv (.const (.int .i64 0)), none⟩]
def k57_1 : VC := .reg [⟨(some 9), .mv (.tmp 0), none⟩,
    ⟨(some 10), .callF 55 [(.tmp 9)], none⟩,
    ⟨(some 8), .mv (.tmp 10), none⟩,
    ⟨(some 11), .extract 0 (.tmp 8), none⟩,
    ⟨(some 12), .extract 1 (.tmp 8), none⟩,
    ⟨(some 5), .mv (.tmp 11), none⟩,
    ⟨(some 6), .mv (.tmp 12), none⟩]
def k57_2 : VC := .reg [⟨(some 7), .mv (.const (.int .i64 0)), none⟩]
def k57_3 : VC := .reg [⟨(some 13), .mv (.tmp 7), none⟩,
    ⟨(some 14), .mv (.tmp 5), none⟩,
    ⟨(some 15), .lenL (.tmp 14), none⟩,
    ⟨(some 16), .bin .lss (.tmp 13) (.tmp 15), none⟩]
def k57_4 : VC := .cond (.tmp 16) .skip (.exit 0)
def k57_5 : VC := .seq k57_3 k57_4
def k57_6 : VC := .reg [⟨(some 19), .mv (.tmp 5), none⟩,
    ⟨(some 20), .mv (.tmp 7), none⟩,
    ⟨(some 21), .idxAL 3 (.tmp 19) (.tmp 20), none⟩,
    ⟨(some 22), .fieldA 0 (.tmp 21), none⟩,
    ⟨(some 23), .load1 (.int .i64) (.tmp 22), none⟩,
    ⟨(some 24), .bin .eql (.tmp 23) (.const (.int .i64 8)), none⟩]
def k57_7 : VC := .reg [⟨(some 25), .mv (.tmp 5), none⟩,
    ⟨(some 26), .mv (.tmp 7), none⟩,
    ⟨(some 27), .idxAL 3 (.tmp 25) (.tmp 26), none⟩,
    ⟨(some 28), .fieldA 1 (.tmp 27), none⟩,
    ⟨(some 29), .load1 .str (.tmp 28), none⟩,
    ⟨(some 30), .lenS (.tmp 29), none⟩,
    ⟨(some 31), .bin .neq (.tmp 30) (.const (.int .i64 8)), none⟩]
def k57_8 : VC := .reg [⟨(some 2), .mv (.const (.int .u32 0)), none⟩,
    ⟨(some 3), .mv (.const (.int .u32 0)), none⟩,
    ⟨(some 4), .mv (.const (.int .i64 (-1))), none⟩]
def k57_9 : VC := .seq k57_8 .ret
def k57_10 : VC := .cond (.tmp 31) k57_9 .skip
def k57_11 : VC := .seq k57_7 k57_10
def k57_12 : VC := .regD [⟨(some 32), .mv (.tmp 5), none⟩,
    ⟨(some 33), .mv (.tmp 7), none⟩,
    ⟨(some 34), .idxAL 3 (.tmp 32) (.tmp 33), none⟩,
    ⟨(some 35), .fieldA 1 (.tmp 34), none⟩,
    ⟨(some 36), .load1 .str (.tmp 35), none⟩,
    ⟨(some 37), .callF 74 [(.tmp 36), (.const (.int .i64 0)), (.const (.int .i64 4))], none⟩,
    ⟨(some 38), .conv .u32 (.tmp 37), none⟩,
    ⟨(some 39), .mv (.tmp 5), none⟩,
    ⟨(some 40), .mv (.tmp 7), none⟩,
    ⟨(some 41), .idxAL 3 (.tmp 39) (.tmp 40), none⟩,
    ⟨(some 42), .fieldA 1 (.tmp 41), none⟩,
    ⟨(some 43), .load1 .str (.tmp 42), none⟩,
    ⟨(some 44), .callF 74 [(.tmp 43), (.const (.int .i64 4)), (.const (.int .i64 4))], none⟩,
    ⟨(some 45), .conv .u32 (.tmp 44), none⟩,
    ⟨(some 46), .mv (.tmp 5), none⟩,
    ⟨(some 47), .mv (.tmp 7), none⟩,
    ⟨(some 48), .idxAL 3 (.tmp 46) (.tmp 47), none⟩,
    ⟨(some 49), .fieldA 2 (.tmp 48), none⟩,
    ⟨(some 50), .load1 (.int .i64) (.tmp 49), none⟩,
    ⟨(some 2), .mv (.tmp 38), none⟩,
    ⟨(some 3), .mv (.tmp 45), none⟩] [(5, 11), (5, 18), (12, 18)] [⟨(some 4), .mv (.tmp 50), none⟩]
def k57_13 : VC := .seq k57_12 .ret
def k57_14 : VC := .seq k57_11 k57_13
def k57_15 : VC := .cond (.tmp 24) k57_14 .skip
def k57_16 : VC := .seq k57_6 k57_15
def k57_17 : VC := .block 1 k57_16
def k57_18 : VC := .reg [⟨(some 17), .mv (.tmp 7), none⟩,
    ⟨(some 18), .bin .add (.tmp 17) (.const (.int .i64 1)), none⟩,
    ⟨(some 7), .mv (.tmp 18), none⟩]
def k57_19 : VC := .seq k57_17 k57_18
def k57_20 : VC := .seq k57_5 k57_19
def k57_21 : VC := .loop k57_20
def k57_22 : VC := .block 0 k57_21
def k57_23 : VC := .seq k57_2 k57_22
def k57_24 : VC := .reg [⟨(some 2), .mv (.const (.int .u32 0)), none⟩,
    ⟨(some 3), .mv (.const (.int .u32 0)), none⟩,
    ⟨(some 4), .mv (.const (.int .i64 (-1))), none⟩]
def k57_25 : VC := .seq k57_24 .ret
def k57_26 : VC := .seq k57_23 k57_25
def k57_27 : VC := .seq k57_1 k57_26
def k57_28 : VC := .seq k57_0 k57_27
def fn57 : VFn := ⟨51, k57_28, [.tmp 2, .tmp 3, .tmp 4]⟩
/- 59: cloakroom/cloakroomref07.Stamped -/
def k59_0 : VC := .reg [⟨(some 4), .mv (.const (.string ⟨⟨[]⟩⟩)), none⟩]
def k59_1 : VC := .reg [⟨(some 5), .mv (.tmp 0), none⟩,
    ⟨(some 6), .conv .i64 (.tmp 5), none⟩,
    ⟨(some 7), .callF 109 [(.tmp 6), (.const (.int .i64 4))], none⟩,
    ⟨(some 8), .bin .add (.const (.string ⟨⟨[1, 1, 8, 10]⟩⟩)) (.tmp 7), none⟩,
    ⟨(some 9), .mv (.tmp 1), none⟩,
    ⟨(some 10), .conv .i64 (.tmp 9), none⟩,
    ⟨(some 11), .callF 109 [(.tmp 10), (.const (.int .i64 4))], none⟩,
    ⟨(some 12), .bin .add (.tmp 8) (.tmp 11), none⟩,
    ⟨(some 4), .mv (.tmp 12), none⟩]
def k59_2 : VC := .seq k59_1 .ret
def k59_3 : VC := .seq k59_0 k59_2
def fn59 : VFn := ⟨13, k59_3, [.tmp 4]⟩
/- 13: cloakroom/cloakroomlaw07.TcpBack -/
def k13_0 : VC := .reg [⟨(some 6), .box (.tmp 0), none⟩,
    ⟨(some 7), .box (.tmp 1), none⟩,
    ⟨(some 8), .box (.tmp 2), none⟩,
    ⟨(some 12), .mv (.const (.bool false)), none⟩]
def k13_1 : VC := .reg [⟨(some 30), .fieldA 7 (.tmp 6), none⟩,
    ⟨(some 31), .load1 .str (.tmp 30), none⟩,
    ⟨(some 32), .mv (.tmp 3), none⟩,
    ⟨(some 33), .mv (.tmp 4), none⟩,
    ⟨(some 34), .buildSl 3 1 [(.string ⟨⟨[]⟩⟩), (.string ⟨⟨[]⟩⟩), (.string ⟨⟨[]⟩⟩)] [(0, 1, (.tmp 31)), (1, 1, (.tmp 32)), (2, 1, (.tmp 33))], none⟩,
    ⟨(some 35), .callF 14 [(.tmp 34), (.const (.int .i64 200))], none⟩,
    ⟨(some 36), .not (.tmp 35), none⟩]
def k13_2 : VC := .reg [⟨(some 37), .callF 47 [], none⟩,
    ⟨(some 12), .mv (.tmp 37), none⟩]
def k13_3 : VC := .seq k13_2 .ret
def k13_4 : VC := .cond (.tmp 36) k13_3 .skip
def k13_5 : VC := .seq k13_1 k13_4
def k13_6 : VC := .reg [⟨(some 39), .mv (.tmp 4), none⟩,
    ⟨(some 40), .loadN [.bool, (.int .u64), (.int .u64)] (.tmp 7), none⟩,
    ⟨(some 41), .loadN [.bool, (.int .u64), (.int .u64)] (.tmp 8), none⟩,
    ⟨(some 42), .callF 51 [(.tmp 39), (.tmp 40), (.tmp 41)], none⟩,
    ⟨(some 38), .mv (.tmp 42), none⟩,
    ⟨(some 43), .extract 0 (.tmp 38), none⟩,
    ⟨(some 44), .extract 1 (.tmp 38), none⟩,
    ⟨(some 45), .extract 2 (.tmp 38), none⟩,
    ⟨(some 13), .alloc [(.int .i64 0), (.int .i64 0), (.int .u32 0), (.int .u32 0), (.int .i64 0), (.int .i64 0), (.int .i64 0), (.string ⟨⟨[]⟩⟩)], none⟩,
    ⟨none, .store 8 (.tmp 13) (.tmp 43), none⟩,
    ⟨(some 14), .mv (.tmp 44), none⟩,
    ⟨(some 15), .mv (.tmp 45), none⟩]
def k13_7 : VC := .reg [⟨(some 46), .mv (.tmp 15), none⟩,
    ⟨(some 47), .bin .eql (.tmp 46) (.const (.int .i64 0)), none⟩]
def k13_8 : VC := .reg [⟨(some 49), .loadN [(.int .i64), (.int .i64), (.int .u32), (.int .u32), (.int .i64), (.int .i64), (.int .i64), .str] (.tmp 13), none⟩,
    ⟨(some 50), .loadN [.bool, (.int .u64), (.int .u64)] (.tmp 7), none⟩,
    ⟨(some 51), .loadN [.bool, (.int .u64), (.int .u64)] (.tmp 8), none⟩,
    ⟨(some 52), .mv (.tmp 14), none⟩,
    ⟨(some 53), .callF 48 [(.tmp 49), (.tmp 50), (.tmp 51), (.tmp 52)], none⟩,
    ⟨(some 48), .mv (.tmp 53), none⟩,
    ⟨(some 54), .extract 0 (.tmp 48), none⟩,
    ⟨(some 55), .extract 1 (.tmp 48), none⟩,
    ⟨(some 16), .mv (.tmp 54), none⟩,
    ⟨(some 17), .mv (.tmp 55), none⟩]
def k13_9 : VC := .regD [⟨(some 56), .mv (.tmp 17), none⟩,
    ⟨(some 57), .bin .neq (.tmp 56) (.const (.int .i64 0)), none⟩,
    ⟨(some 58), .mv (.tmp 57), none⟩,
    ⟨(some 59), .mv (.tmp 16), (some (58, false))⟩,
    ⟨(some 60), .lenS (.tmp 59), (some (58, false))⟩,
    ⟨(some 61), .mv (.tmp 4), (some (58, false))⟩,
    ⟨(some 62), .lenS (.tmp 61), (some (58, false))⟩,
    ⟨(some 63), .bin .neq (.tmp 60) (.tmp 62), (some (58, false))⟩,
    ⟨(some 64), .pick (.tmp 58) (.const (.bool true)) (.tmp 63), none⟩,
    ⟨(some 65), .mv (.tmp 64), none⟩,
    ⟨(some 66), .mv (.tmp 16), (some (65, false))⟩,
    ⟨(some 67), .sliceS (.tmp 66) none (some (.const (.int .i64 16))), (some (65, false))⟩,
    ⟨(some 68), .mv (.tmp 4), (some (65, false))⟩,
    ⟨(some 69), .sliceS (.tmp 68) none (some (.const (.int .i64 16))), (some (65, false))⟩,
    ⟨(some 70), .bin .neq (.tmp 67) (.tmp 69), (some (65, false))⟩,
    ⟨(some 71), .pick (.tmp 65) (.const (.bool true)) (.tmp 70), none⟩,
    ⟨(some 72), .mv (.tmp 71), none⟩,
    ⟨(some 73), .mv (.tmp 16), (some (72, false))⟩,
    ⟨(some 74), .sliceS (.tmp 73) (some (.const (.int .i64 18))) none, (some (72, false))⟩,
    ⟨(some 75), .mv (.tmp 4), (some (72, false))⟩,
    ⟨(some 76), .sliceS (.tmp 75) (some (.const (.int .i64 18))) none, (some (72, false))⟩,
    ⟨(some 77), .bin .neq (.tmp 74) (.tmp 76), (some (72, false))⟩,
    ⟨(some 78), .pick (.tmp 72) (.const (.bool true)) (.tmp 77), none⟩,
    ⟨(some 79), .mv (.tmp 78), none⟩,
    ⟨(some 80), .mv (.tmp 16), (some (79, false))⟩,
    ⟨(some 81), .sliceS (.tmp 80) (some (.const (.int .i64 16))) (some (.const (.int .i64 18))), (some (79, false))⟩,
    ⟨(some 82), .mv (.tmp 4), (some (79, false))⟩,
    ⟨(some 83), .sliceS (.tmp 82) (some (.const (.int .i64 16))) (some (.const (.int .i64 18))), (some (79, false))⟩] [] [⟨(some 84), .bin .neq (.tmp 81) (.tmp 83), (some (79, false))⟩,
    ⟨(some 85), .mv (.tmp 84), (some (79, false))⟩,
    ⟨(some 86), .mv (.tmp 4), (some (85, true))⟩,
    ⟨(some 87), .sliceS (.tmp 86) (some (.const (.int .i64 16))) (some (.const (.int .i64 18))), (some (85, true))⟩,
    ⟨(some 88), .bin .neq (.tmp 87) (.const (.string ⟨⟨[255, 255]⟩⟩)), (some (85, true))⟩,
    ⟨(some 89), .pick (.tmp 85) (.tmp 88) (.const (.bool false)), (some (79, false))⟩,
    ⟨(some 90), .pick (.tmp 79) (.const (.bool true)) (.tmp 89), none⟩]
def k13_10 : VC := .reg [⟨(some 12), .mv (.const (.bool false)), none⟩]
def k13_11 : VC := .seq k13_10 .ret
def k13_12 : VC := .cond (.tmp 90) k13_11 .skip
def k13_13 : VC := .seq k13_9 k13_12
def k13_14 : VC := .seq k13_8 k13_13
def k13_15 : VC := .cond (.tmp 47) k13_14 .skip
def k13_16 : VC := .seq k13_7 k13_15
def k13_17 : VC := .seq k13_6 k13_16
def k13_18 : VC := .regD [⟨(some 92), .loadN [(.int .i64), (.int .i64), (.int .u32), (.int .u32), (.int .i64), (.int .i64), (.int .i64), .str] (.tmp 6), none⟩,
    ⟨(some 93), .callF 49 [(.tmp 92)], none⟩,
    ⟨(some 94), .loadN [.bool, (.int .u64), (.int .u64)] (.tmp 7), none⟩,
    ⟨(some 95), .loadN [.bool, (.int .u64), (.int .u64)] (.tmp 8), none⟩,
    ⟨(some 96), .mv (.tmp 3), none⟩,
    ⟨(some 97), .callF 48 [(.tmp 93), (.tmp 94), (.tmp 95), (.tmp 96)], none⟩,
    ⟨(some 91), .mv (.tmp 97), none⟩,
    ⟨(some 98), .extract 0 (.tmp 91), none⟩,
    ⟨(some 99), .extract 1 (.tmp 91), none⟩,
    ⟨(some 18), .mv (.tmp 98), none⟩] [(1, 2), (1, 3)] [⟨(some 19), .mv (.tmp 99), none⟩]
def k13_19 : VC := .reg [⟨(some 101), .fieldA 7 (.tmp 6), none⟩,
    ⟨(some 102), .load1 .str (.tmp 101), none⟩,
    ⟨(some 103), .callF 54 [(.tmp 102)], none⟩,
    ⟨(some 100), .mv (.tmp 103), none⟩,
    ⟨(some 104), .extract 0 (.tmp 100), none⟩,
    ⟨(some 105), .extract 1 (.tmp 100), none⟩,
    ⟨(some 20), .mv (.tmp 104), none⟩,
    ⟨(some 21), .mv (.tmp 105), none⟩]
def k13_20 : VC := .reg [⟨(some 106), .mv (.tmp 19), none⟩,
    ⟨(some 107), .bin .neq (.tmp 106) (.const (.int .i64 0)), none⟩,
    ⟨(some 108), .mv (.tmp 107), none⟩,
    ⟨(some 109), .mv (.tmp 21), (some (108, false))⟩,
    ⟨(some 110), .bin .neq (.tmp 109) (.const (.int .i64 0)), (some (108, false))⟩,
    ⟨(some 111), .pick (.tmp 108) (.const (.bool true)) (.tmp 110), none⟩]
def k13_21 : VC := .reg [⟨(some 112), .mv (.tmp 19), none⟩,
    ⟨(some 113), .bin .eql (.tmp 112) (.const (.int .i64 0)), none⟩,
    ⟨(some 114), .mv (.tmp 113), none⟩,
    ⟨(some 115), .mv (.tmp 18), (some (114, false))⟩,
    ⟨(some 116), .bin .eql (.tmp 115) (.const (.string ⟨⟨[]⟩⟩)), (some (114, false))⟩,
    ⟨(some 117), .pick (.tmp 114) (.const (.bool true)) (.tmp 116), none⟩,
    ⟨(some 118), .mv (.tmp 117), none⟩,
    ⟨(some 119), .callF 47 [], (some (118, true))⟩,
    ⟨(some 120), .pick (.tmp 118) (.tmp 119) (.const (.bool false)), none⟩,
    ⟨(some 12), .mv (.tmp 120), none⟩]
def k13_22 : VC := .seq k13_21 .ret
def k13_23 : VC := .cond (.tmp 111) k13_22 .skip
def k13_24 : VC := .seq k13_20 k13_23
def k13_25 : VC := .reg [⟨(some 122), .mv (.tmp 18), none⟩,
    ⟨(some 123), .loadN [.bool, (.int .u64), (.int .u64)] (.tmp 7), none⟩,
    ⟨(some 124), .loadN [.bool, (.int .u64), (.int .u64)] (.tmp 8), none⟩,
    ⟨(some 125), .callF 51 [(.tmp 122), (.tmp 123), (.tmp 124)], none⟩,
    ⟨(some 121), .mv (.tmp 125), none⟩,
    ⟨(some 126), .extract 0 (.tmp 121), none⟩,
    ⟨(some 127), .extract 1 (.tmp 121), none⟩,
    ⟨(some 128), .extract 2 (.tmp 121), none⟩,
    ⟨(some 22), .alloc [(.int .i64 0), (.int .i64 0), (.int .u32 0), (.int .u32 0), (.int .i64 0), (.int .i64 0), (.int .i64 0), (.string ⟨⟨[]⟩⟩)], none⟩,
    ⟨none, .store 8 (.tmp 22) (.tmp 126), none⟩,
    ⟨(some 23), .mv (.tmp 127), none⟩,
    ⟨(some 24), .mv (.tmp 128), none⟩]
def k13_26 : VC := .regD [⟨(some 129), .mv (.tmp 24), none⟩,
    ⟨(some 130), .bin .neq (.tmp 129) (.const (.int .i64 0)), none⟩,
    ⟨(some 131), .mv (.tmp 130), none⟩,
    ⟨(some 132), .loadN [(.int .i64), (.int .i64), (.int .u32), (.int .u32), (.int .i64), (.int .i64), (.int .i64), .str] (.tmp 22), (some (131, false))⟩,
    ⟨(some 133), .callF 53 [(.tmp 132)], (some (131, false))⟩,
    ⟨(some 134), .loadN [(.int .i64), (.int .i64), (.int .u32), (.int .u32), (.int .i64), (.int .i64), (.int .i64), .str] (.tmp 6), (some (131, false))⟩,
    ⟨(some 135), .eqAgg true [(0, (.int .i64)), (1, (.int .i64)), (2, (.int .u32)), (3, (.int .u32)), (4, (.int .i64)), (5, (.int .i64)), (6, (.int .i64)), (7, .str)] (.tmp 133) (.tmp 134), (some (131, false))⟩,
    ⟨(some 136), .pick (.tmp 131) (.const (.bool true)) (.tmp 135), none⟩,
    ⟨(some 137), .mv (.tmp 136), none⟩,
    ⟨(some 138), .mv (.tmp 23), (some (137, false))⟩,
    ⟨(some 139), .mv (.tmp 3), (some (137, false))⟩] [(4, 5)] [⟨(some 140), .bin .neq (.tmp 138) (.tmp 139), (some (137, false))⟩,
    ⟨(some 141), .pick (.tmp 137) (.const (.bool true)) (.tmp 140), none⟩,
    ⟨(some 142), .mv (.tmp 141), none⟩,
    ⟨(some 143), .mv (.tmp 18), (some (142, false))⟩,
    ⟨(some 144), .lenS (.tmp 143), (some (142, false))⟩,
    ⟨(some 145), .bin .lss (.tmp 144) (.const (.int .i64 20)), (some (142, false))⟩,
    ⟨(some 146), .pick (.tmp 142) (.const (.bool true)) (.tmp 145), none⟩]
def k13_27 : VC := .reg [⟨(some 12), .mv (.const (.bool false)), none⟩]
def k13_28 : VC := .seq k13_27 .ret
def k13_29 : VC := .cond (.tmp 146) k13_28 .skip
def k13_30 : VC := .seq k13_26 k13_29
def k13_31 : VC := .reg [⟨(some 147), .mv (.tmp 5), none⟩,
    ⟨(some 148), .conv .i64 (.tmp 147), none⟩,
    ⟨(some 149), .mv (.tmp 18), none⟩,
    ⟨(some 150), .lenS (.tmp 149), none⟩,
    ⟨(some 151), .bin .mul (.const (.int .i64 8)) (.tmp 150), none⟩,
    ⟨(some 152), .bin .sub (.tmp 151) (.const (.int .i64 112)), none⟩,
    ⟨(some 153), .bin .rem (.tmp 148) (.tmp 152), none⟩,
    ⟨(some 154), .bin .add (.const (.int .i64 112)) (.tmp 153), none⟩,
    ⟨(some 25), .mv (.tmp 154), none⟩]
def k13_32 : VC := .reg [⟨(some 155), .mv (.tmp 18), none⟩,
    ⟨(some 156), .s2b (.tmp 155), none⟩,
    ⟨(some 26), .mv (.tmp 156), none⟩]
def k13_33 : VC := .regD [⟨(some 157), .mv (.tmp 26), none⟩,
    ⟨(some 158), .mv (.tmp 25), none⟩,
    ⟨(some 159), .bin .quo (.tmp 158) (.const (.int .i64 8)), none⟩,
    ⟨(some 160), .mv (.tmp 26), none⟩,
    ⟨(some 161), .mv (.tmp 25), none⟩,
    ⟨(some 162), .bin .quo (.tmp 161) (.const (.int .i64 8)), none⟩,
    ⟨(some 163), .idxAL 1 (.tmp 160) (.tmp 162), none⟩,
    ⟨(some 164), .load1 (.int .u8) (.tmp 163), none⟩,
    ⟨(some 165), .mv (.tmp 25), none⟩,
    ⟨(some 166), .bin .rem (.tmp 165) (.const (.int .i64 8)), none⟩,
    ⟨(some 167), .bin .shl (.const (.int .u8 1)) (.tmp 166), none⟩,
    ⟨(some 168), .bin .xor (.tmp 164) (.tmp 167), none⟩] [] [⟨(some 169), .idxAL 1 (.tmp 157) (.tmp 159), none⟩,
    ⟨none, .store 1 (.tmp 169) (.tmp 168), none⟩]
def k13_34 : VC := .reg [⟨(some 171), .mv (.tmp 26), none⟩,
    ⟨(some 172), .b2s (.tmp 171), none⟩,
    ⟨(some 173), .loadN [.bool, (.int .u64), (.int .u64)] (.tmp 7), none⟩,
    ⟨(some 174), .loadN [.bool, (.int .u64), (.int .u64)] (.tmp 8), none⟩,
    ⟨(some 175), .callF 51 [(.tmp 172), (.tmp 173), (.tmp 174)], none⟩,
    ⟨(some 170), .mv (.tmp 175), none⟩,
    ⟨(some 176), .extract 0 (.tmp 170), none⟩,
    ⟨(some 177), .extract 1 (.tmp 170), none⟩,
    ⟨(some 178), .extract 2 (.tmp 170), none⟩,
    ⟨(some 27), .alloc [(.int .i64 0), (.int .i64 0), (.int .u32 0), (.int .u32 0), (.int .i64 0), (.int .i64 0), (.int .i64 0), (.string ⟨⟨[]⟩⟩)], none⟩,
    ⟨none, .store 8 (.tmp 27) (.tmp 176), none⟩,
    ⟨(some 28), .mv (.tmp 177), none⟩,
    ⟨(some 29), .mv (.tmp 178), none⟩]
def k13_35 : VC := .reg [⟨(some 179), .mv (.tmp 29), none⟩,
    ⟨(some 180), .bin .eql (.tmp 179) (.const (.int .i64 4)), none⟩,
    ⟨(some 181), .mv (.tmp 180), none⟩,
    ⟨(some 182), .callF 47 [], (some (181, true))⟩,
    ⟨(some 183), .pick (.tmp 181) (.tmp 182) (.const (.bool false)), none⟩,
    ⟨(some 12), .mv (.tmp 183), none⟩]
def k13_36 : VC := .seq k13_35 .ret
def k13_37 : VC := .seq k13_34 k13_36
def k13_38 : VC := .seq k13_33 k13_37
def k13_39 : VC := .seq k13_32 k13_38
def k13_40 : VC := .seq k13_31 k13_39
def k13_41 : VC := .seq k13_30 k13_40
def k13_42 : VC := .seq k13_25 k13_41
def k13_43 : VC := .seq k13_24 k13_42
def k13_44 : VC := .seq k13_19 k13_43
def k13_45 : VC := .seq k13_18 k13_44
def k13_46 : VC := .seq k13_17 k13_45
def k13_47 : VC := .seq k13_5 k13_46
def k13_48 : VC := .seq k13_0 k13_47
def fn13 : VFn := ⟨184, k13_48, [.tmp 12]⟩
theorem fn11_ok : (Try.prog.funcs[11]?).bind (compFn Try.prog) = some fn11 := by kernel_rfl
theorem fn14_ok : (Try.prog.funcs[14]?).bind (compFn Try.prog) = some fn14 := by kernel_rfl
theorem fn47_ok : (Try.prog.funcs[47]?).bind (compFn Try.prog) = some fn47 := by kernel_rfl
theorem fn58_ok : (Try.prog.funcs[58]?).bind (compFn Try.prog) = some fn58 := by kernel_rfl
theorem fn62_ok : (Try.prog.funcs[62]?).bind (compFn Try.prog) = some fn62 := by kernel_rfl
theorem fn56_ok : (Try.prog.funcs[56]?).bind (compFn Try.prog) = some fn56 := by kernel_rfl
theorem fn54_ok : (Try.prog.funcs[54]?).bind (compFn Try.prog) = some fn54 := by kernel_rfl
theorem fn111_ok : (Try.prog.funcs[111]?).bind (compFn Try.prog) = some fn111 := by kernel_rfl
theorem fn128_ok : (Try.prog.funcs[128]?).bind (compFn Try.prog) = some fn128 := by kernel_rfl
theorem fn101_ok : (Try.prog.funcs[101]?).bind (compFn Try.prog) = some fn101 := by kernel_rfl
theorem fn48_ok : (Try.prog.funcs[48]?).bind (compFn Try.prog) = some fn48 := by kernel_rfl
theorem fn27_ok : (Try.prog.funcs[27]?).bind (compFn Try.prog) = some fn27 := by kernel_rfl
theorem fn85_ok : (Try.prog.funcs[85]?).bind (compFn Try.prog) = some fn85 := by kernel_rfl
theorem fn78_ok : (Try.prog.funcs[78]?).bind (compFn Try.prog) = some fn78 := by kernel_rfl
theorem fn77_ok : (Try.prog.funcs[77]?).bind (compFn Try.prog) = some fn77 := by kernel_rfl
theorem fn61_ok : (Try.prog.funcs[61]?).bind (compFn Try.prog) = some fn61 := by kernel_rfl
theorem fn112_ok : (Try.prog.funcs[112]?).bind (compFn Try.prog) = some fn112 := by kernel_rfl
theorem fn63_ok : (Try.prog.funcs[63]?).bind (compFn Try.prog) = some fn63 := by kernel_rfl
theorem fn106_ok : (Try.prog.funcs[106]?).bind (compFn Try.prog) = some fn106 := by kernel_rfl
theorem fn126_ok : (Try.prog.funcs[126]?).bind (compFn Try.prog) = some fn126 := by kernel_rfl
theorem fn107_ok : (Try.prog.funcs[107]?).bind (compFn Try.prog) = some fn107 := by kernel_rfl
theorem fn64_ok : (Try.prog.funcs[64]?).bind (compFn Try.prog) = some fn64 := by kernel_rfl
theorem fn113_ok : (Try.prog.funcs[113]?).bind (compFn Try.prog) = some fn113 := by kernel_rfl
theorem fn130_ok : (Try.prog.funcs[130]?).bind (compFn Try.prog) = some fn130 := by kernel_rfl
theorem fn133_ok : (Try.prog.funcs[133]?).bind (compFn Try.prog) = some fn133 := by kernel_rfl
theorem fn131_ok : (Try.prog.funcs[131]?).bind (compFn Try.prog) = some fn131 := by kernel_rfl
theorem fn65_ok : (Try.prog.funcs[65]?).bind (compFn Try.prog) = some fn65 := by kernel_rfl
theorem fn51_ok : (Try.prog.funcs[51]?).bind (compFn Try.prog) = some fn51 := by kernel_rfl
theorem fn73_ok : (Try.prog.funcs[73]?).bind (compFn Try.prog) = some fn73 := by kernel_rfl
theorem fn110_ok : (Try.prog.funcs[110]?).bind (compFn Try.prog) = some fn110 := by kernel_rfl
theorem fn70_ok : (Try.prog.funcs[70]?).bind (compFn Try.prog) = some fn70 := by kernel_rfl
theorem fn71_ok : (Try.prog.funcs[71]?).bind (compFn Try.prog) = some fn71 := by kernel_rfl
theorem fn83_ok : (Try.prog.funcs[83]?).bind (compFn Try.prog) = some fn83 := by kernel_rfl
theorem fn72_ok : (Try.prog.funcs[72]?).bind (compFn Try.prog) = some fn72 := by kernel_rfl
theorem fn49_ok : (Try.prog.funcs[49]?).bind (compFn Try.prog) = some fn49 := by kernel_rfl
theorem fn50_ok : (Try.prog.funcs[50]?).bind (compFn Try.prog) = some fn50 := by kernel_rfl
theorem fn28_ok : (Try.prog.funcs[28]?).bind (compFn Try.prog) = some fn28 := by kernel_rfl
theorem fn86_ok : (Try.prog.funcs[86]?).bind (compFn Try.prog) = some fn86 := by kernel_rfl
theorem fn81_ok : (Try.prog.funcs[81]?).bind (compFn Try.prog) = some fn81 := by kernel_rfl
theorem fn67_ok : (Try.prog.funcs[67]?).bind (compFn Try.prog) = some fn67 := by kernel_rfl
theorem fn80_ok : (Try.prog.funcs[80]?).bind (compFn Try.prog) = some fn80 := by kernel_rfl
theorem fn108_ok : (Try.prog.funcs[108]?).bind (compFn Try.prog) = some fn108 := by kernel_rfl
theorem fn127_ok : (Try.prog.funcs[127]?).bind (compFn Try.prog) = some fn127 := by kernel_rfl
theorem fn109_ok : (Try.prog.funcs[109]?).bind (compFn Try.prog) = some fn109 := by kernel_rfl
theorem fn68_ok : (Try.prog.funcs[68]?).bind (compFn Try.prog) = some fn68 := by kernel_rfl
theorem fn75_ok : (Try.prog.funcs[75]?).bind (compFn Try.prog) = some fn75 := by kernel_rfl
theorem fn116_ok : (Try.prog.funcs[116]?).bind (compFn Try.prog) = some fn116 := by kernel_rfl
theorem fn74_ok : (Try.prog.funcs[74]?).bind (compFn Try.prog) = some fn74 := by kernel_rfl
theorem fn114_ok : (Try.prog.funcs[114]?).bind (compFn Try.prog) = some fn114 := by kernel_rfl
theorem fn115_ok : (Try.prog.funcs[115]?).bind (compFn Try.prog) = some fn115 := by kernel_rfl
theorem fn69_ok : (Try.prog.funcs[69]?).bind (compFn Try.prog) = some fn69 := by kernel_rfl
theorem fn52_ok : (Try.prog.funcs[52]?).bind (compFn Try.prog) = some fn52 := by kernel_rfl
theorem fn55_ok : (Try.prog.funcs[55]?).bind (compFn Try.prog) = some fn55 := by kernel_rfl
theorem fn53_ok : (Try.prog.funcs[53]?).bind (compFn Try.prog) = some fn53 := by kernel_rfl
theorem fn12_ok : (Try.prog.funcs[12]?).bind (compFn Try.prog) = some fn12 := by kernel_rfl
theorem fn57_ok : (Try.prog.funcs[57]?).bind (compFn Try.prog) = some fn57 := by kernel_rfl
theorem fn59_ok : (Try.prog.funcs[59]?).bind (compFn Try.prog) = some fn59 := by kernel_rfl
theorem fn13_ok : (Try.prog.funcs[13]?).bind (compFn Try.prog) = some fn13 := by kernel_rfl
def tab : List (Nat × VFn) := [(11, fn11), (14, fn14), (47, fn47), (58, fn58), (62, fn62), (56, fn56), (54, fn54), (111, fn111), (128, fn128), (101, fn101), (48, fn48), (27, fn27), (85, fn85), (78, fn78), (77, fn77), (61, fn61), (112, fn112), (63, fn63), (106, fn106), (126, fn126), (107, fn107), (64, fn64), (113, fn113), (130, fn130), (133, fn133), (131, fn131), (65, fn65), (51, fn51), (73, fn73), (110, fn110), (70, fn70), (71, fn71), (83, fn83), (72, fn72), (49, fn49), (50, fn50), (28, fn28), (86, fn86), (81, fn81), (67, fn67), (80, fn80), (108, fn108), (127, fn127), (109, fn109), (68, fn68), (75, fn75), (116, fn116), (74, fn74), (114, fn114), (115, fn115), (69, fn69), (52, fn52), (55, fn55), (53, fn53), (12, fn12), (57, fn57), (59, fn59), (13, fn13)]
theorem tab_ok : FnsOK Try.prog (aget tab) := FnsOK.of_tab ⟨fn11_ok, fn14_ok, fn47_ok, fn58_ok, fn62_ok, fn56_ok, fn54_ok, fn111_ok, fn128_ok, fn101_ok, fn48_ok, fn27_ok, fn85_ok, fn78_ok, fn77_ok, fn61_ok, fn112_ok, fn63_ok, fn106_ok, fn126_ok, fn107_ok, fn64_ok, fn113_ok, fn130_ok, fn133_ok, fn131_ok, fn65_ok, fn51_ok, fn73_ok, fn110_ok, fn70_ok, fn71_ok, fn83_ok, fn72_ok, fn49_ok, fn50_ok, fn28_ok, fn86_ok, fn81_ok, fn67_ok, fn80_ok, fn108_ok, fn127_ok, fn109_ok, fn68_ok, fn75_ok, fn116_ok, fn74_ok, fn114_ok, fn115_ok, fn69_ok, fn52_ok, fn55_ok, fn53_ok, fn12_ok, fn57_ok, fn59_ok, fn13_ok, trivial⟩
end Go.Vm.Code
