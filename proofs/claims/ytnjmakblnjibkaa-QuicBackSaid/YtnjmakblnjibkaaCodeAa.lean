import Derived.Test.YtnjmakblnjibkaaVmLib
import Derived.Test.YtnjmakblnjibkaaProg
import Derived.KernelRfl
namespace Go.Vm.Code
open Go Go.Vm Go.Proofs
/- 3: cloakroom/cloakroomlaw09.QuicTells -/
def k3_0 : VC := .reg [⟨(some 3), .box (.tmp 0), none⟩,
    ⟨(some 6), .mv (.const (.bool false)), none⟩]
def k3_1 : VC := .reg [⟨(some 19), .fieldA 3 (.tmp 3), none⟩,
    ⟨(some 20), .load1 .str (.tmp 19), none⟩,
    ⟨(some 21), .fieldA 4 (.tmp 3), none⟩,
    ⟨(some 22), .load1 .str (.tmp 21), none⟩,
    ⟨(some 23), .fieldA 5 (.tmp 3), none⟩,
    ⟨(some 24), .load1 .str (.tmp 23), none⟩,
    ⟨(some 25), .mv (.tmp 2), none⟩,
    ⟨(some 26), .buildSl 4 1 [(.string ⟨⟨[]⟩⟩), (.string ⟨⟨[]⟩⟩), (.string ⟨⟨[]⟩⟩), (.string ⟨⟨[]⟩⟩)] [(0, 1, (.tmp 20)), (1, 1, (.tmp 22)), (2, 1, (.tmp 24)), (3, 1, (.tmp 25))], none⟩,
    ⟨(some 27), .callF 15 [(.tmp 26), (.const (.int .i64 60))], none⟩,
    ⟨(some 28), .not (.tmp 27), none⟩,
    ⟨(some 29), .mv (.tmp 28), none⟩,
    ⟨(some 30), .mv (.tmp 1), (some (29, false))⟩,
    ⟨(some 31), .lenS (.tmp 30), (some (29, false))⟩,
    ⟨(some 32), .bin .gtr (.tmp 31) (.const (.int .i64 100)), (some (29, false))⟩,
    ⟨(some 33), .pick (.tmp 29) (.const (.bool true)) (.tmp 32), none⟩]
def k3_2 : VC := .reg [⟨(some 34), .callF 16 [], none⟩,
    ⟨(some 6), .mv (.tmp 34), none⟩]
def k3_3 : VC := .seq k3_2 .ret
def k3_4 : VC := .cond (.tmp 33) k3_3 .skip
def k3_5 : VC := .seq k3_1 k3_4
def k3_6 : VC := .reg [⟨(some 36), .loadN [.bool, (.int .i64), (.int .u32), .str, .str, .str] (.tmp 3), none⟩,
    ⟨(some 37), .callF 18 [(.tmp 36)], none⟩,
    ⟨(some 38), .callF 17 [(.tmp 37)], none⟩,
    ⟨(some 35), .mv (.tmp 38), none⟩,
    ⟨(some 39), .extract 0 (.tmp 35), none⟩,
    ⟨(some 40), .extract 1 (.tmp 35), none⟩,
    ⟨(some 7), .mv (.tmp 39), none⟩,
    ⟨(some 8), .mv (.tmp 40), none⟩]
def k3_7 : VC := .reg [⟨(some 42), .loadN [.bool, (.int .i64), (.int .u32), .str, .str, .str] (.tmp 3), none⟩,
    ⟨(some 43), .callF 19 [(.tmp 42)], none⟩,
    ⟨(some 41), .mv (.tmp 43), none⟩,
    ⟨(some 44), .extract 0 (.tmp 41), none⟩,
    ⟨(some 45), .extract 1 (.tmp 41), none⟩,
    ⟨(some 9), .mv (.tmp 44), none⟩,
    ⟨(some 10), .mv (.tmp 45), none⟩]
def k3_8 : VC := .reg [⟨(some 47), .mv (.tmp 1), none⟩,
    ⟨(some 48), .callF 20 [(.tmp 47)], none⟩,
    ⟨(some 46), .mv (.tmp 48), none⟩,
    ⟨(some 49), .extract 0 (.tmp 46), none⟩,
    ⟨(some 50), .extract 1 (.tmp 46), none⟩,
    ⟨(some 11), .alloc [(.bool false), (.int .i64 0), (.int .u32 0), (.string ⟨⟨[]⟩⟩), (.string ⟨⟨[]⟩⟩), (.string ⟨⟨[]⟩⟩)], none⟩,
    ⟨none, .store 6 (.tmp 11) (.tmp 49), none⟩,
    ⟨(some 12), .mv (.tmp 50), none⟩]
def k3_9 : VC := .reg [⟨(some 52), .mv (.tmp 1), none⟩,
    ⟨(some 53), .callF 21 [(.tmp 52)], none⟩,
    ⟨(some 51), .mv (.tmp 53), none⟩,
    ⟨(some 54), .extract 0 (.tmp 51), none⟩,
    ⟨(some 55), .extract 1 (.tmp 51), none⟩,
    ⟨(some 13), .alloc [(.bool false), (.int .i64 0), (.int .u32 0), (.string ⟨⟨[]⟩⟩), (.string ⟨⟨[]⟩⟩), (.string ⟨⟨[]⟩⟩)], none⟩,
    ⟨none, .store 6 (.tmp 13) (.tmp 54), none⟩,
    ⟨(some 14), .mv (.tmp 55), none⟩]
def k3_10 : VC := .reg [⟨(some 57), .mv (.tmp 1), none⟩,
    ⟨(some 58), .mv (.tmp 2), none⟩,
    ⟨(some 59), .callF 22 [(.tmp 57), (.tmp 58)], none⟩,
    ⟨(some 56), .mv (.tmp 59), none⟩,
    ⟨(some 60), .extract 0 (.tmp 56), none⟩,
    ⟨(some 61), .extract 1 (.tmp 56), none⟩,
    ⟨(some 15), .mv (.tmp 60), none⟩,
    ⟨(some 16), .mv (.tmp 61), none⟩]
def k3_11 : VC := .reg [⟨(some 63), .mv (.tmp 1), none⟩,
    ⟨(some 64), .mv (.tmp 2), none⟩,
    ⟨(some 65), .callF 23 [(.tmp 63), (.tmp 64)], none⟩,
    ⟨(some 62), .mv (.tmp 65), none⟩,
    ⟨(some 66), .extract 0 (.tmp 62), none⟩,
    ⟨(some 67), .extract 1 (.tmp 62), none⟩,
    ⟨(some 17), .mv (.tmp 66), none⟩,
    ⟨(some 18), .mv (.tmp 67), none⟩]
def k3_12 : VC := .regD [⟨(some 68), .mv (.tmp 7), none⟩,
    ⟨(some 69), .mv (.tmp 9), none⟩,
    ⟨(some 70), .bin .eql (.tmp 68) (.tmp 69), none⟩,
    ⟨(some 71), .mv (.tmp 70), none⟩,
    ⟨(some 72), .mv (.tmp 8), (some (71, true))⟩,
    ⟨(some 73), .mv (.tmp 10), (some (71, true))⟩,
    ⟨(some 74), .bin .eql (.tmp 72) (.tmp 73), (some (71, true))⟩,
    ⟨(some 75), .pick (.tmp 71) (.tmp 74) (.const (.bool false)), none⟩,
    ⟨(some 76), .mv (.tmp 75), none⟩,
    ⟨(some 77), .loadN [.bool, (.int .i64), (.int .u32), .str, .str, .str] (.tmp 11), (some (76, true))⟩,
    ⟨(some 78), .callF 24 [(.tmp 77)], (some (76, true))⟩,
    ⟨(some 79), .loadN [.bool, (.int .i64), (.int .u32), .str, .str, .str] (.tmp 13), (some (76, true))⟩,
    ⟨(some 80), .eqAgg false [(0, .bool), (1, (.int .i64)), (2, (.int .u32)), (3, .str), (4, .str), (5, .str)] (.tmp 78) (.tmp 79), (some (76, true))⟩,
    ⟨(some 81), .pick (.tmp 76) (.tmp 80) (.const (.bool false)), none⟩,
    ⟨(some 82), .mv (.tmp 81), none⟩,
    ⟨(some 83), .mv (.tmp 12), (some (82, true))⟩,
    ⟨(some 84), .mv (.tmp 14), (some (82, true))⟩,
    ⟨(some 85), .bin .eql (.tmp 83) (.tmp 84), (some (82, true))⟩,
    ⟨(some 86), .pick (.tmp 82) (.tmp 85) (.const (.bool false)), none⟩,
    ⟨(some 87), .mv (.tmp 86), none⟩,
    ⟨(some 88), .mv (.tmp 15), (some (87, true))⟩,
    ⟨(some 89), .mv (.tmp 17), (some (87, true))⟩,
    ⟨(some 90), .bin .eql (.tmp 88) (.tmp 89), (some (87, true))⟩,
    ⟨(some 91), .pick (.tmp 87) (.tmp 90) (.const (.bool false)), none⟩,
    ⟨(some 92), .mv (.tmp 91), none⟩,
    ⟨(some 93), .mv (.tmp 16), (some (92, true))⟩,
    ⟨(some 94), .mv (.tmp 18), (some (92, true))⟩,
    ⟨(some 95), .bin .eql (.tmp 93) (.tmp 94), (some (92, true))⟩,
    ⟨(some 96), .pick (.tmp 92) (.tmp 95) (.const (.bool false)), none⟩,
    ⟨(some 97), .mv (.tmp 96), none⟩,
    ⟨(some 98), .callF 16 [], (some (97, true))⟩,
    ⟨(some 99), .pick (.tmp 97) (.tmp 98) (.const (.bool false)), none⟩,
    ⟨(some 6), .mv (.tmp 99), none⟩] [(10, 11)]
def k3_13 : VC := .seq k3_12 .ret
def k3_14 : VC := .seq k3_11 k3_13
def k3_15 : VC := .seq k3_10 k3_14
def k3_16 : VC := .seq k3_9 k3_15
def k3_17 : VC := .seq k3_8 k3_16
def k3_18 : VC := .seq k3_7 k3_17
def k3_19 : VC := .seq k3_6 k3_18
def k3_20 : VC := .seq k3_5 k3_19
def k3_21 : VC := .seq k3_0 k3_20
def fn3 : VFn := ⟨100, k3_21, [.tmp 6]⟩
/- 15: cloakroom/cloakroomref07.Small -/
def k15_0 : VC := .reg [⟨(some 4), .mv (.const (.bool false)), none⟩]
def k15_1 : VC := .reg [⟨(some 5), .mv (.const (.int .i64 0)), none⟩]
def k15_2 : VC := .reg [⟨(some 6), .mv (.tmp 5), none⟩,
    ⟨(some 7), .mv (.tmp 0), none⟩,
    ⟨(some 8), .lenL (.tmp 7), none⟩,
    ⟨(some 9), .bin .lss (.tmp 6) (.tmp 8), none⟩]
def k15_3 : VC := .cond (.tmp 9) .skip (.exit 0)
def k15_4 : VC := .seq k15_2 k15_3
def k15_5 : VC := .reg [⟨(some 12), .mv (.tmp 0), none⟩,
    ⟨(some 13), .mv (.tmp 5), none⟩,
    ⟨(some 14), .idxAL 1 (.tmp 12) (.tmp 13), none⟩,
    ⟨(some 15), .load1 .str (.tmp 14), none⟩,
    ⟨(some 16), .lenS (.tmp 15), none⟩,
    ⟨(some 17), .mv (.tmp 1), none⟩,
    ⟨(some 18), .bin .gtr (.tmp 16) (.tmp 17), none⟩]
def k15_6 : VC := .reg [⟨(some 4), .mv (.const (.bool false)), none⟩]
def k15_7 : VC := .seq k15_6 .ret
def k15_8 : VC := .cond (.tmp 18) k15_7 .skip
def k15_9 : VC := .seq k15_5 k15_8
def k15_10 : VC := .block 1 k15_9
def k15_11 : VC := .reg [⟨(some 10), .mv (.tmp 5), none⟩,
    ⟨(some 11), .bin .add (.tmp 10) (.const (.int .i64 1)), none⟩,
    ⟨(some 5), .mv (.tmp 11), none⟩]
def k15_12 : VC := .seq k15_10 k15_11
def k15_13 : VC := .seq k15_4 k15_12
def k15_14 : VC := .loop k15_13
def k15_15 : VC := .block 0 k15_14
def k15_16 : VC := .seq k15_1 k15_15
def k15_17 : VC := .reg [⟨(some 4), .mv (.const (.bool true)), none⟩]
def k15_18 : VC := .seq k15_17 .ret
def k15_19 : VC := .seq k15_16 k15_18
def k15_20 : VC := .seq k15_0 k15_19
def fn15 : VFn := ⟨19, k15_20, [.tmp 4]⟩
/- 16: cloakroom/cloakroomlaw09.awake -/
def k16_0 : VC := .reg [⟨(some 0), .mv (.const (.bool false)), none⟩]
def k16_1 : VC := .reg [⟨(some 8), .callF 20 [(.const (.string ⟨⟨[64, 97, 98, 99, 100, 101, 102, 103, 104]⟩⟩))], none⟩,
    ⟨(some 7), .mv (.tmp 8), none⟩,
    ⟨(some 9), .extract 0 (.tmp 7), none⟩,
    ⟨(some 10), .extract 1 (.tmp 7), none⟩,
    ⟨(some 1), .alloc [(.bool false), (.int .i64 0), (.int .u32 0), (.string ⟨⟨[]⟩⟩), (.string ⟨⟨[]⟩⟩), (.string ⟨⟨[]⟩⟩)], none⟩,
    ⟨none, .store 6 (.tmp 1) (.tmp 9), none⟩,
    ⟨(some 2), .mv (.tmp 10), none⟩]
def k16_2 : VC := .reg [⟨(some 12), .callF 20 [(.const (.string ⟨⟨[97]⟩⟩))], none⟩,
    ⟨(some 11), .mv (.tmp 12), none⟩,
    ⟨(some 13), .extract 0 (.tmp 11), none⟩,
    ⟨(some 14), .extract 1 (.tmp 11), none⟩,
    ⟨(some 3), .alloc [(.bool false), (.int .i64 0), (.int .u32 0), (.string ⟨⟨[]⟩⟩), (.string ⟨⟨[]⟩⟩), (.string ⟨⟨[]⟩⟩)], none⟩,
    ⟨none, .store 6 (.tmp 3) (.tmp 13), none⟩,
    ⟨(some 4), .mv (.tmp 14), none⟩]
def k16_3 : VC := .reg [⟨(some 16), .callF 20 [(.const (.string ⟨⟨[63]⟩⟩))], none⟩,
    ⟨(some 15), .mv (.tmp 16), none⟩,
    ⟨(some 17), .extract 0 (.tmp 15), none⟩,
    ⟨(some 18), .extract 1 (.tmp 15), none⟩,
    ⟨(some 5), .alloc [(.bool false), (.int .i64 0), (.int .u32 0), (.string ⟨⟨[]⟩⟩), (.string ⟨⟨[]⟩⟩), (.string ⟨⟨[]⟩⟩)], none⟩,
    ⟨none, .store 6 (.tmp 5) (.tmp 17), none⟩,
    ⟨(some 6), .mv (.tmp 18), none⟩]
def k16_4 : VC := .reg [⟨(some 19), .mv (.tmp 2), none⟩,
    ⟨(some 20), .bin .eql (.tmp 19) (.const (.int .i64 0)), none⟩,
    ⟨(some 21), .mv (.tmp 20), none⟩,
    ⟨(some 22), .fieldA 3 (.tmp 1), (some (21, true))⟩,
    ⟨(some 23), .load1 .str (.tmp 22), (some (21, true))⟩,
    ⟨(some 24), .bin .eql (.tmp 23) (.const (.string ⟨⟨[97, 98, 99, 100, 101, 102, 103, 104]⟩⟩)), (some (21, true))⟩,
    ⟨(some 25), .pick (.tmp 21) (.tmp 24) (.const (.bool false)), none⟩,
    ⟨(some 26), .mv (.tmp 25), none⟩,
    ⟨(some 27), .fieldA 0 (.tmp 1), (some (26, true))⟩,
    ⟨(some 28), .load1 .bool (.tmp 27), (some (26, true))⟩,
    ⟨(some 29), .not (.tmp 28), (some (26, true))⟩,
    ⟨(some 30), .pick (.tmp 26) (.tmp 29) (.const (.bool false)), none⟩,
    ⟨(some 31), .mv (.tmp 30), none⟩,
    ⟨(some 32), .mv (.tmp 4), (some (31, true))⟩,
    ⟨(some 33), .bin .eql (.tmp 32) (.const (.int .i64 2)), (some (31, true))⟩,
    ⟨(some 34), .pick (.tmp 31) (.tmp 33) (.const (.bool false)), none⟩,
    ⟨(some 35), .mv (.tmp 34), none⟩,
    ⟨(some 36), .mv (.tmp 6), (some (35, true))⟩,
    ⟨(some 37), .bin .eql (.tmp 36) (.const (.int .i64 3)), (some (35, true))⟩,
    ⟨(some 38), .pick (.tmp 35) (.tmp 37) (.const (.bool false)), none⟩,
    ⟨(some 39), .mv (.tmp 38), none⟩,
    ⟨(some 40), .pick (.tmp 39) (.const (.bool true)) (.const (.bool false)), none⟩,
    ⟨(some 0), .mv (.tmp 40), none⟩]
def k16_5 : VC := .seq k16_4 .ret
def k16_6 : VC := .seq k16_3 k16_5
def k16_7 : VC := .seq k16_2 k16_6
def k16_8 : VC := .seq k16_1 k16_7
def k16_9 : VC := .seq k16_0 k16_8
def fn16 : VFn := ⟨41, k16_9, [.tmp 0]⟩
/- 20: cloakroom/quic.Get -/
def k20_0 : VC := .reg [⟨(some 2), .alloc [(.bool false), (.int .i64 0), (.int .u32 0), (.string ⟨⟨[]⟩⟩), (.string ⟨⟨[]⟩⟩), (.string ⟨⟨[]⟩⟩)], none⟩,
    ⟨(some 3), .mv (.const (.int .i64 0)), none⟩]
def k20_1 : VC := .reg [⟨(some 9), .mv (.tmp 0), none⟩,
    ⟨(some 10), .callF 67 [(.tmp 9)], none⟩,
    ⟨(some 4), .mv (.tmp 10), none⟩]
def k20_2 : VC := .reg [⟨(some 11), .mv (.tmp 4), none⟩,
    ⟨(some 12), .callF 68 [(.tmp 11), (.const (.int .i64 1))], none⟩,
    ⟨(some 5), .mv (.tmp 12), none⟩]
def k20_3 : VC := .reg [⟨(some 14), .mv (.tmp 4), none⟩,
    ⟨(some 15), .callF 74 [(.tmp 14)], none⟩,
    ⟨(some 13), .mv (.tmp 15), none⟩]
def k20_4 : VC := .reg [⟨(some 16), .build [(.bool false), (.int .i64 0), (.int .u32 0), (.string ⟨⟨[]⟩⟩), (.string ⟨⟨[]⟩⟩), (.string ⟨⟨[]⟩⟩)] [], none⟩,
    ⟨none, .store 6 (.tmp 2) (.tmp 16), none⟩,
    ⟨(some 3), .mv (.const (.int .i64 2)), none⟩]
def k20_5 : VC := .seq k20_4 .ret
def k20_6 : VC := .reg [⟨(some 18), .mv (.tmp 5), none⟩,
    ⟨(some 19), .bin .and (.tmp 18) (.const (.int .i64 64)), none⟩,
    ⟨(some 20), .bin .eql (.tmp 19) (.const (.int .i64 0)), none⟩,
    ⟨(some 17), .mv (.tmp 20), none⟩]
def k20_7 : VC := .reg [⟨(some 21), .build [(.bool false), (.int .i64 0), (.int .u32 0), (.string ⟨⟨[]⟩⟩), (.string ⟨⟨[]⟩⟩), (.string ⟨⟨[]⟩⟩)] [], none⟩,
    ⟨none, .store 6 (.tmp 2) (.tmp 21), none⟩,
    ⟨(some 3), .mv (.const (.int .i64 3)), none⟩]
def k20_8 : VC := .seq k20_7 .ret
def k20_9 : VC := .cond (.tmp 17) k20_8 .skip
def k20_10 : VC := .seq k20_6 k20_9
def k20_11 : VC := .cond (.tmp 13) k20_5 k20_10
def k20_12 : VC := .seq k20_3 k20_11
def k20_13 : VC := .block 0 k20_12
def k20_14 : VC := .reg [⟨(some 22), .mv (.tmp 5), none⟩,
    ⟨(some 23), .bin .and (.tmp 22) (.const (.int .i64 128)), none⟩,
    ⟨(some 24), .bin .neq (.tmp 23) (.const (.int .i64 0)), none⟩,
    ⟨(some 25), .mv (.tmp 5), none⟩,
    ⟨(some 26), .bin .and (.tmp 25) (.const (.int .i64 63)), none⟩,
    ⟨(some 27), .build [(.bool false), (.int .i64 0), (.int .u32 0), (.string ⟨⟨[]⟩⟩), (.string ⟨⟨[]⟩⟩), (.string ⟨⟨[]⟩⟩)] [(0, 1, (.tmp 24)), (1, 1, (.tmp 26))], none⟩,
    ⟨(some 6), .alloc [(.bool false), (.int .i64 0), (.int .u32 0), (.string ⟨⟨[]⟩⟩), (.string ⟨⟨[]⟩⟩), (.string ⟨⟨[]⟩⟩)], none⟩,
    ⟨none, .store 6 (.tmp 6) (.tmp 27), none⟩]
def k20_15 : VC := .reg [⟨(some 28), .fieldA 0 (.tmp 6), none⟩,
    ⟨(some 29), .load1 .bool (.tmp 28), none⟩,
    ⟨(some 30), .not (.tmp 29), none⟩]
def k20_16 : VC := .reg [⟨(some 31), .mv (.tmp 4), none⟩,
    ⟨(some 32), .mkFunc 70 [(.tmp 31)] [], none⟩,
    ⟨(some 7), .mv (.tmp 32), none⟩]
def k20_17 : VC := .reg [⟨(some 33), .mv (.tmp 7), none⟩,
    ⟨(some 34), .callV (.tmp 33) [(.const (.int .i64 8))], none⟩,
    ⟨(some 35), .fieldA 3 (.tmp 6), none⟩,
    ⟨none, .store 1 (.tmp 35) (.tmp 34), none⟩]
def k20_18 : VC := .reg [⟨(some 36), .mv (.tmp 4), none⟩,
    ⟨(some 37), .callF 74 [(.tmp 36)], none⟩]
def k20_19 : VC := .reg [⟨(some 38), .build [(.bool false), (.int .i64 0), (.int .u32 0), (.string ⟨⟨[]⟩⟩), (.string ⟨⟨[]⟩⟩), (.string ⟨⟨[]⟩⟩)] [], none⟩,
    ⟨none, .store 6 (.tmp 2) (.tmp 38), none⟩,
    ⟨(some 3), .mv (.const (.int .i64 2)), none⟩]
def k20_20 : VC := .seq k20_19 .ret
def k20_21 : VC := .cond (.tmp 37) k20_20 .skip
def k20_22 : VC := .seq k20_18 k20_21
def k20_23 : VC := .seq k20_17 k20_22
def k20_24 : VC := .reg [⟨(some 39), .mv (.tmp 4), none⟩,
    ⟨(some 40), .callF 72 [(.tmp 39)], none⟩,
    ⟨(some 41), .fieldA 5 (.tmp 6), none⟩,
    ⟨none, .store 1 (.tmp 41) (.tmp 40), none⟩]
def k20_25 : VC := .reg [⟨(some 42), .loadN [.bool, (.int .i64), (.int .u32), .str, .str, .str] (.tmp 6), none⟩,
    ⟨none, .store 6 (.tmp 2) (.tmp 42), none⟩,
    ⟨(some 3), .mv (.const (.int .i64 0)), none⟩]
def k20_26 : VC := .seq k20_25 .ret
def k20_27 : VC := .seq k20_24 k20_26
def k20_28 : VC := .seq k20_23 k20_27
def k20_29 : VC := .seq k20_16 k20_28
def k20_30 : VC := .cond (.tmp 30) k20_29 .skip
def k20_31 : VC := .seq k20_15 k20_30
def k20_32 : VC := .reg [⟨(some 43), .mv (.tmp 4), none⟩,
    ⟨(some 44), .callF 68 [(.tmp 43), (.const (.int .i64 4))], none⟩,
    ⟨(some 45), .conv .u32 (.tmp 44), none⟩,
    ⟨(some 46), .fieldA 2 (.tmp 6), none⟩,
    ⟨none, .store 1 (.tmp 46) (.tmp 45), none⟩]
def k20_33 : VC := .reg [⟨(some 47), .mv (.tmp 4), none⟩,
    ⟨(some 48), .fieldA 3 (.tmp 6), none⟩,
    ⟨(some 49), .fieldA 4 (.tmp 6), none⟩,
    ⟨(some 50), .buildSl 2 1 [(.pointer none), (.pointer none)] [(0, 1, (.tmp 48)), (1, 1, (.tmp 49))], none⟩,
    ⟨(some 51), .callF 77 [(.func 78), (.tmp 47), (.tmp 50)], none⟩,
    ⟨(some 8), .mv (.tmp 51), none⟩]
def k20_34 : VC := .reg [⟨(some 52), .mv (.tmp 8), none⟩,
    ⟨(some 53), .bin .neq (.tmp 52) (.const (.int .i64 0)), none⟩]
def k20_35 : VC := .reg [⟨(some 54), .build [(.bool false), (.int .i64 0), (.int .u32 0), (.string ⟨⟨[]⟩⟩), (.string ⟨⟨[]⟩⟩), (.string ⟨⟨[]⟩⟩)] [], none⟩,
    ⟨(some 55), .mv (.tmp 8), none⟩,
    ⟨none, .store 6 (.tmp 2) (.tmp 54), none⟩,
    ⟨(some 3), .mv (.tmp 55), none⟩]
def k20_36 : VC := .seq k20_35 .ret
def k20_37 : VC := .cond (.tmp 53) k20_36 .skip
def k20_38 : VC := .seq k20_34 k20_37
def k20_39 : VC := .seq k20_33 k20_38
def k20_40 : VC := .reg [⟨(some 56), .mv (.tmp 4), none⟩,
    ⟨(some 57), .callF 72 [(.tmp 56)], none⟩,
    ⟨(some 58), .fieldA 5 (.tmp 6), none⟩,
    ⟨none, .store 1 (.tmp 58) (.tmp 57), none⟩]
def k20_41 : VC := .reg [⟨(some 59), .loadN [.bool, (.int .i64), (.int .u32), .str, .str, .str] (.tmp 6), none⟩,
    ⟨none, .store 6 (.tmp 2) (.tmp 59), none⟩,
    ⟨(some 3), .mv (.const (.int .i64 0)), none⟩]
def k20_42 : VC := .seq k20_41 .ret
def k20_43 : VC := .seq k20_40 k20_42
def k20_44 : VC := .seq k20_39 k20_43
def k20_45 : VC := .seq k20_32 k20_44
def k20_46 : VC := .seq k20_31 k20_45
def k20_47 : VC := .seq k20_14 k20_46
def k20_48 : VC := .seq k20_13 k20_47
def k20_49 : VC := .seq k20_2 k20_48
def k20_50 : VC := .seq k20_1 k20_49
def k20_51 : VC := .seq k20_0 k20_50
def fn20 : VFn := ⟨60, k20_51, [.cell 2 [.bool, (.int .i64), (.int .u32), .str, .str, .str] true, .tmp 3]⟩
/- 67: cloakroom/octet.New -/
def k67_0 : VC := .reg [⟨(some 2), .mv (.const (.pointer none)), none⟩]
def k67_1 : VC := .reg [⟨(some 3), .mv (.tmp 0), none⟩,
    ⟨(some 4), .build [(.string ⟨⟨[]⟩⟩), (.bool false), (.bool false)] [(0, 1, (.tmp 3)), (1, 1, (.const (.bool true)))], none⟩,
    ⟨(some 5), .box (.tmp 4), none⟩,
    ⟨(some 2), .mv (.tmp 5), none⟩]
def k67_2 : VC := .seq k67_1 .ret
def k67_3 : VC := .seq k67_0 k67_2
def fn67 : VFn := ⟨6, k67_3, [.tmp 2]⟩
/- 68: (*cloakroom/octet.Reader).Num -/
def k68_0 : VC := .reg [⟨(some 4), .mv (.const (.int .i64 0)), none⟩]
def k68_1 : VC := .reg [⟨(some 7), .mv (.tmp 1), none⟩,
    ⟨(some 8), .bin .lss (.tmp 7) (.const (.int .i64 1)), none⟩,
    ⟨(some 9), .mv (.tmp 8), none⟩,
    ⟨(some 10), .mv (.tmp 1), (some (9, false))⟩,
    ⟨(some 11), .bin .gtr (.tmp 10) (.const (.int .i64 7)), (some (9, false))⟩,
    ⟨(some 12), .pick (.tmp 9) (.const (.bool true)) (.tmp 11), none⟩]
def k68_2 : VC := .reg [⟨(some 1), .mv (.const (.int .i64 (-1))), none⟩]
def k68_3 : VC := .cond (.tmp 12) k68_2 .skip
def k68_4 : VC := .seq k68_1 k68_3
def k68_5 : VC := .reg [⟨(some 14), .mv (.tmp 0), none⟩,
    ⟨(some 15), .mv (.tmp 1), none⟩,
    ⟨(some 16), .callF 70 [(.tmp 14), (.tmp 15)], none⟩,
    ⟨(some 17), .mv (.tmp 1), none⟩,
    ⟨(some 18), .callF 59 [(.tmp 16), (.const (.int .i64 0)), (.tmp 17)], none⟩,
    ⟨(some 13), .mv (.tmp 18), none⟩,
    ⟨(some 19), .extract 0 (.tmp 13), none⟩,
    ⟨(some 20), .extract 1 (.tmp 13), none⟩,
    ⟨(some 5), .mv (.tmp 19), none⟩,
    ⟨(some 6), .mv (.tmp 20), none⟩]
def k68_6 : VC := .reg [⟨(some 21), .mv (.tmp 5), none⟩,
    ⟨(some 22), .conv .i64 (.tmp 21), none⟩,
    ⟨(some 4), .mv (.tmp 22), none⟩]
def k68_7 : VC := .seq k68_6 .ret
def k68_8 : VC := .seq k68_5 k68_7
def k68_9 : VC := .seq k68_4 k68_8
def k68_10 : VC := .seq k68_0 k68_9
def fn68 : VFn := ⟨23, k68_10, [.tmp 4]⟩
/- 70: (*cloakroom/octet.Reader).Text -/
def k70_0 : VC := .reg [⟨(some 4), .mv (.const (.string ⟨⟨[]⟩⟩)), none⟩]
def k70_1 : VC := .reg [⟨(some 6), .mv (.tmp 0), none⟩,
    ⟨(some 7), .callF 74 [(.tmp 6)], none⟩]
def k70_2 : VC := .reg [⟨(some 4), .mv (.const (.string ⟨⟨[]⟩⟩)), none⟩]
def k70_3 : VC := .seq k70_2 .ret
def k70_4 : VC := .cond (.tmp 7) k70_3 .skip
def k70_5 : VC := .seq k70_1 k70_4
def k70_6 : VC := .reg [⟨(some 8), .mv (.tmp 1), none⟩,
    ⟨(some 9), .bin .lss (.tmp 8) (.const (.int .i64 0)), none⟩,
    ⟨(some 10), .mv (.tmp 9), none⟩,
    ⟨(some 11), .mv (.tmp 1), (some (10, false))⟩,
    ⟨(some 12), .mv (.tmp 0), (some (10, false))⟩,
    ⟨(some 13), .nilCheck (.tmp 12), (some (10, false))⟩,
    ⟨(some 14), .fieldA 0 (.tmp 13), (some (10, false))⟩,
    ⟨(some 15), .load1 .str (.tmp 14), (some (10, false))⟩,
    ⟨(some 16), .lenS (.tmp 15), (some (10, false))⟩,
    ⟨(some 17), .bin .gtr (.tmp 11) (.tmp 16), (some (10, false))⟩,
    ⟨(some 18), .pick (.tmp 10) (.const (.bool true)) (.tmp 17), none⟩]
def k70_7 : VC := .reg [⟨(some 19), .mv (.tmp 0), none⟩,
    ⟨(some 20), .nilCheck (.tmp 19), none⟩,
    ⟨(some 21), .fieldA 2 (.tmp 20), none⟩,
    ⟨none, .store 1 (.tmp 21) (.const (.bool true)), none⟩]
def k70_8 : VC := .reg [⟨(some 4), .mv (.const (.string ⟨⟨[]⟩⟩)), none⟩]
def k70_9 : VC := .seq k70_8 .ret
def k70_10 : VC := .seq k70_7 k70_9
def k70_11 : VC := .cond (.tmp 18) k70_10 .skip
def k70_12 : VC := .seq k70_6 k70_11
def k70_13 : VC := .reg [⟨(some 22), .mv (.tmp 0), none⟩,
    ⟨(some 23), .nilCheck (.tmp 22), none⟩,
    ⟨(some 24), .fieldA 0 (.tmp 23), none⟩,
    ⟨(some 25), .load1 .str (.tmp 24), none⟩,
    ⟨(some 26), .mv (.tmp 1), none⟩,
    ⟨(some 27), .sliceS (.tmp 25) none (some (.tmp 26)), none⟩,
    ⟨(some 5), .mv (.tmp 27), none⟩]
def k70_14 : VC := .reg [⟨(some 28), .mv (.tmp 0), none⟩,
    ⟨(some 29), .mv (.tmp 0), none⟩,
    ⟨(some 30), .nilCheck (.tmp 29), none⟩,
    ⟨(some 31), .fieldA 0 (.tmp 30), none⟩,
    ⟨(some 32), .load1 .str (.tmp 31), none⟩,
    ⟨(some 33), .mv (.tmp 1), none⟩,
    ⟨(some 34), .sliceS (.tmp 32) (some (.tmp 33)) none, none⟩,
    ⟨(some 35), .nilCheck (.tmp 28), none⟩,
    ⟨(some 36), .fieldA 0 (.tmp 35), none⟩,
    ⟨none, .store 1 (.tmp 36) (.tmp 34), none⟩]
def k70_15 : VC := .reg [⟨(some 37), .mv (.tmp 5), none⟩,
    ⟨(some 4), .mv (.tmp 37), none⟩]
def k70_16 : VC := .seq k70_15 .ret
def k70_17 : VC := .seq k70_14 k70_16
def k70_18 : VC := .seq k70_13 k70_17
def k70_19 : VC := .seq k70_12 k70_18
def k70_20 : VC := .seq k70_5 k70_19
def k70_21 : VC := .seq k70_0 k70_20
def fn70 : VFn := ⟨38, k70_21, [.tmp 4]⟩
/- 74: (*cloakroom/octet.Reader).Bad -/
def k74_0 : VC := .reg [⟨(some 2), .mv (.const (.bool false)), none⟩]
def k74_1 : VC := .reg [⟨(some 3), .mv (.tmp 0), none⟩,
    ⟨(some 4), .isNil 0 false (.tmp 3), none⟩,
    ⟨(some 5), .mv (.tmp 4), none⟩,
    ⟨(some 6), .mv (.tmp 0), (some (5, false))⟩,
    ⟨(some 7), .nilCheck (.tmp 6), (some (5, false))⟩,
    ⟨(some 8), .fieldA 1 (.tmp 7), (some (5, false))⟩,
    ⟨(some 9), .load1 .bool (.tmp 8), (some (5, false))⟩,
    ⟨(some 10), .not (.tmp 9), (some (5, false))⟩,
    ⟨(some 11), .pick (.tmp 5) (.const (.bool true)) (.tmp 10), none⟩,
    ⟨(some 12), .mv (.tmp 11), none⟩,
    ⟨(some 13), .mv (.tmp 0), (some (12, false))⟩,
    ⟨(some 14), .nilCheck (.tmp 13), (some (12, false))⟩,
    ⟨(some 15), .fieldA 2 (.tmp 14), (some (12, false))⟩,
    ⟨(some 16), .load1 .bool (.tmp 15), (some (12, false))⟩,
    ⟨(some 17), .pick (.tmp 12) (.const (.bool true)) (.tmp 16), none⟩,
    ⟨(some 2), .mv (.tmp 17), none⟩]
def k74_2 : VC := .seq k74_1 .ret
def k74_3 : VC := .seq k74_0 k74_2
def fn74 : VFn := ⟨18, k74_3, [.tmp 2]⟩
/- 59: cloakroom/octet.Get -/
def k59_0 : VC := .reg [⟨(some 6), .mv (.const (.int .u64 0)), none⟩,
    ⟨(some 7), .mv (.const (.bool false)), none⟩]
def k59_1 : VC := .reg [⟨(some 11), .mv (.tmp 2), none⟩,
    ⟨(some 12), .bin .lss (.tmp 11) (.const (.int .i64 1)), none⟩,
    ⟨(some 13), .mv (.tmp 12), none⟩,
    ⟨(some 14), .mv (.tmp 2), (some (13, false))⟩,
    ⟨(some 15), .bin .gtr (.tmp 14) (.const (.int .i64 8)), (some (13, false))⟩,
    ⟨(some 16), .pick (.tmp 13) (.const (.bool true)) (.tmp 15), none⟩,
    ⟨(some 17), .mv (.tmp 16), none⟩,
    ⟨(some 18), .mv (.tmp 1), (some (17, false))⟩,
    ⟨(some 19), .bin .lss (.tmp 18) (.const (.int .i64 0)), (some (17, false))⟩,
    ⟨(some 20), .pick (.tmp 17) (.const (.bool true)) (.tmp 19), none⟩,
    ⟨(some 21), .mv (.tmp 20), none⟩,
    ⟨(some 22), .mv (.tmp 0), (some (21, false))⟩,
    ⟨(some 23), .lenS (.tmp 22), (some (21, false))⟩,
    ⟨(some 24), .mv (.tmp 2), (some (21, false))⟩,
    ⟨(some 25), .bin .sub (.tmp 23) (.tmp 24), (some (21, false))⟩,
    ⟨(some 26), .mv (.tmp 1), (some (21, false))⟩,
    ⟨(some 27), .bin .lss (.tmp 25) (.tmp 26), (some (21, false))⟩,
    ⟨(some 28), .pick (.tmp 21) (.const (.bool true)) (.tmp 27), none⟩]
def k59_2 : VC := .reg [⟨(some 6), .mv (.const (.int .u64 0)), none⟩,
    ⟨(some 7), .mv (.const (.bool false)), none⟩]
def k59_3 : VC := .seq k59_2 .ret
def k59_4 : VC := .cond (.tmp 28) k59_3 .skip
def k59_5 : VC := .seq k59_1 k59_4
def k59_6 : VC := .reg [⟨(some 8), .mv (.const (.int .u64 0)), none⟩]
def k59_7 : VC := .reg [⟨(some 29), .mv (.tmp 0), none⟩,
    ⟨(some 30), .mv (.tmp 1), none⟩,
    ⟨(some 31), .mv (.tmp 1), none⟩,
    ⟨(some 32), .mv (.tmp 2), none⟩,
    ⟨(some 33), .bin .add (.tmp 31) (.tmp 32), none⟩,
    ⟨(some 34), .sliceS (.tmp 29) (some (.tmp 30)) (some (.tmp 33)), none⟩,
    ⟨(some 35), .s2b (.tmp 34), none⟩,
    ⟨(some 36), .lenL (.tmp 35), none⟩,
    ⟨(some 37), .mv (.const (.int .i64 0)), none⟩]
def k59_8 : VC := .reg [⟨(some 38), .bin .lss (.tmp 37) (.tmp 36), none⟩]
def k59_9 : VC := .cond (.tmp 38) .skip (.exit 0)
def k59_10 : VC := .reg [⟨(some 39), .idxAL 1 (.tmp 35) (.tmp 37), none⟩,
    ⟨(some 40), .load1 (.int .u8) (.tmp 39), none⟩,
    ⟨(some 10), .mv (.tmp 40), none⟩]
def k59_11 : VC := .reg [⟨(some 41), .mv (.tmp 8), none⟩,
    ⟨(some 42), .bin .shl (.tmp 41) (.const (.int .u64 8)), none⟩,
    ⟨(some 43), .mv (.tmp 10), none⟩,
    ⟨(some 44), .conv .u64 (.tmp 43), none⟩,
    ⟨(some 45), .bin .or (.tmp 42) (.tmp 44), none⟩,
    ⟨(some 8), .mv (.tmp 45), none⟩]
def k59_12 : VC := .seq k59_10 k59_11
def k59_13 : VC := .block 1 k59_12
def k59_14 : VC := .reg [⟨(some 46), .bin .add (.tmp 37) (.const (.int .i64 1)), none⟩,
    ⟨(some 37), .mv (.tmp 46), none⟩]
def k59_15 : VC := .seq k59_13 k59_14
def k59_16 : VC := .seq k59_9 k59_15
def k59_17 : VC := .seq k59_8 k59_16
def k59_18 : VC := .loop k59_17
def k59_19 : VC := .block 0 k59_18
def k59_20 : VC := .seq k59_7 k59_19
def k59_21 : VC := .reg [⟨(some 47), .mv (.tmp 8), none⟩,
    ⟨(some 6), .mv (.tmp 47), none⟩,
    ⟨(some 7), .mv (.const (.bool true)), none⟩]
def k59_22 : VC := .seq k59_21 .ret
def k59_23 : VC := .seq k59_20 k59_22
def k59_24 : VC := .seq k59_6 k59_23
def k59_25 : VC := .seq k59_5 k59_24
def k59_26 : VC := .seq k59_0 k59_25
def fn59 : VFn := ⟨48, k59_26, [.tmp 6, .tmp 7]⟩
/- 72: (*cloakroom/octet.Reader).Rest -/
def k72_0 : VC := .reg [⟨(some 2), .mv (.const (.string ⟨⟨[]⟩⟩)), none⟩]
def k72_1 : VC := .reg [⟨(some 3), .mv (.tmp 0), none⟩,
    ⟨(some 4), .callF 74 [(.tmp 3)], none⟩]
def k72_2 : VC := .reg [⟨(some 2), .mv (.const (.string ⟨⟨[]⟩⟩)), none⟩]
def k72_3 : VC := .seq k72_2 .ret
def k72_4 : VC := .cond (.tmp 4) k72_3 .skip
def k72_5 : VC := .seq k72_1 k72_4
def k72_6 : VC := .reg [⟨(some 5), .mv (.tmp 0), none⟩,
    ⟨(some 6), .mv (.tmp 0), none⟩,
    ⟨(some 7), .nilCheck (.tmp 6), none⟩,
    ⟨(some 8), .fieldA 0 (.tmp 7), none⟩,
    ⟨(some 9), .load1 .str (.tmp 8), none⟩,
    ⟨(some 10), .lenS (.tmp 9), none⟩,
    ⟨(some 11), .callF 70 [(.tmp 5), (.tmp 10)], none⟩,
    ⟨(some 2), .mv (.tmp 11), none⟩]
def k72_7 : VC := .seq k72_6 .ret
def k72_8 : VC := .seq k72_5 k72_7
def k72_9 : VC := .seq k72_0 k72_8
def fn72 : VFn := ⟨12, k72_9, [.tmp 2]⟩
/- 77: cloakroom/quic.ids -/
def k77_0 : VC := .reg [⟨(some 6), .mv (.const (.int .i64 0)), none⟩]
def k77_1 : VC := .reg [⟨(some 11), .mv (.tmp 2), none⟩,
    ⟨(some 12), .lenL (.tmp 11), none⟩,
    ⟨(some 13), .mv (.const (.int .i64 0)), none⟩]
def k77_2 : VC := .reg [⟨(some 14), .bin .lss (.tmp 13) (.tmp 12), none⟩]
def k77_3 : VC := .cond (.tmp 14) .skip (.exit 0)
def k77_4 : VC := .reg [⟨(some 15), .idxAL 1 (.tmp 11) (.tmp 13), none⟩,
    ⟨(some 16), .load1 .oth (.tmp 15), none⟩,
    ⟨(some 8), .mv (.tmp 16), none⟩]
def k77_5 : VC := .reg [⟨(some 18), .mv (.tmp 0), none⟩,
    ⟨(some 19), .mv (.tmp 1), none⟩,
    ⟨(some 20), .callV (.tmp 18) [(.tmp 19)], none⟩,
    ⟨(some 17), .mv (.tmp 20), none⟩,
    ⟨(some 21), .extract 0 (.tmp 17), none⟩,
    ⟨(some 22), .extract 1 (.tmp 17), none⟩,
    ⟨(some 9), .mv (.tmp 21), none⟩,
    ⟨(some 10), .mv (.tmp 22), none⟩]
def k77_6 : VC := .reg [⟨(some 23), .mv (.tmp 10), none⟩,
    ⟨(some 24), .bin .neq (.tmp 23) (.const (.int .i64 0)), none⟩]
def k77_7 : VC := .reg [⟨(some 25), .mv (.tmp 10), none⟩,
    ⟨(some 6), .mv (.tmp 25), none⟩]
def k77_8 : VC := .seq k77_7 .ret
def k77_9 : VC := .cond (.tmp 24) k77_8 .skip
def k77_10 : VC := .seq k77_6 k77_9
def k77_11 : VC := .reg [⟨(some 26), .mv (.tmp 8), none⟩,
    ⟨(some 27), .mv (.tmp 9), none⟩,
    ⟨(some 28), .nilCheck (.tmp 26), none⟩,
    ⟨none, .store 1 (.tmp 28) (.tmp 27), none⟩]
def k77_12 : VC := .seq k77_10 k77_11
def k77_13 : VC := .seq k77_5 k77_12
def k77_14 : VC := .seq k77_4 k77_13
def k77_15 : VC := .block 1 k77_14
def k77_16 : VC := .reg [⟨(some 29), .bin .add (.tmp 13) (.const (.int .i64 1)), none⟩,
    ⟨(some 13), .mv (.tmp 29), none⟩]
def k77_17 : VC := .seq k77_15 k77_16
def k77_18 : VC := .seq k77_3 k77_17
def k77_19 : VC := .seq k77_2 k77_18
def k77_20 : VC := .loop k77_19
def k77_21 : VC := .block 0 k77_20
def k77_22 : VC := .seq k77_1 k77_21
def k77_23 : VC := .reg [⟨(some 6), .mv (.const (.int .i64 0)), none⟩]
def k77_24 : VC := .seq k77_23 .ret
def k77_25 : VC := .seq k77_22 k77_24
def k77_26 : VC := .seq k77_0 k77_25
def fn77 : VFn := ⟨30, k77_26, [.tmp 6]⟩
/- 78: cloakroom/quic.id -/
def k78_0 : VC := .reg [⟨(some 2), .mv (.const (.string ⟨⟨[]⟩⟩)), none⟩,
    ⟨(some 3), .mv (.const (.int .i64 0)), none⟩]
def k78_1 : VC := .reg [⟨(some 6), .mv (.tmp 0), none⟩,
    ⟨(some 7), .callF 68 [(.tmp 6), (.const (.int .i64 1))], none⟩,
    ⟨(some 4), .mv (.tmp 7), none⟩]
def k78_2 : VC := .reg [⟨(some 8), .mv (.tmp 0), none⟩,
    ⟨(some 9), .callF 74 [(.tmp 8)], none⟩,
    ⟨(some 10), .not (.tmp 9), none⟩,
    ⟨(some 11), .mv (.tmp 10), none⟩,
    ⟨(some 12), .mv (.tmp 4), (some (11, true))⟩,
    ⟨(some 13), .bin .gtr (.tmp 12) (.const (.int .i64 20)), (some (11, true))⟩,
    ⟨(some 14), .pick (.tmp 11) (.tmp 13) (.const (.bool false)), none⟩]
def k78_3 : VC := .reg [⟨(some 2), .mv (.const (.string ⟨⟨[]⟩⟩)), none⟩,
    ⟨(some 3), .mv (.const (.int .i64 3)), none⟩]
def k78_4 : VC := .seq k78_3 .ret
def k78_5 : VC := .cond (.tmp 14) k78_4 .skip
def k78_6 : VC := .seq k78_2 k78_5
def k78_7 : VC := .reg [⟨(some 15), .mv (.tmp 0), none⟩,
    ⟨(some 16), .mv (.tmp 4), none⟩,
    ⟨(some 17), .callF 70 [(.tmp 15), (.tmp 16)], none⟩,
    ⟨(some 5), .mv (.tmp 17), none⟩]
def k78_8 : VC := .reg [⟨(some 18), .mv (.tmp 0), none⟩,
    ⟨(some 19), .callF 74 [(.tmp 18)], none⟩]
def k78_9 : VC := .reg [⟨(some 2), .mv (.const (.string ⟨⟨[]⟩⟩)), none⟩,
    ⟨(some 3), .mv (.const (.int .i64 2)), none⟩]
def k78_10 : VC := .seq k78_9 .ret
def k78_11 : VC := .cond (.tmp 19) k78_10 .skip
def k78_12 : VC := .seq k78_8 k78_11
def k78_13 : VC := .reg [⟨(some 20), .mv (.tmp 5), none⟩,
    ⟨(some 2), .mv (.tmp 20), none⟩,
    ⟨(some 3), .mv (.const (.int .i64 0)), none⟩]
def k78_14 : VC := .seq k78_13 .ret
def k78_15 : VC := .seq k78_12 k78_14
def k78_16 : VC := .seq k78_7 k78_15
def k78_17 : VC := .seq k78_6 k78_16
def k78_18 : VC := .seq k78_1 k78_17
def k78_19 : VC := .seq k78_0 k78_18
def fn78 : VFn := ⟨21, k78_19, [.tmp 2, .tmp 3]⟩
/- 18: cloakroom/cloakroomlaw09.of -/
def k18_0 : VC := .reg [⟨(some 1), .box (.tmp 0), none⟩,
    ⟨(some 2), .alloc [(.bool false), (.int .i64 0), (.int .u32 0), (.string ⟨⟨[]⟩⟩), (.string ⟨⟨[]⟩⟩), (.string ⟨⟨[]⟩⟩)], none⟩]
def k18_1 : VC := .reg [⟨(some 3), .fieldA 0 (.tmp 1), none⟩,
    ⟨(some 4), .load1 .bool (.tmp 3), none⟩,
    ⟨(some 5), .fieldA 1 (.tmp 1), none⟩,
    ⟨(some 6), .load1 (.int .i64) (.tmp 5), none⟩,
    ⟨(some 7), .fieldA 2 (.tmp 1), none⟩,
    ⟨(some 8), .load1 (.int .u32) (.tmp 7), none⟩,
    ⟨(some 9), .fieldA 3 (.tmp 1), none⟩,
    ⟨(some 10), .load1 .str (.tmp 9), none⟩,
    ⟨(some 11), .fieldA 4 (.tmp 1), none⟩,
    ⟨(some 12), .load1 .str (.tmp 11), none⟩,
    ⟨(some 13), .fieldA 5 (.tmp 1), none⟩,
    ⟨(some 14), .load1 .str (.tmp 13), none⟩,
    ⟨(some 15), .build [(.bool false), (.int .i64 0), (.int .u32 0), (.string ⟨⟨[]⟩⟩), (.string ⟨⟨[]⟩⟩), (.string ⟨⟨[]⟩⟩)] [(0, 1, (.tmp 4)), (1, 1, (.tmp 6)), (2, 1, (.tmp 8)), (3, 1, (.tmp 10)), (4, 1, (.tmp 12)), (5, 1, (.tmp 14))], none⟩,
    ⟨none, .store 6 (.tmp 2) (.tmp 15), none⟩]
def k18_2 : VC := .seq k18_1 .ret
def k18_3 : VC := .seq k18_0 k18_2
def fn18 : VFn := ⟨16, k18_3, [.cell 2 [.bool, (.int .i64), (.int .u32), .str, .str, .str] true]⟩
/- 17: cloakroom/quic.Put -/
def k17_0 : VC := .reg [⟨(some 1), .box (.tmp 0), none⟩,
    ⟨(some 2), .mv (.const (.string ⟨⟨[]⟩⟩)), none⟩,
    ⟨(some 3), .mv (.const (.int .i64 0)), none⟩]
def k17_1 : VC := .reg [⟨(some 5), .loadN [.bool, (.int .i64), (.int .u32), .str, .str, .str] (.tmp 1), none⟩,
    ⟨(some 6), .callF 75 [(.tmp 5)], none⟩,
    ⟨(some 7), .not (.tmp 6), none⟩,
    ⟨(some 4), .mv (.tmp 7), none⟩]
def k17_2 : VC := .reg [⟨(some 2), .mv (.const (.string ⟨⟨[]⟩⟩)), none⟩,
    ⟨(some 3), .mv (.const (.int .i64 1)), none⟩]
def k17_3 : VC := .seq k17_2 .ret
def k17_4 : VC := .reg [⟨(some 9), .fieldA 0 (.tmp 1), none⟩,
    ⟨(some 10), .load1 .bool (.tmp 9), none⟩,
    ⟨(some 8), .mv (.tmp 10), none⟩]
def k17_5 : VC := .regD [⟨(some 11), .fieldA 1 (.tmp 1), none⟩,
    ⟨(some 12), .load1 (.int .i64) (.tmp 11), none⟩,
    ⟨(some 13), .bin .or (.const (.int .i64 192)) (.tmp 12), none⟩,
    ⟨(some 14), .conv .u64 (.tmp 13), none⟩,
    ⟨(some 15), .callF 63 [(.tmp 14), (.const (.int .i64 1))], none⟩,
    ⟨(some 16), .fieldA 2 (.tmp 1), none⟩,
    ⟨(some 17), .load1 (.int .u32) (.tmp 16), none⟩,
    ⟨(some 18), .conv .u64 (.tmp 17), none⟩,
    ⟨(some 19), .callF 63 [(.tmp 18), (.const (.int .i64 4))], none⟩,
    ⟨(some 20), .bin .add (.tmp 15) (.tmp 19), none⟩,
    ⟨(some 21), .fieldA 3 (.tmp 1), none⟩,
    ⟨(some 22), .load1 .str (.tmp 21), none⟩,
    ⟨(some 23), .callF 76 [(.tmp 22)], none⟩,
    ⟨(some 24), .bin .add (.tmp 20) (.tmp 23), none⟩,
    ⟨(some 25), .fieldA 4 (.tmp 1), none⟩,
    ⟨(some 26), .load1 .str (.tmp 25), none⟩,
    ⟨(some 27), .callF 76 [(.tmp 26)], none⟩,
    ⟨(some 28), .bin .add (.tmp 24) (.tmp 27), none⟩,
    ⟨(some 29), .fieldA 5 (.tmp 1), none⟩,
    ⟨(some 30), .load1 .str (.tmp 29), none⟩,
    ⟨(some 31), .bin .add (.tmp 28) (.tmp 30), none⟩,
    ⟨(some 2), .mv (.tmp 31), none⟩,
    ⟨(some 3), .mv (.const (.int .i64 0)), none⟩] [(4, 6), (4, 11), (4, 15), (4, 19), (8, 11), (8, 15), (8, 19), (12, 15), (12, 19), (16, 19)]
def k17_6 : VC := .seq k17_5 .ret
def k17_7 : VC := .cond (.tmp 8) k17_6 .skip
def k17_8 : VC := .seq k17_4 k17_7
def k17_9 : VC := .cond (.tmp 4) k17_3 k17_8
def k17_10 : VC := .seq k17_1 k17_9
def k17_11 : VC := .block 0 k17_10
def k17_12 : VC := .regD [⟨(some 32), .fieldA 1 (.tmp 1), none⟩,
    ⟨(some 33), .load1 (.int .i64) (.tmp 32), none⟩,
    ⟨(some 34), .bin .or (.const (.int .i64 64)) (.tmp 33), none⟩,
    ⟨(some 35), .conv .u64 (.tmp 34), none⟩,
    ⟨(some 36), .callF 63 [(.tmp 35), (.const (.int .i64 1))], none⟩,
    ⟨(some 37), .fieldA 3 (.tmp 1), none⟩,
    ⟨(some 38), .load1 .str (.tmp 37), none⟩,
    ⟨(some 39), .bin .add (.tmp 36) (.tmp 38), none⟩,
    ⟨(some 40), .fieldA 5 (.tmp 1), none⟩,
    ⟨(some 41), .load1 .str (.tmp 40), none⟩,
    ⟨(some 42), .bin .add (.tmp 39) (.tmp 41), none⟩,
    ⟨(some 2), .mv (.tmp 42), none⟩,
    ⟨(some 3), .mv (.const (.int .i64 0)), none⟩] [(4, 6), (4, 9)]
def k17_13 : VC := .seq k17_12 .ret
def k17_14 : VC := .seq k17_11 k17_13
def k17_15 : VC := .seq k17_0 k17_14
def fn17 : VFn := ⟨43, k17_15, [.tmp 2, .tmp 3]⟩
/- 75: (cloakroom/quic.Head).may -/
def k75_0 : VC := .reg [⟨(some 1), .box (.tmp 0), none⟩,
    ⟨(some 2), .mv (.const (.bool false)), none⟩]
def k75_1 : VC := .reg [⟨(some 3), .fieldA 1 (.tmp 1), none⟩,
    ⟨(some 4), .load1 (.int .i64) (.tmp 3), none⟩,
    ⟨(some 5), .bin .lss (.tmp 4) (.const (.int .i64 0)), none⟩,
    ⟨(some 6), .mv (.tmp 5), none⟩,
    ⟨(some 7), .fieldA 1 (.tmp 1), (some (6, false))⟩,
    ⟨(some 8), .load1 (.int .i64) (.tmp 7), (some (6, false))⟩,
    ⟨(some 9), .bin .geq (.tmp 8) (.const (.int .i64 64)), (some (6, false))⟩,
    ⟨(some 10), .pick (.tmp 6) (.const (.bool true)) (.tmp 9), none⟩]
def k75_2 : VC := .reg [⟨(some 2), .mv (.const (.bool false)), none⟩]
def k75_3 : VC := .seq k75_2 .ret
def k75_4 : VC := .cond (.tmp 10) k75_3 .skip
def k75_5 : VC := .seq k75_1 k75_4
def k75_6 : VC := .reg [⟨(some 11), .fieldA 0 (.tmp 1), none⟩,
    ⟨(some 12), .load1 .bool (.tmp 11), none⟩]
def k75_7 : VC := .reg [⟨(some 13), .fieldA 3 (.tmp 1), none⟩,
    ⟨(some 14), .load1 .str (.tmp 13), none⟩,
    ⟨(some 15), .lenS (.tmp 14), none⟩,
    ⟨(some 16), .fieldA 4 (.tmp 1), none⟩,
    ⟨(some 17), .load1 .str (.tmp 16), none⟩,
    ⟨(some 18), .lenS (.tmp 17), none⟩,
    ⟨(some 19), .minmax true [(.tmp 15), (.tmp 18)], none⟩,
    ⟨(some 20), .bin .leq (.tmp 19) (.const (.int .i64 20)), none⟩,
    ⟨(some 2), .mv (.tmp 20), none⟩]
def k75_8 : VC := .seq k75_7 .ret
def k75_9 : VC := .cond (.tmp 12) k75_8 .skip
def k75_10 : VC := .seq k75_6 k75_9
def k75_11 : VC := .reg [⟨(some 21), .fieldA 3 (.tmp 1), none⟩,
    ⟨(some 22), .load1 .str (.tmp 21), none⟩,
    ⟨(some 23), .lenS (.tmp 22), none⟩,
    ⟨(some 24), .bin .eql (.tmp 23) (.const (.int .i64 8)), none⟩,
    ⟨(some 25), .mv (.tmp 24), none⟩,
    ⟨(some 26), .fieldA 4 (.tmp 1), (some (25, true))⟩,
    ⟨(some 27), .load1 .str (.tmp 26), (some (25, true))⟩,
    ⟨(some 28), .bin .eql (.tmp 27) (.const (.string ⟨⟨[]⟩⟩)), (some (25, true))⟩,
    ⟨(some 29), .pick (.tmp 25) (.tmp 28) (.const (.bool false)), none⟩,
    ⟨(some 30), .mv (.tmp 29), none⟩,
    ⟨(some 31), .fieldA 2 (.tmp 1), (some (30, true))⟩,
    ⟨(some 32), .load1 (.int .u32) (.tmp 31), (some (30, true))⟩,
    ⟨(some 33), .bin .eql (.tmp 32) (.const (.int .u32 0)), (some (30, true))⟩,
    ⟨(some 34), .pick (.tmp 30) (.tmp 33) (.const (.bool false)), none⟩,
    ⟨(some 2), .mv (.tmp 34), none⟩]
def k75_12 : VC := .seq k75_11 .ret
def k75_13 : VC := .seq k75_10 k75_12
def k75_14 : VC := .seq k75_5 k75_13
def k75_15 : VC := .seq k75_0 k75_14
def fn75 : VFn := ⟨35, k75_15, [.tmp 2]⟩
/- 63: cloakroom/octet.Put -/
def k63_0 : VC := .reg [⟨(some 4), .mv (.const (.string ⟨⟨[]⟩⟩)), none⟩]
def k63_1 : VC := .reg [⟨(some 7), .mv (.tmp 1), none⟩,
    ⟨(some 8), .bin .lss (.tmp 7) (.const (.int .i64 1)), none⟩,
    ⟨(some 9), .mv (.tmp 8), none⟩,
    ⟨(some 10), .mv (.tmp 1), (some (9, false))⟩,
    ⟨(some 11), .bin .gtr (.tmp 10) (.const (.int .i64 8)), (some (9, false))⟩,
    ⟨(some 12), .pick (.tmp 9) (.const (.bool true)) (.tmp 11), none⟩]
def k63_2 : VC := .reg [⟨(some 4), .mv (.const (.string ⟨⟨[]⟩⟩)), none⟩]
def k63_3 : VC := .seq k63_2 .ret
def k63_4 : VC := .cond (.tmp 12) k63_3 .skip
def k63_5 : VC := .seq k63_1 k63_4
def k63_6 : VC := .reg [⟨(some 13), .mv (.tmp 1), none⟩,
    ⟨(some 14), .mkSl 1 1 [(.int .u8 0)] (.tmp 13) (.tmp 13), none⟩,
    ⟨(some 5), .mv (.tmp 14), none⟩]
def k63_7 : VC := .reg [⟨(some 15), .mv (.tmp 5), none⟩,
    ⟨(some 16), .lenL (.tmp 15), none⟩,
    ⟨(some 17), .mv (.const (.int .i64 0)), none⟩]
def k63_8 : VC := .reg [⟨(some 18), .bin .lss (.tmp 17) (.tmp 16), none⟩]
def k63_9 : VC := .cond (.tmp 18) .skip (.exit 0)
def k63_10 : VC := .reg [⟨(some 19), .mv (.tmp 17), none⟩,
    ⟨(some 6), .mv (.tmp 19), none⟩]
def k63_11 : VC := .reg [⟨(some 20), .mv (.tmp 5), none⟩,
    ⟨(some 21), .mv (.tmp 6), none⟩,
    ⟨(some 22), .mv (.tmp 0), none⟩,
    ⟨(some 23), .mv (.tmp 1), none⟩,
    ⟨(some 24), .bin .sub (.tmp 23) (.const (.int .i64 1)), none⟩,
    ⟨(some 25), .mv (.tmp 6), none⟩,
    ⟨(some 26), .bin .sub (.tmp 24) (.tmp 25), none⟩,
    ⟨(some 27), .bin .mul (.const (.int .i64 8)) (.tmp 26), none⟩,
    ⟨(some 28), .bin .shr (.tmp 22) (.tmp 27), none⟩,
    ⟨(some 29), .conv .u8 (.tmp 28), none⟩,
    ⟨(some 30), .idxAL 1 (.tmp 20) (.tmp 21), none⟩,
    ⟨none, .store 1 (.tmp 30) (.tmp 29), none⟩]
def k63_12 : VC := .seq k63_10 k63_11
def k63_13 : VC := .block 1 k63_12
def k63_14 : VC := .reg [⟨(some 31), .bin .add (.tmp 17) (.const (.int .i64 1)), none⟩,
    ⟨(some 17), .mv (.tmp 31), none⟩]
def k63_15 : VC := .seq k63_13 k63_14
def k63_16 : VC := .seq k63_9 k63_15
def k63_17 : VC := .seq k63_8 k63_16
def k63_18 : VC := .loop k63_17
def k63_19 : VC := .block 0 k63_18
def k63_20 : VC := .seq k63_7 k63_19
def k63_21 : VC := .reg [⟨(some 32), .mv (.tmp 5), none⟩,
    ⟨(some 33), .b2s (.tmp 32), none⟩,
    ⟨(some 4), .mv (.tmp 33), none⟩]
def k63_22 : VC := .seq k63_21 .ret
def k63_23 : VC := .seq k63_20 k63_22
def k63_24 : VC := .seq k63_6 k63_23
def k63_25 : VC := .seq k63_5 k63_24
def k63_26 : VC := .seq k63_0 k63_25
def fn63 : VFn := ⟨34, k63_26, [.tmp 4]⟩
/- 76: cloakroom/quic.counted -/
def k76_0 : VC := .reg [⟨(some 2), .mv (.const (.string ⟨⟨[]⟩⟩)), none⟩]
def k76_1 : VC := .reg [⟨(some 3), .mv (.tmp 0), none⟩,
    ⟨(some 4), .lenS (.tmp 3), none⟩,
    ⟨(some 5), .conv .u64 (.tmp 4), none⟩,
    ⟨(some 6), .callF 63 [(.tmp 5), (.const (.int .i64 1))], none⟩,
    ⟨(some 7), .mv (.tmp 0), none⟩,
    ⟨(some 8), .bin .add (.tmp 6) (.tmp 7), none⟩,
    ⟨(some 2), .mv (.tmp 8), none⟩]
def k76_2 : VC := .seq k76_1 .ret
def k76_3 : VC := .seq k76_0 k76_2
def fn76 : VFn := ⟨9, k76_3, [.tmp 2]⟩
/- 19: cloakroom/cloakroomref09.Put -/
def k19_0 : VC := .reg [⟨(some 1), .box (.tmp 0), none⟩,
    ⟨(some 2), .mv (.const (.string ⟨⟨[]⟩⟩)), none⟩,
    ⟨(some 3), .mv (.const (.int .i64 0)), none⟩]
def k19_1 : VC := .reg [⟨(some 4), .fieldA 1 (.tmp 1), none⟩,
    ⟨(some 5), .load1 (.int .i64) (.tmp 4), none⟩,
    ⟨(some 6), .bin .lss (.tmp 5) (.const (.int .i64 0)), none⟩,
    ⟨(some 7), .mv (.tmp 6), none⟩,
    ⟨(some 8), .fieldA 1 (.tmp 1), (some (7, false))⟩,
    ⟨(some 9), .load1 (.int .i64) (.tmp 8), (some (7, false))⟩,
    ⟨(some 10), .bin .gtr (.tmp 9) (.const (.int .i64 63)), (some (7, false))⟩,
    ⟨(some 11), .pick (.tmp 7) (.const (.bool true)) (.tmp 10), none⟩]
def k19_2 : VC := .reg [⟨(some 2), .mv (.const (.string ⟨⟨[]⟩⟩)), none⟩,
    ⟨(some 3), .mv (.const (.int .i64 1)), none⟩]
def k19_3 : VC := .seq k19_2 .ret
def k19_4 : VC := .cond (.tmp 11) k19_3 .skip
def k19_5 : VC := .seq k19_1 k19_4
def k19_6 : VC := .reg [⟨(some 12), .fieldA 0 (.tmp 1), none⟩,
    ⟨(some 13), .load1 .bool (.tmp 12), none⟩]
def k19_7 : VC := .reg [⟨(some 14), .fieldA 3 (.tmp 1), none⟩,
    ⟨(some 15), .load1 .str (.tmp 14), none⟩,
    ⟨(some 16), .lenS (.tmp 15), none⟩,
    ⟨(some 17), .bin .gtr (.tmp 16) (.const (.int .i64 20)), none⟩,
    ⟨(some 18), .mv (.tmp 17), none⟩,
    ⟨(some 19), .fieldA 4 (.tmp 1), (some (18, false))⟩,
    ⟨(some 20), .load1 .str (.tmp 19), (some (18, false))⟩,
    ⟨(some 21), .lenS (.tmp 20), (some (18, false))⟩,
    ⟨(some 22), .bin .gtr (.tmp 21) (.const (.int .i64 20)), (some (18, false))⟩,
    ⟨(some 23), .pick (.tmp 18) (.const (.bool true)) (.tmp 22), none⟩]
def k19_8 : VC := .reg [⟨(some 2), .mv (.const (.string ⟨⟨[]⟩⟩)), none⟩,
    ⟨(some 3), .mv (.const (.int .i64 1)), none⟩]
def k19_9 : VC := .seq k19_8 .ret
def k19_10 : VC := .cond (.tmp 23) k19_9 .skip
def k19_11 : VC := .seq k19_7 k19_10
def k19_12 : VC := .regD [⟨(some 24), .fieldA 1 (.tmp 1), none⟩,
    ⟨(some 25), .load1 (.int .i64) (.tmp 24), none⟩,
    ⟨(some 26), .bin .add (.const (.int .i64 192)) (.tmp 25), none⟩,
    ⟨(some 27), .conv .u64 (.tmp 26), none⟩,
    ⟨(some 28), .callF 64 [(.tmp 27), (.const (.int .i64 1))], none⟩,
    ⟨(some 29), .fieldA 2 (.tmp 1), none⟩,
    ⟨(some 30), .load1 (.int .u32) (.tmp 29), none⟩,
    ⟨(some 31), .conv .u64 (.tmp 30), none⟩,
    ⟨(some 32), .callF 64 [(.tmp 31), (.const (.int .i64 4))], none⟩,
    ⟨(some 33), .bin .add (.tmp 28) (.tmp 32), none⟩,
    ⟨(some 34), .fieldA 3 (.tmp 1), none⟩,
    ⟨(some 35), .load1 .str (.tmp 34), none⟩,
    ⟨(some 36), .lenS (.tmp 35), none⟩,
    ⟨(some 37), .conv .u64 (.tmp 36), none⟩,
    ⟨(some 38), .callF 64 [(.tmp 37), (.const (.int .i64 1))], none⟩,
    ⟨(some 39), .bin .add (.tmp 33) (.tmp 38), none⟩,
    ⟨(some 40), .fieldA 3 (.tmp 1), none⟩,
    ⟨(some 41), .load1 .str (.tmp 40), none⟩,
    ⟨(some 42), .bin .add (.tmp 39) (.tmp 41), none⟩,
    ⟨(some 43), .fieldA 4 (.tmp 1), none⟩,
    ⟨(some 44), .load1 .str (.tmp 43), none⟩,
    ⟨(some 45), .lenS (.tmp 44), none⟩,
    ⟨(some 46), .conv .u64 (.tmp 45), none⟩,
    ⟨(some 47), .callF 64 [(.tmp 46), (.const (.int .i64 1))], none⟩,
    ⟨(some 48), .bin .add (.tmp 42) (.tmp 47), none⟩,
    ⟨(some 49), .fieldA 4 (.tmp 1), none⟩,
    ⟨(some 50), .load1 .str (.tmp 49), none⟩,
    ⟨(some 51), .bin .add (.tmp 48) (.tmp 50), none⟩,
    ⟨(some 52), .fieldA 5 (.tmp 1), none⟩,
    ⟨(some 53), .load1 .str (.tmp 52), none⟩,
    ⟨(some 54), .bin .add (.tmp 51) (.tmp 53), none⟩,
    ⟨(some 2), .mv (.tmp 54), none⟩,
    ⟨(some 3), .mv (.const (.int .i64 0)), none⟩] [(4, 6), (4, 11), (4, 17), (4, 20), (4, 26), (4, 29), (8, 11), (8, 17), (8, 20), (8, 26), (8, 29), (14, 17), (14, 20), (14, 26), (14, 29), (17, 23), (23, 26), (23, 29)]
def k19_13 : VC := .seq k19_12 .ret
def k19_14 : VC := .seq k19_11 k19_13
def k19_15 : VC := .cond (.tmp 13) k19_14 .skip
def k19_16 : VC := .seq k19_6 k19_15
def k19_17 : VC := .reg [⟨(some 55), .fieldA 3 (.tmp 1), none⟩,
    ⟨(some 56), .load1 .str (.tmp 55), none⟩,
    ⟨(some 57), .lenS (.tmp 56), none⟩,
    ⟨(some 58), .bin .neq (.tmp 57) (.const (.int .i64 8)), none⟩,
    ⟨(some 59), .mv (.tmp 58), none⟩,
    ⟨(some 60), .fieldA 4 (.tmp 1), (some (59, false))⟩,
    ⟨(some 61), .load1 .str (.tmp 60), (some (59, false))⟩,
    ⟨(some 62), .bin .neq (.tmp 61) (.const (.string ⟨⟨[]⟩⟩)), (some (59, false))⟩,
    ⟨(some 63), .pick (.tmp 59) (.const (.bool true)) (.tmp 62), none⟩,
    ⟨(some 64), .mv (.tmp 63), none⟩,
    ⟨(some 65), .fieldA 2 (.tmp 1), (some (64, false))⟩,
    ⟨(some 66), .load1 (.int .u32) (.tmp 65), (some (64, false))⟩,
    ⟨(some 67), .bin .neq (.tmp 66) (.const (.int .u32 0)), (some (64, false))⟩,
    ⟨(some 68), .pick (.tmp 64) (.const (.bool true)) (.tmp 67), none⟩]
def k19_18 : VC := .reg [⟨(some 2), .mv (.const (.string ⟨⟨[]⟩⟩)), none⟩,
    ⟨(some 3), .mv (.const (.int .i64 1)), none⟩]
def k19_19 : VC := .seq k19_18 .ret
def k19_20 : VC := .cond (.tmp 68) k19_19 .skip
def k19_21 : VC := .seq k19_17 k19_20
def k19_22 : VC := .regD [⟨(some 69), .fieldA 1 (.tmp 1), none⟩,
    ⟨(some 70), .load1 (.int .i64) (.tmp 69), none⟩,
    ⟨(some 71), .bin .add (.const (.int .i64 64)) (.tmp 70), none⟩,
    ⟨(some 72), .conv .u64 (.tmp 71), none⟩,
    ⟨(some 73), .callF 64 [(.tmp 72), (.const (.int .i64 1))], none⟩,
    ⟨(some 74), .fieldA 3 (.tmp 1), none⟩,
    ⟨(some 75), .load1 .str (.tmp 74), none⟩,
    ⟨(some 76), .bin .add (.tmp 73) (.tmp 75), none⟩,
    ⟨(some 77), .fieldA 5 (.tmp 1), none⟩,
    ⟨(some 78), .load1 .str (.tmp 77), none⟩,
    ⟨(some 79), .bin .add (.tmp 76) (.tmp 78), none⟩,
    ⟨(some 2), .mv (.tmp 79), none⟩,
    ⟨(some 3), .mv (.const (.int .i64 0)), none⟩] [(4, 6), (4, 9)]
def k19_23 : VC := .seq k19_22 .ret
def k19_24 : VC := .seq k19_21 k19_23
def k19_25 : VC := .seq k19_16 k19_24
def k19_26 : VC := .seq k19_5 k19_25
def k19_27 : VC := .seq k19_0 k19_26
def fn19 : VFn := ⟨80, k19_27, [.tmp 2, .tmp 3]⟩
/- 64: cloakroom/cloakroomref02.Put -/
def k64_0 : VC := .reg [⟨(some 4), .mv (.const (.string ⟨⟨[]⟩⟩)), none⟩]
def k64_1 : VC := .reg [⟨(some 5), .mv (.const (.string ⟨⟨[]⟩⟩)), none⟩]
def k64_2 : VC := .reg [⟨(some 6), .mv (.const (.int .i64 0)), none⟩]
def k64_3 : VC := .reg [⟨(some 7), .mv (.tmp 6), none⟩,
    ⟨(some 8), .mv (.tmp 1), none⟩,
    ⟨(some 9), .bin .lss (.tmp 7) (.tmp 8), none⟩,
    ⟨(some 10), .mv (.tmp 9), none⟩,
    ⟨(some 11), .mv (.tmp 1), (some (10, true))⟩,
    ⟨(some 12), .bin .leq (.tmp 11) (.const (.int .i64 8)), (some (10, true))⟩,
    ⟨(some 13), .pick (.tmp 10) (.tmp 12) (.const (.bool false)), none⟩]
def k64_4 : VC := .cond (.tmp 13) .skip (.exit 0)
def k64_5 : VC := .seq k64_3 k64_4
def k64_6 : VC := .reg [⟨(some 16), .mv (.tmp 0), none⟩,
    ⟨(some 17), .bin .rem (.tmp 16) (.const (.int .u64 256)), none⟩,
    ⟨(some 18), .conv .u8 (.tmp 17), none⟩,
    ⟨(some 19), .buildSl 1 1 [(.int .u8 0)] [(0, 1, (.tmp 18))], none⟩,
    ⟨(some 20), .b2s (.tmp 19), none⟩,
    ⟨(some 21), .mv (.tmp 5), none⟩,
    ⟨(some 22), .bin .add (.tmp 20) (.tmp 21), none⟩,
    ⟨(some 5), .mv (.tmp 22), none⟩]
def k64_7 : VC := .reg [⟨(some 23), .mv (.tmp 0), none⟩,
    ⟨(some 24), .bin .quo (.tmp 23) (.const (.int .u64 256)), none⟩,
    ⟨(some 0), .mv (.tmp 24), none⟩]
def k64_8 : VC := .seq k64_6 k64_7
def k64_9 : VC := .block 1 k64_8
def k64_10 : VC := .reg [⟨(some 14), .mv (.tmp 6), none⟩,
    ⟨(some 15), .bin .add (.tmp 14) (.const (.int .i64 1)), none⟩,
    ⟨(some 6), .mv (.tmp 15), none⟩]
def k64_11 : VC := .seq k64_9 k64_10
def k64_12 : VC := .seq k64_5 k64_11
def k64_13 : VC := .loop k64_12
def k64_14 : VC := .block 0 k64_13
def k64_15 : VC := .seq k64_2 k64_14
def k64_16 : VC := .reg [⟨(some 25), .mv (.tmp 5), none⟩,
    ⟨(some 4), .mv (.tmp 25), none⟩]
def k64_17 : VC := .seq k64_16 .ret
def k64_18 : VC := .seq k64_15 k64_17
def k64_19 : VC := .seq k64_1 k64_18
def k64_20 : VC := .seq k64_0 k64_19
def fn64 : VFn := ⟨26, k64_20, [.tmp 4]⟩
/- 21: cloakroom/cloakroomref09.Get -/
def k21_0 : VC := .reg [⟨(some 2), .alloc [(.bool false), (.int .i64 0), (.int .u32 0), (.string ⟨⟨[]⟩⟩), (.string ⟨⟨[]⟩⟩), (.string ⟨⟨[]⟩⟩)], none⟩,
    ⟨(some 3), .mv (.const (.int .i64 0)), none⟩]
def k21_1 : VC := .reg [⟨(some 10), .mv (.tmp 0), none⟩,
    ⟨(some 11), .bin .eql (.tmp 10) (.const (.string ⟨⟨[]⟩⟩)), none⟩]
def k21_2 : VC := .reg [⟨(some 12), .build [(.bool false), (.int .i64 0), (.int .u32 0), (.string ⟨⟨[]⟩⟩), (.string ⟨⟨[]⟩⟩), (.string ⟨⟨[]⟩⟩)] [], none⟩,
    ⟨none, .store 6 (.tmp 2) (.tmp 12), none⟩,
    ⟨(some 3), .mv (.const (.int .i64 2)), none⟩]
def k21_3 : VC := .seq k21_2 .ret
def k21_4 : VC := .cond (.tmp 11) k21_3 .skip
def k21_5 : VC := .seq k21_1 k21_4
def k21_6 : VC := .reg [⟨(some 13), .mv (.tmp 0), none⟩,
    ⟨(some 14), .idxS (.tmp 13) (.const (.int .i64 0)), none⟩,
    ⟨(some 15), .bin .quo (.tmp 14) (.const (.int .u8 64)), none⟩,
    ⟨(some 16), .bin .rem (.tmp 15) (.const (.int .u8 2)), none⟩,
    ⟨(some 17), .bin .eql (.tmp 16) (.const (.int .u8 0)), none⟩]
def k21_7 : VC := .reg [⟨(some 18), .build [(.bool false), (.int .i64 0), (.int .u32 0), (.string ⟨⟨[]⟩⟩), (.string ⟨⟨[]⟩⟩), (.string ⟨⟨[]⟩⟩)] [], none⟩,
    ⟨none, .store 6 (.tmp 2) (.tmp 18), none⟩,
    ⟨(some 3), .mv (.const (.int .i64 3)), none⟩]
def k21_8 : VC := .seq k21_7 .ret
def k21_9 : VC := .cond (.tmp 17) k21_8 .skip
def k21_10 : VC := .seq k21_6 k21_9
def k21_11 : VC := .regD [⟨(some 19), .mv (.tmp 0), none⟩,
    ⟨(some 20), .idxS (.tmp 19) (.const (.int .i64 0)), none⟩,
    ⟨(some 21), .bin .geq (.tmp 20) (.const (.int .u8 128)), none⟩,
    ⟨(some 22), .mv (.tmp 0), none⟩,
    ⟨(some 23), .idxS (.tmp 22) (.const (.int .i64 0)), none⟩,
    ⟨(some 24), .bin .rem (.tmp 23) (.const (.int .u8 64)), none⟩,
    ⟨(some 25), .conv .i64 (.tmp 24), none⟩,
    ⟨(some 26), .build [(.bool false), (.int .i64 0), (.int .u32 0), (.string ⟨⟨[]⟩⟩), (.string ⟨⟨[]⟩⟩), (.string ⟨⟨[]⟩⟩)] [(0, 1, (.tmp 21)), (1, 1, (.tmp 25))], none⟩,
    ⟨(some 4), .alloc [(.bool false), (.int .i64 0), (.int .u32 0), (.string ⟨⟨[]⟩⟩), (.string ⟨⟨[]⟩⟩), (.string ⟨⟨[]⟩⟩)], none⟩,
    ⟨none, .store 6 (.tmp 4) (.tmp 26), none⟩] []
def k21_12 : VC := .reg [⟨(some 27), .fieldA 0 (.tmp 4), none⟩,
    ⟨(some 28), .load1 .bool (.tmp 27), none⟩,
    ⟨(some 29), .not (.tmp 28), none⟩]
def k21_13 : VC := .reg [⟨(some 30), .mv (.tmp 0), none⟩,
    ⟨(some 31), .lenS (.tmp 30), none⟩,
    ⟨(some 32), .bin .lss (.tmp 31) (.const (.int .i64 9)), none⟩]
def k21_14 : VC := .reg [⟨(some 33), .build [(.bool false), (.int .i64 0), (.int .u32 0), (.string ⟨⟨[]⟩⟩), (.string ⟨⟨[]⟩⟩), (.string ⟨⟨[]⟩⟩)] [], none⟩,
    ⟨none, .store 6 (.tmp 2) (.tmp 33), none⟩,
    ⟨(some 3), .mv (.const (.int .i64 2)), none⟩]
def k21_15 : VC := .seq k21_14 .ret
def k21_16 : VC := .cond (.tmp 32) k21_15 .skip
def k21_17 : VC := .seq k21_13 k21_16
def k21_18 : VC := .reg [⟨(some 34), .mv (.tmp 0), none⟩,
    ⟨(some 35), .sliceS (.tmp 34) (some (.const (.int .i64 1))) (some (.const (.int .i64 9))), none⟩,
    ⟨(some 36), .fieldA 3 (.tmp 4), none⟩,
    ⟨none, .store 1 (.tmp 36) (.tmp 35), none⟩]
def k21_19 : VC := .reg [⟨(some 37), .mv (.tmp 0), none⟩,
    ⟨(some 38), .sliceS (.tmp 37) (some (.const (.int .i64 9))) none, none⟩,
    ⟨(some 39), .fieldA 5 (.tmp 4), none⟩,
    ⟨none, .store 1 (.tmp 39) (.tmp 38), none⟩]
def k21_20 : VC := .reg [⟨(some 40), .loadN [.bool, (.int .i64), (.int .u32), .str, .str, .str] (.tmp 4), none⟩,
    ⟨none, .store 6 (.tmp 2) (.tmp 40), none⟩,
    ⟨(some 3), .mv (.const (.int .i64 0)), none⟩]
def k21_21 : VC := .seq k21_20 .ret
def k21_22 : VC := .seq k21_19 k21_21
def k21_23 : VC := .seq k21_18 k21_22
def k21_24 : VC := .seq k21_17 k21_23
def k21_25 : VC := .cond (.tmp 29) k21_24 .skip
def k21_26 : VC := .seq k21_12 k21_25
def k21_27 : VC := .reg [⟨(some 41), .mv (.tmp 0), none⟩,
    ⟨(some 42), .lenS (.tmp 41), none⟩,
    ⟨(some 43), .bin .lss (.tmp 42) (.const (.int .i64 5)), none⟩]
def k21_28 : VC := .reg [⟨(some 44), .build [(.bool false), (.int .i64 0), (.int .u32 0), (.string ⟨⟨[]⟩⟩), (.string ⟨⟨[]⟩⟩), (.string ⟨⟨[]⟩⟩)] [], none⟩,
    ⟨none, .store 6 (.tmp 2) (.tmp 44), none⟩,
    ⟨(some 3), .mv (.const (.int .i64 2)), none⟩]
def k21_29 : VC := .seq k21_28 .ret
def k21_30 : VC := .cond (.tmp 43) k21_29 .skip
def k21_31 : VC := .seq k21_27 k21_30
def k21_32 : VC := .reg [⟨(some 45), .mv (.tmp 0), none⟩,
    ⟨(some 46), .callF 79 [(.tmp 45), (.const (.int .i64 1)), (.const (.int .i64 4))], none⟩,
    ⟨(some 47), .conv .u32 (.tmp 46), none⟩,
    ⟨(some 48), .fieldA 2 (.tmp 4), none⟩,
    ⟨none, .store 1 (.tmp 48) (.tmp 47), none⟩]
def k21_33 : VC := .reg [⟨(some 50), .mv (.tmp 0), none⟩,
    ⟨(some 51), .callF 80 [(.tmp 50), (.const (.int .i64 5))], none⟩,
    ⟨(some 49), .mv (.tmp 51), none⟩,
    ⟨(some 52), .extract 0 (.tmp 49), none⟩,
    ⟨(some 53), .extract 1 (.tmp 49), none⟩,
    ⟨(some 54), .extract 2 (.tmp 49), none⟩,
    ⟨(some 5), .mv (.tmp 52), none⟩,
    ⟨(some 6), .mv (.tmp 53), none⟩,
    ⟨(some 7), .mv (.tmp 54), none⟩]
def k21_34 : VC := .reg [⟨(some 55), .mv (.tmp 6), none⟩,
    ⟨(some 56), .bin .neq (.tmp 55) (.const (.int .i64 0)), none⟩]
def k21_35 : VC := .reg [⟨(some 57), .build [(.bool false), (.int .i64 0), (.int .u32 0), (.string ⟨⟨[]⟩⟩), (.string ⟨⟨[]⟩⟩), (.string ⟨⟨[]⟩⟩)] [], none⟩,
    ⟨(some 58), .mv (.tmp 6), none⟩,
    ⟨none, .store 6 (.tmp 2) (.tmp 57), none⟩,
    ⟨(some 3), .mv (.tmp 58), none⟩]
def k21_36 : VC := .seq k21_35 .ret
def k21_37 : VC := .cond (.tmp 56) k21_36 .skip
def k21_38 : VC := .seq k21_34 k21_37
def k21_39 : VC := .reg [⟨(some 60), .mv (.tmp 0), none⟩,
    ⟨(some 61), .mv (.tmp 7), none⟩,
    ⟨(some 62), .callF 80 [(.tmp 60), (.tmp 61)], none⟩,
    ⟨(some 59), .mv (.tmp 62), none⟩,
    ⟨(some 63), .extract 0 (.tmp 59), none⟩,
    ⟨(some 64), .extract 1 (.tmp 59), none⟩,
    ⟨(some 65), .extract 2 (.tmp 59), none⟩,
    ⟨(some 8), .mv (.tmp 63), none⟩,
    ⟨(some 6), .mv (.tmp 64), none⟩,
    ⟨(some 9), .mv (.tmp 65), none⟩]
def k21_40 : VC := .reg [⟨(some 66), .mv (.tmp 6), none⟩,
    ⟨(some 67), .bin .neq (.tmp 66) (.const (.int .i64 0)), none⟩]
def k21_41 : VC := .reg [⟨(some 68), .build [(.bool false), (.int .i64 0), (.int .u32 0), (.string ⟨⟨[]⟩⟩), (.string ⟨⟨[]⟩⟩), (.string ⟨⟨[]⟩⟩)] [], none⟩,
    ⟨(some 69), .mv (.tmp 6), none⟩,
    ⟨none, .store 6 (.tmp 2) (.tmp 68), none⟩,
    ⟨(some 3), .mv (.tmp 69), none⟩]
def k21_42 : VC := .seq k21_41 .ret
def k21_43 : VC := .cond (.tmp 67) k21_42 .skip
def k21_44 : VC := .seq k21_40 k21_43
def k21_45 : VC := .reg [⟨(some 70), .mv (.tmp 5), none⟩,
    ⟨(some 71), .fieldA 3 (.tmp 4), none⟩,
    ⟨none, .store 1 (.tmp 71) (.tmp 70), none⟩]
def k21_46 : VC := .reg [⟨(some 72), .mv (.tmp 8), none⟩,
    ⟨(some 73), .fieldA 4 (.tmp 4), none⟩,
    ⟨none, .store 1 (.tmp 73) (.tmp 72), none⟩]
def k21_47 : VC := .reg [⟨(some 74), .mv (.tmp 0), none⟩,
    ⟨(some 75), .mv (.tmp 9), none⟩,
    ⟨(some 76), .sliceS (.tmp 74) (some (.tmp 75)) none, none⟩,
    ⟨(some 77), .fieldA 5 (.tmp 4), none⟩,
    ⟨none, .store 1 (.tmp 77) (.tmp 76), none⟩]
def k21_48 : VC := .reg [⟨(some 78), .loadN [.bool, (.int .i64), (.int .u32), .str, .str, .str] (.tmp 4), none⟩,
    ⟨none, .store 6 (.tmp 2) (.tmp 78), none⟩,
    ⟨(some 3), .mv (.const (.int .i64 0)), none⟩]
def k21_49 : VC := .seq k21_48 .ret
def k21_50 : VC := .seq k21_47 k21_49
def k21_51 : VC := .seq k21_46 k21_50
def k21_52 : VC := .seq k21_45 k21_51
def k21_53 : VC := .seq k21_44 k21_52
def k21_54 : VC := .seq k21_39 k21_53
def k21_55 : VC := .seq k21_38 k21_54
def k21_56 : VC := .seq k21_33 k21_55
def k21_57 : VC := .seq k21_32 k21_56
def k21_58 : VC := .seq k21_31 k21_57
def k21_59 : VC := .seq k21_26 k21_58
def k21_60 : VC := .seq k21_11 k21_59
def k21_61 : VC := .seq k21_10 k21_60
def k21_62 : VC := .seq k21_5 k21_61
def k21_63 : VC := .seq k21_0 k21_62
def fn21 : VFn := ⟨79, k21_63, [.cell 2 [.bool, (.int .i64), (.int .u32), .str, .str, .str] true, .tmp 3]⟩
/- 79: cloakroom/cloakroomref02.Must -/
def k79_0 : VC := .reg [⟨(some 6), .mv (.const (.int .i64 0)), none⟩]
def k79_1 : VC := .reg [⟨(some 10), .mv (.tmp 0), none⟩,
    ⟨(some 11), .mv (.tmp 1), none⟩,
    ⟨(some 12), .mv (.tmp 2), none⟩,
    ⟨(some 13), .callF 60 [(.tmp 10), (.tmp 11), (.tmp 12)], none⟩,
    ⟨(some 9), .mv (.tmp 13), none⟩,
    ⟨(some 14), .extract 0 (.tmp 9), none⟩,
    ⟨(some 15), .extract 1 (.tmp 9), none⟩,
    ⟨(some 7), .mv (.tmp 14), none⟩,
    ⟨(some 8), .mv (.tmp 15), none⟩]
def k79_2 : VC := .reg [⟨(some 16), .mv (.tmp 7), none⟩,
    ⟨(some 17), .conv .i64 (.tmp 16), none⟩,
    ⟨(some 6), .mv (.tmp 17), none⟩]
def k79_3 : VC := .seq k79_2 .ret
def k79_4 : VC := .seq k79_1 k79_3
def k79_5 : VC := .seq k79_0 k79_4
def fn79 : VFn := ⟨18, k79_5, [.tmp 6]⟩
/- 60: cloakroom/cloakroomref02.Get -/
def k60_0 : VC := .reg [⟨(some 6), .mv (.const (.int .u64 0)), none⟩,
    ⟨(some 7), .mv (.const (.bool false)), none⟩]
def k60_1 : VC := .reg [⟨(some 10), .mv (.tmp 2), none⟩,
    ⟨(some 11), .bin .lss (.tmp 10) (.const (.int .i64 1)), none⟩,
    ⟨(some 12), .mv (.tmp 11), none⟩,
    ⟨(some 13), .mv (.tmp 2), (some (12, false))⟩,
    ⟨(some 14), .bin .gtr (.tmp 13) (.const (.int .i64 8)), (some (12, false))⟩,
    ⟨(some 15), .pick (.tmp 12) (.const (.bool true)) (.tmp 14), none⟩,
    ⟨(some 16), .mv (.tmp 15), none⟩,
    ⟨(some 17), .mv (.tmp 1), (some (16, false))⟩,
    ⟨(some 18), .bin .lss (.tmp 17) (.const (.int .i64 0)), (some (16, false))⟩,
    ⟨(some 19), .pick (.tmp 16) (.const (.bool true)) (.tmp 18), none⟩,
    ⟨(some 20), .mv (.tmp 19), none⟩,
    ⟨(some 21), .mv (.tmp 1), (some (20, false))⟩,
    ⟨(some 22), .mv (.tmp 0), (some (20, false))⟩,
    ⟨(some 23), .lenS (.tmp 22), (some (20, false))⟩,
    ⟨(some 24), .bin .gtr (.tmp 21) (.tmp 23), (some (20, false))⟩,
    ⟨(some 25), .pick (.tmp 20) (.const (.bool true)) (.tmp 24), none⟩,
    ⟨(some 26), .mv (.tmp 25), none⟩,
    ⟨(some 27), .mv (.tmp 2), (some (26, false))⟩,
    ⟨(some 28), .mv (.tmp 0), (some (26, false))⟩,
    ⟨(some 29), .lenS (.tmp 28), (some (26, false))⟩,
    ⟨(some 30), .mv (.tmp 1), (some (26, false))⟩,
    ⟨(some 31), .bin .sub (.tmp 29) (.tmp 30), (some (26, false))⟩,
    ⟨(some 32), .bin .gtr (.tmp 27) (.tmp 31), (some (26, false))⟩,
    ⟨(some 33), .pick (.tmp 26) (.const (.bool true)) (.tmp 32), none⟩]
def k60_2 : VC := .reg [⟨(some 6), .mv (.const (.int .u64 0)), none⟩,
    ⟨(some 7), .mv (.const (.bool false)), none⟩]
def k60_3 : VC := .seq k60_2 .ret
def k60_4 : VC := .cond (.tmp 33) k60_3 .skip
def k60_5 : VC := .seq k60_1 k60_4
def k60_6 : VC := .reg [⟨(some 8), .mv (.const (.int .u64 0)), none⟩]
def k60_7 : VC := .reg [⟨(some 9), .mv (.const (.int .i64 0)), none⟩]
def k60_8 : VC := .reg [⟨(some 34), .mv (.tmp 9), none⟩,
    ⟨(some 35), .mv (.tmp 2), none⟩,
    ⟨(some 36), .bin .lss (.tmp 34) (.tmp 35), none⟩]
def k60_9 : VC := .cond (.tmp 36) .skip (.exit 0)
def k60_10 : VC := .seq k60_8 k60_9
def k60_11 : VC := .reg [⟨(some 39), .mv (.tmp 8), none⟩,
    ⟨(some 40), .bin .mul (.tmp 39) (.const (.int .u64 256)), none⟩,
    ⟨(some 41), .mv (.tmp 0), none⟩,
    ⟨(some 42), .mv (.tmp 1), none⟩,
    ⟨(some 43), .mv (.tmp 9), none⟩,
    ⟨(some 44), .bin .add (.tmp 42) (.tmp 43), none⟩,
    ⟨(some 45), .idxS (.tmp 41) (.tmp 44), none⟩,
    ⟨(some 46), .conv .u64 (.tmp 45), none⟩,
    ⟨(some 47), .bin .add (.tmp 40) (.tmp 46), none⟩,
    ⟨(some 8), .mv (.tmp 47), none⟩]
def k60_12 : VC := .block 1 k60_11
def k60_13 : VC := .reg [⟨(some 37), .mv (.tmp 9), none⟩,
    ⟨(some 38), .bin .add (.tmp 37) (.const (.int .i64 1)), none⟩,
    ⟨(some 9), .mv (.tmp 38), none⟩]
def k60_14 : VC := .seq k60_12 k60_13
def k60_15 : VC := .seq k60_10 k60_14
def k60_16 : VC := .loop k60_15
def k60_17 : VC := .block 0 k60_16
def k60_18 : VC := .seq k60_7 k60_17
def k60_19 : VC := .reg [⟨(some 48), .mv (.tmp 8), none⟩,
    ⟨(some 6), .mv (.tmp 48), none⟩,
    ⟨(some 7), .mv (.const (.bool true)), none⟩]
def k60_20 : VC := .seq k60_19 .ret
def k60_21 : VC := .seq k60_18 k60_20
def k60_22 : VC := .seq k60_6 k60_21
def k60_23 : VC := .seq k60_5 k60_22
def k60_24 : VC := .seq k60_0 k60_23
def fn60 : VFn := ⟨49, k60_24, [.tmp 6, .tmp 7]⟩
/- 80: cloakroom/cloakroomref09.id -/
def k80_0 : VC := .reg [⟨(some 4), .mv (.const (.string ⟨⟨[]⟩⟩)), none⟩,
    ⟨(some 5), .mv (.const (.int .i64 0)), none⟩,
    ⟨(some 6), .mv (.const (.int .i64 0)), none⟩]
def k80_1 : VC := .reg [⟨(some 8), .mv (.tmp 1), none⟩,
    ⟨(some 9), .mv (.tmp 0), none⟩,
    ⟨(some 10), .lenS (.tmp 9), none⟩,
    ⟨(some 11), .bin .geq (.tmp 8) (.tmp 10), none⟩]
def k80_2 : VC := .reg [⟨(some 4), .mv (.const (.string ⟨⟨[]⟩⟩)), none⟩,
    ⟨(some 5), .mv (.const (.int .i64 2)), none⟩,
    ⟨(some 6), .mv (.const (.int .i64 0)), none⟩]
def k80_3 : VC := .seq k80_2 .ret
def k80_4 : VC := .cond (.tmp 11) k80_3 .skip
def k80_5 : VC := .seq k80_1 k80_4
def k80_6 : VC := .reg [⟨(some 12), .mv (.tmp 0), none⟩,
    ⟨(some 13), .mv (.tmp 1), none⟩,
    ⟨(some 14), .idxS (.tmp 12) (.tmp 13), none⟩,
    ⟨(some 15), .conv .i64 (.tmp 14), none⟩,
    ⟨(some 7), .mv (.tmp 15), none⟩]
def k80_7 : VC := .reg [⟨(some 16), .mv (.tmp 7), none⟩,
    ⟨(some 17), .bin .gtr (.tmp 16) (.const (.int .i64 20)), none⟩]
def k80_8 : VC := .reg [⟨(some 4), .mv (.const (.string ⟨⟨[]⟩⟩)), none⟩,
    ⟨(some 5), .mv (.const (.int .i64 3)), none⟩,
    ⟨(some 6), .mv (.const (.int .i64 0)), none⟩]
def k80_9 : VC := .seq k80_8 .ret
def k80_10 : VC := .cond (.tmp 17) k80_9 .skip
def k80_11 : VC := .seq k80_7 k80_10
def k80_12 : VC := .reg [⟨(some 18), .mv (.tmp 7), none⟩,
    ⟨(some 19), .mv (.tmp 0), none⟩,
    ⟨(some 20), .lenS (.tmp 19), none⟩,
    ⟨(some 21), .mv (.tmp 1), none⟩,
    ⟨(some 22), .bin .sub (.tmp 20) (.tmp 21), none⟩,
    ⟨(some 23), .bin .sub (.tmp 22) (.const (.int .i64 1)), none⟩,
    ⟨(some 24), .bin .gtr (.tmp 18) (.tmp 23), none⟩]
def k80_13 : VC := .reg [⟨(some 4), .mv (.const (.string ⟨⟨[]⟩⟩)), none⟩,
    ⟨(some 5), .mv (.const (.int .i64 2)), none⟩,
    ⟨(some 6), .mv (.const (.int .i64 0)), none⟩]
def k80_14 : VC := .seq k80_13 .ret
def k80_15 : VC := .cond (.tmp 24) k80_14 .skip
def k80_16 : VC := .seq k80_12 k80_15
def k80_17 : VC := .reg [⟨(some 25), .mv (.tmp 0), none⟩,
    ⟨(some 26), .mv (.tmp 1), none⟩,
    ⟨(some 27), .bin .add (.tmp 26) (.const (.int .i64 1)), none⟩,
    ⟨(some 28), .mv (.tmp 1), none⟩,
    ⟨(some 29), .bin .add (.tmp 28) (.const (.int .i64 1)), none⟩,
    ⟨(some 30), .mv (.tmp 7), none⟩,
    ⟨(some 31), .bin .add (.tmp 29) (.tmp 30), none⟩,
    ⟨(some 32), .sliceS (.tmp 25) (some (.tmp 27)) (some (.tmp 31)), none⟩,
    ⟨(some 33), .mv (.tmp 1), none⟩,
    ⟨(some 34), .bin .add (.tmp 33) (.const (.int .i64 1)), none⟩,
    ⟨(some 35), .mv (.tmp 7), none⟩,
    ⟨(some 36), .bin .add (.tmp 34) (.tmp 35), none⟩,
    ⟨(some 4), .mv (.tmp 32), none⟩,
    ⟨(some 5), .mv (.const (.int .i64 0)), none⟩,
    ⟨(some 6), .mv (.tmp 36), none⟩]
def k80_18 : VC := .seq k80_17 .ret
def k80_19 : VC := .seq k80_16 k80_18
def k80_20 : VC := .seq k80_11 k80_19
def k80_21 : VC := .seq k80_6 k80_20
def k80_22 : VC := .seq k80_5 k80_21
def k80_23 : VC := .seq k80_0 k80_22
def fn80 : VFn := ⟨37, k80_23, [.tmp 4, .tmp 5, .tmp 6]⟩
/- 22: cloakroom/quic.With -/
def k22_0 : VC := .reg [⟨(some 4), .mv (.const (.string ⟨⟨[]⟩⟩)), none⟩,
    ⟨(some 5), .mv (.const (.int .i64 0)), none⟩]
def k22_1 : VC := .reg [⟨(some 9), .mv (.tmp 0), none⟩,
    ⟨(some 10), .callF 20 [(.tmp 9)], none⟩,
    ⟨(some 8), .mv (.tmp 10), none⟩,
    ⟨(some 11), .extract 0 (.tmp 8), none⟩,
    ⟨(some 12), .extract 1 (.tmp 8), none⟩,
    ⟨(some 6), .alloc [(.bool false), (.int .i64 0), (.int .u32 0), (.string ⟨⟨[]⟩⟩), (.string ⟨⟨[]⟩⟩), (.string ⟨⟨[]⟩⟩)], none⟩,
    ⟨none, .store 6 (.tmp 6) (.tmp 11), none⟩,
    ⟨(some 7), .mv (.tmp 12), none⟩]
def k22_2 : VC := .reg [⟨(some 16), .mv (.tmp 7), none⟩,
    ⟨(some 17), .bin .neq (.tmp 16) (.const (.int .i64 0)), none⟩,
    ⟨(some 15), .mv (.tmp 17), none⟩]
def k22_3 : VC := .reg [⟨(some 18), .mv (.tmp 7), none⟩,
    ⟨(some 4), .mv (.const (.string ⟨⟨[]⟩⟩)), none⟩,
    ⟨(some 5), .mv (.tmp 18), none⟩]
def k22_4 : VC := .seq k22_3 .ret
def k22_5 : VC := .reg [⟨(some 20), .mv (.tmp 1), none⟩,
    ⟨(some 21), .lenS (.tmp 20), none⟩,
    ⟨(some 22), .bin .neq (.tmp 21) (.const (.int .i64 8)), none⟩,
    ⟨(some 19), .mv (.tmp 22), none⟩]
def k22_6 : VC := .reg [⟨(some 4), .mv (.const (.string ⟨⟨[]⟩⟩)), none⟩,
    ⟨(some 5), .mv (.const (.int .i64 1)), none⟩]
def k22_7 : VC := .seq k22_6 .ret
def k22_8 : VC := .reg [⟨(some 24), .fieldA 0 (.tmp 6), none⟩,
    ⟨(some 25), .load1 .bool (.tmp 24), none⟩,
    ⟨(some 23), .mv (.tmp 25), none⟩]
def k22_9 : VC := .reg [⟨(some 26), .mv (.tmp 1), none⟩,
    ⟨(some 27), .fieldA 4 (.tmp 6), none⟩,
    ⟨none, .store 1 (.tmp 27) (.tmp 26), none⟩]
def k22_10 : VC := .reg [⟨(some 13), .mv (.tmp 1), none⟩,
    ⟨(some 14), .fieldA 3 (.tmp 6), none⟩,
    ⟨none, .store 1 (.tmp 14) (.tmp 13), none⟩]
def k22_11 : VC := .cond (.tmp 23) k22_9 k22_10
def k22_12 : VC := .seq k22_8 k22_11
def k22_13 : VC := .cond (.tmp 19) k22_7 k22_12
def k22_14 : VC := .seq k22_5 k22_13
def k22_15 : VC := .cond (.tmp 15) k22_4 k22_14
def k22_16 : VC := .seq k22_2 k22_15
def k22_17 : VC := .block 0 k22_16
def k22_18 : VC := .reg [⟨(some 28), .loadN [.bool, (.int .i64), (.int .u32), .str, .str, .str] (.tmp 6), none⟩,
    ⟨(some 29), .callF 17 [(.tmp 28)], none⟩,
    ⟨(some 30), .extract 0 (.tmp 29), none⟩,
    ⟨(some 31), .extract 1 (.tmp 29), none⟩,
    ⟨(some 4), .mv (.tmp 30), none⟩,
    ⟨(some 5), .mv (.tmp 31), none⟩]
def k22_19 : VC := .seq k22_18 .ret
def k22_20 : VC := .seq k22_17 k22_19
def k22_21 : VC := .seq k22_1 k22_20
def k22_22 : VC := .seq k22_0 k22_21
def fn22 : VFn := ⟨32, k22_22, [.tmp 4, .tmp 5]⟩
/- 23: cloakroom/cloakroomref09.With -/
def k23_0 : VC := .reg [⟨(some 4), .mv (.const (.string ⟨⟨[]⟩⟩)), none⟩,
    ⟨(some 5), .mv (.const (.int .i64 0)), none⟩]
def k23_1 : VC := .reg [⟨(some 9), .mv (.tmp 0), none⟩,
    ⟨(some 10), .callF 21 [(.tmp 9)], none⟩,
    ⟨(some 8), .mv (.tmp 10), none⟩,
    ⟨(some 11), .extract 0 (.tmp 8), none⟩,
    ⟨(some 12), .extract 1 (.tmp 8), none⟩,
    ⟨(some 6), .alloc [(.bool false), (.int .i64 0), (.int .u32 0), (.string ⟨⟨[]⟩⟩), (.string ⟨⟨[]⟩⟩), (.string ⟨⟨[]⟩⟩)], none⟩,
    ⟨none, .store 6 (.tmp 6) (.tmp 11), none⟩,
    ⟨(some 7), .mv (.tmp 12), none⟩]
def k23_2 : VC := .reg [⟨(some 13), .mv (.tmp 7), none⟩,
    ⟨(some 14), .bin .neq (.tmp 13) (.const (.int .i64 0)), none⟩]
def k23_3 : VC := .reg [⟨(some 15), .mv (.tmp 7), none⟩,
    ⟨(some 4), .mv (.const (.string ⟨⟨[]⟩⟩)), none⟩,
    ⟨(some 5), .mv (.tmp 15), none⟩]
def k23_4 : VC := .seq k23_3 .ret
def k23_5 : VC := .cond (.tmp 14) k23_4 .skip
def k23_6 : VC := .seq k23_2 k23_5
def k23_7 : VC := .reg [⟨(some 16), .mv (.tmp 1), none⟩,
    ⟨(some 17), .lenS (.tmp 16), none⟩,
    ⟨(some 18), .bin .neq (.tmp 17) (.const (.int .i64 8)), none⟩]
def k23_8 : VC := .reg [⟨(some 4), .mv (.const (.string ⟨⟨[]⟩⟩)), none⟩,
    ⟨(some 5), .mv (.const (.int .i64 1)), none⟩]
def k23_9 : VC := .seq k23_8 .ret
def k23_10 : VC := .cond (.tmp 18) k23_9 .skip
def k23_11 : VC := .seq k23_7 k23_10
def k23_12 : VC := .reg [⟨(some 19), .fieldA 0 (.tmp 6), none⟩,
    ⟨(some 20), .load1 .bool (.tmp 19), none⟩]
def k23_13 : VC := .reg [⟨(some 21), .mv (.tmp 1), none⟩,
    ⟨(some 22), .fieldA 4 (.tmp 6), none⟩,
    ⟨none, .store 1 (.tmp 22) (.tmp 21), none⟩]
def k23_14 : VC := .reg [⟨(some 23), .mv (.tmp 1), none⟩,
    ⟨(some 24), .fieldA 3 (.tmp 6), none⟩,
    ⟨none, .store 1 (.tmp 24) (.tmp 23), none⟩]
def k23_15 : VC := .cond (.tmp 20) k23_13 k23_14
def k23_16 : VC := .seq k23_12 k23_15
def k23_17 : VC := .reg [⟨(some 25), .loadN [.bool, (.int .i64), (.int .u32), .str, .str, .str] (.tmp 6), none⟩,
    ⟨(some 26), .callF 19 [(.tmp 25)], none⟩,
    ⟨(some 27), .extract 0 (.tmp 26), none⟩,
    ⟨(some 28), .extract 1 (.tmp 26), none⟩,
    ⟨(some 4), .mv (.tmp 27), none⟩,
    ⟨(some 5), .mv (.tmp 28), none⟩]
def k23_18 : VC := .seq k23_17 .ret
def k23_19 : VC := .seq k23_16 k23_18
def k23_20 : VC := .seq k23_11 k23_19
def k23_21 : VC := .seq k23_6 k23_20
def k23_22 : VC := .seq k23_1 k23_21
def k23_23 : VC := .seq k23_0 k23_22
def fn23 : VFn := ⟨29, k23_23, [.tmp 4, .tmp 5]⟩
/- 24: cloakroom/cloakroomlaw09.back -/
def k24_0 : VC := .reg [⟨(some 1), .box (.tmp 0), none⟩,
    ⟨(some 2), .alloc [(.bool false), (.int .i64 0), (.int .u32 0), (.string ⟨⟨[]⟩⟩), (.string ⟨⟨[]⟩⟩), (.string ⟨⟨[]⟩⟩)], none⟩]
def k24_1 : VC := .reg [⟨(some 3), .fieldA 0 (.tmp 1), none⟩,
    ⟨(some 4), .load1 .bool (.tmp 3), none⟩,
    ⟨(some 5), .fieldA 1 (.tmp 1), none⟩,
    ⟨(some 6), .load1 (.int .i64) (.tmp 5), none⟩,
    ⟨(some 7), .fieldA 2 (.tmp 1), none⟩,
    ⟨(some 8), .load1 (.int .u32) (.tmp 7), none⟩,
    ⟨(some 9), .fieldA 3 (.tmp 1), none⟩,
    ⟨(some 10), .load1 .str (.tmp 9), none⟩,
    ⟨(some 11), .fieldA 4 (.tmp 1), none⟩,
    ⟨(some 12), .load1 .str (.tmp 11), none⟩,
    ⟨(some 13), .fieldA 5 (.tmp 1), none⟩,
    ⟨(some 14), .load1 .str (.tmp 13), none⟩,
    ⟨(some 15), .build [(.bool false), (.int .i64 0), (.int .u32 0), (.string ⟨⟨[]⟩⟩), (.string ⟨⟨[]⟩⟩), (.string ⟨⟨[]⟩⟩)] [(0, 1, (.tmp 4)), (1, 1, (.tmp 6)), (2, 1, (.tmp 8)), (3, 1, (.tmp 10)), (4, 1, (.tmp 12)), (5, 1, (.tmp 14))], none⟩,
    ⟨none, .store 6 (.tmp 2) (.tmp 15), none⟩]
def k24_2 : VC := .seq k24_1 .ret
def k24_3 : VC := .seq k24_0 k24_2
def fn24 : VFn := ⟨16, k24_3, [.cell 2 [.bool, (.int .i64), (.int .u32), .str, .str, .str] true]⟩
/- 4: cloakroom/cloakroomlaw09.QuicBack -/
def k4_0 : VC := .reg [⟨(some 3), .box (.tmp 0), none⟩,
    ⟨(some 6), .mv (.const (.bool false)), none⟩]
def k4_1 : VC := .reg [⟨(some 20), .fieldA 3 (.tmp 3), none⟩,
    ⟨(some 21), .load1 .str (.tmp 20), none⟩,
    ⟨(some 22), .fieldA 4 (.tmp 3), none⟩,
    ⟨(some 23), .load1 .str (.tmp 22), none⟩,
    ⟨(some 24), .fieldA 5 (.tmp 3), none⟩,
    ⟨(some 25), .load1 .str (.tmp 24), none⟩,
    ⟨(some 26), .mv (.tmp 2), none⟩,
    ⟨(some 27), .buildSl 4 1 [(.string ⟨⟨[]⟩⟩), (.string ⟨⟨[]⟩⟩), (.string ⟨⟨[]⟩⟩), (.string ⟨⟨[]⟩⟩)] [(0, 1, (.tmp 21)), (1, 1, (.tmp 23)), (2, 1, (.tmp 25)), (3, 1, (.tmp 26))], none⟩,
    ⟨(some 28), .callF 15 [(.tmp 27), (.const (.int .i64 60))], none⟩,
    ⟨(some 29), .not (.tmp 28), none⟩,
    ⟨(some 30), .mv (.tmp 29), none⟩,
    ⟨(some 31), .mv (.tmp 1), (some (30, false))⟩,
    ⟨(some 32), .lenS (.tmp 31), (some (30, false))⟩,
    ⟨(some 33), .bin .gtr (.tmp 32) (.const (.int .i64 100)), (some (30, false))⟩,
    ⟨(some 34), .pick (.tmp 30) (.const (.bool true)) (.tmp 33), none⟩]
def k4_2 : VC := .reg [⟨(some 35), .callF 16 [], none⟩,
    ⟨(some 6), .mv (.tmp 35), none⟩]
def k4_3 : VC := .seq k4_2 .ret
def k4_4 : VC := .cond (.tmp 34) k4_3 .skip
def k4_5 : VC := .seq k4_1 k4_4
def k4_6 : VC := .reg [⟨(some 37), .loadN [.bool, (.int .i64), (.int .u32), .str, .str, .str] (.tmp 3), none⟩,
    ⟨(some 38), .callF 18 [(.tmp 37)], none⟩,
    ⟨(some 39), .callF 17 [(.tmp 38)], none⟩,
    ⟨(some 36), .mv (.tmp 39), none⟩,
    ⟨(some 40), .extract 0 (.tmp 36), none⟩,
    ⟨(some 41), .extract 1 (.tmp 36), none⟩,
    ⟨(some 7), .mv (.tmp 40), none⟩,
    ⟨(some 8), .mv (.tmp 41), none⟩]
def k4_7 : VC := .reg [⟨(some 42), .mv (.tmp 8), none⟩,
    ⟨(some 43), .bin .eql (.tmp 42) (.const (.int .i64 0)), none⟩]
def k4_8 : VC := .reg [⟨(some 45), .mv (.tmp 7), none⟩,
    ⟨(some 46), .callF 20 [(.tmp 45)], none⟩,
    ⟨(some 44), .mv (.tmp 46), none⟩,
    ⟨(some 47), .extract 0 (.tmp 44), none⟩,
    ⟨(some 48), .extract 1 (.tmp 44), none⟩,
    ⟨(some 9), .alloc [(.bool false), (.int .i64 0), (.int .u32 0), (.string ⟨⟨[]⟩⟩), (.string ⟨⟨[]⟩⟩), (.string ⟨⟨[]⟩⟩)], none⟩,
    ⟨none, .store 6 (.tmp 9) (.tmp 47), none⟩,
    ⟨(some 10), .mv (.tmp 48), none⟩]
def k4_9 : VC := .regD [⟨(some 49), .mv (.tmp 10), none⟩,
    ⟨(some 50), .bin .neq (.tmp 49) (.const (.int .i64 0)), none⟩,
    ⟨(some 51), .mv (.tmp 50), none⟩,
    ⟨(some 52), .loadN [.bool, (.int .i64), (.int .u32), .str, .str, .str] (.tmp 9), (some (51, false))⟩,
    ⟨(some 53), .callF 24 [(.tmp 52)], (some (51, false))⟩,
    ⟨(some 54), .loadN [.bool, (.int .i64), (.int .u32), .str, .str, .str] (.tmp 3), (some (51, false))⟩,
    ⟨(some 55), .eqAgg true [(0, .bool), (1, (.int .i64)), (2, (.int .u32)), (3, .str), (4, .str), (5, .str)] (.tmp 53) (.tmp 54), (some (51, false))⟩,
    ⟨(some 56), .pick (.tmp 51) (.const (.bool true)) (.tmp 55), none⟩] [(4, 5)]
def k4_10 : VC := .reg [⟨(some 6), .mv (.const (.bool false)), none⟩]
def k4_11 : VC := .seq k4_10 .ret
def k4_12 : VC := .cond (.tmp 56) k4_11 .skip
def k4_13 : VC := .seq k4_9 k4_12
def k4_14 : VC := .seq k4_8 k4_13
def k4_15 : VC := .cond (.tmp 43) k4_14 .skip
def k4_16 : VC := .seq k4_7 k4_15
def k4_17 : VC := .seq k4_6 k4_16
def k4_18 : VC := .reg [⟨(some 58), .mv (.tmp 1), none⟩,
    ⟨(some 59), .callF 20 [(.tmp 58)], none⟩,
    ⟨(some 57), .mv (.tmp 59), none⟩,
    ⟨(some 60), .extract 0 (.tmp 57), none⟩,
    ⟨(some 61), .extract 1 (.tmp 57), none⟩,
    ⟨(some 11), .alloc [(.bool false), (.int .i64 0), (.int .u32 0), (.string ⟨⟨[]⟩⟩), (.string ⟨⟨[]⟩⟩), (.string ⟨⟨[]⟩⟩)], none⟩,
    ⟨none, .store 6 (.tmp 11) (.tmp 60), none⟩,
    ⟨(some 12), .mv (.tmp 61), none⟩]
def k4_19 : VC := .reg [⟨(some 62), .mv (.tmp 12), none⟩,
    ⟨(some 63), .bin .neq (.tmp 62) (.const (.int .i64 0)), none⟩]
def k4_20 : VC := .reg [⟨(some 64), .loadN [.bool, (.int .i64), (.int .u32), .str, .str, .str] (.tmp 11), none⟩,
    ⟨(some 65), .build [(.bool false), (.int .i64 0), (.int .u32 0), (.string ⟨⟨[]⟩⟩), (.string ⟨⟨[]⟩⟩), (.string ⟨⟨[]⟩⟩)] [], none⟩,
    ⟨(some 66), .eqAgg false [(0, .bool), (1, (.int .i64)), (2, (.int .u32)), (3, .str), (4, .str), (5, .str)] (.tmp 64) (.tmp 65), none⟩,
    ⟨(some 67), .mv (.tmp 66), none⟩,
    ⟨(some 68), .callF 16 [], (some (67, true))⟩,
    ⟨(some 69), .pick (.tmp 67) (.tmp 68) (.const (.bool false)), none⟩,
    ⟨(some 6), .mv (.tmp 69), none⟩]
def k4_21 : VC := .seq k4_20 .ret
def k4_22 : VC := .cond (.tmp 63) k4_21 .skip
def k4_23 : VC := .seq k4_19 k4_22
def k4_24 : VC := .reg [⟨(some 71), .loadN [.bool, (.int .i64), (.int .u32), .str, .str, .str] (.tmp 11), none⟩,
    ⟨(some 72), .callF 17 [(.tmp 71)], none⟩,
    ⟨(some 70), .mv (.tmp 72), none⟩,
    ⟨(some 73), .extract 0 (.tmp 70), none⟩,
    ⟨(some 74), .extract 1 (.tmp 70), none⟩,
    ⟨(some 13), .mv (.tmp 73), none⟩,
    ⟨(some 14), .mv (.tmp 74), none⟩]
def k4_25 : VC := .reg [⟨(some 76), .mv (.tmp 1), none⟩,
    ⟨(some 77), .mv (.tmp 2), none⟩,
    ⟨(some 78), .callF 22 [(.tmp 76), (.tmp 77)], none⟩,
    ⟨(some 75), .mv (.tmp 78), none⟩,
    ⟨(some 79), .extract 0 (.tmp 75), none⟩,
    ⟨(some 80), .extract 1 (.tmp 75), none⟩,
    ⟨(some 15), .mv (.tmp 79), none⟩,
    ⟨(some 16), .mv (.tmp 80), none⟩]
def k4_26 : VC := .reg [⟨(some 81), .mv (.tmp 14), none⟩,
    ⟨(some 82), .bin .neq (.tmp 81) (.const (.int .i64 0)), none⟩,
    ⟨(some 83), .mv (.tmp 82), none⟩,
    ⟨(some 84), .mv (.tmp 13), (some (83, false))⟩,
    ⟨(some 85), .mv (.tmp 1), (some (83, false))⟩,
    ⟨(some 86), .bin .neq (.tmp 84) (.tmp 85), (some (83, false))⟩,
    ⟨(some 87), .pick (.tmp 83) (.const (.bool true)) (.tmp 86), none⟩,
    ⟨(some 88), .mv (.tmp 87), none⟩,
    ⟨(some 89), .mv (.tmp 16), (some (88, false))⟩,
    ⟨(some 90), .bin .eql (.tmp 89) (.const (.int .i64 0)), (some (88, false))⟩,
    ⟨(some 91), .mv (.tmp 2), (some (88, false))⟩,
    ⟨(some 92), .lenS (.tmp 91), (some (88, false))⟩,
    ⟨(some 93), .bin .eql (.tmp 92) (.const (.int .i64 8)), (some (88, false))⟩,
    ⟨(some 94), .eqB true (.tmp 90) (.tmp 93), (some (88, false))⟩,
    ⟨(some 95), .pick (.tmp 88) (.const (.bool true)) (.tmp 94), none⟩]
def k4_27 : VC := .reg [⟨(some 6), .mv (.const (.bool false)), none⟩]
def k4_28 : VC := .seq k4_27 .ret
def k4_29 : VC := .cond (.tmp 95) k4_28 .skip
def k4_30 : VC := .seq k4_26 k4_29
def k4_31 : VC := .reg [⟨(some 96), .mv (.tmp 16), none⟩,
    ⟨(some 97), .bin .neq (.tmp 96) (.const (.int .i64 0)), none⟩]
def k4_32 : VC := .reg [⟨(some 98), .callF 16 [], none⟩,
    ⟨(some 6), .mv (.tmp 98), none⟩]
def k4_33 : VC := .seq k4_32 .ret
def k4_34 : VC := .cond (.tmp 97) k4_33 .skip
def k4_35 : VC := .seq k4_31 k4_34
def k4_36 : VC := .reg [⟨(some 100), .mv (.tmp 15), none⟩,
    ⟨(some 101), .callF 20 [(.tmp 100)], none⟩,
    ⟨(some 99), .mv (.tmp 101), none⟩,
    ⟨(some 102), .extract 0 (.tmp 99), none⟩,
    ⟨(some 103), .extract 1 (.tmp 99), none⟩,
    ⟨(some 17), .alloc [(.bool false), (.int .i64 0), (.int .u32 0), (.string ⟨⟨[]⟩⟩), (.string ⟨⟨[]⟩⟩), (.string ⟨⟨[]⟩⟩)], none⟩,
    ⟨none, .store 6 (.tmp 17) (.tmp 102), none⟩,
    ⟨(some 18), .mv (.tmp 103), none⟩]
def k4_37 : VC := .reg [⟨(some 104), .fieldA 3 (.tmp 17), none⟩,
    ⟨(some 105), .load1 .str (.tmp 104), none⟩,
    ⟨(some 19), .mv (.tmp 105), none⟩]
def k4_38 : VC := .reg [⟨(some 106), .fieldA 0 (.tmp 17), none⟩,
    ⟨(some 107), .load1 .bool (.tmp 106), none⟩]
def k4_39 : VC := .reg [⟨(some 108), .fieldA 4 (.tmp 17), none⟩,
    ⟨(some 109), .load1 .str (.tmp 108), none⟩,
    ⟨(some 19), .mv (.tmp 109), none⟩]
def k4_40 : VC := .reg [⟨(some 110), .fieldA 4 (.tmp 11), none⟩,
    ⟨(some 111), .load1 .str (.tmp 110), none⟩,
    ⟨(some 112), .fieldA 4 (.tmp 17), none⟩,
    ⟨none, .store 1 (.tmp 112) (.tmp 111), none⟩]
def k4_41 : VC := .seq k4_39 k4_40
def k4_42 : VC := .reg [⟨(some 113), .fieldA 3 (.tmp 11), none⟩,
    ⟨(some 114), .load1 .str (.tmp 113), none⟩,
    ⟨(some 115), .fieldA 3 (.tmp 17), none⟩,
    ⟨none, .store 1 (.tmp 115) (.tmp 114), none⟩]
def k4_43 : VC := .cond (.tmp 107) k4_41 k4_42
def k4_44 : VC := .seq k4_38 k4_43
def k4_45 : VC := .reg [⟨(some 116), .mv (.tmp 18), none⟩,
    ⟨(some 117), .bin .eql (.tmp 116) (.const (.int .i64 0)), none⟩,
    ⟨(some 118), .mv (.tmp 117), none⟩,
    ⟨(some 119), .mv (.tmp 19), (some (118, true))⟩,
    ⟨(some 120), .mv (.tmp 2), (some (118, true))⟩,
    ⟨(some 121), .bin .eql (.tmp 119) (.tmp 120), (some (118, true))⟩,
    ⟨(some 122), .pick (.tmp 118) (.tmp 121) (.const (.bool false)), none⟩,
    ⟨(some 123), .mv (.tmp 122), none⟩,
    ⟨(some 124), .loadN [.bool, (.int .i64), (.int .u32), .str, .str, .str] (.tmp 17), (some (123, true))⟩,
    ⟨(some 125), .loadN [.bool, (.int .i64), (.int .u32), .str, .str, .str] (.tmp 11), (some (123, true))⟩,
    ⟨(some 126), .eqAgg false [(0, .bool), (1, (.int .i64)), (2, (.int .u32)), (3, .str), (4, .str), (5, .str)] (.tmp 124) (.tmp 125), (some (123, true))⟩,
    ⟨(some 127), .pick (.tmp 123) (.tmp 126) (.const (.bool false)), none⟩,
    ⟨(some 128), .mv (.tmp 127), none⟩,
    ⟨(some 129), .callF 16 [], (some (128, true))⟩,
    ⟨(some 130), .pick (.tmp 128) (.tmp 129) (.const (.bool false)), none⟩,
    ⟨(some 6), .mv (.tmp 130), none⟩]
def k4_46 : VC := .seq k4_45 .ret
def k4_47 : VC := .seq k4_44 k4_46
def k4_48 : VC := .seq k4_37 k4_47
def k4_49 : VC := .seq k4_36 k4_48
def k4_50 : VC := .seq k4_35 k4_49
def k4_51 : VC := .seq k4_30 k4_50
def k4_52 : VC := .seq k4_25 k4_51
def k4_53 : VC := .seq k4_24 k4_52
def k4_54 : VC := .seq k4_23 k4_53
def k4_55 : VC := .seq k4_18 k4_54
def k4_56 : VC := .seq k4_17 k4_55
def k4_57 : VC := .seq k4_5 k4_56
def k4_58 : VC := .seq k4_0 k4_57
def fn4 : VFn := ⟨131, k4_58, [.tmp 6]⟩
/- 5: cloakroom/cloakroomlaw10.GueTells -/
def k5_0 : VC := .reg [⟨(some 3), .box (.tmp 0), none⟩,
    ⟨(some 6), .mv (.const (.bool false)), none⟩]
def k5_1 : VC := .reg [⟨(some 17), .mv (.tmp 1), none⟩,
    ⟨(some 18), .lenS (.tmp 17), none⟩,
    ⟨(some 19), .bin .gtr (.tmp 18) (.const (.int .i64 200)), none⟩,
    ⟨(some 20), .mv (.tmp 19), none⟩,
    ⟨(some 21), .mv (.tmp 2), (some (20, false))⟩,
    ⟨(some 22), .lenS (.tmp 21), (some (20, false))⟩,
    ⟨(some 23), .bin .gtr (.tmp 22) (.const (.int .i64 200)), (some (20, false))⟩,
    ⟨(some 24), .pick (.tmp 20) (.const (.bool true)) (.tmp 23), none⟩]
def k5_2 : VC := .reg [⟨(some 25), .callF 25 [], none⟩,
    ⟨(some 6), .mv (.tmp 25), none⟩]
def k5_3 : VC := .seq k5_2 .ret
def k5_4 : VC := .cond (.tmp 24) k5_3 .skip
def k5_5 : VC := .seq k5_1 k5_4
def k5_6 : VC := .reg [⟨(some 27), .loadN [.bool, (.int .i64), (.int .u64), .bool, (.int .i64)] (.tmp 3), none⟩,
    ⟨(some 28), .mv (.tmp 1), none⟩,
    ⟨(some 29), .callF 26 [(.tmp 27), (.tmp 28)], none⟩,
    ⟨(some 26), .mv (.tmp 29), none⟩,
    ⟨(some 30), .extract 0 (.tmp 26), none⟩,
    ⟨(some 31), .extract 1 (.tmp 26), none⟩,
    ⟨(some 7), .mv (.tmp 30), none⟩,
    ⟨(some 8), .mv (.tmp 31), none⟩]
def k5_7 : VC := .reg [⟨(some 33), .loadN [.bool, (.int .i64), (.int .u64), .bool, (.int .i64)] (.tmp 3), none⟩,
    ⟨(some 34), .mv (.tmp 1), none⟩,
    ⟨(some 35), .callF 27 [(.tmp 33), (.tmp 34)], none⟩,
    ⟨(some 32), .mv (.tmp 35), none⟩,
    ⟨(some 36), .extract 0 (.tmp 32), none⟩,
    ⟨(some 37), .extract 1 (.tmp 32), none⟩,
    ⟨(some 9), .mv (.tmp 36), none⟩,
    ⟨(some 10), .mv (.tmp 37), none⟩]
def k5_8 : VC := .reg [⟨(some 39), .mv (.tmp 2), none⟩,
    ⟨(some 40), .callF 28 [(.tmp 39)], none⟩,
    ⟨(some 38), .mv (.tmp 40), none⟩,
    ⟨(some 41), .extract 0 (.tmp 38), none⟩,
    ⟨(some 42), .extract 1 (.tmp 38), none⟩,
    ⟨(some 43), .extract 2 (.tmp 38), none⟩,
    ⟨(some 11), .alloc [(.bool false), (.int .i64 0), (.int .u64 0), (.bool false), (.int .i64 0)], none⟩,
    ⟨none, .store 5 (.tmp 11) (.tmp 41), none⟩,
    ⟨(some 12), .mv (.tmp 42), none⟩,
    ⟨(some 13), .mv (.tmp 43), none⟩]
def k5_9 : VC := .reg [⟨(some 45), .mv (.tmp 2), none⟩,
    ⟨(some 46), .callF 29 [(.tmp 45)], none⟩,
    ⟨(some 44), .mv (.tmp 46), none⟩,
    ⟨(some 47), .extract 0 (.tmp 44), none⟩,
    ⟨(some 48), .extract 1 (.tmp 44), none⟩,
    ⟨(some 49), .extract 2 (.tmp 44), none⟩,
    ⟨(some 14), .alloc [(.bool false), (.int .i64 0), (.int .u64 0), (.bool false), (.int .i64 0)], none⟩,
    ⟨none, .store 5 (.tmp 14) (.tmp 47), none⟩,
    ⟨(some 15), .mv (.tmp 48), none⟩,
    ⟨(some 16), .mv (.tmp 49), none⟩]
def k5_10 : VC := .reg [⟨(some 50), .mv (.tmp 7), none⟩,
    ⟨(some 51), .mv (.tmp 9), none⟩,
    ⟨(some 52), .bin .eql (.tmp 50) (.tmp 51), none⟩,
    ⟨(some 53), .mv (.tmp 52), none⟩,
    ⟨(some 54), .mv (.tmp 8), (some (53, true))⟩,
    ⟨(some 55), .mv (.tmp 10), (some (53, true))⟩,
    ⟨(some 56), .bin .eql (.tmp 54) (.tmp 55), (some (53, true))⟩,
    ⟨(some 57), .pick (.tmp 53) (.tmp 56) (.const (.bool false)), none⟩,
    ⟨(some 58), .mv (.tmp 57), none⟩,
    ⟨(some 59), .loadN [.bool, (.int .i64), (.int .u64), .bool, (.int .i64)] (.tmp 11), (some (58, true))⟩,
    ⟨(some 60), .loadN [.bool, (.int .i64), (.int .u64), .bool, (.int .i64)] (.tmp 14), (some (58, true))⟩,
    ⟨(some 61), .eqAgg false [(0, .bool), (1, (.int .i64)), (2, (.int .u64)), (3, .bool), (4, (.int .i64))] (.tmp 59) (.tmp 60), (some (58, true))⟩,
    ⟨(some 62), .pick (.tmp 58) (.tmp 61) (.const (.bool false)), none⟩,
    ⟨(some 63), .mv (.tmp 62), none⟩,
    ⟨(some 64), .mv (.tmp 12), (some (63, true))⟩,
    ⟨(some 65), .mv (.tmp 15), (some (63, true))⟩,
    ⟨(some 66), .bin .eql (.tmp 64) (.tmp 65), (some (63, true))⟩,
    ⟨(some 67), .pick (.tmp 63) (.tmp 66) (.const (.bool false)), none⟩,
    ⟨(some 68), .mv (.tmp 67), none⟩,
    ⟨(some 69), .mv (.tmp 13), (some (68, true))⟩,
    ⟨(some 70), .mv (.tmp 16), (some (68, true))⟩,
    ⟨(some 71), .bin .eql (.tmp 69) (.tmp 70), (some (68, true))⟩,
    ⟨(some 72), .pick (.tmp 68) (.tmp 71) (.const (.bool false)), none⟩,
    ⟨(some 73), .mv (.tmp 72), none⟩,
    ⟨(some 74), .callF 25 [], (some (73, true))⟩,
    ⟨(some 75), .pick (.tmp 73) (.tmp 74) (.const (.bool false)), none⟩,
    ⟨(some 6), .mv (.tmp 75), none⟩]
def k5_11 : VC := .seq k5_10 .ret
def k5_12 : VC := .seq k5_9 k5_11
def k5_13 : VC := .seq k5_8 k5_12
def k5_14 : VC := .seq k5_7 k5_13
def k5_15 : VC := .seq k5_6 k5_14
def k5_16 : VC := .seq k5_5 k5_15
def k5_17 : VC := .seq k5_0 k5_16
def fn5 : VFn := ⟨76, k5_17, [.tmp 6]⟩
/- 25: cloakroom/cloakroomlaw10.awake -/
def k25_0 : VC := .reg [⟨(some 0), .mv (.const (.bool false)), none⟩]
def k25_1 : VC := .reg [⟨(some 10), .build [(.bool false), (.int .i64 0), (.int .u64 0), (.bool false), (.int .i64 0)] [], none⟩,
    ⟨(some 11), .callF 26 [(.tmp 10), (.const (.string ⟨⟨[]⟩⟩))], none⟩,
    ⟨(some 9), .mv (.tmp 11), none⟩,
    ⟨(some 12), .extract 0 (.tmp 9), none⟩,
    ⟨(some 13), .extract 1 (.tmp 9), none⟩,
    ⟨(some 1), .mv (.tmp 12), none⟩,
    ⟨(some 2), .mv (.tmp 13), none⟩]
def k25_2 : VC := .reg [⟨(some 15), .mv (.tmp 1), none⟩,
    ⟨(some 16), .callF 28 [(.tmp 15)], none⟩,
    ⟨(some 14), .mv (.tmp 16), none⟩,
    ⟨(some 17), .extract 0 (.tmp 14), none⟩,
    ⟨(some 18), .extract 1 (.tmp 14), none⟩,
    ⟨(some 19), .extract 2 (.tmp 14), none⟩,
    ⟨(some 3), .alloc [(.bool false), (.int .i64 0), (.int .u64 0), (.bool false), (.int .i64 0)], none⟩,
    ⟨none, .store 5 (.tmp 3) (.tmp 17), none⟩,
    ⟨(some 4), .mv (.tmp 18), none⟩,
    ⟨(some 5), .mv (.tmp 19), none⟩]
def k25_3 : VC := .reg [⟨(some 21), .callF 28 [(.const (.string ⟨⟨[]⟩⟩))], none⟩,
    ⟨(some 20), .mv (.tmp 21), none⟩,
    ⟨(some 22), .extract 0 (.tmp 20), none⟩,
    ⟨(some 23), .extract 1 (.tmp 20), none⟩,
    ⟨(some 24), .extract 2 (.tmp 20), none⟩,
    ⟨(some 6), .alloc [(.bool false), (.int .i64 0), (.int .u64 0), (.bool false), (.int .i64 0)], none⟩,
    ⟨none, .store 5 (.tmp 6) (.tmp 22), none⟩,
    ⟨(some 7), .mv (.tmp 23), none⟩,
    ⟨(some 8), .mv (.tmp 24), none⟩]
def k25_4 : VC := .reg [⟨(some 25), .mv (.tmp 2), none⟩,
    ⟨(some 26), .bin .eql (.tmp 25) (.const (.int .i64 0)), none⟩,
    ⟨(some 27), .mv (.tmp 26), none⟩,
    ⟨(some 28), .mv (.tmp 1), (some (27, true))⟩,
    ⟨(some 29), .lenS (.tmp 28), (some (27, true))⟩,
    ⟨(some 30), .bin .eql (.tmp 29) (.const (.int .i64 18)), (some (27, true))⟩,
    ⟨(some 31), .pick (.tmp 27) (.tmp 30) (.const (.bool false)), none⟩,
    ⟨(some 32), .mv (.tmp 31), none⟩,
    ⟨(some 33), .mv (.tmp 1), (some (32, true))⟩,
    ⟨(some 34), .sliceS (.tmp 33) none (some (.const (.int .i64 2))), (some (32, true))⟩,
    ⟨(some 35), .bin .eql (.tmp 34) (.const (.string ⟨⟨[71, 85]⟩⟩)), (some (32, true))⟩,
    ⟨(some 36), .pick (.tmp 32) (.tmp 35) (.const (.bool false)), none⟩,
    ⟨(some 37), .mv (.tmp 36), none⟩,
    ⟨(some 38), .mv (.tmp 5), (some (37, true))⟩,
    ⟨(some 39), .bin .eql (.tmp 38) (.const (.int .i64 0)), (some (37, true))⟩,
    ⟨(some 40), .pick (.tmp 37) (.tmp 39) (.const (.bool false)), none⟩,
    ⟨(some 41), .mv (.tmp 40), none⟩,
    ⟨(some 42), .mv (.tmp 8), (some (41, true))⟩,
    ⟨(some 43), .bin .eql (.tmp 42) (.const (.int .i64 2)), (some (41, true))⟩,
    ⟨(some 44), .pick (.tmp 41) (.tmp 43) (.const (.bool false)), none⟩,
    ⟨(some 45), .mv (.tmp 44), none⟩,
    ⟨(some 46), .pick (.tmp 45) (.const (.bool true)) (.const (.bool false)), none⟩,
    ⟨(some 0), .mv (.tmp 46), none⟩]
def k25_5 : VC := .seq k25_4 .ret
def k25_6 : VC := .seq k25_3 k25_5
def k25_7 : VC := .seq k25_2 k25_6
def k25_8 : VC := .seq k25_1 k25_7
def k25_9 : VC := .seq k25_0 k25_8
def fn25 : VFn := ⟨47, k25_9, [.tmp 0]⟩
/- 26: cloakroom/gue.Put -/
def k26_0 : VC := .reg [⟨(some 2), .box (.tmp 0), none⟩,
    ⟨(some 4), .mv (.const (.string ⟨⟨[]⟩⟩)), none⟩,
    ⟨(some 5), .mv (.const (.int .i64 0)), none⟩]
def k26_1 : VC := .reg [⟨(some 10), .fieldA 1 (.tmp 2), none⟩,
    ⟨(some 11), .load1 (.int .i64) (.tmp 10), none⟩,
    ⟨(some 12), .bin .lss (.tmp 11) (.const (.int .i64 0)), none⟩,
    ⟨(some 13), .mv (.tmp 12), none⟩,
    ⟨(some 14), .fieldA 1 (.tmp 2), (some (13, false))⟩,
    ⟨(some 15), .load1 (.int .i64) (.tmp 14), (some (13, false))⟩,
    ⟨(some 16), .bin .gtr (.tmp 15) (.const (.int .i64 65535)), (some (13, false))⟩,
    ⟨(some 17), .pick (.tmp 13) (.const (.bool true)) (.tmp 16), none⟩,
    ⟨(some 18), .mv (.tmp 17), none⟩,
    ⟨(some 19), .fieldA 4 (.tmp 2), (some (18, false))⟩,
    ⟨(some 20), .load1 (.int .i64) (.tmp 19), (some (18, false))⟩,
    ⟨(some 21), .bin .lss (.tmp 20) (.const (.int .i64 0)), (some (18, false))⟩,
    ⟨(some 22), .pick (.tmp 18) (.const (.bool true)) (.tmp 21), none⟩,
    ⟨(some 23), .mv (.tmp 22), none⟩,
    ⟨(some 24), .fieldA 4 (.tmp 2), (some (23, false))⟩,
    ⟨(some 25), .load1 (.int .i64) (.tmp 24), (some (23, false))⟩,
    ⟨(some 26), .bin .gtr (.tmp 25) (.const (.int .i64 255)), (some (23, false))⟩,
    ⟨(some 27), .pick (.tmp 23) (.const (.bool true)) (.tmp 26), none⟩,
    ⟨(some 9), .mv (.tmp 27), none⟩]
def k26_2 : VC := .reg [⟨(some 4), .mv (.const (.string ⟨⟨[]⟩⟩)), none⟩,
    ⟨(some 5), .mv (.const (.int .i64 1)), none⟩]
def k26_3 : VC := .seq k26_2 .ret
def k26_4 : VC := .reg [⟨(some 29), .mv (.tmp 1), none⟩,
    ⟨(some 30), .lenS (.tmp 29), none⟩,
    ⟨(some 31), .bin .gtr (.tmp 30) (.const (.int .i64 9000)), none⟩,
    ⟨(some 28), .mv (.tmp 31), none⟩]
def k26_5 : VC := .reg [⟨(some 4), .mv (.const (.string ⟨⟨[]⟩⟩)), none⟩,
    ⟨(some 5), .mv (.const (.int .i64 5)), none⟩]
def k26_6 : VC := .seq k26_5 .ret
def k26_7 : VC := .cond (.tmp 28) k26_6 .skip
def k26_8 : VC := .seq k26_4 k26_7
def k26_9 : VC := .cond (.tmp 9) k26_3 k26_8
def k26_10 : VC := .seq k26_1 k26_9
def k26_11 : VC := .block 0 k26_10
def k26_12 : VC := .reg [⟨(some 6), .mv (.const (.string ⟨⟨[71, 85, 1]⟩⟩)), none⟩]
def k26_13 : VC := .regD [⟨(some 32), .fieldA 0 (.tmp 2), none⟩,
    ⟨(some 33), .load1 .bool (.tmp 32), none⟩,
    ⟨(some 34), .callF 81 [(.tmp 33)], none⟩,
    ⟨(some 35), .build [(.int .i64 0), (.int .i64 0)] [(0, 1, (.tmp 34)), (1, 1, (.const (.int .i64 1)))], none⟩,
    ⟨(some 36), .fieldA 1 (.tmp 2), none⟩,
    ⟨(some 37), .load1 (.int .i64) (.tmp 36), none⟩,
    ⟨(some 38), .build [(.int .i64 0), (.int .i64 0)] [(0, 1, (.tmp 37)), (1, 1, (.const (.int .i64 2)))], none⟩,
    ⟨(some 39), .fieldA 3 (.tmp 2), none⟩,
    ⟨(some 40), .load1 .bool (.tmp 39), none⟩,
    ⟨(some 41), .callF 82 [(.tmp 40)], none⟩,
    ⟨(some 42), .build [(.int .i64 0), (.int .i64 0)] [(0, 1, (.tmp 41)), (1, 1, (.const (.int .i64 1)))], none⟩,
    ⟨(some 43), .fieldA 4 (.tmp 2), none⟩,
    ⟨(some 44), .load1 (.int .i64) (.tmp 43), none⟩,
    ⟨(some 45), .build [(.int .i64 0), (.int .i64 0)] [(0, 1, (.tmp 44)), (1, 1, (.const (.int .i64 1)))], none⟩,
    ⟨(some 46), .build [(.int .i64 0), (.int .i64 0)] [(0, 1, (.const (.int .i64 0))), (1, 1, (.const (.int .i64 2)))], none⟩,
    ⟨(some 47), .build [(.int .i64 0), (.int .i64 0), (.int .i64 0), (.int .i64 0), (.int .i64 0), (.int .i64 0), (.int .i64 0), (.int .i64 0), (.int .i64 0), (.int .i64 0)] [(0, 2, (.tmp 35)), (2, 2, (.tmp 38)), (4, 2, (.tmp 42)), (6, 2, (.tmp 45)), (8, 2, (.tmp 46))], none⟩,
    ⟨(some 48), .mv (.const (.int .i64 0)), none⟩] [(2, 5), (2, 8), (2, 12), (5, 9), (9, 12)]
def k26_14 : VC := .reg [⟨(some 49), .bin .lss (.tmp 48) (.const (.int .i64 5)), none⟩]
def k26_15 : VC := .cond (.tmp 49) .skip (.exit 1)
def k26_16 : VC := .reg [⟨(some 50), .idxVN 5 2 (.tmp 47) (.tmp 48), none⟩,
    ⟨(some 8), .alloc [(.int .i64 0), (.int .i64 0)], none⟩,
    ⟨none, .store 2 (.tmp 8) (.tmp 50), none⟩]
def k26_17 : VC := .reg [⟨(some 51), .mv (.tmp 6), none⟩,
    ⟨(some 52), .idxAA 2 1 (.tmp 8) (.const (.int .i64 0)), none⟩,
    ⟨(some 53), .load1 (.int .i64) (.tmp 52), none⟩,
    ⟨(some 54), .conv .u64 (.tmp 53), none⟩,
    ⟨(some 55), .idxAA 2 1 (.tmp 8) (.const (.int .i64 1)), none⟩,
    ⟨(some 56), .load1 (.int .i64) (.tmp 55), none⟩,
    ⟨(some 57), .callF 63 [(.tmp 54), (.tmp 56)], none⟩,
    ⟨(some 58), .bin .add (.tmp 51) (.tmp 57), none⟩,
    ⟨(some 6), .mv (.tmp 58), none⟩]
def k26_18 : VC := .seq k26_16 k26_17
def k26_19 : VC := .block 2 k26_18
def k26_20 : VC := .reg [⟨(some 59), .bin .add (.tmp 48) (.const (.int .i64 1)), none⟩,
    ⟨(some 48), .mv (.tmp 59), none⟩]
def k26_21 : VC := .seq k26_19 k26_20
def k26_22 : VC := .seq k26_15 k26_21
def k26_23 : VC := .seq k26_14 k26_22
def k26_24 : VC := .loop k26_23
def k26_25 : VC := .block 1 k26_24
def k26_26 : VC := .seq k26_13 k26_25
def k26_27 : VC := .reg [⟨(some 60), .mv (.tmp 6), none⟩,
    ⟨(some 61), .fieldA 2 (.tmp 2), none⟩,
    ⟨(some 62), .load1 (.int .u64) (.tmp 61), none⟩,
    ⟨(some 63), .callF 63 [(.tmp 62), (.const (.int .i64 8))], none⟩,
    ⟨(some 64), .bin .add (.tmp 60) (.tmp 63), none⟩,
    ⟨(some 6), .mv (.tmp 64), none⟩]
def k26_28 : VC := .reg [⟨(some 65), .mv (.tmp 6), none⟩,
    ⟨(some 66), .mv (.tmp 6), none⟩,
    ⟨(some 67), .callF 84 [(.tmp 66)], none⟩,
    ⟨(some 68), .conv .u64 (.tmp 67), none⟩,
    ⟨(some 69), .callF 83 [(.tmp 65), (.const (.int .i64 8)), (.const (.int .i64 2)), (.tmp 68)], none⟩,
    ⟨(some 70), .mv (.tmp 1), none⟩,
    ⟨(some 71), .bin .add (.tmp 69) (.tmp 70), none⟩,
    ⟨(some 4), .mv (.tmp 71), none⟩,
    ⟨(some 5), .mv (.const (.int .i64 0)), none⟩]
def k26_29 : VC := .seq k26_28 .ret
def k26_30 : VC := .seq k26_27 k26_29
def k26_31 : VC := .seq k26_26 k26_30
def k26_32 : VC := .seq k26_12 k26_31
def k26_33 : VC := .seq k26_11 k26_32
def k26_34 : VC := .seq k26_0 k26_33
def fn26 : VFn := ⟨72, k26_34, [.tmp 4, .tmp 5]⟩
/- 81: cloakroom/gue.kind -/
def k81_0 : VC := .reg [⟨(some 2), .mv (.const (.int .i64 0)), none⟩]
def k81_1 : VC := .reg [⟨(some 3), .mv (.tmp 0), none⟩]
def k81_2 : VC := .reg [⟨(some 2), .mv (.const (.int .i64 41)), none⟩]
def k81_3 : VC := .seq k81_2 .ret
def k81_4 : VC := .cond (.tmp 3) k81_3 .skip
def k81_5 : VC := .seq k81_1 k81_4
def k81_6 : VC := .reg [⟨(some 2), .mv (.const (.int .i64 4)), none⟩]
def k81_7 : VC := .seq k81_6 .ret
def k81_8 : VC := .seq k81_5 k81_7
def k81_9 : VC := .seq k81_0 k81_8
def fn81 : VFn := ⟨4, k81_9, [.tmp 2]⟩
/- 82: cloakroom/gue.bit -/
def k82_0 : VC := .reg [⟨(some 2), .mv (.const (.int .i64 0)), none⟩]
def k82_1 : VC := .reg [⟨(some 3), .mv (.tmp 0), none⟩]
def k82_2 : VC := .reg [⟨(some 2), .mv (.const (.int .i64 1)), none⟩]
def k82_3 : VC := .seq k82_2 .ret
def k82_4 : VC := .cond (.tmp 3) k82_3 .skip
def k82_5 : VC := .seq k82_1 k82_4
def k82_6 : VC := .reg [⟨(some 2), .mv (.const (.int .i64 0)), none⟩]
def k82_7 : VC := .seq k82_6 .ret
def k82_8 : VC := .seq k82_5 k82_7
def k82_9 : VC := .seq k82_0 k82_8
def fn82 : VFn := ⟨4, k82_9, [.tmp 2]⟩
/- 84: cloakroom/check.Of -/
def k84_0 : VC := .reg [⟨(some 2), .mv (.const (.int .i64 0)), none⟩]
def k84_1 : VC := .reg [⟨(some 3), .mv (.tmp 0), none⟩,
    ⟨(some 4), .callF 114 [(.tmp 3)], none⟩,
    ⟨(some 5), .bin .sub (.const (.int .i64 65535)) (.tmp 4), none⟩,
    ⟨(some 2), .mv (.tmp 5), none⟩]
def k84_2 : VC := .seq k84_1 .ret
def k84_3 : VC := .seq k84_0 k84_2
def fn84 : VFn := ⟨6, k84_3, [.tmp 2]⟩
/- 114: cloakroom/check.Sum -/
def k114_0 : VC := .reg [⟨(some 2), .mv (.const (.int .i64 0)), none⟩]
def k114_1 : VC := .reg [⟨(some 3), .alloc [(.int .i64 0)], none⟩,
    ⟨none, .store 1 (.tmp 3) (.const (.int .i64 0)), none⟩]
def k114_2 : VC := .reg [⟨(some 5), .mv (.tmp 0), none⟩,
    ⟨(some 6), .callF 137 [(.tmp 5)], none⟩]
def k114_3 : VC := .reg [⟨(some 4), .mv (.tmp 7), none⟩]
def k114_4 : VC := .reg [⟨(some 8), .load1 (.int .i64) (.tmp 3), none⟩,
    ⟨(some 9), .mv (.tmp 4), none⟩,
    ⟨(some 10), .bin .add (.tmp 8) (.tmp 9), none⟩,
    ⟨(some 11), .callF 138 [(.tmp 10)], none⟩,
    ⟨none, .store 1 (.tmp 3) (.tmp 11), none⟩]
def k114_5 : VC := .block 1 k114_4
def k114_6 : VC := .rangeF (.tmp 6) [7] k114_3 k114_5
def k114_7 : VC := .block 0 k114_6
def k114_8 : VC := .seq k114_2 k114_7
def k114_9 : VC := .reg [⟨(some 12), .load1 (.int .i64) (.tmp 3), none⟩,
    ⟨(some 2), .mv (.tmp 12), none⟩]
def k114_10 : VC := .seq k114_9 .ret
def k114_11 : VC := .seq k114_8 k114_10
def k114_12 : VC := .seq k114_1 k114_11
def k114_13 : VC := .seq k114_0 k114_12
def fn114 : VFn := ⟨13, k114_13, [.tmp 2]⟩
/- 137: cloakroom/check.words -/
def k137_0 : VC := .reg [⟨(some 1), .box (.tmp 0), none⟩,
    ⟨(some 2), .mv (.const .nilFunc), none⟩]
def k137_1 : VC := .reg [⟨(some 3), .mkFunc 150 [] [(.tmp 1)], none⟩,
    ⟨(some 2), .mv (.tmp 3), none⟩]
def k137_2 : VC := .seq k137_1 .ret
def k137_3 : VC := .seq k137_0 k137_2
def fn137 : VFn := ⟨4, k137_3, [.tmp 2]⟩
/- 150: cloakroom/check.words$1 -/
def k150_0 : VC := .reg [⟨(some 3), .mv (.const (.int .i64 0)), none⟩]
def k150_1 : VC := .reg [⟨(some 5), .mv (.tmp 3), none⟩,
    ⟨(some 6), .load1 .str (.tmp 1), none⟩,
    ⟨(some 7), .lenS (.tmp 6), none⟩,
    ⟨(some 8), .bin .lss (.tmp 5) (.tmp 7), none⟩]
def k150_2 : VC := .cond (.tmp 8) .skip (.exit 0)
def k150_3 : VC := .seq k150_1 k150_2
def k150_4 : VC := .reg [⟨(some 11), .load1 .str (.tmp 1), none⟩,
    ⟨(some 12), .mv (.tmp 3), none⟩,
    ⟨(some 13), .idxS (.tmp 11) (.tmp 12), none⟩,
    ⟨(some 14), .conv .i64 (.tmp 13), none⟩,
    ⟨(some 15), .bin .shl (.tmp 14) (.const (.int .u64 8)), none⟩,
    ⟨(some 4), .mv (.tmp 15), none⟩]
def k150_5 : VC := .reg [⟨(some 16), .mv (.tmp 3), none⟩,
    ⟨(some 17), .bin .add (.tmp 16) (.const (.int .i64 1)), none⟩,
    ⟨(some 18), .load1 .str (.tmp 1), none⟩,
    ⟨(some 19), .lenS (.tmp 18), none⟩,
    ⟨(some 20), .bin .lss (.tmp 17) (.tmp 19), none⟩]
def k150_6 : VC := .reg [⟨(some 21), .mv (.tmp 4), none⟩,
    ⟨(some 22), .load1 .str (.tmp 1), none⟩,
    ⟨(some 23), .mv (.tmp 3), none⟩,
    ⟨(some 24), .bin .add (.tmp 23) (.const (.int .i64 1)), none⟩,
    ⟨(some 25), .idxS (.tmp 22) (.tmp 24), none⟩,
    ⟨(some 26), .conv .i64 (.tmp 25), none⟩,
    ⟨(some 27), .bin .or (.tmp 21) (.tmp 26), none⟩,
    ⟨(some 4), .mv (.tmp 27), none⟩]
def k150_7 : VC := .cond (.tmp 20) k150_6 .skip
def k150_8 : VC := .seq k150_5 k150_7
def k150_9 : VC := .reg [⟨(some 28), .mv (.tmp 0), none⟩,
    ⟨(some 29), .mv (.tmp 4), none⟩,
    ⟨(some 30), .callV (.tmp 28) [(.tmp 29)], none⟩,
    ⟨(some 31), .not (.tmp 30), none⟩]
def k150_10 : VC := .cond (.tmp 31) .ret .skip
def k150_11 : VC := .seq k150_9 k150_10
def k150_12 : VC := .seq k150_8 k150_11
def k150_13 : VC := .seq k150_4 k150_12
def k150_14 : VC := .block 1 k150_13
def k150_15 : VC := .reg [⟨(some 9), .mv (.tmp 3), none⟩,
    ⟨(some 10), .bin .add (.tmp 9) (.const (.int .i64 2)), none⟩,
    ⟨(some 3), .mv (.tmp 10), none⟩]
def k150_16 : VC := .seq k150_14 k150_15
def k150_17 : VC := .seq k150_3 k150_16
def k150_18 : VC := .loop k150_17
def k150_19 : VC := .block 0 k150_18
def k150_20 : VC := .seq k150_0 k150_19
def fn150 : VFn := ⟨32, k150_20, []⟩
/- 138: cloakroom/check.fold -/
def k138_0 : VC := .reg [⟨(some 2), .mv (.const (.int .i64 0)), none⟩]
def k138_1 : VC := .reg [⟨(some 3), .mv (.tmp 0), none⟩,
    ⟨(some 4), .bin .gtr (.tmp 3) (.const (.int .i64 65535)), none⟩]
def k138_2 : VC := .cond (.tmp 4) .skip (.exit 0)
def k138_3 : VC := .seq k138_1 k138_2
def k138_4 : VC := .reg [⟨(some 5), .mv (.tmp 0), none⟩,
    ⟨(some 6), .bin .and (.tmp 5) (.const (.int .i64 65535)), none⟩,
    ⟨(some 7), .mv (.tmp 0), none⟩,
    ⟨(some 8), .bin .shr (.tmp 7) (.const (.int .u64 16)), none⟩,
    ⟨(some 9), .bin .add (.tmp 6) (.tmp 8), none⟩,
    ⟨(some 0), .mv (.tmp 9), none⟩]
def k138_5 : VC := .block 1 k138_4
def k138_6 : VC := .seq k138_3 k138_5
def k138_7 : VC := .loop k138_6
def k138_8 : VC := .block 0 k138_7
def k138_9 : VC := .reg [⟨(some 10), .mv (.tmp 0), none⟩,
    ⟨(some 2), .mv (.tmp 10), none⟩]
def k138_10 : VC := .seq k138_9 .ret
def k138_11 : VC := .seq k138_8 k138_10
def k138_12 : VC := .seq k138_0 k138_11
def fn138 : VFn := ⟨11, k138_12, [.tmp 2]⟩
/- 83: cloakroom/check.Set -/
def k83_0 : VC := .reg [⟨(some 8), .mv (.const (.string ⟨⟨[]⟩⟩)), none⟩]
def k83_1 : VC := .reg [⟨(some 10), .mv (.tmp 3), none⟩,
    ⟨(some 11), .mv (.tmp 2), none⟩,
    ⟨(some 12), .callF 63 [(.tmp 10), (.tmp 11)], none⟩,
    ⟨(some 9), .mv (.tmp 12), none⟩]
def k83_2 : VC := .reg [⟨(some 13), .mv (.tmp 9), none⟩,
    ⟨(some 14), .bin .eql (.tmp 13) (.const (.string ⟨⟨[]⟩⟩)), none⟩,
    ⟨(some 15), .mv (.tmp 14), none⟩,
    ⟨(some 16), .mv (.tmp 1), (some (15, false))⟩,
    ⟨(some 17), .bin .lss (.tmp 16) (.const (.int .i64 0)), (some (15, false))⟩,
    ⟨(some 18), .pick (.tmp 15) (.const (.bool true)) (.tmp 17), none⟩,
    ⟨(some 19), .mv (.tmp 18), none⟩,
    ⟨(some 20), .mv (.tmp 0), (some (19, false))⟩,
    ⟨(some 21), .lenS (.tmp 20), (some (19, false))⟩,
    ⟨(some 22), .mv (.tmp 2), (some (19, false))⟩,
    ⟨(some 23), .bin .sub (.tmp 21) (.tmp 22), (some (19, false))⟩,
    ⟨(some 24), .mv (.tmp 1), (some (19, false))⟩,
    ⟨(some 25), .bin .lss (.tmp 23) (.tmp 24), (some (19, false))⟩,
    ⟨(some 26), .pick (.tmp 19) (.const (.bool true)) (.tmp 25), none⟩]
def k83_3 : VC := .reg [⟨(some 27), .mv (.tmp 0), none⟩,
    ⟨(some 8), .mv (.tmp 27), none⟩]
def k83_4 : VC := .seq k83_3 .ret
def k83_5 : VC := .cond (.tmp 26) k83_4 .skip
def k83_6 : VC := .seq k83_2 k83_5
def k83_7 : VC := .regD [⟨(some 28), .mv (.tmp 0), none⟩,
    ⟨(some 29), .mv (.tmp 1), none⟩,
    ⟨(some 30), .sliceS (.tmp 28) none (some (.tmp 29)), none⟩,
    ⟨(some 31), .mv (.tmp 9), none⟩,
    ⟨(some 32), .bin .add (.tmp 30) (.tmp 31), none⟩,
    ⟨(some 33), .mv (.tmp 0), none⟩,
    ⟨(some 34), .mv (.tmp 1), none⟩,
    ⟨(some 35), .mv (.tmp 2), none⟩,
    ⟨(some 36), .bin .add (.tmp 34) (.tmp 35), none⟩,
    ⟨(some 37), .sliceS (.tmp 33) (some (.tmp 36)) none, none⟩,
    ⟨(some 38), .bin .add (.tmp 32) (.tmp 37), none⟩,
    ⟨(some 8), .mv (.tmp 38), none⟩] []
def k83_8 : VC := .seq k83_7 .ret
def k83_9 : VC := .seq k83_6 k83_8
def k83_10 : VC := .seq k83_1 k83_9
def k83_11 : VC := .seq k83_0 k83_10
def fn83 : VFn := ⟨39, k83_11, [.tmp 8]⟩
/- 28: cloakroom/gue.Get -/
def k28_0 : VC := .reg [⟨(some 2), .alloc [(.bool false), (.int .i64 0), (.int .u64 0), (.bool false), (.int .i64 0)], none⟩,
    ⟨(some 3), .mv (.const (.string ⟨⟨[]⟩⟩)), none⟩,
    ⟨(some 4), .mv (.const (.int .i64 0)), none⟩]
def k28_1 : VC := .reg [⟨(some 13), .mv (.tmp 0), none⟩,
    ⟨(some 14), .lenS (.tmp 13), none⟩,
    ⟨(some 15), .bin .lss (.tmp 14) (.const (.int .i64 18)), none⟩]
def k28_2 : VC := .reg [⟨(some 16), .build [(.bool false), (.int .i64 0), (.int .u64 0), (.bool false), (.int .i64 0)] [], none⟩,
    ⟨none, .store 5 (.tmp 2) (.tmp 16), none⟩,
    ⟨(some 3), .mv (.const (.string ⟨⟨[]⟩⟩)), none⟩,
    ⟨(some 4), .mv (.const (.int .i64 2)), none⟩]
def k28_3 : VC := .seq k28_2 .ret
def k28_4 : VC := .cond (.tmp 15) k28_3 .skip
def k28_5 : VC := .seq k28_1 k28_4
def k28_6 : VC := .reg [⟨(some 18), .mv (.tmp 0), none⟩,
    ⟨(some 19), .callF 87 [(.tmp 18), (.const (.string ⟨⟨[71, 85, 1]⟩⟩))], none⟩,
    ⟨(some 17), .mv (.tmp 19), none⟩,
    ⟨(some 20), .extract 0 (.tmp 17), none⟩,
    ⟨(some 21), .extract 1 (.tmp 17), none⟩,
    ⟨(some 5), .mv (.tmp 20), none⟩,
    ⟨(some 6), .mv (.tmp 21), none⟩]
def k28_7 : VC := .reg [⟨(some 22), .mv (.tmp 5), none⟩,
    ⟨(some 23), .callF 67 [(.tmp 22)], none⟩,
    ⟨(some 7), .mv (.tmp 23), none⟩]
def k28_8 : VC := .reg [⟨(some 24), .mv (.tmp 7), none⟩,
    ⟨(some 25), .callF 68 [(.tmp 24), (.const (.int .i64 1))], none⟩,
    ⟨(some 8), .mv (.tmp 25), none⟩]
def k28_9 : VC := .reg [⟨(some 26), .mv (.tmp 8), none⟩,
    ⟨(some 27), .bin .eql (.tmp 26) (.const (.int .i64 41)), none⟩,
    ⟨(some 28), .mv (.tmp 7), none⟩,
    ⟨(some 29), .callF 68 [(.tmp 28), (.const (.int .i64 2))], none⟩,
    ⟨(some 30), .build [(.bool false), (.int .i64 0), (.int .u64 0), (.bool false), (.int .i64 0)] [(0, 1, (.tmp 27)), (1, 1, (.tmp 29))], none⟩,
    ⟨(some 9), .alloc [(.bool false), (.int .i64 0), (.int .u64 0), (.bool false), (.int .i64 0)], none⟩,
    ⟨none, .store 5 (.tmp 9) (.tmp 30), none⟩]
def k28_10 : VC := .reg [⟨(some 31), .mv (.tmp 7), none⟩,
    ⟨(some 32), .callF 68 [(.tmp 31), (.const (.int .i64 1))], none⟩,
    ⟨(some 10), .mv (.tmp 32), none⟩]
def k28_11 : VC := .reg [⟨(some 33), .mv (.tmp 10), none⟩,
    ⟨(some 34), .bin .eql (.tmp 33) (.const (.int .i64 1)), none⟩,
    ⟨(some 35), .mv (.tmp 7), none⟩,
    ⟨(some 36), .callF 68 [(.tmp 35), (.const (.int .i64 1))], none⟩,
    ⟨(some 37), .fieldA 3 (.tmp 9), none⟩,
    ⟨none, .store 1 (.tmp 37) (.tmp 34), none⟩,
    ⟨(some 38), .fieldA 4 (.tmp 9), none⟩,
    ⟨none, .store 1 (.tmp 38) (.tmp 36), none⟩]
def k28_12 : VC := .reg [⟨(some 39), .mv (.tmp 7), none⟩,
    ⟨(some 40), .callF 68 [(.tmp 39), (.const (.int .i64 2))], none⟩]
def k28_13 : VC := .reg [⟨(some 41), .mv (.tmp 7), none⟩,
    ⟨(some 42), .callF 68 [(.tmp 41), (.const (.int .i64 4))], none⟩,
    ⟨(some 43), .mv (.tmp 7), none⟩,
    ⟨(some 44), .callF 68 [(.tmp 43), (.const (.int .i64 4))], none⟩,
    ⟨(some 11), .mv (.tmp 42), none⟩,
    ⟨(some 12), .mv (.tmp 44), none⟩]
def k28_14 : VC := .reg [⟨(some 45), .mv (.tmp 11), none⟩,
    ⟨(some 46), .conv .u64 (.tmp 45), none⟩,
    ⟨(some 47), .bin .shl (.tmp 46) (.const (.int .u64 32)), none⟩,
    ⟨(some 48), .mv (.tmp 12), none⟩,
    ⟨(some 49), .conv .u64 (.tmp 48), none⟩,
    ⟨(some 50), .bin .or (.tmp 47) (.tmp 49), none⟩,
    ⟨(some 51), .fieldA 2 (.tmp 9), none⟩,
    ⟨none, .store 1 (.tmp 51) (.tmp 50), none⟩]
def k28_15 : VC := .reg [⟨(some 53), .mv (.tmp 6), none⟩,
    ⟨(some 54), .not (.tmp 53), none⟩,
    ⟨(some 55), .mv (.tmp 54), none⟩,
    ⟨(some 56), .mv (.tmp 8), (some (55, false))⟩,
    ⟨(some 57), .fieldA 0 (.tmp 9), (some (55, false))⟩,
    ⟨(some 58), .load1 .bool (.tmp 57), (some (55, false))⟩,
    ⟨(some 59), .callF 81 [(.tmp 58)], (some (55, false))⟩,
    ⟨(some 60), .bin .neq (.tmp 56) (.tmp 59), (some (55, false))⟩,
    ⟨(some 61), .pick (.tmp 55) (.const (.bool true)) (.tmp 60), none⟩,
    ⟨(some 62), .mv (.tmp 61), none⟩,
    ⟨(some 63), .mv (.tmp 10), (some (62, false))⟩,
    ⟨(some 64), .bin .gtr (.tmp 63) (.const (.int .i64 1)), (some (62, false))⟩,
    ⟨(some 65), .pick (.tmp 62) (.const (.bool true)) (.tmp 64), none⟩,
    ⟨(some 52), .mv (.tmp 65), none⟩]
def k28_16 : VC := .reg [⟨(some 66), .build [(.bool false), (.int .i64 0), (.int .u64 0), (.bool false), (.int .i64 0)] [], none⟩,
    ⟨none, .store 5 (.tmp 2) (.tmp 66), none⟩,
    ⟨(some 3), .mv (.const (.string ⟨⟨[]⟩⟩)), none⟩,
    ⟨(some 4), .mv (.const (.int .i64 3)), none⟩]
def k28_17 : VC := .seq k28_16 .ret
def k28_18 : VC := .reg [⟨(some 68), .mv (.tmp 0), none⟩,
    ⟨(some 69), .lenS (.tmp 68), none⟩,
    ⟨(some 70), .bin .gtr (.tmp 69) (.const (.int .i64 9018)), none⟩,
    ⟨(some 67), .mv (.tmp 70), none⟩]
def k28_19 : VC := .reg [⟨(some 71), .build [(.bool false), (.int .i64 0), (.int .u64 0), (.bool false), (.int .i64 0)] [], none⟩,
    ⟨none, .store 5 (.tmp 2) (.tmp 71), none⟩,
    ⟨(some 3), .mv (.const (.string ⟨⟨[]⟩⟩)), none⟩,
    ⟨(some 4), .mv (.const (.int .i64 5)), none⟩]
def k28_20 : VC := .seq k28_19 .ret
def k28_21 : VC := .reg [⟨(some 73), .mv (.tmp 0), none⟩,
    ⟨(some 74), .sliceS (.tmp 73) none (some (.const (.int .i64 18))), none⟩,
    ⟨(some 75), .callF 88 [(.tmp 74)], none⟩,
    ⟨(some 76), .not (.tmp 75), none⟩,
    ⟨(some 72), .mv (.tmp 76), none⟩]
def k28_22 : VC := .reg [⟨(some 77), .build [(.bool false), (.int .i64 0), (.int .u64 0), (.bool false), (.int .i64 0)] [], none⟩,
    ⟨none, .store 5 (.tmp 2) (.tmp 77), none⟩,
    ⟨(some 3), .mv (.const (.string ⟨⟨[]⟩⟩)), none⟩,
    ⟨(some 4), .mv (.const (.int .i64 4)), none⟩]
def k28_23 : VC := .seq k28_22 .ret
def k28_24 : VC := .cond (.tmp 72) k28_23 .skip
def k28_25 : VC := .seq k28_21 k28_24
def k28_26 : VC := .cond (.tmp 67) k28_20 k28_25
def k28_27 : VC := .seq k28_18 k28_26
def k28_28 : VC := .cond (.tmp 52) k28_17 k28_27
def k28_29 : VC := .seq k28_15 k28_28
def k28_30 : VC := .block 0 k28_29
def k28_31 : VC := .regD [⟨(some 78), .loadN [.bool, (.int .i64), (.int .u64), .bool, (.int .i64)] (.tmp 9), none⟩,
    ⟨(some 79), .mv (.tmp 0), none⟩,
    ⟨(some 80), .sliceS (.tmp 79) (some (.const (.int .i64 18))) none, none⟩,
    ⟨none, .store 5 (.tmp 2) (.tmp 78), none⟩,
    ⟨(some 3), .mv (.tmp 80), none⟩,
    ⟨(some 4), .mv (.const (.int .i64 0)), none⟩] []
def k28_32 : VC := .seq k28_31 .ret
def k28_33 : VC := .seq k28_30 k28_32
def k28_34 : VC := .seq k28_14 k28_33
def k28_35 : VC := .seq k28_13 k28_34
def k28_36 : VC := .seq k28_12 k28_35
def k28_37 : VC := .seq k28_11 k28_36
def k28_38 : VC := .seq k28_10 k28_37
def k28_39 : VC := .seq k28_9 k28_38
def k28_40 : VC := .seq k28_8 k28_39
def k28_41 : VC := .seq k28_7 k28_40
def k28_42 : VC := .seq k28_6 k28_41
def k28_43 : VC := .seq k28_5 k28_42
def k28_44 : VC := .seq k28_0 k28_43
def fn28 : VFn := ⟨81, k28_44, [.cell 2 [.bool, (.int .i64), (.int .u64), .bool, (.int .i64)] true, .tmp 3, .tmp 4]⟩
/- 87: strings.CutPrefix -/
def k87_0 : VC := .reg [⟨(some 4), .mv (.const (.string ⟨⟨[]⟩⟩)), none⟩,
    ⟨(some 5), .mv (.const (.bool false)), none⟩]
def k87_1 : VC := .reg [⟨(some 6), .mv (.tmp 0), none⟩,
    ⟨(some 7), .mv (.tmp 1), none⟩,
    ⟨(some 8), .callF 115 [(.tmp 6), (.tmp 7)], none⟩,
    ⟨(some 9), .extract 0 (.tmp 8), none⟩,
    ⟨(some 10), .extract 1 (.tmp 8), none⟩,
    ⟨(some 4), .mv (.tmp 9), none⟩,
    ⟨(some 5), .mv (.tmp 10), none⟩]
def k87_2 : VC := .seq k87_1 .ret
def k87_3 : VC := .seq k87_0 k87_2
def fn87 : VFn := ⟨11, k87_3, [.tmp 4, .tmp 5]⟩
/- 115: internal/stringslite.CutPrefix -/
def k115_0 : VC := .reg [⟨(some 4), .mv (.const (.string ⟨⟨[]⟩⟩)), none⟩,
    ⟨(some 5), .mv (.const (.bool false)), none⟩]
def k115_1 : VC := .reg [⟨(some 6), .mv (.tmp 0), none⟩,
    ⟨(some 7), .mv (.tmp 1), none⟩,
    ⟨(some 8), .callF 139 [(.tmp 6), (.tmp 7)], none⟩,
    ⟨(some 9), .not (.tmp 8), none⟩]
def k115_2 : VC := .reg [⟨(some 10), .mv (.tmp 0), none⟩,
    ⟨(some 4), .mv (.tmp 10), none⟩,
    ⟨(some 5), .mv (.const (.bool false)), none⟩]
def k115_3 : VC := .seq k115_2 .ret
def k115_4 : VC := .cond (.tmp 9) k115_3 .skip
def k115_5 : VC := .seq k115_1 k115_4
def k115_6 : VC := .reg [⟨(some 11), .mv (.tmp 0), none⟩,
    ⟨(some 12), .mv (.tmp 1), none⟩,
    ⟨(some 13), .lenS (.tmp 12), none⟩,
    ⟨(some 14), .sliceS (.tmp 11) (some (.tmp 13)) none, none⟩,
    ⟨(some 4), .mv (.tmp 14), none⟩,
    ⟨(some 5), .mv (.const (.bool true)), none⟩]
def k115_7 : VC := .seq k115_6 .ret
def k115_8 : VC := .seq k115_5 k115_7
def k115_9 : VC := .seq k115_0 k115_8
def fn115 : VFn := ⟨15, k115_9, [.tmp 4, .tmp 5]⟩
/- 139: internal/stringslite.HasPrefix -/
def k139_0 : VC := .reg [⟨(some 4), .mv (.const (.bool false)), none⟩]
def k139_1 : VC := .reg [⟨(some 5), .mv (.tmp 0), none⟩,
    ⟨(some 6), .lenS (.tmp 5), none⟩,
    ⟨(some 7), .mv (.tmp 1), none⟩,
    ⟨(some 8), .lenS (.tmp 7), none⟩,
    ⟨(some 9), .bin .geq (.tmp 6) (.tmp 8), none⟩,
    ⟨(some 10), .mv (.tmp 9), none⟩,
    ⟨(some 11), .mv (.tmp 0), (some (10, true))⟩,
    ⟨(some 12), .mv (.tmp 1), (some (10, true))⟩,
    ⟨(some 13), .lenS (.tmp 12), (some (10, true))⟩,
    ⟨(some 14), .sliceS (.tmp 11) none (some (.tmp 13)), (some (10, true))⟩,
    ⟨(some 15), .mv (.tmp 1), (some (10, true))⟩,
    ⟨(some 16), .bin .eql (.tmp 14) (.tmp 15), (some (10, true))⟩,
    ⟨(some 17), .pick (.tmp 10) (.tmp 16) (.const (.bool false)), none⟩,
    ⟨(some 4), .mv (.tmp 17), none⟩]
def k139_2 : VC := .seq k139_1 .ret
def k139_3 : VC := .seq k139_0 k139_2
def fn139 : VFn := ⟨18, k139_3, [.tmp 4]⟩
/- 88: cloakroom/check.Right -/
def k88_0 : VC := .reg [⟨(some 2), .mv (.const (.bool false)), none⟩]
def k88_1 : VC := .reg [⟨(some 3), .mv (.tmp 0), none⟩,
    ⟨(some 4), .callF 114 [(.tmp 3)], none⟩,
    ⟨(some 5), .bin .eql (.tmp 4) (.const (.int .i64 65535)), none⟩,
    ⟨(some 2), .mv (.tmp 5), none⟩]
def k88_2 : VC := .seq k88_1 .ret
def k88_3 : VC := .seq k88_0 k88_2
def fn88 : VFn := ⟨6, k88_3, [.tmp 2]⟩
/- 27: cloakroom/cloakroomref10.Put -/
def k27_0 : VC := .reg [⟨(some 2), .box (.tmp 0), none⟩,
    ⟨(some 4), .mv (.const (.string ⟨⟨[]⟩⟩)), none⟩,
    ⟨(some 5), .mv (.const (.int .i64 0)), none⟩]
def k27_1 : VC := .reg [⟨(some 9), .fieldA 1 (.tmp 2), none⟩,
    ⟨(some 10), .load1 (.int .i64) (.tmp 9), none⟩,
    ⟨(some 11), .bin .lss (.tmp 10) (.const (.int .i64 0)), none⟩,
    ⟨(some 12), .mv (.tmp 11), none⟩,
    ⟨(some 13), .fieldA 1 (.tmp 2), (some (12, false))⟩,
    ⟨(some 14), .load1 (.int .i64) (.tmp 13), (some (12, false))⟩,
    ⟨(some 15), .bin .gtr (.tmp 14) (.const (.int .i64 65535)), (some (12, false))⟩,
    ⟨(some 16), .pick (.tmp 12) (.const (.bool true)) (.tmp 15), none⟩,
    ⟨(some 17), .mv (.tmp 16), none⟩,
    ⟨(some 18), .fieldA 4 (.tmp 2), (some (17, false))⟩,
    ⟨(some 19), .load1 (.int .i64) (.tmp 18), (some (17, false))⟩,
    ⟨(some 20), .bin .lss (.tmp 19) (.const (.int .i64 0)), (some (17, false))⟩,
    ⟨(some 21), .pick (.tmp 17) (.const (.bool true)) (.tmp 20), none⟩,
    ⟨(some 22), .mv (.tmp 21), none⟩,
    ⟨(some 23), .fieldA 4 (.tmp 2), (some (22, false))⟩,
    ⟨(some 24), .load1 (.int .i64) (.tmp 23), (some (22, false))⟩,
    ⟨(some 25), .bin .gtr (.tmp 24) (.const (.int .i64 255)), (some (22, false))⟩,
    ⟨(some 26), .pick (.tmp 22) (.const (.bool true)) (.tmp 25), none⟩]
def k27_2 : VC := .reg [⟨(some 4), .mv (.const (.string ⟨⟨[]⟩⟩)), none⟩,
    ⟨(some 5), .mv (.const (.int .i64 1)), none⟩]
def k27_3 : VC := .seq k27_2 .ret
def k27_4 : VC := .cond (.tmp 26) k27_3 .skip
def k27_5 : VC := .seq k27_1 k27_4
def k27_6 : VC := .reg [⟨(some 27), .mv (.tmp 1), none⟩,
    ⟨(some 28), .lenS (.tmp 27), none⟩,
    ⟨(some 29), .bin .gtr (.tmp 28) (.const (.int .i64 9000)), none⟩]
def k27_7 : VC := .reg [⟨(some 4), .mv (.const (.string ⟨⟨[]⟩⟩)), none⟩,
    ⟨(some 5), .mv (.const (.int .i64 5)), none⟩]
def k27_8 : VC := .seq k27_7 .ret
def k27_9 : VC := .cond (.tmp 29) k27_8 .skip
def k27_10 : VC := .seq k27_6 k27_9
def k27_11 : VC := .reg [⟨(some 6), .mv (.const (.int .i64 4)), none⟩,
    ⟨(some 7), .mv (.const (.int .i64 0)), none⟩]
def k27_12 : VC := .reg [⟨(some 30), .fieldA 0 (.tmp 2), none⟩,
    ⟨(some 31), .load1 .bool (.tmp 30), none⟩]
def k27_13 : VC := .reg [⟨(some 6), .mv (.const (.int .i64 41)), none⟩]
def k27_14 : VC := .cond (.tmp 31) k27_13 .skip
def k27_15 : VC := .seq k27_12 k27_14
def k27_16 : VC := .reg [⟨(some 32), .fieldA 3 (.tmp 2), none⟩,
    ⟨(some 33), .load1 .bool (.tmp 32), none⟩]
def k27_17 : VC := .reg [⟨(some 7), .mv (.const (.int .i64 1)), none⟩]
def k27_18 : VC := .cond (.tmp 33) k27_17 .skip
def k27_19 : VC := .seq k27_16 k27_18
def k27_20 : VC := .regD [⟨(some 34), .mv (.tmp 6), none⟩,
    ⟨(some 35), .conv .u64 (.tmp 34), none⟩,
    ⟨(some 36), .callF 64 [(.tmp 35), (.const (.int .i64 1))], none⟩,
    ⟨(some 37), .bin .add (.const (.string ⟨⟨[71, 85, 1]⟩⟩)) (.tmp 36), none⟩,
    ⟨(some 38), .fieldA 1 (.tmp 2), none⟩,
    ⟨(some 39), .load1 (.int .i64) (.tmp 38), none⟩,
    ⟨(some 40), .conv .u64 (.tmp 39), none⟩,
    ⟨(some 41), .callF 64 [(.tmp 40), (.const (.int .i64 2))], none⟩,
    ⟨(some 42), .bin .add (.tmp 37) (.tmp 41), none⟩,
    ⟨(some 43), .mv (.tmp 7), none⟩,
    ⟨(some 44), .conv .u64 (.tmp 43), none⟩,
    ⟨(some 45), .callF 64 [(.tmp 44), (.const (.int .i64 1))], none⟩,
    ⟨(some 46), .bin .add (.tmp 42) (.tmp 45), none⟩,
    ⟨(some 47), .fieldA 4 (.tmp 2), none⟩,
    ⟨(some 48), .load1 (.int .i64) (.tmp 47), none⟩,
    ⟨(some 49), .conv .u64 (.tmp 48), none⟩,
    ⟨(some 50), .callF 64 [(.tmp 49), (.const (.int .i64 1))], none⟩,
    ⟨(some 51), .bin .add (.tmp 46) (.tmp 50), none⟩,
    ⟨(some 52), .bin .add (.tmp 51) (.const (.string ⟨⟨[0, 0]⟩⟩)), none⟩,
    ⟨(some 53), .fieldA 2 (.tmp 2), none⟩,
    ⟨(some 54), .load1 (.int .u64) (.tmp 53), none⟩,
    ⟨(some 55), .callF 64 [(.tmp 54), (.const (.int .i64 8))], none⟩,
    ⟨(some 56), .bin .add (.tmp 52) (.tmp 55), none⟩,
    ⟨(some 8), .mv (.tmp 56), none⟩] [(2, 5), (2, 14), (2, 20), (7, 14), (7, 20), (11, 14), (11, 20), (16, 20)]
def k27_21 : VC := .reg [⟨(some 57), .mv (.tmp 8), none⟩,
    ⟨(some 58), .mv (.tmp 8), none⟩,
    ⟨(some 59), .callF 86 [(.tmp 58)], none⟩,
    ⟨(some 60), .conv .u64 (.tmp 59), none⟩,
    ⟨(some 61), .callF 85 [(.tmp 57), (.const (.int .i64 8)), (.const (.int .i64 2)), (.tmp 60)], none⟩,
    ⟨(some 62), .mv (.tmp 1), none⟩,
    ⟨(some 63), .bin .add (.tmp 61) (.tmp 62), none⟩,
    ⟨(some 4), .mv (.tmp 63), none⟩,
    ⟨(some 5), .mv (.const (.int .i64 0)), none⟩]
def k27_22 : VC := .seq k27_21 .ret
def k27_23 : VC := .seq k27_20 k27_22
def k27_24 : VC := .seq k27_19 k27_23
def k27_25 : VC := .seq k27_15 k27_24
def k27_26 : VC := .seq k27_11 k27_25
def k27_27 : VC := .seq k27_10 k27_26
def k27_28 : VC := .seq k27_5 k27_27
def k27_29 : VC := .seq k27_0 k27_28
def fn27 : VFn := ⟨64, k27_29, [.tmp 4, .tmp 5]⟩
/- 86: cloakroom/cloakroomref03.Of -/
def k86_0 : VC := .reg [⟨(some 2), .mv (.const (.int .i64 0)), none⟩]
def k86_1 : VC := .reg [⟨(some 3), .mv (.tmp 0), none⟩,
    ⟨(some 4), .callF 89 [(.tmp 3)], none⟩,
    ⟨(some 5), .bin .sub (.const (.int .i64 65535)) (.tmp 4), none⟩,
    ⟨(some 2), .mv (.tmp 5), none⟩]
def k86_2 : VC := .seq k86_1 .ret
def k86_3 : VC := .seq k86_0 k86_2
def fn86 : VFn := ⟨6, k86_3, [.tmp 2]⟩
/- 89: cloakroom/cloakroomref03.Sum -/
def k89_0 : VC := .reg [⟨(some 2), .mv (.const (.int .i64 0)), none⟩]
def k89_1 : VC := .reg [⟨(some 3), .mv (.tmp 0), none⟩,
    ⟨(some 4), .callF 117 [(.tmp 3)], none⟩,
    ⟨(some 5), .callF 116 [(.tmp 4)], none⟩,
    ⟨(some 2), .mv (.tmp 5), none⟩]
def k89_2 : VC := .seq k89_1 .ret
def k89_3 : VC := .seq k89_0 k89_2
def fn89 : VFn := ⟨6, k89_3, [.tmp 2]⟩
/- 117: cloakroom/cloakroomref03.Words -/
def k117_0 : VC := .reg [⟨(some 2), .mv (.const (.slice none 0 0)), none⟩]
def k117_1 : VC := .reg [⟨(some 5), .mv (.tmp 0), none⟩,
    ⟨(some 6), .lenS (.tmp 5), none⟩,
    ⟨(some 7), .bin .rem (.tmp 6) (.const (.int .i64 2)), none⟩,
    ⟨(some 8), .bin .eql (.tmp 7) (.const (.int .i64 1)), none⟩]
def k117_2 : VC := .reg [⟨(some 9), .mv (.tmp 0), none⟩,
    ⟨(some 10), .bin .add (.tmp 9) (.const (.string ⟨⟨[0]⟩⟩)), none⟩,
    ⟨(some 0), .mv (.tmp 10), none⟩]
def k117_3 : VC := .cond (.tmp 8) k117_2 .skip
def k117_4 : VC := .seq k117_1 k117_3
def k117_5 : VC := .reg [⟨(some 3), .mv (.const (.slice none 0 0)), none⟩]
def k117_6 : VC := .reg [⟨(some 4), .mv (.const (.int .i64 0)), none⟩]
def k117_7 : VC := .reg [⟨(some 11), .mv (.tmp 4), none⟩,
    ⟨(some 12), .mv (.tmp 0), none⟩,
    ⟨(some 13), .lenS (.tmp 12), none⟩,
    ⟨(some 14), .bin .lss (.tmp 11) (.tmp 13), none⟩]
def k117_8 : VC := .cond (.tmp 14) .skip (.exit 0)
def k117_9 : VC := .seq k117_7 k117_8
def k117_10 : VC := .reg [⟨(some 17), .mv (.tmp 3), none⟩,
    ⟨(some 18), .mv (.tmp 0), none⟩,
    ⟨(some 19), .mv (.tmp 4), none⟩,
    ⟨(some 20), .callF 79 [(.tmp 18), (.tmp 19), (.const (.int .i64 2))], none⟩,
    ⟨(some 21), .buildSl 1 1 [(.int .i64 0)] [(0, 1, (.tmp 20))], none⟩,
    ⟨(some 22), .app 1 8 (.tmp 17) (.tmp 21), none⟩,
    ⟨(some 3), .mv (.tmp 22), none⟩]
def k117_11 : VC := .block 1 k117_10
def k117_12 : VC := .reg [⟨(some 15), .mv (.tmp 4), none⟩,
    ⟨(some 16), .bin .add (.tmp 15) (.const (.int .i64 2)), none⟩,
    ⟨(some 4), .mv (.tmp 16), none⟩]
def k117_13 : VC := .seq k117_11 k117_12
def k117_14 : VC := .seq k117_9 k117_13
def k117_15 : VC := .loop k117_14
def k117_16 : VC := .block 0 k117_15
def k117_17 : VC := .seq k117_6 k117_16
def k117_18 : VC := .reg [⟨(some 23), .mv (.tmp 3), none⟩,
    ⟨(some 2), .mv (.tmp 23), none⟩]
def k117_19 : VC := .seq k117_18 .ret
def k117_20 : VC := .seq k117_17 k117_19
def k117_21 : VC := .seq k117_5 k117_20
def k117_22 : VC := .seq k117_4 k117_21
def k117_23 : VC := .seq k117_0 k117_22
def fn117 : VFn := ⟨24, k117_23, [.tmp 2]⟩
/- 116: cloakroom/cloakroomref03.Add -/
def k116_0 : VC := .reg [⟨(some 2), .mv (.const (.int .i64 0)), none⟩]
def k116_1 : VC := .reg [⟨(some 3), .mv (.const (.int .i64 0)), none⟩]
def k116_2 : VC := .reg [⟨(some 4), .mv (.const (.int .i64 0)), none⟩]
def k116_3 : VC := .reg [⟨(some 5), .mv (.tmp 4), none⟩,
    ⟨(some 6), .mv (.tmp 0), none⟩,
    ⟨(some 7), .lenL (.tmp 6), none⟩,
    ⟨(some 8), .bin .lss (.tmp 5) (.tmp 7), none⟩]
def k116_4 : VC := .cond (.tmp 8) .skip (.exit 0)
def k116_5 : VC := .seq k116_3 k116_4
def k116_6 : VC := .reg [⟨(some 11), .mv (.tmp 3), none⟩,
    ⟨(some 12), .mv (.tmp 0), none⟩,
    ⟨(some 13), .mv (.tmp 4), none⟩,
    ⟨(some 14), .idxAL 1 (.tmp 12) (.tmp 13), none⟩,
    ⟨(some 15), .load1 (.int .i64) (.tmp 14), none⟩,
    ⟨(some 16), .bin .add (.tmp 11) (.tmp 15), none⟩,
    ⟨(some 3), .mv (.tmp 16), none⟩]
def k116_7 : VC := .block 1 k116_6
def k116_8 : VC := .reg [⟨(some 9), .mv (.tmp 4), none⟩,
    ⟨(some 10), .bin .add (.tmp 9) (.const (.int .i64 1)), none⟩,
    ⟨(some 4), .mv (.tmp 10), none⟩]
def k116_9 : VC := .seq k116_7 k116_8
def k116_10 : VC := .seq k116_5 k116_9
def k116_11 : VC := .loop k116_10
def k116_12 : VC := .block 0 k116_11
def k116_13 : VC := .seq k116_2 k116_12
def k116_14 : VC := .reg [⟨(some 17), .mv (.tmp 3), none⟩,
    ⟨(some 18), .bin .gtr (.tmp 17) (.const (.int .i64 65535)), none⟩]
def k116_15 : VC := .cond (.tmp 18) .skip (.exit 2)
def k116_16 : VC := .seq k116_14 k116_15
def k116_17 : VC := .reg [⟨(some 19), .mv (.tmp 3), none⟩,
    ⟨(some 20), .bin .rem (.tmp 19) (.const (.int .i64 65536)), none⟩,
    ⟨(some 21), .mv (.tmp 3), none⟩,
    ⟨(some 22), .bin .quo (.tmp 21) (.const (.int .i64 65536)), none⟩,
    ⟨(some 23), .bin .add (.tmp 20) (.tmp 22), none⟩,
    ⟨(some 3), .mv (.tmp 23), none⟩]
def k116_18 : VC := .block 3 k116_17
def k116_19 : VC := .seq k116_16 k116_18
def k116_20 : VC := .loop k116_19
def k116_21 : VC := .block 2 k116_20
def k116_22 : VC := .reg [⟨(some 24), .mv (.tmp 3), none⟩,
    ⟨(some 2), .mv (.tmp 24), none⟩]
def k116_23 : VC := .seq k116_22 .ret
def k116_24 : VC := .seq k116_21 k116_23
def k116_25 : VC := .seq k116_13 k116_24
def k116_26 : VC := .seq k116_1 k116_25
def k116_27 : VC := .seq k116_0 k116_26
def fn116 : VFn := ⟨25, k116_27, [.tmp 2]⟩
/- 85: cloakroom/cloakroomref03.Set -/
def k85_0 : VC := .reg [⟨(some 8), .mv (.const (.string ⟨⟨[]⟩⟩)), none⟩]
def k85_1 : VC := .reg [⟨(some 12), .mv (.tmp 0), none⟩,
    ⟨(some 13), .mv (.tmp 1), none⟩,
    ⟨(some 14), .mv (.tmp 2), none⟩,
    ⟨(some 15), .callF 60 [(.tmp 12), (.tmp 13), (.tmp 14)], none⟩,
    ⟨(some 11), .mv (.tmp 15), none⟩,
    ⟨(some 16), .extract 0 (.tmp 11), none⟩,
    ⟨(some 17), .extract 1 (.tmp 11), none⟩,
    ⟨(some 9), .mv (.tmp 16), none⟩,
    ⟨(some 10), .mv (.tmp 17), none⟩]
def k85_2 : VC := .reg [⟨(some 18), .mv (.tmp 10), none⟩,
    ⟨(some 19), .not (.tmp 18), none⟩]
def k85_3 : VC := .reg [⟨(some 20), .mv (.tmp 0), none⟩,
    ⟨(some 8), .mv (.tmp 20), none⟩]
def k85_4 : VC := .seq k85_3 .ret
def k85_5 : VC := .cond (.tmp 19) k85_4 .skip
def k85_6 : VC := .seq k85_2 k85_5
def k85_7 : VC := .regD [⟨(some 21), .mv (.tmp 0), none⟩,
    ⟨(some 22), .mv (.tmp 1), none⟩,
    ⟨(some 23), .sliceS (.tmp 21) none (some (.tmp 22)), none⟩,
    ⟨(some 24), .mv (.tmp 3), none⟩,
    ⟨(some 25), .mv (.tmp 2), none⟩,
    ⟨(some 26), .callF 64 [(.tmp 24), (.tmp 25)], none⟩,
    ⟨(some 27), .bin .add (.tmp 23) (.tmp 26), none⟩,
    ⟨(some 28), .mv (.tmp 0), none⟩,
    ⟨(some 29), .mv (.tmp 1), none⟩,
    ⟨(some 30), .mv (.tmp 2), none⟩,
    ⟨(some 31), .bin .add (.tmp 29) (.tmp 30), none⟩,
    ⟨(some 32), .sliceS (.tmp 28) (some (.tmp 31)) none, none⟩,
    ⟨(some 33), .bin .add (.tmp 27) (.tmp 32), none⟩,
    ⟨(some 8), .mv (.tmp 33), none⟩] []
def k85_8 : VC := .seq k85_7 .ret
def k85_9 : VC := .seq k85_6 k85_8
def k85_10 : VC := .seq k85_1 k85_9
def k85_11 : VC := .seq k85_0 k85_10
def fn85 : VFn := ⟨34, k85_11, [.tmp 8]⟩
/- 29: cloakroom/cloakroomref10.Get -/
def k29_0 : VC := .reg [⟨(some 2), .alloc [(.bool false), (.int .i64 0), (.int .u64 0), (.bool false), (.int .i64 0)], none⟩,
    ⟨(some 3), .mv (.const (.string ⟨⟨[]⟩⟩)), none⟩,
    ⟨(some 4), .mv (.const (.int .i64 0)), none⟩]
def k29_1 : VC := .reg [⟨(some 7), .mv (.tmp 0), none⟩,
    ⟨(some 8), .lenS (.tmp 7), none⟩,
    ⟨(some 9), .bin .lss (.tmp 8) (.const (.int .i64 18)), none⟩]
def k29_2 : VC := .reg [⟨(some 10), .build [(.bool false), (.int .i64 0), (.int .u64 0), (.bool false), (.int .i64 0)] [], none⟩,
    ⟨none, .store 5 (.tmp 2) (.tmp 10), none⟩,
    ⟨(some 3), .mv (.const (.string ⟨⟨[]⟩⟩)), none⟩,
    ⟨(some 4), .mv (.const (.int .i64 2)), none⟩]
def k29_3 : VC := .seq k29_2 .ret
def k29_4 : VC := .cond (.tmp 9) k29_3 .skip
def k29_5 : VC := .seq k29_1 k29_4
def k29_6 : VC := .reg [⟨(some 11), .mv (.tmp 0), none⟩,
    ⟨(some 12), .sliceS (.tmp 11) none (some (.const (.int .i64 3))), none⟩,
    ⟨(some 13), .bin .neq (.tmp 12) (.const (.string ⟨⟨[71, 85, 1]⟩⟩)), none⟩,
    ⟨(some 14), .mv (.tmp 13), none⟩,
    ⟨(some 15), .mv (.tmp 0), (some (14, false))⟩,
    ⟨(some 16), .idxS (.tmp 15) (.const (.int .i64 3)), (some (14, false))⟩,
    ⟨(some 17), .bin .neq (.tmp 16) (.const (.int .u8 4)), (some (14, false))⟩,
    ⟨(some 18), .mv (.tmp 17), (some (14, false))⟩,
    ⟨(some 19), .mv (.tmp 0), (some (18, true))⟩,
    ⟨(some 20), .idxS (.tmp 19) (.const (.int .i64 3)), (some (18, true))⟩,
    ⟨(some 21), .bin .neq (.tmp 20) (.const (.int .u8 41)), (some (18, true))⟩,
    ⟨(some 22), .pick (.tmp 18) (.tmp 21) (.const (.bool false)), (some (14, false))⟩,
    ⟨(some 23), .pick (.tmp 14) (.const (.bool true)) (.tmp 22), none⟩,
    ⟨(some 24), .mv (.tmp 23), none⟩,
    ⟨(some 25), .mv (.tmp 0), (some (24, false))⟩,
    ⟨(some 26), .idxS (.tmp 25) (.const (.int .i64 6)), (some (24, false))⟩,
    ⟨(some 27), .bin .gtr (.tmp 26) (.const (.int .u8 1)), (some (24, false))⟩,
    ⟨(some 28), .pick (.tmp 24) (.const (.bool true)) (.tmp 27), none⟩]
def k29_7 : VC := .reg [⟨(some 29), .build [(.bool false), (.int .i64 0), (.int .u64 0), (.bool false), (.int .i64 0)] [], none⟩,
    ⟨none, .store 5 (.tmp 2) (.tmp 29), none⟩,
    ⟨(some 3), .mv (.const (.string ⟨⟨[]⟩⟩)), none⟩,
    ⟨(some 4), .mv (.const (.int .i64 3)), none⟩]
def k29_8 : VC := .seq k29_7 .ret
def k29_9 : VC := .cond (.tmp 28) k29_8 .skip
def k29_10 : VC := .seq k29_6 k29_9
def k29_11 : VC := .reg [⟨(some 30), .mv (.tmp 0), none⟩,
    ⟨(some 31), .lenS (.tmp 30), none⟩,
    ⟨(some 32), .bin .gtr (.tmp 31) (.const (.int .i64 9018)), none⟩]
def k29_12 : VC := .reg [⟨(some 33), .build [(.bool false), (.int .i64 0), (.int .u64 0), (.bool false), (.int .i64 0)] [], none⟩,
    ⟨none, .store 5 (.tmp 2) (.tmp 33), none⟩,
    ⟨(some 3), .mv (.const (.string ⟨⟨[]⟩⟩)), none⟩,
    ⟨(some 4), .mv (.const (.int .i64 5)), none⟩]
def k29_13 : VC := .seq k29_12 .ret
def k29_14 : VC := .cond (.tmp 32) k29_13 .skip
def k29_15 : VC := .seq k29_11 k29_14
def k29_16 : VC := .reg [⟨(some 34), .mv (.tmp 0), none⟩,
    ⟨(some 35), .sliceS (.tmp 34) none (some (.const (.int .i64 18))), none⟩,
    ⟨(some 36), .callF 89 [(.tmp 35)], none⟩,
    ⟨(some 37), .bin .neq (.tmp 36) (.const (.int .i64 65535)), none⟩]
def k29_17 : VC := .reg [⟨(some 38), .build [(.bool false), (.int .i64 0), (.int .u64 0), (.bool false), (.int .i64 0)] [], none⟩,
    ⟨none, .store 5 (.tmp 2) (.tmp 38), none⟩,
    ⟨(some 3), .mv (.const (.string ⟨⟨[]⟩⟩)), none⟩,
    ⟨(some 4), .mv (.const (.int .i64 4)), none⟩]
def k29_18 : VC := .seq k29_17 .ret
def k29_19 : VC := .cond (.tmp 37) k29_18 .skip
def k29_20 : VC := .seq k29_16 k29_19
def k29_21 : VC := .reg [⟨(some 40), .mv (.tmp 0), none⟩,
    ⟨(some 41), .callF 60 [(.tmp 40), (.const (.int .i64 10)), (.const (.int .i64 8))], none⟩,
    ⟨(some 39), .mv (.tmp 41), none⟩,
    ⟨(some 42), .extract 0 (.tmp 39), none⟩,
    ⟨(some 43), .extract 1 (.tmp 39), none⟩,
    ⟨(some 5), .mv (.tmp 42), none⟩,
    ⟨(some 6), .mv (.tmp 43), none⟩]
def k29_22 : VC := .regD [⟨(some 44), .mv (.tmp 0), none⟩,
    ⟨(some 45), .idxS (.tmp 44) (.const (.int .i64 3)), none⟩,
    ⟨(some 46), .bin .eql (.tmp 45) (.const (.int .u8 41)), none⟩,
    ⟨(some 47), .mv (.tmp 0), none⟩,
    ⟨(some 48), .callF 79 [(.tmp 47), (.const (.int .i64 4)), (.const (.int .i64 2))], none⟩,
    ⟨(some 49), .mv (.tmp 5), none⟩,
    ⟨(some 50), .mv (.tmp 0), none⟩,
    ⟨(some 51), .idxS (.tmp 50) (.const (.int .i64 6)), none⟩,
    ⟨(some 52), .bin .eql (.tmp 51) (.const (.int .u8 1)), none⟩,
    ⟨(some 53), .mv (.tmp 0), none⟩,
    ⟨(some 54), .idxS (.tmp 53) (.const (.int .i64 7)), none⟩,
    ⟨(some 55), .conv .i64 (.tmp 54), none⟩,
    ⟨(some 56), .build [(.bool false), (.int .i64 0), (.int .u64 0), (.bool false), (.int .i64 0)] [(0, 1, (.tmp 46)), (1, 1, (.tmp 48)), (2, 1, (.tmp 49)), (3, 1, (.tmp 52)), (4, 1, (.tmp 55))], none⟩,
    ⟨(some 57), .mv (.tmp 0), none⟩,
    ⟨(some 58), .sliceS (.tmp 57) (some (.const (.int .i64 18))) none, none⟩,
    ⟨none, .store 5 (.tmp 2) (.tmp 56), none⟩,
    ⟨(some 3), .mv (.tmp 58), none⟩,
    ⟨(some 4), .mv (.const (.int .i64 0)), none⟩] []
def k29_23 : VC := .seq k29_22 .ret
def k29_24 : VC := .seq k29_21 k29_23
def k29_25 : VC := .seq k29_20 k29_24
def k29_26 : VC := .seq k29_15 k29_25
def k29_27 : VC := .seq k29_10 k29_26
def k29_28 : VC := .seq k29_5 k29_27
def k29_29 : VC := .seq k29_0 k29_28
def fn29 : VFn := ⟨59, k29_29, [.cell 2 [.bool, (.int .i64), (.int .u64), .bool, (.int .i64)] true, .tmp 3, .tmp 4]⟩
/- 6: cloakroom/cloakroomlaw10.GueBack -/
def k6_0 : VC := .reg [⟨(some 3), .box (.tmp 0), none⟩,
    ⟨(some 6), .mv (.const (.bool false)), none⟩]
def k6_1 : VC := .reg [⟨(some 17), .mv (.tmp 1), none⟩,
    ⟨(some 18), .lenS (.tmp 17), none⟩,
    ⟨(some 19), .bin .gtr (.tmp 18) (.const (.int .i64 200)), none⟩]
def k6_2 : VC := .reg [⟨(some 20), .callF 25 [], none⟩,
    ⟨(some 6), .mv (.tmp 20), none⟩]
def k6_3 : VC := .seq k6_2 .ret
def k6_4 : VC := .cond (.tmp 19) k6_3 .skip
def k6_5 : VC := .seq k6_1 k6_4
def k6_6 : VC := .reg [⟨(some 22), .loadN [.bool, (.int .i64), (.int .u64), .bool, (.int .i64)] (.tmp 3), none⟩,
    ⟨(some 23), .mv (.tmp 1), none⟩,
    ⟨(some 24), .callF 26 [(.tmp 22), (.tmp 23)], none⟩,
    ⟨(some 21), .mv (.tmp 24), none⟩,
    ⟨(some 25), .extract 0 (.tmp 21), none⟩,
    ⟨(some 26), .extract 1 (.tmp 21), none⟩,
    ⟨(some 7), .mv (.tmp 25), none⟩,
    ⟨(some 8), .mv (.tmp 26), none⟩]
def k6_7 : VC := .reg [⟨(some 27), .mv (.tmp 8), none⟩,
    ⟨(some 28), .bin .neq (.tmp 27) (.const (.int .i64 0)), none⟩]
def k6_8 : VC := .reg [⟨(some 29), .mv (.tmp 7), none⟩,
    ⟨(some 30), .bin .eql (.tmp 29) (.const (.string ⟨⟨[]⟩⟩)), none⟩,
    ⟨(some 31), .mv (.tmp 30), none⟩,
    ⟨(some 32), .callF 25 [], (some (31, true))⟩,
    ⟨(some 33), .pick (.tmp 31) (.tmp 32) (.const (.bool false)), none⟩,
    ⟨(some 6), .mv (.tmp 33), none⟩]
def k6_9 : VC := .seq k6_8 .ret
def k6_10 : VC := .cond (.tmp 28) k6_9 .skip
def k6_11 : VC := .seq k6_7 k6_10
def k6_12 : VC := .reg [⟨(some 35), .mv (.tmp 7), none⟩,
    ⟨(some 36), .callF 28 [(.tmp 35)], none⟩,
    ⟨(some 34), .mv (.tmp 36), none⟩,
    ⟨(some 37), .extract 0 (.tmp 34), none⟩,
    ⟨(some 38), .extract 1 (.tmp 34), none⟩,
    ⟨(some 39), .extract 2 (.tmp 34), none⟩,
    ⟨(some 9), .alloc [(.bool false), (.int .i64 0), (.int .u64 0), (.bool false), (.int .i64 0)], none⟩,
    ⟨none, .store 5 (.tmp 9) (.tmp 37), none⟩,
    ⟨(some 10), .mv (.tmp 38), none⟩,
    ⟨(some 11), .mv (.tmp 39), none⟩]
def k6_13 : VC := .reg [⟨(some 40), .mv (.tmp 11), none⟩,
    ⟨(some 41), .bin .neq (.tmp 40) (.const (.int .i64 0)), none⟩,
    ⟨(some 42), .mv (.tmp 41), none⟩,
    ⟨(some 43), .loadN [.bool, (.int .i64), (.int .u64), .bool, (.int .i64)] (.tmp 9), (some (42, false))⟩,
    ⟨(some 44), .loadN [.bool, (.int .i64), (.int .u64), .bool, (.int .i64)] (.tmp 3), (some (42, false))⟩,
    ⟨(some 45), .eqAgg true [(0, .bool), (1, (.int .i64)), (2, (.int .u64)), (3, .bool), (4, (.int .i64))] (.tmp 43) (.tmp 44), (some (42, false))⟩,
    ⟨(some 46), .pick (.tmp 42) (.const (.bool true)) (.tmp 45), none⟩,
    ⟨(some 47), .mv (.tmp 46), none⟩,
    ⟨(some 48), .mv (.tmp 10), (some (47, false))⟩,
    ⟨(some 49), .mv (.tmp 1), (some (47, false))⟩,
    ⟨(some 50), .bin .neq (.tmp 48) (.tmp 49), (some (47, false))⟩,
    ⟨(some 51), .pick (.tmp 47) (.const (.bool true)) (.tmp 50), none⟩,
    ⟨(some 52), .mv (.tmp 51), none⟩,
    ⟨(some 53), .mv (.tmp 7), (some (52, false))⟩,
    ⟨(some 54), .lenS (.tmp 53), (some (52, false))⟩,
    ⟨(some 55), .mv (.tmp 1), (some (52, false))⟩,
    ⟨(some 56), .lenS (.tmp 55), (some (52, false))⟩,
    ⟨(some 57), .bin .add (.const (.int .i64 18)) (.tmp 56), (some (52, false))⟩,
    ⟨(some 58), .bin .neq (.tmp 54) (.tmp 57), (some (52, false))⟩,
    ⟨(some 59), .pick (.tmp 52) (.const (.bool true)) (.tmp 58), none⟩]
def k6_14 : VC := .reg [⟨(some 6), .mv (.const (.bool false)), none⟩]
def k6_15 : VC := .seq k6_14 .ret
def k6_16 : VC := .cond (.tmp 59) k6_15 .skip
def k6_17 : VC := .seq k6_13 k6_16
def k6_18 : VC := .reg [⟨(some 60), .mv (.tmp 2), none⟩,
    ⟨(some 61), .conv .i64 (.tmp 60), none⟩,
    ⟨(some 62), .bin .rem (.tmp 61) (.const (.int .i64 144)), none⟩,
    ⟨(some 12), .mv (.tmp 62), none⟩]
def k6_19 : VC := .reg [⟨(some 63), .mv (.tmp 7), none⟩,
    ⟨(some 64), .s2b (.tmp 63), none⟩,
    ⟨(some 13), .mv (.tmp 64), none⟩]
def k6_20 : VC := .regD [⟨(some 65), .mv (.tmp 13), none⟩,
    ⟨(some 66), .mv (.tmp 12), none⟩,
    ⟨(some 67), .bin .quo (.tmp 66) (.const (.int .i64 8)), none⟩,
    ⟨(some 68), .mv (.tmp 13), none⟩,
    ⟨(some 69), .mv (.tmp 12), none⟩,
    ⟨(some 70), .bin .quo (.tmp 69) (.const (.int .i64 8)), none⟩,
    ⟨(some 71), .idxAL 1 (.tmp 68) (.tmp 70), none⟩,
    ⟨(some 72), .load1 (.int .u8) (.tmp 71), none⟩,
    ⟨(some 73), .mv (.tmp 12), none⟩,
    ⟨(some 74), .bin .rem (.tmp 73) (.const (.int .i64 8)), none⟩,
    ⟨(some 75), .bin .shl (.const (.int .u8 1)) (.tmp 74), none⟩,
    ⟨(some 76), .bin .xor (.tmp 72) (.tmp 75), none⟩,
    ⟨(some 77), .idxAL 1 (.tmp 65) (.tmp 67), none⟩,
    ⟨none, .store 1 (.tmp 77) (.tmp 76), none⟩] []
def k6_21 : VC := .reg [⟨(some 79), .mv (.tmp 13), none⟩,
    ⟨(some 80), .b2s (.tmp 79), none⟩,
    ⟨(some 81), .callF 28 [(.tmp 80)], none⟩,
    ⟨(some 78), .mv (.tmp 81), none⟩,
    ⟨(some 82), .extract 0 (.tmp 78), none⟩,
    ⟨(some 83), .extract 1 (.tmp 78), none⟩,
    ⟨(some 84), .extract 2 (.tmp 78), none⟩,
    ⟨(some 14), .alloc [(.bool false), (.int .i64 0), (.int .u64 0), (.bool false), (.int .i64 0)], none⟩,
    ⟨none, .store 5 (.tmp 14) (.tmp 82), none⟩,
    ⟨(some 15), .mv (.tmp 83), none⟩,
    ⟨(some 16), .mv (.tmp 84), none⟩]
def k6_22 : VC := .reg [⟨(some 85), .mv (.tmp 16), none⟩,
    ⟨(some 86), .bin .neq (.tmp 85) (.const (.int .i64 0)), none⟩,
    ⟨(some 87), .mv (.tmp 86), none⟩,
    ⟨(some 88), .callF 25 [], (some (87, true))⟩,
    ⟨(some 89), .pick (.tmp 87) (.tmp 88) (.const (.bool false)), none⟩,
    ⟨(some 6), .mv (.tmp 89), none⟩]
def k6_23 : VC := .seq k6_22 .ret
def k6_24 : VC := .seq k6_21 k6_23
def k6_25 : VC := .seq k6_20 k6_24
def k6_26 : VC := .seq k6_19 k6_25
def k6_27 : VC := .seq k6_18 k6_26
def k6_28 : VC := .seq k6_17 k6_27
def k6_29 : VC := .seq k6_12 k6_28
def k6_30 : VC := .seq k6_11 k6_29
def k6_31 : VC := .seq k6_6 k6_30
def k6_32 : VC := .seq k6_5 k6_31
def k6_33 : VC := .seq k6_0 k6_32
def fn6 : VFn := ⟨90, k6_33, [.tmp 6]⟩
/- 7: cloakroom/cloakroomlaw14.CookieTells -/
def k7_0 : VC := .reg [⟨(some 6), .box (.tmp 0), none⟩,
    ⟨(some 7), .box (.tmp 1), none⟩,
    ⟨(some 8), .box (.tmp 2), none⟩,
    ⟨(some 12), .mv (.const (.bool false)), none⟩]
def k7_1 : VC := .reg [⟨(some 34), .loadN [.bool, (.int .i64), (.int .i64)] (.tmp 6), none⟩,
    ⟨(some 35), .mv (.tmp 3), none⟩,
    ⟨(some 36), .mv (.tmp 4), none⟩,
    ⟨(some 37), .callF 30 [(.tmp 34), (.tmp 35), (.tmp 36)], none⟩,
    ⟨(some 33), .mv (.tmp 37), none⟩,
    ⟨(some 38), .extract 0 (.tmp 33), none⟩,
    ⟨(some 39), .extract 1 (.tmp 33), none⟩,
    ⟨(some 13), .mv (.tmp 38), none⟩,
    ⟨(some 14), .mv (.tmp 39), none⟩]
def k7_2 : VC := .reg [⟨(some 41), .loadN [.bool, (.int .i64), (.int .i64)] (.tmp 6), none⟩,
    ⟨(some 42), .mv (.tmp 3), none⟩,
    ⟨(some 43), .mv (.tmp 4), none⟩,
    ⟨(some 44), .callF 31 [(.tmp 41), (.tmp 42), (.tmp 43)], none⟩,
    ⟨(some 40), .mv (.tmp 44), none⟩,
    ⟨(some 45), .extract 0 (.tmp 40), none⟩,
    ⟨(some 46), .extract 1 (.tmp 40), none⟩,
    ⟨(some 15), .mv (.tmp 45), none⟩,
    ⟨(some 16), .mv (.tmp 46), none⟩]
def k7_3 : VC := .reg [⟨(some 48), .loadN [.bool, (.int .i64), (.int .i64)] (.tmp 6), none⟩,
    ⟨(some 49), .mv (.tmp 5), none⟩,
    ⟨(some 50), .callF 32 [(.tmp 48), (.tmp 49)], none⟩,
    ⟨(some 47), .mv (.tmp 50), none⟩,
    ⟨(some 51), .extract 0 (.tmp 47), none⟩,
    ⟨(some 52), .extract 1 (.tmp 47), none⟩,
    ⟨(some 53), .extract 2 (.tmp 47), none⟩,
    ⟨(some 17), .mv (.tmp 51), none⟩,
    ⟨(some 18), .mv (.tmp 52), none⟩,
    ⟨(some 19), .mv (.tmp 53), none⟩]
def k7_4 : VC := .reg [⟨(some 55), .loadN [.bool, (.int .i64), (.int .i64)] (.tmp 6), none⟩,
    ⟨(some 56), .mv (.tmp 5), none⟩,
    ⟨(some 57), .callF 33 [(.tmp 55), (.tmp 56)], none⟩,
    ⟨(some 54), .mv (.tmp 57), none⟩,
    ⟨(some 58), .extract 0 (.tmp 54), none⟩,
    ⟨(some 59), .extract 1 (.tmp 54), none⟩,
    ⟨(some 60), .extract 2 (.tmp 54), none⟩,
    ⟨(some 20), .mv (.tmp 58), none⟩,
    ⟨(some 21), .mv (.tmp 59), none⟩,
    ⟨(some 22), .mv (.tmp 60), none⟩]
def k7_5 : VC := .reg [⟨(some 62), .loadN [.bool, (.int .i64), (.int .i64)] (.tmp 6), none⟩,
    ⟨(some 63), .loadN [(.int .u64), (.int .u64)] (.tmp 7), none⟩,
    ⟨(some 64), .loadN [(.int .i64), .bool, (.int .u64), (.int .u64), .bool, (.int .u64), (.int .u64), (.int .i64), (.int .i64)] (.tmp 8), none⟩,
    ⟨(some 65), .mv (.tmp 3), none⟩,
    ⟨(some 66), .mv (.tmp 4), none⟩,
    ⟨(some 67), .callF 34 [(.tmp 62), (.tmp 63), (.tmp 64), (.tmp 65), (.tmp 66)], none⟩,
    ⟨(some 61), .mv (.tmp 67), none⟩,
    ⟨(some 68), .extract 0 (.tmp 61), none⟩,
    ⟨(some 69), .extract 1 (.tmp 61), none⟩,
    ⟨(some 23), .mv (.tmp 68), none⟩,
    ⟨(some 24), .mv (.tmp 69), none⟩]
def k7_6 : VC := .reg [⟨(some 71), .loadN [.bool, (.int .i64), (.int .i64)] (.tmp 6), none⟩,
    ⟨(some 72), .loadN [(.int .u64), (.int .u64)] (.tmp 7), none⟩,
    ⟨(some 73), .loadN [(.int .i64), .bool, (.int .u64), (.int .u64), .bool, (.int .u64), (.int .u64), (.int .i64), (.int .i64)] (.tmp 8), none⟩,
    ⟨(some 74), .mv (.tmp 3), none⟩,
    ⟨(some 75), .mv (.tmp 4), none⟩,
    ⟨(some 76), .callF 35 [(.tmp 71), (.tmp 72), (.tmp 73), (.tmp 74), (.tmp 75)], none⟩,
    ⟨(some 70), .mv (.tmp 76), none⟩,
    ⟨(some 77), .extract 0 (.tmp 70), none⟩,
    ⟨(some 78), .extract 1 (.tmp 70), none⟩,
    ⟨(some 25), .mv (.tmp 77), none⟩,
    ⟨(some 26), .mv (.tmp 78), none⟩]
def k7_7 : VC := .reg [⟨(some 80), .loadN [.bool, (.int .i64), (.int .i64)] (.tmp 6), none⟩,
    ⟨(some 81), .loadN [(.int .u64), (.int .u64)] (.tmp 7), none⟩,
    ⟨(some 82), .loadN [(.int .i64), .bool, (.int .u64), (.int .u64), .bool, (.int .u64), (.int .u64), (.int .i64), (.int .i64)] (.tmp 8), none⟩,
    ⟨(some 83), .mv (.tmp 5), none⟩,
    ⟨(some 84), .callF 36 [(.tmp 80), (.tmp 81), (.tmp 82), (.tmp 83)], none⟩,
    ⟨(some 79), .mv (.tmp 84), none⟩,
    ⟨(some 85), .extract 0 (.tmp 79), none⟩,
    ⟨(some 86), .extract 1 (.tmp 79), none⟩,
    ⟨(some 87), .extract 2 (.tmp 79), none⟩,
    ⟨(some 27), .mv (.tmp 85), none⟩,
    ⟨(some 28), .mv (.tmp 86), none⟩,
    ⟨(some 29), .mv (.tmp 87), none⟩]
def k7_8 : VC := .reg [⟨(some 89), .loadN [.bool, (.int .i64), (.int .i64)] (.tmp 6), none⟩,
    ⟨(some 90), .loadN [(.int .u64), (.int .u64)] (.tmp 7), none⟩,
    ⟨(some 91), .loadN [(.int .i64), .bool, (.int .u64), (.int .u64), .bool, (.int .u64), (.int .u64), (.int .i64), (.int .i64)] (.tmp 8), none⟩,
    ⟨(some 92), .mv (.tmp 5), none⟩,
    ⟨(some 93), .callF 37 [(.tmp 89), (.tmp 90), (.tmp 91), (.tmp 92)], none⟩,
    ⟨(some 88), .mv (.tmp 93), none⟩,
    ⟨(some 94), .extract 0 (.tmp 88), none⟩,
    ⟨(some 95), .extract 1 (.tmp 88), none⟩,
    ⟨(some 96), .extract 2 (.tmp 88), none⟩,
    ⟨(some 30), .mv (.tmp 94), none⟩,
    ⟨(some 31), .mv (.tmp 95), none⟩,
    ⟨(some 32), .mv (.tmp 96), none⟩]
def k7_9 : VC := .regD [⟨(some 97), .loadN [.bool, (.int .i64), (.int .i64)] (.tmp 6), none⟩,
    ⟨(some 98), .callF 38 [(.tmp 97)], none⟩,
    ⟨(some 99), .loadN [.bool, (.int .i64), (.int .i64)] (.tmp 6), none⟩,
    ⟨(some 100), .callF 39 [(.tmp 99)], none⟩,
    ⟨(some 101), .eqB false (.tmp 98) (.tmp 100), none⟩,
    ⟨(some 102), .mv (.tmp 101), none⟩,
    ⟨(some 103), .loadN [.bool, (.int .i64), (.int .i64)] (.tmp 6), (some (102, true))⟩,
    ⟨(some 104), .callF 40 [(.tmp 103)], (some (102, true))⟩,
    ⟨(some 105), .loadN [.bool, (.int .i64), (.int .i64)] (.tmp 6), (some (102, true))⟩,
    ⟨(some 106), .callF 41 [(.tmp 105)], (some (102, true))⟩,
    ⟨(some 107), .bin .eql (.tmp 104) (.tmp 106), (some (102, true))⟩,
    ⟨(some 108), .pick (.tmp 102) (.tmp 107) (.const (.bool false)), none⟩,
    ⟨(some 109), .mv (.tmp 108), none⟩,
    ⟨(some 110), .mv (.tmp 13), (some (109, true))⟩,
    ⟨(some 111), .mv (.tmp 15), (some (109, true))⟩,
    ⟨(some 112), .bin .eql (.tmp 110) (.tmp 111), (some (109, true))⟩,
    ⟨(some 113), .pick (.tmp 109) (.tmp 112) (.const (.bool false)), none⟩,
    ⟨(some 114), .mv (.tmp 113), none⟩,
    ⟨(some 115), .mv (.tmp 14), (some (114, true))⟩,
    ⟨(some 116), .mv (.tmp 16), (some (114, true))⟩,
    ⟨(some 117), .eqB false (.tmp 115) (.tmp 116), (some (114, true))⟩,
    ⟨(some 118), .pick (.tmp 114) (.tmp 117) (.const (.bool false)), none⟩,
    ⟨(some 119), .mv (.tmp 118), none⟩,
    ⟨(some 120), .mv (.tmp 17), (some (119, true))⟩,
    ⟨(some 121), .mv (.tmp 20), (some (119, true))⟩,
    ⟨(some 122), .bin .eql (.tmp 120) (.tmp 121), (some (119, true))⟩,
    ⟨(some 123), .pick (.tmp 119) (.tmp 122) (.const (.bool false)), none⟩,
    ⟨(some 124), .mv (.tmp 123), none⟩,
    ⟨(some 125), .mv (.tmp 18), (some (124, true))⟩,
    ⟨(some 126), .mv (.tmp 21), (some (124, true))⟩,
    ⟨(some 127), .bin .eql (.tmp 125) (.tmp 126), (some (124, true))⟩,
    ⟨(some 128), .pick (.tmp 124) (.tmp 127) (.const (.bool false)), none⟩,
    ⟨(some 129), .mv (.tmp 128), none⟩,
    ⟨(some 130), .mv (.tmp 19), (some (129, true))⟩,
    ⟨(some 131), .mv (.tmp 22), (some (129, true))⟩,
    ⟨(some 132), .eqB false (.tmp 130) (.tmp 131), (some (129, true))⟩,
    ⟨(some 133), .pick (.tmp 129) (.tmp 132) (.const (.bool false)), none⟩,
    ⟨(some 134), .mv (.tmp 133), none⟩,
    ⟨(some 135), .mv (.tmp 23), (some (134, true))⟩,
    ⟨(some 136), .mv (.tmp 25), (some (134, true))⟩,
    ⟨(some 137), .bin .eql (.tmp 135) (.tmp 136), (some (134, true))⟩,
    ⟨(some 138), .pick (.tmp 134) (.tmp 137) (.const (.bool false)), none⟩,
    ⟨(some 139), .mv (.tmp 138), none⟩,
    ⟨(some 140), .mv (.tmp 24), (some (139, true))⟩,
    ⟨(some 141), .mv (.tmp 26), (some (139, true))⟩,
    ⟨(some 142), .eqB false (.tmp 140) (.tmp 141), (some (139, true))⟩,
    ⟨(some 143), .pick (.tmp 139) (.tmp 142) (.const (.bool false)), none⟩,
    ⟨(some 144), .mv (.tmp 143), none⟩,
    ⟨(some 145), .mv (.tmp 27), (some (144, true))⟩,
    ⟨(some 146), .mv (.tmp 30), (some (144, true))⟩,
    ⟨(some 147), .bin .eql (.tmp 145) (.tmp 146), (some (144, true))⟩,
    ⟨(some 148), .pick (.tmp 144) (.tmp 147) (.const (.bool false)), none⟩,
    ⟨(some 149), .mv (.tmp 148), none⟩,
    ⟨(some 150), .mv (.tmp 28), (some (149, true))⟩,
    ⟨(some 151), .mv (.tmp 31), (some (149, true))⟩,
    ⟨(some 152), .bin .eql (.tmp 150) (.tmp 151), (some (149, true))⟩,
    ⟨(some 153), .pick (.tmp 149) (.tmp 152) (.const (.bool false)), none⟩,
    ⟨(some 154), .mv (.tmp 153), none⟩,
    ⟨(some 155), .mv (.tmp 29), (some (154, true))⟩,
    ⟨(some 156), .mv (.tmp 32), (some (154, true))⟩,
    ⟨(some 157), .eqB false (.tmp 155) (.tmp 156), (some (154, true))⟩,
    ⟨(some 158), .pick (.tmp 154) (.tmp 157) (.const (.bool false)), none⟩,
    ⟨(some 159), .mv (.tmp 158), none⟩,
    ⟨(some 160), .loadN [.bool, (.int .i64), (.int .i64)] (.tmp 6), (some (159, true))⟩,
    ⟨(some 161), .loadN [(.int .u64), (.int .u64)] (.tmp 7), (some (159, true))⟩,
    ⟨(some 162), .loadN [(.int .i64), .bool, (.int .u64), (.int .u64), .bool, (.int .u64), (.int .u64), (.int .i64), (.int .i64)] (.tmp 8), (some (159, true))⟩,
    ⟨(some 163), .mv (.tmp 5), (some (159, true))⟩,
    ⟨(some 164), .callF 42 [(.tmp 160), (.tmp 161), (.tmp 162), (.tmp 163)], (some (159, true))⟩,
    ⟨(some 165), .loadN [.bool, (.int .i64), (.int .i64)] (.tmp 6), (some (159, true))⟩,
    ⟨(some 166), .loadN [(.int .u64), (.int .u64)] (.tmp 7), (some (159, true))⟩,
    ⟨(some 167), .loadN [(.int .i64), .bool, (.int .u64), (.int .u64), .bool, (.int .u64), (.int .u64), (.int .i64), (.int .i64)] (.tmp 8), (some (159, true))⟩,
    ⟨(some 168), .mv (.tmp 5), (some (159, true))⟩,
    ⟨(some 169), .callF 43 [(.tmp 165), (.tmp 166), (.tmp 167), (.tmp 168)], (some (159, true))⟩,
    ⟨(some 170), .bin .eql (.tmp 164) (.tmp 169), (some (159, true))⟩,
    ⟨(some 171), .pick (.tmp 159) (.tmp 170) (.const (.bool false)), none⟩,
    ⟨(some 172), .mv (.tmp 171), none⟩,
    ⟨(some 173), .callF 44 [], (some (172, true))⟩,
    ⟨(some 174), .pick (.tmp 172) (.tmp 173) (.const (.bool false)), none⟩,
    ⟨(some 12), .mv (.tmp 174), none⟩] [(1, 2), (7, 8), (67, 68), (67, 69), (67, 70)]
def k7_10 : VC := .seq k7_9 .ret
def k7_11 : VC := .seq k7_8 k7_10
def k7_12 : VC := .seq k7_7 k7_11
def k7_13 : VC := .seq k7_6 k7_12
def k7_14 : VC := .seq k7_5 k7_13
def k7_15 : VC := .seq k7_4 k7_14
def k7_16 : VC := .seq k7_3 k7_15
def k7_17 : VC := .seq k7_2 k7_16
def k7_18 : VC := .seq k7_1 k7_17
def k7_19 : VC := .seq k7_0 k7_18
def fn7 : VFn := ⟨175, k7_19, [.tmp 12]⟩
/- 30: cloakroom/cookie.Pack -/
def k30_0 : VC := .reg [⟨(some 3), .box (.tmp 0), none⟩,
    ⟨(some 6), .mv (.const (.int .u64 0)), none⟩,
    ⟨(some 7), .mv (.const (.bool false)), none⟩]
def k30_1 : VC := .reg [⟨(some 8), .loadN [.bool, (.int .i64), (.int .i64)] (.tmp 3), none⟩,
    ⟨(some 9), .callF 38 [(.tmp 8)], none⟩,
    ⟨(some 10), .not (.tmp 9), none⟩,
    ⟨(some 11), .mv (.tmp 10), none⟩,
    ⟨(some 12), .mv (.tmp 1), (some (11, false))⟩,
    ⟨(some 13), .bin .lss (.tmp 12) (.const (.int .i64 0)), (some (11, false))⟩,
    ⟨(some 14), .pick (.tmp 11) (.const (.bool true)) (.tmp 13), none⟩,
    ⟨(some 15), .mv (.tmp 14), none⟩,
    ⟨(some 16), .mv (.tmp 1), (some (15, false))⟩,
    ⟨(some 17), .fieldA 1 (.tmp 3), (some (15, false))⟩,
    ⟨(some 18), .load1 (.int .i64) (.tmp 17), (some (15, false))⟩,
    ⟨(some 19), .bin .shr (.tmp 16) (.tmp 18), (some (15, false))⟩,
    ⟨(some 20), .bin .neq (.tmp 19) (.const (.int .i64 0)), (some (15, false))⟩,
    ⟨(some 21), .pick (.tmp 15) (.const (.bool true)) (.tmp 20), none⟩]
def k30_2 : VC := .reg [⟨(some 6), .mv (.const (.int .u64 0)), none⟩,
    ⟨(some 7), .mv (.const (.bool false)), none⟩]
def k30_3 : VC := .seq k30_2 .ret
def k30_4 : VC := .cond (.tmp 21) k30_3 .skip
def k30_5 : VC := .seq k30_1 k30_4
def k30_6 : VC := .regD [⟨(some 22), .mv (.tmp 2), none⟩,
    ⟨(some 23), .fieldA 2 (.tmp 3), none⟩,
    ⟨(some 24), .load1 (.int .i64) (.tmp 23), none⟩,
    ⟨(some 25), .callF 90 [(.tmp 24)], none⟩,
    ⟨(some 26), .bin .and (.tmp 22) (.tmp 25), none⟩,
    ⟨(some 27), .fieldA 1 (.tmp 3), none⟩,
    ⟨(some 28), .load1 (.int .i64) (.tmp 27), none⟩,
    ⟨(some 29), .bin .shl (.tmp 26) (.tmp 28), none⟩,
    ⟨(some 30), .mv (.tmp 1), none⟩,
    ⟨(some 31), .conv .u64 (.tmp 30), none⟩,
    ⟨(some 32), .bin .or (.tmp 29) (.tmp 31), none⟩,
    ⟨(some 6), .mv (.tmp 32), none⟩,
    ⟨(some 7), .mv (.const (.bool true)), none⟩] [(3, 6)]
def k30_7 : VC := .seq k30_6 .ret
def k30_8 : VC := .seq k30_5 k30_7
def k30_9 : VC := .seq k30_0 k30_8
def fn30 : VFn := ⟨33, k30_9, [.tmp 6, .tmp 7]⟩
/- 38: cloakroom/cookie.Right -/
def k38_0 : VC := .reg [⟨(some 1), .box (.tmp 0), none⟩,
    ⟨(some 2), .mv (.const (.bool false)), none⟩]
def k38_1 : VC := .reg [⟨(some 3), .loadN [.bool, (.int .i64), (.int .i64)] (.tmp 1), none⟩,
    ⟨(some 4), .build [(.bool false), (.int .i64 0), (.int .i64 0)] [(0, 3, (.tmp 3))], none⟩,
    ⟨(some 5), .callF 92 [(.tmp 4)], none⟩,
    ⟨(some 2), .mv (.tmp 5), none⟩]
def k38_2 : VC := .seq k38_1 .ret
def k38_3 : VC := .seq k38_0 k38_2
def fn38 : VFn := ⟨6, k38_3, [.tmp 2]⟩
/- 92: (cloakroom/cookie.layout).may -/
def k92_0 : VC := .reg [⟨(some 1), .box (.tmp 0), none⟩,
    ⟨(some 2), .mv (.const (.bool false)), none⟩]
def k92_1 : VC := .reg [⟨(some 3), .fieldA 0 (.tmp 1), none⟩,
    ⟨(some 4), .fieldA 1 (.tmp 3), none⟩,
    ⟨(some 5), .load1 (.int .i64) (.tmp 4), none⟩,
    ⟨(some 6), .bin .lss (.tmp 5) (.const (.int .i64 0)), none⟩,
    ⟨(some 7), .mv (.tmp 6), none⟩,
    ⟨(some 8), .fieldA 0 (.tmp 1), (some (7, false))⟩,
    ⟨(some 9), .fieldA 1 (.tmp 8), (some (7, false))⟩,
    ⟨(some 10), .load1 (.int .i64) (.tmp 9), (some (7, false))⟩,
    ⟨(some 11), .bin .gtr (.tmp 10) (.const (.int .i64 12)), (some (7, false))⟩,
    ⟨(some 12), .pick (.tmp 7) (.const (.bool true)) (.tmp 11), none⟩,
    ⟨(some 13), .mv (.tmp 12), none⟩,
    ⟨(some 14), .fieldA 0 (.tmp 1), (some (13, false))⟩,
    ⟨(some 15), .fieldA 2 (.tmp 14), (some (13, false))⟩,
    ⟨(some 16), .load1 (.int .i64) (.tmp 15), (some (13, false))⟩,
    ⟨(some 17), .bin .lss (.tmp 16) (.const (.int .i64 0)), (some (13, false))⟩,
    ⟨(some 18), .pick (.tmp 13) (.const (.bool true)) (.tmp 17), none⟩]
def k92_2 : VC := .reg [⟨(some 2), .mv (.const (.bool false)), none⟩]
def k92_3 : VC := .seq k92_2 .ret
def k92_4 : VC := .cond (.tmp 18) k92_3 .skip
def k92_5 : VC := .seq k92_1 k92_4
def k92_6 : VC := .regD [⟨(some 19), .fieldA 0 (.tmp 1), none⟩,
    ⟨(some 20), .fieldA 2 (.tmp 19), none⟩,
    ⟨(some 21), .load1 (.int .i64) (.tmp 20), none⟩,
    ⟨(some 22), .loadN [.bool, (.int .i64), (.int .i64)] (.tmp 1), none⟩,
    ⟨(some 23), .callF 93 [(.tmp 22)], none⟩,
    ⟨(some 24), .minmax false [(.tmp 23), (.const (.int .i64 63))], none⟩,
    ⟨(some 25), .fieldA 0 (.tmp 1), none⟩,
    ⟨(some 26), .fieldA 1 (.tmp 25), none⟩,
    ⟨(some 27), .load1 (.int .i64) (.tmp 26), none⟩,
    ⟨(some 28), .bin .sub (.tmp 24) (.tmp 27), none⟩,
    ⟨(some 29), .bin .leq (.tmp 21) (.tmp 28), none⟩,
    ⟨(some 2), .mv (.tmp 29), none⟩] [(2, 4), (4, 8)]
def k92_7 : VC := .seq k92_6 .ret
def k92_8 : VC := .seq k92_5 k92_7
def k92_9 : VC := .seq k92_0 k92_8
def fn92 : VFn := ⟨30, k92_9, [.tmp 2]⟩
/- 93: (cloakroom/cookie.layout).bits -/
def k93_0 : VC := .reg [⟨(some 1), .box (.tmp 0), none⟩,
    ⟨(some 2), .mv (.const (.int .i64 0)), none⟩]
def k93_1 : VC := .reg [⟨(some 3), .fieldA 0 (.tmp 1), none⟩,
    ⟨(some 4), .fieldA 0 (.tmp 3), none⟩,
    ⟨(some 5), .load1 .bool (.tmp 4), none⟩]
def k93_2 : VC := .reg [⟨(some 2), .mv (.const (.int .i64 64)), none⟩]
def k93_3 : VC := .seq k93_2 .ret
def k93_4 : VC := .cond (.tmp 5) k93_3 .skip
def k93_5 : VC := .seq k93_1 k93_4
def k93_6 : VC := .reg [⟨(some 2), .mv (.const (.int .i64 16)), none⟩]
def k93_7 : VC := .seq k93_6 .ret
def k93_8 : VC := .seq k93_5 k93_7
def k93_9 : VC := .seq k93_0 k93_8
def fn93 : VFn := ⟨6, k93_9, [.tmp 2]⟩
/- 90: cloakroom/num.Mask -/
def k90_0 : VC := .reg [⟨(some 2), .mv (.const (.int .u64 0)), none⟩]
def k90_1 : VC := .reg [⟨(some 3), .mv (.tmp 0), none⟩,
    ⟨(some 4), .bin .lss (.tmp 3) (.const (.int .i64 0)), none⟩,
    ⟨(some 5), .mv (.tmp 4), none⟩,
    ⟨(some 6), .mv (.tmp 0), (some (5, false))⟩,
    ⟨(some 7), .bin .gtr (.tmp 6) (.const (.int .i64 64)), (some (5, false))⟩,
    ⟨(some 8), .pick (.tmp 5) (.const (.bool true)) (.tmp 7), none⟩]
def k90_2 : VC := .reg [⟨(some 2), .mv (.const (.int .u64 0)), none⟩]
def k90_3 : VC := .seq k90_2 .ret
def k90_4 : VC := .cond (.tmp 8) k90_3 .skip
def k90_5 : VC := .seq k90_1 k90_4
def k90_6 : VC := .reg [⟨(some 9), .mv (.tmp 0), none⟩,
    ⟨(some 10), .bin .shl (.const (.int .u64 18446744073709551615)) (.tmp 9), none⟩,
    ⟨(some 11), .cmpl (.tmp 10), none⟩,
    ⟨(some 2), .mv (.tmp 11), none⟩]
def k90_7 : VC := .seq k90_6 .ret
def k90_8 : VC := .seq k90_5 k90_7
def k90_9 : VC := .seq k90_0 k90_8
def fn90 : VFn := ⟨12, k90_9, [.tmp 2]⟩
/- 31: cloakroom/cloakroomref14.Pack -/
def k31_0 : VC := .reg [⟨(some 3), .box (.tmp 0), none⟩,
    ⟨(some 6), .mv (.const (.int .u64 0)), none⟩,
    ⟨(some 7), .mv (.const (.bool false)), none⟩]
def k31_1 : VC := .reg [⟨(some 8), .loadN [.bool, (.int .i64), (.int .i64)] (.tmp 3), none⟩,
    ⟨(some 9), .callF 39 [(.tmp 8)], none⟩,
    ⟨(some 10), .not (.tmp 9), none⟩,
    ⟨(some 11), .mv (.tmp 10), none⟩,
    ⟨(some 12), .mv (.tmp 1), (some (11, false))⟩,
    ⟨(some 13), .bin .lss (.tmp 12) (.const (.int .i64 0)), (some (11, false))⟩,
    ⟨(some 14), .pick (.tmp 11) (.const (.bool true)) (.tmp 13), none⟩,
    ⟨(some 15), .mv (.tmp 14), none⟩,
    ⟨(some 16), .mv (.tmp 1), (some (15, false))⟩,
    ⟨(some 17), .conv .u64 (.tmp 16), (some (15, false))⟩,
    ⟨(some 18), .fieldA 1 (.tmp 3), (some (15, false))⟩,
    ⟨(some 19), .load1 (.int .i64) (.tmp 18), (some (15, false))⟩,
    ⟨(some 20), .callF 91 [(.tmp 19)], (some (15, false))⟩,
    ⟨(some 21), .bin .gtr (.tmp 17) (.tmp 20), (some (15, false))⟩,
    ⟨(some 22), .pick (.tmp 15) (.const (.bool true)) (.tmp 21), none⟩]
def k31_2 : VC := .reg [⟨(some 6), .mv (.const (.int .u64 0)), none⟩,
    ⟨(some 7), .mv (.const (.bool false)), none⟩]
def k31_3 : VC := .seq k31_2 .ret
def k31_4 : VC := .cond (.tmp 22) k31_3 .skip
def k31_5 : VC := .seq k31_1 k31_4
def k31_6 : VC := .regD [⟨(some 23), .mv (.tmp 2), none⟩,
    ⟨(some 24), .fieldA 2 (.tmp 3), none⟩,
    ⟨(some 25), .load1 (.int .i64) (.tmp 24), none⟩,
    ⟨(some 26), .callF 91 [(.tmp 25)], none⟩,
    ⟨(some 27), .bin .and (.tmp 23) (.tmp 26), none⟩,
    ⟨(some 28), .fieldA 1 (.tmp 3), none⟩,
    ⟨(some 29), .load1 (.int .i64) (.tmp 28), none⟩,
    ⟨(some 30), .callF 91 [(.tmp 29)], none⟩,
    ⟨(some 31), .bin .add (.tmp 30) (.const (.int .u64 1)), none⟩,
    ⟨(some 32), .bin .mul (.tmp 27) (.tmp 31), none⟩,
    ⟨(some 33), .mv (.tmp 1), none⟩,
    ⟨(some 34), .conv .u64 (.tmp 33), none⟩,
    ⟨(some 35), .bin .add (.tmp 32) (.tmp 34), none⟩,
    ⟨(some 6), .mv (.tmp 35), none⟩,
    ⟨(some 7), .mv (.const (.bool true)), none⟩] [(3, 6)]
def k31_7 : VC := .seq k31_6 .ret
def k31_8 : VC := .seq k31_5 k31_7
def k31_9 : VC := .seq k31_0 k31_8
def fn31 : VFn := ⟨36, k31_9, [.tmp 6, .tmp 7]⟩
/- 39: cloakroom/cloakroomref14.Right -/
def k39_0 : VC := .reg [⟨(some 1), .box (.tmp 0), none⟩,
    ⟨(some 2), .mv (.const (.bool false)), none⟩]
def k39_1 : VC := .reg [⟨(some 3), .mv (.const (.int .i64 16)), none⟩]
def k39_2 : VC := .reg [⟨(some 4), .fieldA 0 (.tmp 1), none⟩,
    ⟨(some 5), .load1 .bool (.tmp 4), none⟩]
def k39_3 : VC := .reg [⟨(some 3), .mv (.const (.int .i64 63)), none⟩]
def k39_4 : VC := .cond (.tmp 5) k39_3 .skip
def k39_5 : VC := .seq k39_2 k39_4
def k39_6 : VC := .reg [⟨(some 6), .fieldA 1 (.tmp 1), none⟩,
    ⟨(some 7), .load1 (.int .i64) (.tmp 6), none⟩,
    ⟨(some 8), .bin .geq (.tmp 7) (.const (.int .i64 0)), none⟩,
    ⟨(some 9), .mv (.tmp 8), none⟩,
    ⟨(some 10), .fieldA 1 (.tmp 1), (some (9, true))⟩,
    ⟨(some 11), .load1 (.int .i64) (.tmp 10), (some (9, true))⟩,
    ⟨(some 12), .bin .leq (.tmp 11) (.const (.int .i64 12)), (some (9, true))⟩,
    ⟨(some 13), .pick (.tmp 9) (.tmp 12) (.const (.bool false)), none⟩,
    ⟨(some 14), .mv (.tmp 13), none⟩,
    ⟨(some 15), .fieldA 2 (.tmp 1), (some (14, true))⟩,
    ⟨(some 16), .load1 (.int .i64) (.tmp 15), (some (14, true))⟩,
    ⟨(some 17), .bin .geq (.tmp 16) (.const (.int .i64 0)), (some (14, true))⟩,
    ⟨(some 18), .pick (.tmp 14) (.tmp 17) (.const (.bool false)), none⟩,
    ⟨(some 19), .mv (.tmp 18), none⟩,
    ⟨(some 20), .fieldA 2 (.tmp 1), (some (19, true))⟩,
    ⟨(some 21), .load1 (.int .i64) (.tmp 20), (some (19, true))⟩,
    ⟨(some 22), .mv (.tmp 3), (some (19, true))⟩,
    ⟨(some 23), .fieldA 1 (.tmp 1), (some (19, true))⟩,
    ⟨(some 24), .load1 (.int .i64) (.tmp 23), (some (19, true))⟩,
    ⟨(some 25), .bin .sub (.tmp 22) (.tmp 24), (some (19, true))⟩,
    ⟨(some 26), .bin .leq (.tmp 21) (.tmp 25), (some (19, true))⟩,
    ⟨(some 27), .pick (.tmp 19) (.tmp 26) (.const (.bool false)), none⟩,
    ⟨(some 2), .mv (.tmp 27), none⟩]
def k39_7 : VC := .seq k39_6 .ret
def k39_8 : VC := .seq k39_5 k39_7
def k39_9 : VC := .seq k39_1 k39_8
def k39_10 : VC := .seq k39_0 k39_9
def fn39 : VFn := ⟨28, k39_10, [.tmp 2]⟩
/- 91: cloakroom/cloakroomref01.Mask -/
def k91_0 : VC := .reg [⟨(some 2), .mv (.const (.int .u64 0)), none⟩]
def k91_1 : VC := .reg [⟨(some 3), .mv (.const (.int .u64 0)), none⟩]
def k91_2 : VC := .reg [⟨(some 4), .mv (.const (.int .i64 0)), none⟩]
def k91_3 : VC := .reg [⟨(some 5), .mv (.tmp 4), none⟩,
    ⟨(some 6), .mv (.tmp 0), none⟩,
    ⟨(some 7), .bin .lss (.tmp 5) (.tmp 6), none⟩,
    ⟨(some 8), .mv (.tmp 7), none⟩,
    ⟨(some 9), .mv (.tmp 0), (some (8, true))⟩,
    ⟨(some 10), .bin .leq (.tmp 9) (.const (.int .i64 64)), (some (8, true))⟩,
    ⟨(some 11), .pick (.tmp 8) (.tmp 10) (.const (.bool false)), none⟩]
def k91_4 : VC := .cond (.tmp 11) .skip (.exit 0)
def k91_5 : VC := .seq k91_3 k91_4
def k91_6 : VC := .reg [⟨(some 14), .mv (.tmp 3), none⟩,
    ⟨(some 15), .bin .shl (.tmp 14) (.const (.int .u64 1)), none⟩,
    ⟨(some 16), .bin .or (.tmp 15) (.const (.int .u64 1)), none⟩,
    ⟨(some 3), .mv (.tmp 16), none⟩]
def k91_7 : VC := .block 1 k91_6
def k91_8 : VC := .reg [⟨(some 12), .mv (.tmp 4), none⟩,
    ⟨(some 13), .bin .add (.tmp 12) (.const (.int .i64 1)), none⟩,
    ⟨(some 4), .mv (.tmp 13), none⟩]
def k91_9 : VC := .seq k91_7 k91_8
def k91_10 : VC := .seq k91_5 k91_9
def k91_11 : VC := .loop k91_10
def k91_12 : VC := .block 0 k91_11
def k91_13 : VC := .seq k91_2 k91_12
def k91_14 : VC := .reg [⟨(some 17), .mv (.tmp 3), none⟩,
    ⟨(some 2), .mv (.tmp 17), none⟩]
def k91_15 : VC := .seq k91_14 .ret
def k91_16 : VC := .seq k91_13 k91_15
def k91_17 : VC := .seq k91_1 k91_16
def k91_18 : VC := .seq k91_0 k91_17
def fn91 : VFn := ⟨18, k91_18, [.tmp 2]⟩
/- 32: cloakroom/cookie.Unpack -/
def k32_0 : VC := .reg [⟨(some 2), .box (.tmp 0), none⟩,
    ⟨(some 4), .mv (.const (.int .i64 0)), none⟩,
    ⟨(some 5), .mv (.const (.int .u64 0)), none⟩,
    ⟨(some 6), .mv (.const (.bool false)), none⟩]
def k32_1 : VC := .reg [⟨(some 7), .loadN [.bool, (.int .i64), (.int .i64)] (.tmp 2), none⟩,
    ⟨(some 8), .callF 38 [(.tmp 7)], none⟩,
    ⟨(some 9), .not (.tmp 8), none⟩,
    ⟨(some 10), .mv (.tmp 9), none⟩,
    ⟨(some 11), .mv (.tmp 1), (some (10, false))⟩,
    ⟨(some 12), .fieldA 1 (.tmp 2), (some (10, false))⟩,
    ⟨(some 13), .load1 (.int .i64) (.tmp 12), (some (10, false))⟩,
    ⟨(some 14), .fieldA 2 (.tmp 2), (some (10, false))⟩,
    ⟨(some 15), .load1 (.int .i64) (.tmp 14), (some (10, false))⟩,
    ⟨(some 16), .bin .add (.tmp 13) (.tmp 15), (some (10, false))⟩,
    ⟨(some 17), .bin .shr (.tmp 11) (.tmp 16), (some (10, false))⟩,
    ⟨(some 18), .bin .neq (.tmp 17) (.const (.int .u64 0)), (some (10, false))⟩,
    ⟨(some 19), .pick (.tmp 10) (.const (.bool true)) (.tmp 18), none⟩]
def k32_2 : VC := .reg [⟨(some 4), .mv (.const (.int .i64 0)), none⟩,
    ⟨(some 5), .mv (.const (.int .u64 0)), none⟩,
    ⟨(some 6), .mv (.const (.bool false)), none⟩]
def k32_3 : VC := .seq k32_2 .ret
def k32_4 : VC := .cond (.tmp 19) k32_3 .skip
def k32_5 : VC := .seq k32_1 k32_4
def k32_6 : VC := .regD [⟨(some 20), .mv (.tmp 1), none⟩,
    ⟨(some 21), .fieldA 1 (.tmp 2), none⟩,
    ⟨(some 22), .load1 (.int .i64) (.tmp 21), none⟩,
    ⟨(some 23), .callF 90 [(.tmp 22)], none⟩,
    ⟨(some 24), .bin .and (.tmp 20) (.tmp 23), none⟩,
    ⟨(some 25), .conv .i64 (.tmp 24), none⟩,
    ⟨(some 26), .mv (.tmp 1), none⟩,
    ⟨(some 27), .fieldA 1 (.tmp 2), none⟩,
    ⟨(some 28), .load1 (.int .i64) (.tmp 27), none⟩,
    ⟨(some 29), .bin .shr (.tmp 26) (.tmp 28), none⟩,
    ⟨(some 4), .mv (.tmp 25), none⟩,
    ⟨(some 5), .mv (.tmp 29), none⟩,
    ⟨(some 6), .mv (.const (.bool true)), none⟩] [(3, 8)]
def k32_7 : VC := .seq k32_6 .ret
def k32_8 : VC := .seq k32_5 k32_7
def k32_9 : VC := .seq k32_0 k32_8
def fn32 : VFn := ⟨30, k32_9, [.tmp 4, .tmp 5, .tmp 6]⟩
/- 33: cloakroom/cloakroomref14.Unpack -/
def k33_0 : VC := .reg [⟨(some 2), .box (.tmp 0), none⟩,
    ⟨(some 4), .mv (.const (.int .i64 0)), none⟩,
    ⟨(some 5), .mv (.const (.int .u64 0)), none⟩,
    ⟨(some 6), .mv (.const (.bool false)), none⟩]
def k33_1 : VC := .reg [⟨(some 8), .loadN [.bool, (.int .i64), (.int .i64)] (.tmp 2), none⟩,
    ⟨(some 9), .callF 39 [(.tmp 8)], none⟩,
    ⟨(some 10), .not (.tmp 9), none⟩,
    ⟨(some 11), .mv (.tmp 10), none⟩,
    ⟨(some 12), .mv (.tmp 1), (some (11, false))⟩,
    ⟨(some 13), .fieldA 1 (.tmp 2), (some (11, false))⟩,
    ⟨(some 14), .load1 (.int .i64) (.tmp 13), (some (11, false))⟩,
    ⟨(some 15), .fieldA 2 (.tmp 2), (some (11, false))⟩,
    ⟨(some 16), .load1 (.int .i64) (.tmp 15), (some (11, false))⟩,
    ⟨(some 17), .bin .add (.tmp 14) (.tmp 16), (some (11, false))⟩,
    ⟨(some 18), .callF 91 [(.tmp 17)], (some (11, false))⟩,
    ⟨(some 19), .bin .gtr (.tmp 12) (.tmp 18), (some (11, false))⟩,
    ⟨(some 20), .pick (.tmp 11) (.const (.bool true)) (.tmp 19), none⟩]
def k33_2 : VC := .reg [⟨(some 4), .mv (.const (.int .i64 0)), none⟩,
    ⟨(some 5), .mv (.const (.int .u64 0)), none⟩,
    ⟨(some 6), .mv (.const (.bool false)), none⟩]
def k33_3 : VC := .seq k33_2 .ret
def k33_4 : VC := .cond (.tmp 20) k33_3 .skip
def k33_5 : VC := .seq k33_1 k33_4
def k33_6 : VC := .reg [⟨(some 21), .fieldA 1 (.tmp 2), none⟩,
    ⟨(some 22), .load1 (.int .i64) (.tmp 21), none⟩,
    ⟨(some 23), .callF 91 [(.tmp 22)], none⟩,
    ⟨(some 24), .bin .add (.tmp 23) (.const (.int .u64 1)), none⟩,
    ⟨(some 7), .mv (.tmp 24), none⟩]
def k33_7 : VC := .regD [⟨(some 25), .mv (.tmp 1), none⟩,
    ⟨(some 26), .mv (.tmp 7), none⟩,
    ⟨(some 27), .bin .rem (.tmp 25) (.tmp 26), none⟩,
    ⟨(some 28), .conv .i64 (.tmp 27), none⟩,
    ⟨(some 29), .mv (.tmp 1), none⟩,
    ⟨(some 30), .mv (.tmp 7), none⟩,
    ⟨(some 31), .bin .quo (.tmp 29) (.tmp 30), none⟩,
    ⟨(some 4), .mv (.tmp 28), none⟩,
    ⟨(some 5), .mv (.tmp 31), none⟩,
    ⟨(some 6), .mv (.const (.bool true)), none⟩] []
def k33_8 : VC := .seq k33_7 .ret
def k33_9 : VC := .seq k33_6 k33_8
def k33_10 : VC := .seq k33_5 k33_9
def k33_11 : VC := .seq k33_0 k33_10
def fn33 : VFn := ⟨32, k33_11, [.tmp 4, .tmp 5, .tmp 6]⟩
/- 34: cloakroom/cookie.Make -/
def k34_0 : VC := .reg [⟨(some 5), .box (.tmp 0), none⟩,
    ⟨(some 6), .box (.tmp 1), none⟩,
    ⟨(some 7), .box (.tmp 2), none⟩,
    ⟨(some 10), .mv (.const (.int .u64 0)), none⟩,
    ⟨(some 11), .mv (.const (.bool false)), none⟩]
def k34_1 : VC := .reg [⟨(some 15), .loadN [.bool, (.int .i64), (.int .i64)] (.tmp 5), none⟩,
    ⟨(some 16), .mv (.tmp 3), none⟩,
    ⟨(some 17), .mv (.tmp 4), none⟩,
    ⟨(some 18), .callF 30 [(.tmp 15), (.tmp 16), (.tmp 17)], none⟩,
    ⟨(some 14), .mv (.tmp 18), none⟩,
    ⟨(some 19), .extract 0 (.tmp 14), none⟩,
    ⟨(some 20), .extract 1 (.tmp 14), none⟩,
    ⟨(some 12), .mv (.tmp 19), none⟩,
    ⟨(some 13), .mv (.tmp 20), none⟩]
def k34_2 : VC := .reg [⟨(some 21), .mv (.tmp 13), none⟩,
    ⟨(some 22), .not (.tmp 21), none⟩]
def k34_3 : VC := .reg [⟨(some 10), .mv (.const (.int .u64 0)), none⟩,
    ⟨(some 11), .mv (.const (.bool false)), none⟩]
def k34_4 : VC := .seq k34_3 .ret
def k34_5 : VC := .cond (.tmp 22) k34_4 .skip
def k34_6 : VC := .seq k34_2 k34_5
def k34_7 : VC := .reg [⟨(some 23), .loadN [.bool, (.int .i64), (.int .i64)] (.tmp 5), none⟩,
    ⟨(some 24), .loadN [(.int .u64), (.int .u64)] (.tmp 6), none⟩,
    ⟨(some 25), .loadN [(.int .i64), .bool, (.int .u64), (.int .u64), .bool, (.int .u64), (.int .u64), (.int .i64), (.int .i64)] (.tmp 7), none⟩,
    ⟨(some 26), .mv (.tmp 12), none⟩,
    ⟨(some 27), .callF 42 [(.tmp 23), (.tmp 24), (.tmp 25), (.tmp 26)], none⟩,
    ⟨(some 10), .mv (.tmp 27), none⟩,
    ⟨(some 11), .mv (.const (.bool true)), none⟩]
def k34_8 : VC := .seq k34_7 .ret
def k34_9 : VC := .seq k34_6 k34_8
def k34_10 : VC := .seq k34_1 k34_9
def k34_11 : VC := .seq k34_0 k34_10
def fn34 : VFn := ⟨28, k34_11, [.tmp 10, .tmp 11]⟩
/- 42: cloakroom/cookie.Mask -/
def k42_0 : VC := .reg [⟨(some 4), .box (.tmp 0), none⟩,
    ⟨(some 5), .box (.tmp 1), none⟩,
    ⟨(some 6), .box (.tmp 2), none⟩,
    ⟨(some 8), .mv (.const (.int .u64 0)), none⟩]
def k42_1 : VC := .reg [⟨(some 10), .loadN [(.int .u64), (.int .u64)] (.tmp 5), none⟩,
    ⟨(some 11), .callF 94 [(.tmp 10)], none⟩,
    ⟨(some 9), .mv (.tmp 11), none⟩]
def k42_2 : VC := .reg [⟨(some 12), .mv (.tmp 9), none⟩,
    ⟨(some 13), .loadN [(.int .i64), .bool, (.int .u64), (.int .u64), .bool, (.int .u64), (.int .u64), (.int .i64), (.int .i64)] (.tmp 6), none⟩,
    ⟨(some 14), .callF 96 [(.tmp 13)], none⟩,
    ⟨(some 15), .callF 95 [(.tmp 12), (.tmp 14)], none⟩]
def k42_3 : VC := .regD [⟨(some 16), .mv (.tmp 3), none⟩,
    ⟨(some 17), .mv (.tmp 9), none⟩,
    ⟨(some 18), .callF 97 [(.tmp 17)], none⟩,
    ⟨(some 19), .bin .xor (.tmp 16) (.tmp 18), none⟩,
    ⟨(some 20), .loadN [.bool, (.int .i64), (.int .i64)] (.tmp 4), none⟩,
    ⟨(some 21), .callF 40 [(.tmp 20)], none⟩,
    ⟨(some 22), .callF 90 [(.tmp 21)], none⟩,
    ⟨(some 23), .bin .and (.tmp 19) (.tmp 22), none⟩,
    ⟨(some 8), .mv (.tmp 23), none⟩] [(2, 4)]
def k42_4 : VC := .seq k42_3 .ret
def k42_5 : VC := .seq k42_2 k42_4
def k42_6 : VC := .seq k42_1 k42_5
def k42_7 : VC := .seq k42_0 k42_6
def fn42 : VFn := ⟨24, k42_7, [.tmp 8]⟩
/- 94: cloakroom/sip.New -/
def k94_0 : VC := .reg [⟨(some 1), .box (.tmp 0), none⟩,
    ⟨(some 2), .mv (.const (.pointer none)), none⟩]
def k94_1 : VC := .reg [⟨(some 3), .fieldA 0 (.tmp 1), none⟩,
    ⟨(some 4), .load1 (.int .u64) (.tmp 3), none⟩,
    ⟨(some 5), .bin .xor (.const (.int .u64 8317987319222330741)) (.tmp 4), none⟩,
    ⟨(some 6), .fieldA 1 (.tmp 1), none⟩,
    ⟨(some 7), .load1 (.int .u64) (.tmp 6), none⟩,
    ⟨(some 8), .bin .xor (.const (.int .u64 7237128888997146477)) (.tmp 7), none⟩,
    ⟨(some 9), .fieldA 0 (.tmp 1), none⟩,
    ⟨(some 10), .load1 (.int .u64) (.tmp 9), none⟩,
    ⟨(some 11), .bin .xor (.const (.int .u64 7816392313619706465)) (.tmp 10), none⟩,
    ⟨(some 12), .fieldA 1 (.tmp 1), none⟩,
    ⟨(some 13), .load1 (.int .u64) (.tmp 12), none⟩,
    ⟨(some 14), .bin .xor (.const (.int .u64 8387220255154660723)) (.tmp 13), none⟩,
    ⟨(some 15), .build [(.int .u64 0), (.int .u64 0), (.int .u64 0), (.int .u64 0)] [(0, 1, (.tmp 5)), (1, 1, (.tmp 8)), (2, 1, (.tmp 11)), (3, 1, (.tmp 14))], none⟩,
    ⟨(some 16), .build [(.bool false), (.int .u64 0), (.int .u64 0), (.int .u64 0), (.int .u64 0), (.int .u64 0), (.int .i64 0)] [(0, 1, (.const (.bool true))), (1, 4, (.tmp 15))], none⟩,
    ⟨(some 17), .box (.tmp 16), none⟩,
    ⟨(some 2), .mv (.tmp 17), none⟩]
def k94_2 : VC := .seq k94_1 .ret
def k94_3 : VC := .seq k94_0 k94_2
def fn94 : VFn := ⟨18, k94_3, [.tmp 2]⟩
/- 96: cloakroom/tuple.Put -/
def k96_0 : VC := .reg [⟨(some 1), .box (.tmp 0), none⟩,
    ⟨(some 2), .mv (.const (.string ⟨⟨[]⟩⟩)), none⟩]
def k96_1 : VC := .reg [⟨(some 3), .loadN [(.int .i64), .bool, (.int .u64), (.int .u64), .bool, (.int .u64), (.int .u64), (.int .i64), (.int .i64)] (.tmp 1), none⟩,
    ⟨(some 4), .callF 119 [(.tmp 3)], none⟩,
    ⟨(some 5), .not (.tmp 4), none⟩]
def k96_2 : VC := .reg [⟨(some 2), .mv (.const (.string ⟨⟨[]⟩⟩)), none⟩]
def k96_3 : VC := .seq k96_2 .ret
def k96_4 : VC := .cond (.tmp 5) k96_3 .skip
def k96_5 : VC := .seq k96_1 k96_4
def k96_6 : VC := .regD [⟨(some 6), .fieldA 1 (.tmp 1), none⟩,
    ⟨(some 7), .fieldA 0 (.tmp 6), none⟩,
    ⟨(some 8), .load1 .bool (.tmp 7), none⟩,
    ⟨(some 9), .callF 120 [(.tmp 8)], none⟩,
    ⟨(some 10), .bin .shl (.tmp 9) (.const (.int .u64 8)), none⟩,
    ⟨(some 11), .fieldA 0 (.tmp 1), none⟩,
    ⟨(some 12), .load1 (.int .i64) (.tmp 11), none⟩,
    ⟨(some 13), .bin .or (.tmp 10) (.tmp 12), none⟩,
    ⟨(some 14), .conv .u64 (.tmp 13), none⟩,
    ⟨(some 15), .callF 63 [(.tmp 14), (.const (.int .i64 2))], none⟩,
    ⟨(some 16), .fieldA 1 (.tmp 1), none⟩,
    ⟨(some 17), .loadN [.bool, (.int .u64), (.int .u64)] (.tmp 16), none⟩,
    ⟨(some 18), .callF 121 [(.tmp 17)], none⟩,
    ⟨(some 19), .bin .add (.tmp 15) (.tmp 18), none⟩,
    ⟨(some 20), .fieldA 4 (.tmp 1), none⟩,
    ⟨(some 21), .loadN [.bool, (.int .u64), (.int .u64)] (.tmp 20), none⟩,
    ⟨(some 22), .callF 121 [(.tmp 21)], none⟩,
    ⟨(some 23), .bin .add (.tmp 19) (.tmp 22), none⟩,
    ⟨(some 24), .fieldA 7 (.tmp 1), none⟩,
    ⟨(some 25), .load1 (.int .i64) (.tmp 24), none⟩,
    ⟨(some 26), .conv .u64 (.tmp 25), none⟩,
    ⟨(some 27), .bin .shl (.tmp 26) (.const (.int .u64 16)), none⟩,
    ⟨(some 28), .fieldA 8 (.tmp 1), none⟩,
    ⟨(some 29), .load1 (.int .i64) (.tmp 28), none⟩,
    ⟨(some 30), .conv .u64 (.tmp 29), none⟩,
    ⟨(some 31), .bin .or (.tmp 27) (.tmp 30), none⟩,
    ⟨(some 32), .callF 63 [(.tmp 31), (.const (.int .i64 4))], none⟩,
    ⟨(some 33), .bin .add (.tmp 23) (.tmp 32), none⟩,
    ⟨(some 2), .mv (.tmp 33), none⟩] [(3, 6), (3, 11), (3, 15), (3, 19), (3, 23), (9, 11), (9, 15), (9, 19), (9, 23), (12, 15), (12, 19), (12, 23), (16, 19), (16, 23)]
def k96_7 : VC := .seq k96_6 .ret
def k96_8 : VC := .seq k96_5 k96_7
def k96_9 : VC := .seq k96_0 k96_8
def fn96 : VFn := ⟨34, k96_9, [.tmp 2]⟩
/- 119: cloakroom/tuple.Right -/
def k119_0 : VC := .reg [⟨(some 1), .box (.tmp 0), none⟩,
    ⟨(some 2), .mv (.const (.bool false)), none⟩]
def k119_1 : VC := .reg [⟨(some 3), .fieldA 0 (.tmp 1), none⟩,
    ⟨(some 4), .load1 (.int .i64) (.tmp 3), none⟩,
    ⟨(some 5), .buildSl 1 1 [(.int .i64 0)] [(0, 1, (.tmp 4))], none⟩,
    ⟨(some 6), .callF 140 [(.const (.int .i64 255)), (.tmp 5)], none⟩,
    ⟨(some 7), .mv (.tmp 6), none⟩,
    ⟨(some 8), .fieldA 7 (.tmp 1), (some (7, true))⟩,
    ⟨(some 9), .load1 (.int .i64) (.tmp 8), (some (7, true))⟩,
    ⟨(some 10), .fieldA 8 (.tmp 1), (some (7, true))⟩,
    ⟨(some 11), .load1 (.int .i64) (.tmp 10), (some (7, true))⟩,
    ⟨(some 12), .buildSl 2 1 [(.int .i64 0), (.int .i64 0)] [(0, 1, (.tmp 9)), (1, 1, (.tmp 11))], (some (7, true))⟩,
    ⟨(some 13), .callF 140 [(.const (.int .i64 65535)), (.tmp 12)], (some (7, true))⟩,
    ⟨(some 14), .pick (.tmp 7) (.tmp 13) (.const (.bool false)), none⟩,
    ⟨(some 15), .mv (.tmp 14), none⟩,
    ⟨(some 16), .fieldA 1 (.tmp 1), (some (15, true))⟩,
    ⟨(some 17), .loadN [.bool, (.int .u64), (.int .u64)] (.tmp 16), (some (15, true))⟩,
    ⟨(some 18), .callF 141 [(.tmp 17)], (some (15, true))⟩,
    ⟨(some 19), .pick (.tmp 15) (.tmp 18) (.const (.bool false)), none⟩,
    ⟨(some 20), .mv (.tmp 19), none⟩,
    ⟨(some 21), .fieldA 4 (.tmp 1), (some (20, true))⟩,
    ⟨(some 22), .loadN [.bool, (.int .u64), (.int .u64)] (.tmp 21), (some (20, true))⟩,
    ⟨(some 23), .callF 141 [(.tmp 22)], (some (20, true))⟩,
    ⟨(some 24), .pick (.tmp 20) (.tmp 23) (.const (.bool false)), none⟩,
    ⟨(some 25), .mv (.tmp 24), none⟩,
    ⟨(some 26), .fieldA 1 (.tmp 1), (some (25, true))⟩,
    ⟨(some 27), .fieldA 0 (.tmp 26), (some (25, true))⟩,
    ⟨(some 28), .load1 .bool (.tmp 27), (some (25, true))⟩,
    ⟨(some 29), .fieldA 4 (.tmp 1), (some (25, true))⟩,
    ⟨(some 30), .fieldA 0 (.tmp 29), (some (25, true))⟩,
    ⟨(some 31), .load1 .bool (.tmp 30), (some (25, true))⟩,
    ⟨(some 32), .eqB false (.tmp 28) (.tmp 31), (some (25, true))⟩,
    ⟨(some 33), .pick (.tmp 25) (.tmp 32) (.const (.bool false)), none⟩,
    ⟨(some 2), .mv (.tmp 33), none⟩]
def k119_2 : VC := .seq k119_1 .ret
def k119_3 : VC := .seq k119_0 k119_2
def fn119 : VFn := ⟨34, k119_3, [.tmp 2]⟩
/- 140: cloakroom/tuple.within -/
def k140_0 : VC := .reg [⟨(some 4), .mv (.const (.bool false)), none⟩]
def k140_1 : VC := .reg [⟨(some 7), .mv (.tmp 1), none⟩,
    ⟨(some 8), .lenL (.tmp 7), none⟩,
    ⟨(some 9), .mv (.const (.int .i64 0)), none⟩]
def k140_2 : VC := .reg [⟨(some 10), .bin .lss (.tmp 9) (.tmp 8), none⟩]
def k140_3 : VC := .cond (.tmp 10) .skip (.exit 0)
def k140_4 : VC := .reg [⟨(some 11), .idxAL 1 (.tmp 7) (.tmp 9), none⟩,
    ⟨(some 12), .load1 (.int .i64) (.tmp 11), none⟩,
    ⟨(some 6), .mv (.tmp 12), none⟩]
def k140_5 : VC := .reg [⟨(some 13), .mv (.tmp 6), none⟩,
    ⟨(some 14), .bin .lss (.tmp 13) (.const (.int .i64 0)), none⟩,
    ⟨(some 15), .mv (.tmp 14), none⟩,
    ⟨(some 16), .mv (.tmp 6), (some (15, false))⟩,
    ⟨(some 17), .mv (.tmp 0), (some (15, false))⟩,
    ⟨(some 18), .bin .gtr (.tmp 16) (.tmp 17), (some (15, false))⟩,
    ⟨(some 19), .pick (.tmp 15) (.const (.bool true)) (.tmp 18), none⟩]
def k140_6 : VC := .reg [⟨(some 4), .mv (.const (.bool false)), none⟩]
def k140_7 : VC := .seq k140_6 .ret
def k140_8 : VC := .cond (.tmp 19) k140_7 .skip
def k140_9 : VC := .seq k140_5 k140_8
def k140_10 : VC := .seq k140_4 k140_9
def k140_11 : VC := .block 1 k140_10
def k140_12 : VC := .reg [⟨(some 20), .bin .add (.tmp 9) (.const (.int .i64 1)), none⟩,
    ⟨(some 9), .mv (.tmp 20), none⟩]
def k140_13 : VC := .seq k140_11 k140_12
def k140_14 : VC := .seq k140_3 k140_13
def k140_15 : VC := .seq k140_2 k140_14
def k140_16 : VC := .loop k140_15
def k140_17 : VC := .block 0 k140_16
def k140_18 : VC := .seq k140_1 k140_17
def k140_19 : VC := .reg [⟨(some 4), .mv (.const (.bool true)), none⟩]
def k140_20 : VC := .seq k140_19 .ret
def k140_21 : VC := .seq k140_18 k140_20
def k140_22 : VC := .seq k140_0 k140_21
def fn140 : VFn := ⟨21, k140_22, [.tmp 4]⟩
/- 141: cloakroom/addr.Right -/
def k141_0 : VC := .reg [⟨(some 1), .box (.tmp 0), none⟩,
    ⟨(some 2), .mv (.const (.bool false)), none⟩]
def k141_1 : VC := .reg [⟨(some 3), .fieldA 0 (.tmp 1), none⟩,
    ⟨(some 4), .load1 .bool (.tmp 3), none⟩,
    ⟨(some 5), .mv (.tmp 4), none⟩,
    ⟨(some 6), .fieldA 1 (.tmp 1), (some (5, false))⟩,
    ⟨(some 7), .load1 (.int .u64) (.tmp 6), (some (5, false))⟩,
    ⟨(some 8), .bin .eql (.tmp 7) (.const (.int .u64 0)), (some (5, false))⟩,
    ⟨(some 9), .mv (.tmp 8), (some (5, false))⟩,
    ⟨(some 10), .fieldA 2 (.tmp 1), (some (9, true))⟩,
    ⟨(some 11), .load1 (.int .u64) (.tmp 10), (some (9, true))⟩,
    ⟨(some 12), .bin .lss (.tmp 11) (.const (.int .u64 4294967296)), (some (9, true))⟩,
    ⟨(some 13), .pick (.tmp 9) (.tmp 12) (.const (.bool false)), (some (5, false))⟩,
    ⟨(some 14), .pick (.tmp 5) (.const (.bool true)) (.tmp 13), none⟩,
    ⟨(some 2), .mv (.tmp 14), none⟩]
def k141_2 : VC := .seq k141_1 .ret
def k141_3 : VC := .seq k141_0 k141_2
def fn141 : VFn := ⟨15, k141_3, [.tmp 2]⟩
/- 120: cloakroom/tuple.kind -/
def k120_0 : VC := .reg [⟨(some 2), .mv (.const (.int .i64 0)), none⟩]
def k120_1 : VC := .reg [⟨(some 3), .mv (.tmp 0), none⟩]
def k120_2 : VC := .reg [⟨(some 2), .mv (.const (.int .i64 6)), none⟩]
def k120_3 : VC := .seq k120_2 .ret
def k120_4 : VC := .cond (.tmp 3) k120_3 .skip
def k120_5 : VC := .seq k120_1 k120_4
def k120_6 : VC := .reg [⟨(some 2), .mv (.const (.int .i64 4)), none⟩]
def k120_7 : VC := .seq k120_6 .ret
def k120_8 : VC := .seq k120_5 k120_7
def k120_9 : VC := .seq k120_0 k120_8
def fn120 : VFn := ⟨4, k120_9, [.tmp 2]⟩
/- 121: cloakroom/addr.Put -/
def k121_0 : VC := .reg [⟨(some 1), .box (.tmp 0), none⟩,
    ⟨(some 2), .mv (.const (.string ⟨⟨[]⟩⟩)), none⟩]
def k121_1 : VC := .reg [⟨(some 4), .loadN [.bool, (.int .u64), (.int .u64)] (.tmp 1), none⟩,
    ⟨(some 5), .callF 141 [(.tmp 4)], none⟩,
    ⟨(some 6), .not (.tmp 5), none⟩,
    ⟨(some 3), .mv (.tmp 6), none⟩]
def k121_2 : VC := .reg [⟨(some 2), .mv (.const (.string ⟨⟨[]⟩⟩)), none⟩]
def k121_3 : VC := .seq k121_2 .ret
def k121_4 : VC := .reg [⟨(some 8), .fieldA 0 (.tmp 1), none⟩,
    ⟨(some 9), .load1 .bool (.tmp 8), none⟩,
    ⟨(some 7), .mv (.tmp 9), none⟩]
def k121_5 : VC := .regD [⟨(some 10), .fieldA 1 (.tmp 1), none⟩,
    ⟨(some 11), .load1 (.int .u64) (.tmp 10), none⟩,
    ⟨(some 12), .callF 63 [(.tmp 11), (.const (.int .i64 8))], none⟩,
    ⟨(some 13), .fieldA 2 (.tmp 1), none⟩,
    ⟨(some 14), .load1 (.int .u64) (.tmp 13), none⟩,
    ⟨(some 15), .callF 63 [(.tmp 14), (.const (.int .i64 8))], none⟩,
    ⟨(some 16), .bin .add (.tmp 12) (.tmp 15), none⟩,
    ⟨(some 2), .mv (.tmp 16), none⟩] [(2, 4)]
def k121_6 : VC := .seq k121_5 .ret
def k121_7 : VC := .cond (.tmp 7) k121_6 .skip
def k121_8 : VC := .seq k121_4 k121_7
def k121_9 : VC := .cond (.tmp 3) k121_3 k121_8
def k121_10 : VC := .seq k121_1 k121_9
def k121_11 : VC := .block 0 k121_10
def k121_12 : VC := .reg [⟨(some 17), .fieldA 2 (.tmp 1), none⟩,
    ⟨(some 18), .load1 (.int .u64) (.tmp 17), none⟩,
    ⟨(some 19), .callF 63 [(.tmp 18), (.const (.int .i64 4))], none⟩,
    ⟨(some 2), .mv (.tmp 19), none⟩]
def k121_13 : VC := .seq k121_12 .ret
def k121_14 : VC := .seq k121_11 k121_13
def k121_15 : VC := .seq k121_0 k121_14
def fn121 : VFn := ⟨20, k121_15, [.tmp 2]⟩
/- 95: (*cloakroom/sip.Hasher).Write -/
def k95_0 : VC := .reg [⟨(some 6), .mv (.tmp 0), none⟩,
    ⟨(some 7), .isNil 0 false (.tmp 6), none⟩,
    ⟨(some 8), .mv (.tmp 7), none⟩,
    ⟨(some 9), .mv (.tmp 0), (some (8, false))⟩,
    ⟨(some 10), .nilCheck (.tmp 9), (some (8, false))⟩,
    ⟨(some 11), .fieldA 0 (.tmp 10), (some (8, false))⟩,
    ⟨(some 12), .load1 .bool (.tmp 11), (some (8, false))⟩,
    ⟨(some 13), .not (.tmp 12), (some (8, false))⟩,
    ⟨(some 14), .pick (.tmp 8) (.const (.bool true)) (.tmp 13), none⟩]
def k95_1 : VC := .cond (.tmp 14) .ret .skip
def k95_2 : VC := .seq k95_0 k95_1
def k95_3 : VC := .reg [⟨(some 15), .mv (.tmp 1), none⟩,
    ⟨(some 16), .s2b (.tmp 15), none⟩,
    ⟨(some 17), .lenL (.tmp 16), none⟩,
    ⟨(some 18), .mv (.const (.int .i64 0)), none⟩]
def k95_4 : VC := .reg [⟨(some 19), .bin .lss (.tmp 18) (.tmp 17), none⟩]
def k95_5 : VC := .cond (.tmp 19) .skip (.exit 0)
def k95_6 : VC := .reg [⟨(some 20), .idxAL 1 (.tmp 16) (.tmp 18), none⟩,
    ⟨(some 21), .load1 (.int .u8) (.tmp 20), none⟩,
    ⟨(some 5), .mv (.tmp 21), none⟩]
def k95_7 : VC := .regD [⟨(some 22), .mv (.tmp 0), none⟩,
    ⟨(some 23), .nilCheck (.tmp 22), none⟩,
    ⟨(some 24), .fieldA 5 (.tmp 23), none⟩,
    ⟨(some 25), .load1 (.int .u64) (.tmp 24), none⟩,
    ⟨(some 26), .mv (.tmp 5), none⟩,
    ⟨(some 27), .conv .u64 (.tmp 26), none⟩,
    ⟨(some 28), .mv (.tmp 0), none⟩,
    ⟨(some 29), .nilCheck (.tmp 28), none⟩,
    ⟨(some 30), .fieldA 6 (.tmp 29), none⟩,
    ⟨(some 31), .load1 (.int .i64) (.tmp 30), none⟩,
    ⟨(some 32), .bin .rem (.tmp 31) (.const (.int .i64 8)), none⟩,
    ⟨(some 33), .bin .mul (.const (.int .i64 8)) (.tmp 32), none⟩,
    ⟨(some 34), .bin .shl (.tmp 27) (.tmp 33), none⟩,
    ⟨(some 35), .bin .or (.tmp 25) (.tmp 34), none⟩,
    ⟨(some 36), .nilCheck (.tmp 22), none⟩,
    ⟨(some 37), .fieldA 5 (.tmp 36), none⟩,
    ⟨none, .store 1 (.tmp 37) (.tmp 35), none⟩] []
def k95_8 : VC := .reg [⟨(some 38), .mv (.tmp 0), none⟩,
    ⟨(some 39), .nilCheck (.tmp 38), none⟩,
    ⟨(some 40), .fieldA 6 (.tmp 39), none⟩,
    ⟨(some 41), .load1 (.int .i64) (.tmp 40), none⟩,
    ⟨(some 42), .bin .add (.tmp 41) (.const (.int .i64 1)), none⟩,
    ⟨(some 43), .nilCheck (.tmp 38), none⟩,
    ⟨(some 44), .fieldA 6 (.tmp 43), none⟩,
    ⟨none, .store 1 (.tmp 44) (.tmp 42), none⟩]
def k95_9 : VC := .reg [⟨(some 45), .mv (.tmp 0), none⟩,
    ⟨(some 46), .nilCheck (.tmp 45), none⟩,
    ⟨(some 47), .fieldA 6 (.tmp 46), none⟩,
    ⟨(some 48), .load1 (.int .i64) (.tmp 47), none⟩,
    ⟨(some 49), .bin .rem (.tmp 48) (.const (.int .i64 8)), none⟩,
    ⟨(some 50), .bin .eql (.tmp 49) (.const (.int .i64 0)), none⟩]
def k95_10 : VC := .regD [⟨(some 51), .mv (.tmp 0), none⟩,
    ⟨(some 52), .nilCheck (.tmp 51), none⟩,
    ⟨(some 53), .fieldA 1 (.tmp 52), none⟩,
    ⟨(some 54), .mv (.tmp 0), none⟩,
    ⟨(some 55), .nilCheck (.tmp 54), none⟩,
    ⟨(some 56), .fieldA 5 (.tmp 55), none⟩,
    ⟨(some 57), .load1 (.int .u64) (.tmp 56), none⟩,
    ⟨(some 58), .callF 118 [(.tmp 53), (.tmp 57)], none⟩] []
def k95_11 : VC := .reg [⟨(some 59), .mv (.tmp 0), none⟩,
    ⟨(some 60), .nilCheck (.tmp 59), none⟩,
    ⟨(some 61), .fieldA 5 (.tmp 60), none⟩,
    ⟨none, .store 1 (.tmp 61) (.const (.int .u64 0)), none⟩]
def k95_12 : VC := .seq k95_10 k95_11
def k95_13 : VC := .cond (.tmp 50) k95_12 .skip
def k95_14 : VC := .seq k95_9 k95_13
def k95_15 : VC := .seq k95_8 k95_14
def k95_16 : VC := .seq k95_7 k95_15
def k95_17 : VC := .seq k95_6 k95_16
def k95_18 : VC := .block 1 k95_17
def k95_19 : VC := .reg [⟨(some 62), .bin .add (.tmp 18) (.const (.int .i64 1)), none⟩,
    ⟨(some 18), .mv (.tmp 62), none⟩]
def k95_20 : VC := .seq k95_18 k95_19
def k95_21 : VC := .seq k95_5 k95_20
def k95_22 : VC := .seq k95_4 k95_21
def k95_23 : VC := .loop k95_22
def k95_24 : VC := .block 0 k95_23
def k95_25 : VC := .seq k95_3 k95_24
def k95_26 : VC := .seq k95_2 k95_25
def fn95 : VFn := ⟨63, k95_26, []⟩
/- 118: (*cloakroom/sip.state).take -/
def k118_0 : VC := .regD [⟨(some 4), .mv (.tmp 0), none⟩,
    ⟨(some 5), .nilCheck (.tmp 4), none⟩,
    ⟨(some 6), .idxAA 4 1 (.tmp 5) (.const (.int .i64 3)), none⟩,
    ⟨(some 7), .load1 (.int .u64) (.tmp 6), none⟩,
    ⟨(some 8), .mv (.tmp 1), none⟩,
    ⟨(some 9), .bin .xor (.tmp 7) (.tmp 8), none⟩,
    ⟨(some 10), .nilCheck (.tmp 4), none⟩,
    ⟨(some 11), .idxAA 4 1 (.tmp 10) (.const (.int .i64 3)), none⟩,
    ⟨none, .store 1 (.tmp 11) (.tmp 9), none⟩] []
def k118_1 : VC := .reg [⟨(some 12), .mv (.tmp 0), none⟩,
    ⟨(some 13), .callF 122 [(.tmp 12), (.const (.int .i64 2))], none⟩]
def k118_2 : VC := .regD [⟨(some 14), .mv (.tmp 0), none⟩,
    ⟨(some 15), .nilCheck (.tmp 14), none⟩,
    ⟨(some 16), .idxAA 4 1 (.tmp 15) (.const (.int .i64 0)), none⟩,
    ⟨(some 17), .load1 (.int .u64) (.tmp 16), none⟩,
    ⟨(some 18), .mv (.tmp 1), none⟩,
    ⟨(some 19), .bin .xor (.tmp 17) (.tmp 18), none⟩,
    ⟨(some 20), .nilCheck (.tmp 14), none⟩,
    ⟨(some 21), .idxAA 4 1 (.tmp 20) (.const (.int .i64 0)), none⟩,
    ⟨none, .store 1 (.tmp 21) (.tmp 19), none⟩] []
def k118_3 : VC := .seq k118_1 k118_2
def k118_4 : VC := .seq k118_0 k118_3
def fn118 : VFn := ⟨22, k118_4, []⟩
/- 122: (*cloakroom/sip.state).mix -/
def k122_0 : VC := .reg [⟨(some 4), .mv (.tmp 1), none⟩,
    ⟨(some 5), .minmax false [(.tmp 4), (.const (.int .i64 64))], none⟩,
    ⟨(some 6), .minmax true [(.const (.int .i64 0)), (.tmp 5)], none⟩,
    ⟨(some 7), .mv (.const (.int .i64 0)), none⟩]
def k122_1 : VC := .reg [⟨(some 8), .bin .lss (.tmp 7) (.tmp 6), none⟩]
def k122_2 : VC := .cond (.tmp 8) .skip (.exit 0)
def k122_3 : VC := .reg [⟨(some 9), .mv (.tmp 0), none⟩,
    ⟨(some 10), .callF 142 [(.tmp 9)], none⟩]
def k122_4 : VC := .block 1 k122_3
def k122_5 : VC := .reg [⟨(some 11), .bin .add (.tmp 7) (.const (.int .i64 1)), none⟩,
    ⟨(some 7), .mv (.tmp 11), none⟩]
def k122_6 : VC := .seq k122_4 k122_5
def k122_7 : VC := .seq k122_2 k122_6
def k122_8 : VC := .seq k122_1 k122_7
def k122_9 : VC := .loop k122_8
def k122_10 : VC := .block 0 k122_9
def k122_11 : VC := .seq k122_0 k122_10
def fn122 : VFn := ⟨12, k122_11, []⟩
/- 142: (*cloakroom/sip.state).round -/
def k142_0 : VC := .regD [⟨(some 2), .mv (.tmp 0), none⟩,
    ⟨(some 3), .nilCheck (.tmp 2), none⟩,
    ⟨(some 4), .idxAA 4 1 (.tmp 3) (.const (.int .i64 0)), none⟩,
    ⟨(some 5), .load1 (.int .u64) (.tmp 4), none⟩,
    ⟨(some 6), .mv (.tmp 0), none⟩,
    ⟨(some 7), .nilCheck (.tmp 6), none⟩,
    ⟨(some 8), .idxAA 4 1 (.tmp 7) (.const (.int .i64 1)), none⟩,
    ⟨(some 9), .load1 (.int .u64) (.tmp 8), none⟩,
    ⟨(some 10), .bin .add (.tmp 5) (.tmp 9), none⟩,
    ⟨(some 11), .nilCheck (.tmp 2), none⟩,
    ⟨(some 12), .idxAA 4 1 (.tmp 11) (.const (.int .i64 0)), none⟩,
    ⟨none, .store 1 (.tmp 12) (.tmp 10), none⟩] []
def k142_1 : VC := .regD [⟨(some 13), .mv (.tmp 0), none⟩,
    ⟨(some 14), .mv (.tmp 0), none⟩,
    ⟨(some 15), .nilCheck (.tmp 14), none⟩,
    ⟨(some 16), .idxAA 4 1 (.tmp 15) (.const (.int .i64 1)), none⟩,
    ⟨(some 17), .load1 (.int .u64) (.tmp 16), none⟩,
    ⟨(some 18), .callF 151 [(.tmp 17), (.const (.int .i64 13))], none⟩,
    ⟨(some 19), .mv (.tmp 0), none⟩,
    ⟨(some 20), .nilCheck (.tmp 19), none⟩,
    ⟨(some 21), .idxAA 4 1 (.tmp 20) (.const (.int .i64 0)), none⟩,
    ⟨(some 22), .load1 (.int .u64) (.tmp 21), none⟩,
    ⟨(some 23), .bin .xor (.tmp 18) (.tmp 22), none⟩,
    ⟨(some 24), .nilCheck (.tmp 13), none⟩,
    ⟨(some 25), .idxAA 4 1 (.tmp 24) (.const (.int .i64 1)), none⟩,
    ⟨none, .store 1 (.tmp 25) (.tmp 23), none⟩] [(5, 9)]
def k142_2 : VC := .regD [⟨(some 26), .mv (.tmp 0), none⟩,
    ⟨(some 27), .mv (.tmp 0), none⟩,
    ⟨(some 28), .nilCheck (.tmp 27), none⟩,
    ⟨(some 29), .idxAA 4 1 (.tmp 28) (.const (.int .i64 0)), none⟩,
    ⟨(some 30), .load1 (.int .u64) (.tmp 29), none⟩,
    ⟨(some 31), .callF 151 [(.tmp 30), (.const (.int .i64 32))], none⟩,
    ⟨(some 32), .nilCheck (.tmp 26), none⟩,
    ⟨(some 33), .idxAA 4 1 (.tmp 32) (.const (.int .i64 0)), none⟩,
    ⟨none, .store 1 (.tmp 33) (.tmp 31), none⟩] []
def k142_3 : VC := .regD [⟨(some 34), .mv (.tmp 0), none⟩,
    ⟨(some 35), .nilCheck (.tmp 34), none⟩,
    ⟨(some 36), .idxAA 4 1 (.tmp 35) (.const (.int .i64 2)), none⟩,
    ⟨(some 37), .load1 (.int .u64) (.tmp 36), none⟩,
    ⟨(some 38), .mv (.tmp 0), none⟩,
    ⟨(some 39), .nilCheck (.tmp 38), none⟩,
    ⟨(some 40), .idxAA 4 1 (.tmp 39) (.const (.int .i64 3)), none⟩,
    ⟨(some 41), .load1 (.int .u64) (.tmp 40), none⟩,
    ⟨(some 42), .bin .add (.tmp 37) (.tmp 41), none⟩,
    ⟨(some 43), .nilCheck (.tmp 34), none⟩,
    ⟨(some 44), .idxAA 4 1 (.tmp 43) (.const (.int .i64 2)), none⟩,
    ⟨none, .store 1 (.tmp 44) (.tmp 42), none⟩] []
def k142_4 : VC := .regD [⟨(some 45), .mv (.tmp 0), none⟩,
    ⟨(some 46), .mv (.tmp 0), none⟩,
    ⟨(some 47), .nilCheck (.tmp 46), none⟩,
    ⟨(some 48), .idxAA 4 1 (.tmp 47) (.const (.int .i64 3)), none⟩,
    ⟨(some 49), .load1 (.int .u64) (.tmp 48), none⟩,
    ⟨(some 50), .callF 151 [(.tmp 49), (.const (.int .i64 16))], none⟩,
    ⟨(some 51), .mv (.tmp 0), none⟩,
    ⟨(some 52), .nilCheck (.tmp 51), none⟩,
    ⟨(some 53), .idxAA 4 1 (.tmp 52) (.const (.int .i64 2)), none⟩,
    ⟨(some 54), .load1 (.int .u64) (.tmp 53), none⟩,
    ⟨(some 55), .bin .xor (.tmp 50) (.tmp 54), none⟩,
    ⟨(some 56), .nilCheck (.tmp 45), none⟩,
    ⟨(some 57), .idxAA 4 1 (.tmp 56) (.const (.int .i64 3)), none⟩,
    ⟨none, .store 1 (.tmp 57) (.tmp 55), none⟩] [(5, 9)]
def k142_5 : VC := .regD [⟨(some 58), .mv (.tmp 0), none⟩,
    ⟨(some 59), .nilCheck (.tmp 58), none⟩,
    ⟨(some 60), .idxAA 4 1 (.tmp 59) (.const (.int .i64 0)), none⟩,
    ⟨(some 61), .load1 (.int .u64) (.tmp 60), none⟩,
    ⟨(some 62), .mv (.tmp 0), none⟩,
    ⟨(some 63), .nilCheck (.tmp 62), none⟩,
    ⟨(some 64), .idxAA 4 1 (.tmp 63) (.const (.int .i64 3)), none⟩,
    ⟨(some 65), .load1 (.int .u64) (.tmp 64), none⟩,
    ⟨(some 66), .bin .add (.tmp 61) (.tmp 65), none⟩,
    ⟨(some 67), .nilCheck (.tmp 58), none⟩,
    ⟨(some 68), .idxAA 4 1 (.tmp 67) (.const (.int .i64 0)), none⟩,
    ⟨none, .store 1 (.tmp 68) (.tmp 66), none⟩] []
def k142_6 : VC := .regD [⟨(some 69), .mv (.tmp 0), none⟩,
    ⟨(some 70), .mv (.tmp 0), none⟩,
    ⟨(some 71), .nilCheck (.tmp 70), none⟩,
    ⟨(some 72), .idxAA 4 1 (.tmp 71) (.const (.int .i64 3)), none⟩,
    ⟨(some 73), .load1 (.int .u64) (.tmp 72), none⟩,
    ⟨(some 74), .callF 151 [(.tmp 73), (.const (.int .i64 21))], none⟩,
    ⟨(some 75), .mv (.tmp 0), none⟩,
    ⟨(some 76), .nilCheck (.tmp 75), none⟩,
    ⟨(some 77), .idxAA 4 1 (.tmp 76) (.const (.int .i64 0)), none⟩,
    ⟨(some 78), .load1 (.int .u64) (.tmp 77), none⟩,
    ⟨(some 79), .bin .xor (.tmp 74) (.tmp 78), none⟩,
    ⟨(some 80), .nilCheck (.tmp 69), none⟩,
    ⟨(some 81), .idxAA 4 1 (.tmp 80) (.const (.int .i64 3)), none⟩,
    ⟨none, .store 1 (.tmp 81) (.tmp 79), none⟩] [(5, 9)]
def k142_7 : VC := .regD [⟨(some 82), .mv (.tmp 0), none⟩,
    ⟨(some 83), .nilCheck (.tmp 82), none⟩,
    ⟨(some 84), .idxAA 4 1 (.tmp 83) (.const (.int .i64 2)), none⟩,
    ⟨(some 85), .load1 (.int .u64) (.tmp 84), none⟩,
    ⟨(some 86), .mv (.tmp 0), none⟩,
    ⟨(some 87), .nilCheck (.tmp 86), none⟩,
    ⟨(some 88), .idxAA 4 1 (.tmp 87) (.const (.int .i64 1)), none⟩,
    ⟨(some 89), .load1 (.int .u64) (.tmp 88), none⟩,
    ⟨(some 90), .bin .add (.tmp 85) (.tmp 89), none⟩,
    ⟨(some 91), .nilCheck (.tmp 82), none⟩,
    ⟨(some 92), .idxAA 4 1 (.tmp 91) (.const (.int .i64 2)), none⟩,
    ⟨none, .store 1 (.tmp 92) (.tmp 90), none⟩] []
def k142_8 : VC := .regD [⟨(some 93), .mv (.tmp 0), none⟩,
    ⟨(some 94), .mv (.tmp 0), none⟩,
    ⟨(some 95), .nilCheck (.tmp 94), none⟩,
    ⟨(some 96), .idxAA 4 1 (.tmp 95) (.const (.int .i64 1)), none⟩,
    ⟨(some 97), .load1 (.int .u64) (.tmp 96), none⟩,
    ⟨(some 98), .callF 151 [(.tmp 97), (.const (.int .i64 17))], none⟩,
    ⟨(some 99), .mv (.tmp 0), none⟩,
    ⟨(some 100), .nilCheck (.tmp 99), none⟩,
    ⟨(some 101), .idxAA 4 1 (.tmp 100) (.const (.int .i64 2)), none⟩,
    ⟨(some 102), .load1 (.int .u64) (.tmp 101), none⟩,
    ⟨(some 103), .bin .xor (.tmp 98) (.tmp 102), none⟩,
    ⟨(some 104), .nilCheck (.tmp 93), none⟩,
    ⟨(some 105), .idxAA 4 1 (.tmp 104) (.const (.int .i64 1)), none⟩,
    ⟨none, .store 1 (.tmp 105) (.tmp 103), none⟩] [(5, 9)]
def k142_9 : VC := .regD [⟨(some 106), .mv (.tmp 0), none⟩,
    ⟨(some 107), .mv (.tmp 0), none⟩,
    ⟨(some 108), .nilCheck (.tmp 107), none⟩,
    ⟨(some 109), .idxAA 4 1 (.tmp 108) (.const (.int .i64 2)), none⟩,
    ⟨(some 110), .load1 (.int .u64) (.tmp 109), none⟩,
    ⟨(some 111), .callF 151 [(.tmp 110), (.const (.int .i64 32))], none⟩,
    ⟨(some 112), .nilCheck (.tmp 106), none⟩,
    ⟨(some 113), .idxAA 4 1 (.tmp 112) (.const (.int .i64 2)), none⟩,
    ⟨none, .store 1 (.tmp 113) (.tmp 111), none⟩] []
def k142_10 : VC := .seq k142_8 k142_9
def k142_11 : VC := .seq k142_7 k142_10
def k142_12 : VC := .seq k142_6 k142_11
def k142_13 : VC := .seq k142_5 k142_12
def k142_14 : VC := .seq k142_4 k142_13
def k142_15 : VC := .seq k142_3 k142_14
def k142_16 : VC := .seq k142_2 k142_15
def k142_17 : VC := .seq k142_1 k142_16
def k142_18 : VC := .seq k142_0 k142_17
def fn142 : VFn := ⟨114, k142_18, []⟩
/- 151: math/bits.RotateLeft64 -/
def k151_0 : VC := .reg [⟨(some 4), .mv (.const (.int .u64 0)), none⟩]
def k151_1 : VC := .reg [⟨(some 6), .mv (.tmp 1), none⟩,
    ⟨(some 7), .conv .u64 (.tmp 6), none⟩,
    ⟨(some 8), .bin .and (.tmp 7) (.const (.int .u64 63)), none⟩,
    ⟨(some 5), .mv (.tmp 8), none⟩]
def k151_2 : VC := .reg [⟨(some 9), .mv (.tmp 0), none⟩,
    ⟨(some 10), .mv (.tmp 5), none⟩,
    ⟨(some 11), .bin .shl (.tmp 9) (.tmp 10), none⟩,
    ⟨(some 12), .mv (.tmp 0), none⟩,
    ⟨(some 13), .mv (.tmp 5), none⟩,
    ⟨(some 14), .bin .sub (.const (.int .u64 64)) (.tmp 13), none⟩,
    ⟨(some 15), .bin .shr (.tmp 12) (.tmp 14), none⟩,
    ⟨(some 16), .bin .or (.tmp 11) (.tmp 15), none⟩,
    ⟨(some 4), .mv (.tmp 16), none⟩]
def k151_3 : VC := .seq k151_2 .ret
def k151_4 : VC := .seq k151_1 k151_3
def k151_5 : VC := .seq k151_0 k151_4
def fn151 : VFn := ⟨17, k151_5, [.tmp 4]⟩
/- 97: (*cloakroom/sip.Hasher).Sum -/
def k97_0 : VC := .reg [⟨(some 2), .mv (.const (.int .u64 0)), none⟩]
def k97_1 : VC := .reg [⟨(some 4), .mv (.tmp 0), none⟩,
    ⟨(some 5), .isNil 0 false (.tmp 4), none⟩,
    ⟨(some 6), .mv (.tmp 5), none⟩,
    ⟨(some 7), .mv (.tmp 0), (some (6, false))⟩,
    ⟨(some 8), .nilCheck (.tmp 7), (some (6, false))⟩,
    ⟨(some 9), .fieldA 0 (.tmp 8), (some (6, false))⟩,
    ⟨(some 10), .load1 .bool (.tmp 9), (some (6, false))⟩,
    ⟨(some 11), .not (.tmp 10), (some (6, false))⟩,
    ⟨(some 12), .pick (.tmp 6) (.const (.bool true)) (.tmp 11), none⟩]
def k97_2 : VC := .reg [⟨(some 2), .mv (.const (.int .u64 0)), none⟩]
def k97_3 : VC := .seq k97_2 .ret
def k97_4 : VC := .cond (.tmp 12) k97_3 .skip
def k97_5 : VC := .seq k97_1 k97_4
def k97_6 : VC := .reg [⟨(some 13), .mv (.tmp 0), none⟩,
    ⟨(some 14), .nilCheck (.tmp 13), none⟩,
    ⟨(some 15), .fieldA 1 (.tmp 14), none⟩,
    ⟨(some 16), .loadN [(.int .u64), (.int .u64), (.int .u64), (.int .u64)] (.tmp 15), none⟩,
    ⟨(some 3), .alloc [(.int .u64 0), (.int .u64 0), (.int .u64 0), (.int .u64 0)], none⟩,
    ⟨none, .store 4 (.tmp 3) (.tmp 16), none⟩]
def k97_7 : VC := .regD [⟨(some 17), .mv (.tmp 0), none⟩,
    ⟨(some 18), .nilCheck (.tmp 17), none⟩,
    ⟨(some 19), .fieldA 5 (.tmp 18), none⟩,
    ⟨(some 20), .load1 (.int .u64) (.tmp 19), none⟩,
    ⟨(some 21), .mv (.tmp 0), none⟩,
    ⟨(some 22), .nilCheck (.tmp 21), none⟩,
    ⟨(some 23), .fieldA 6 (.tmp 22), none⟩,
    ⟨(some 24), .load1 (.int .i64) (.tmp 23), none⟩,
    ⟨(some 25), .conv .u64 (.tmp 24), none⟩,
    ⟨(some 26), .bin .shl (.tmp 25) (.const (.int .u64 56)), none⟩,
    ⟨(some 27), .bin .or (.tmp 20) (.tmp 26), none⟩,
    ⟨(some 28), .callF 118 [(.tmp 3), (.tmp 27)], none⟩] []
def k97_8 : VC := .reg [⟨(some 29), .idxAA 4 1 (.tmp 3) (.const (.int .i64 2)), none⟩,
    ⟨(some 30), .load1 (.int .u64) (.tmp 29), none⟩,
    ⟨(some 31), .bin .xor (.tmp 30) (.const (.int .u64 255)), none⟩,
    ⟨(some 32), .idxAA 4 1 (.tmp 3) (.const (.int .i64 2)), none⟩,
    ⟨none, .store 1 (.tmp 32) (.tmp 31), none⟩]
def k97_9 : VC := .reg [⟨(some 33), .callF 122 [(.tmp 3), (.const (.int .i64 4))], none⟩]
def k97_10 : VC := .reg [⟨(some 34), .idxAA 4 1 (.tmp 3) (.const (.int .i64 0)), none⟩,
    ⟨(some 35), .load1 (.int .u64) (.tmp 34), none⟩,
    ⟨(some 36), .idxAA 4 1 (.tmp 3) (.const (.int .i64 1)), none⟩,
    ⟨(some 37), .load1 (.int .u64) (.tmp 36), none⟩,
    ⟨(some 38), .bin .xor (.tmp 35) (.tmp 37), none⟩,
    ⟨(some 39), .idxAA 4 1 (.tmp 3) (.const (.int .i64 2)), none⟩,
    ⟨(some 40), .load1 (.int .u64) (.tmp 39), none⟩,
    ⟨(some 41), .bin .xor (.tmp 38) (.tmp 40), none⟩,
    ⟨(some 42), .idxAA 4 1 (.tmp 3) (.const (.int .i64 3)), none⟩,
    ⟨(some 43), .load1 (.int .u64) (.tmp 42), none⟩,
    ⟨(some 44), .bin .xor (.tmp 41) (.tmp 43), none⟩,
    ⟨(some 2), .mv (.tmp 44), none⟩]
def k97_11 : VC := .seq k97_10 .ret
def k97_12 : VC := .seq k97_9 k97_11
def k97_13 : VC := .seq k97_8 k97_12
def k97_14 : VC := .seq k97_7 k97_13
def k97_15 : VC := .seq k97_6 k97_14
def k97_16 : VC := .seq k97_5 k97_15
def k97_17 : VC := .seq k97_0 k97_16
def fn97 : VFn := ⟨45, k97_17, [.tmp 2]⟩
/- 40: cloakroom/cookie.Width -/
def k40_0 : VC := .reg [⟨(some 1), .box (.tmp 0), none⟩,
    ⟨(some 2), .mv (.const (.int .i64 0)), none⟩]
def k40_1 : VC := .reg [⟨(some 3), .loadN [.bool, (.int .i64), (.int .i64)] (.tmp 1), none⟩,
    ⟨(some 4), .callF 38 [(.tmp 3)], none⟩,
    ⟨(some 5), .not (.tmp 4), none⟩]
def k40_2 : VC := .reg [⟨(some 2), .mv (.const (.int .i64 0)), none⟩]
def k40_3 : VC := .seq k40_2 .ret
def k40_4 : VC := .cond (.tmp 5) k40_3 .skip
def k40_5 : VC := .seq k40_1 k40_4
def k40_6 : VC := .reg [⟨(some 6), .loadN [.bool, (.int .i64), (.int .i64)] (.tmp 1), none⟩,
    ⟨(some 7), .build [(.bool false), (.int .i64 0), (.int .i64 0)] [(0, 3, (.tmp 6))], none⟩,
    ⟨(some 8), .callF 93 [(.tmp 7)], none⟩,
    ⟨(some 2), .mv (.tmp 8), none⟩]
def k40_7 : VC := .seq k40_6 .ret
def k40_8 : VC := .seq k40_5 k40_7
def k40_9 : VC := .seq k40_0 k40_8
def fn40 : VFn := ⟨9, k40_9, [.tmp 2]⟩
/- 35: cloakroom/cloakroomref14.Make -/
def k35_0 : VC := .reg [⟨(some 5), .box (.tmp 0), none⟩,
    ⟨(some 6), .box (.tmp 1), none⟩,
    ⟨(some 7), .box (.tmp 2), none⟩,
    ⟨(some 10), .mv (.const (.int .u64 0)), none⟩,
    ⟨(some 11), .mv (.const (.bool false)), none⟩]
def k35_1 : VC := .reg [⟨(some 15), .loadN [.bool, (.int .i64), (.int .i64)] (.tmp 5), none⟩,
    ⟨(some 16), .mv (.tmp 3), none⟩,
    ⟨(some 17), .mv (.tmp 4), none⟩,
    ⟨(some 18), .callF 31 [(.tmp 15), (.tmp 16), (.tmp 17)], none⟩,
    ⟨(some 14), .mv (.tmp 18), none⟩,
    ⟨(some 19), .extract 0 (.tmp 14), none⟩,
    ⟨(some 20), .extract 1 (.tmp 14), none⟩,
    ⟨(some 12), .mv (.tmp 19), none⟩,
    ⟨(some 13), .mv (.tmp 20), none⟩]
def k35_2 : VC := .reg [⟨(some 21), .mv (.tmp 13), none⟩,
    ⟨(some 22), .not (.tmp 21), none⟩]
def k35_3 : VC := .reg [⟨(some 10), .mv (.const (.int .u64 0)), none⟩,
    ⟨(some 11), .mv (.const (.bool false)), none⟩]
def k35_4 : VC := .seq k35_3 .ret
def k35_5 : VC := .cond (.tmp 22) k35_4 .skip
def k35_6 : VC := .seq k35_2 k35_5
def k35_7 : VC := .reg [⟨(some 23), .loadN [.bool, (.int .i64), (.int .i64)] (.tmp 5), none⟩,
    ⟨(some 24), .loadN [(.int .u64), (.int .u64)] (.tmp 6), none⟩,
    ⟨(some 25), .loadN [(.int .i64), .bool, (.int .u64), (.int .u64), .bool, (.int .u64), (.int .u64), (.int .i64), (.int .i64)] (.tmp 7), none⟩,
    ⟨(some 26), .mv (.tmp 12), none⟩,
    ⟨(some 27), .callF 43 [(.tmp 23), (.tmp 24), (.tmp 25), (.tmp 26)], none⟩,
    ⟨(some 10), .mv (.tmp 27), none⟩,
    ⟨(some 11), .mv (.const (.bool true)), none⟩]
def k35_8 : VC := .seq k35_7 .ret
def k35_9 : VC := .seq k35_6 k35_8
def k35_10 : VC := .seq k35_1 k35_9
def k35_11 : VC := .seq k35_0 k35_10
def fn35 : VFn := ⟨28, k35_11, [.tmp 10, .tmp 11]⟩
/- 43: cloakroom/cloakroomref14.Mask -/
def k43_0 : VC := .reg [⟨(some 4), .box (.tmp 0), none⟩,
    ⟨(some 5), .box (.tmp 1), none⟩,
    ⟨(some 6), .box (.tmp 2), none⟩,
    ⟨(some 8), .mv (.const (.int .u64 0)), none⟩]
def k43_1 : VC := .regD [⟨(some 9), .mv (.tmp 3), none⟩,
    ⟨(some 10), .loadN [(.int .u64), (.int .u64)] (.tmp 5), none⟩,
    ⟨(some 11), .loadN [(.int .i64), .bool, (.int .u64), (.int .u64), .bool, (.int .u64), (.int .u64), (.int .i64), (.int .i64)] (.tmp 6), none⟩,
    ⟨(some 12), .callF 99 [(.tmp 11)], none⟩,
    ⟨(some 13), .callF 98 [(.tmp 10), (.tmp 12)], none⟩,
    ⟨(some 14), .bin .xor (.tmp 9) (.tmp 13), none⟩,
    ⟨(some 15), .loadN [.bool, (.int .i64), (.int .i64)] (.tmp 4), none⟩,
    ⟨(some 16), .callF 41 [(.tmp 15)], none⟩,
    ⟨(some 17), .callF 91 [(.tmp 16)], none⟩,
    ⟨(some 18), .bin .and (.tmp 14) (.tmp 17), none⟩,
    ⟨(some 8), .mv (.tmp 18), none⟩] [(1, 3), (3, 6), (4, 6)]
def k43_2 : VC := .seq k43_1 .ret
def k43_3 : VC := .seq k43_0 k43_2
def fn43 : VFn := ⟨19, k43_3, [.tmp 8]⟩
/- 99: cloakroom/cloakroomref13.Put -/
def k99_0 : VC := .reg [⟨(some 1), .box (.tmp 0), none⟩,
    ⟨(some 2), .mv (.const (.string ⟨⟨[]⟩⟩)), none⟩]
def k99_1 : VC := .reg [⟨(some 4), .loadN [(.int .i64), .bool, (.int .u64), (.int .u64), .bool, (.int .u64), (.int .u64), (.int .i64), (.int .i64)] (.tmp 1), none⟩,
    ⟨(some 5), .callF 126 [(.tmp 4)], none⟩,
    ⟨(some 6), .not (.tmp 5), none⟩]
def k99_2 : VC := .reg [⟨(some 2), .mv (.const (.string ⟨⟨[]⟩⟩)), none⟩]
def k99_3 : VC := .seq k99_2 .ret
def k99_4 : VC := .cond (.tmp 6) k99_3 .skip
def k99_5 : VC := .seq k99_1 k99_4
def k99_6 : VC := .reg [⟨(some 3), .mv (.const (.int .u64 4)), none⟩]
def k99_7 : VC := .reg [⟨(some 7), .fieldA 1 (.tmp 1), none⟩,
    ⟨(some 8), .fieldA 0 (.tmp 7), none⟩,
    ⟨(some 9), .load1 .bool (.tmp 8), none⟩]
def k99_8 : VC := .reg [⟨(some 3), .mv (.const (.int .u64 6)), none⟩]
def k99_9 : VC := .cond (.tmp 9) k99_8 .skip
def k99_10 : VC := .seq k99_7 k99_9
def k99_11 : VC := .regD [⟨(some 10), .mv (.tmp 3), none⟩,
    ⟨(some 11), .callF 64 [(.tmp 10), (.const (.int .i64 1))], none⟩,
    ⟨(some 12), .fieldA 0 (.tmp 1), none⟩,
    ⟨(some 13), .load1 (.int .i64) (.tmp 12), none⟩,
    ⟨(some 14), .conv .u64 (.tmp 13), none⟩,
    ⟨(some 15), .callF 64 [(.tmp 14), (.const (.int .i64 1))], none⟩,
    ⟨(some 16), .bin .add (.tmp 11) (.tmp 15), none⟩,
    ⟨(some 17), .fieldA 1 (.tmp 1), none⟩,
    ⟨(some 18), .loadN [.bool, (.int .u64), (.int .u64)] (.tmp 17), none⟩,
    ⟨(some 19), .callF 127 [(.tmp 18)], none⟩,
    ⟨(some 20), .bin .add (.tmp 16) (.tmp 19), none⟩,
    ⟨(some 21), .fieldA 4 (.tmp 1), none⟩,
    ⟨(some 22), .loadN [.bool, (.int .u64), (.int .u64)] (.tmp 21), none⟩,
    ⟨(some 23), .callF 127 [(.tmp 22)], none⟩,
    ⟨(some 24), .bin .add (.tmp 20) (.tmp 23), none⟩,
    ⟨(some 25), .fieldA 7 (.tmp 1), none⟩,
    ⟨(some 26), .load1 (.int .i64) (.tmp 25), none⟩,
    ⟨(some 27), .conv .u64 (.tmp 26), none⟩,
    ⟨(some 28), .callF 64 [(.tmp 27), (.const (.int .i64 2))], none⟩,
    ⟨(some 29), .bin .add (.tmp 24) (.tmp 28), none⟩,
    ⟨(some 30), .fieldA 8 (.tmp 1), none⟩,
    ⟨(some 31), .load1 (.int .i64) (.tmp 30), none⟩,
    ⟨(some 32), .conv .u64 (.tmp 31), none⟩,
    ⟨(some 33), .callF 64 [(.tmp 32), (.const (.int .i64 2))], none⟩,
    ⟨(some 34), .bin .add (.tmp 29) (.tmp 33), none⟩,
    ⟨(some 2), .mv (.tmp 34), none⟩] [(1, 3), (1, 8), (1, 12), (1, 16), (1, 21), (5, 8), (5, 12), (5, 16), (5, 21), (9, 12), (9, 16), (9, 21), (13, 16), (13, 21), (18, 21)]
def k99_12 : VC := .seq k99_11 .ret
def k99_13 : VC := .seq k99_10 k99_12
def k99_14 : VC := .seq k99_6 k99_13
def k99_15 : VC := .seq k99_5 k99_14
def k99_16 : VC := .seq k99_0 k99_15
def fn99 : VFn := ⟨35, k99_16, [.tmp 2]⟩
/- 126: cloakroom/cloakroomref13.Right -/
def k126_0 : VC := .reg [⟨(some 1), .box (.tmp 0), none⟩,
    ⟨(some 2), .mv (.const (.bool false)), none⟩]
def k126_1 : VC := .reg [⟨(some 3), .fieldA 0 (.tmp 1), none⟩,
    ⟨(some 4), .load1 (.int .i64) (.tmp 3), none⟩,
    ⟨(some 5), .callF 144 [(.tmp 4), (.const (.int .i64 255))], none⟩,
    ⟨(some 6), .mv (.tmp 5), none⟩,
    ⟨(some 7), .fieldA 1 (.tmp 1), (some (6, true))⟩,
    ⟨(some 8), .loadN [.bool, (.int .u64), (.int .u64)] (.tmp 7), (some (6, true))⟩,
    ⟨(some 9), .callF 145 [(.tmp 8)], (some (6, true))⟩,
    ⟨(some 10), .pick (.tmp 6) (.tmp 9) (.const (.bool false)), none⟩,
    ⟨(some 11), .mv (.tmp 10), none⟩,
    ⟨(some 12), .fieldA 4 (.tmp 1), (some (11, true))⟩,
    ⟨(some 13), .loadN [.bool, (.int .u64), (.int .u64)] (.tmp 12), (some (11, true))⟩,
    ⟨(some 14), .callF 145 [(.tmp 13)], (some (11, true))⟩,
    ⟨(some 15), .pick (.tmp 11) (.tmp 14) (.const (.bool false)), none⟩,
    ⟨(some 16), .mv (.tmp 15), none⟩,
    ⟨(some 17), .fieldA 1 (.tmp 1), (some (16, true))⟩,
    ⟨(some 18), .fieldA 0 (.tmp 17), (some (16, true))⟩,
    ⟨(some 19), .load1 .bool (.tmp 18), (some (16, true))⟩,
    ⟨(some 20), .fieldA 4 (.tmp 1), (some (16, true))⟩,
    ⟨(some 21), .fieldA 0 (.tmp 20), (some (16, true))⟩,
    ⟨(some 22), .load1 .bool (.tmp 21), (some (16, true))⟩,
    ⟨(some 23), .eqB false (.tmp 19) (.tmp 22), (some (16, true))⟩,
    ⟨(some 24), .pick (.tmp 16) (.tmp 23) (.const (.bool false)), none⟩,
    ⟨(some 25), .mv (.tmp 24), none⟩,
    ⟨(some 26), .fieldA 7 (.tmp 1), (some (25, true))⟩,
    ⟨(some 27), .load1 (.int .i64) (.tmp 26), (some (25, true))⟩,
    ⟨(some 28), .callF 144 [(.tmp 27), (.const (.int .i64 65535))], (some (25, true))⟩,
    ⟨(some 29), .pick (.tmp 25) (.tmp 28) (.const (.bool false)), none⟩,
    ⟨(some 30), .mv (.tmp 29), none⟩,
    ⟨(some 31), .fieldA 8 (.tmp 1), (some (30, true))⟩,
    ⟨(some 32), .load1 (.int .i64) (.tmp 31), (some (30, true))⟩,
    ⟨(some 33), .callF 144 [(.tmp 32), (.const (.int .i64 65535))], (some (30, true))⟩,
    ⟨(some 34), .pick (.tmp 30) (.tmp 33) (.const (.bool false)), none⟩,
    ⟨(some 2), .mv (.tmp 34), none⟩]
def k126_2 : VC := .seq k126_1 .ret
def k126_3 : VC := .seq k126_0 k126_2
def fn126 : VFn := ⟨35, k126_3, [.tmp 2]⟩
/- 144: cloakroom/cloakroomref13.in -/
def k144_0 : VC := .reg [⟨(some 4), .mv (.const (.bool false)), none⟩]
def k144_1 : VC := .reg [⟨(some 5), .mv (.tmp 0), none⟩,
    ⟨(some 6), .bin .geq (.tmp 5) (.const (.int .i64 0)), none⟩,
    ⟨(some 7), .mv (.tmp 6), none⟩,
    ⟨(some 8), .mv (.tmp 0), (some (7, true))⟩,
    ⟨(some 9), .mv (.tmp 1), (some (7, true))⟩,
    ⟨(some 10), .bin .leq (.tmp 8) (.tmp 9), (some (7, true))⟩,
    ⟨(some 11), .pick (.tmp 7) (.tmp 10) (.const (.bool false)), none⟩,
    ⟨(some 4), .mv (.tmp 11), none⟩]
def k144_2 : VC := .seq k144_1 .ret
def k144_3 : VC := .seq k144_0 k144_2
def fn144 : VFn := ⟨12, k144_3, [.tmp 4]⟩
/- 145: cloakroom/cloakroomref04.Right -/
def k145_0 : VC := .reg [⟨(some 1), .box (.tmp 0), none⟩,
    ⟨(some 2), .mv (.const (.bool false)), none⟩]
def k145_1 : VC := .reg [⟨(some 3), .fieldA 0 (.tmp 1), none⟩,
    ⟨(some 4), .load1 .bool (.tmp 3), none⟩,
    ⟨(some 5), .mv (.tmp 4), none⟩,
    ⟨(some 6), .fieldA 1 (.tmp 1), (some (5, false))⟩,
    ⟨(some 7), .load1 (.int .u64) (.tmp 6), (some (5, false))⟩,
    ⟨(some 8), .bin .eql (.tmp 7) (.const (.int .u64 0)), (some (5, false))⟩,
    ⟨(some 9), .mv (.tmp 8), (some (5, false))⟩,
    ⟨(some 10), .fieldA 2 (.tmp 1), (some (9, true))⟩,
    ⟨(some 11), .load1 (.int .u64) (.tmp 10), (some (9, true))⟩,
    ⟨(some 12), .bin .lss (.tmp 11) (.const (.int .u64 4294967296)), (some (9, true))⟩,
    ⟨(some 13), .pick (.tmp 9) (.tmp 12) (.const (.bool false)), (some (5, false))⟩,
    ⟨(some 14), .pick (.tmp 5) (.const (.bool true)) (.tmp 13), none⟩,
    ⟨(some 2), .mv (.tmp 14), none⟩]
def k145_2 : VC := .seq k145_1 .ret
def k145_3 : VC := .seq k145_0 k145_2
def fn145 : VFn := ⟨15, k145_3, [.tmp 2]⟩
/- 127: cloakroom/cloakroomref04.Put -/
def k127_0 : VC := .reg [⟨(some 1), .box (.tmp 0), none⟩,
    ⟨(some 2), .mv (.const (.string ⟨⟨[]⟩⟩)), none⟩]
def k127_1 : VC := .reg [⟨(some 3), .loadN [.bool, (.int .u64), (.int .u64)] (.tmp 1), none⟩,
    ⟨(some 4), .callF 145 [(.tmp 3)], none⟩,
    ⟨(some 5), .not (.tmp 4), none⟩]
def k127_2 : VC := .reg [⟨(some 2), .mv (.const (.string ⟨⟨[]⟩⟩)), none⟩]
def k127_3 : VC := .seq k127_2 .ret
def k127_4 : VC := .cond (.tmp 5) k127_3 .skip
def k127_5 : VC := .seq k127_1 k127_4
def k127_6 : VC := .reg [⟨(some 6), .fieldA 0 (.tmp 1), none⟩,
    ⟨(some 7), .load1 .bool (.tmp 6), none⟩]
def k127_7 : VC := .regD [⟨(some 8), .fieldA 1 (.tmp 1), none⟩,
    ⟨(some 9), .load1 (.int .u64) (.tmp 8), none⟩,
    ⟨(some 10), .callF 64 [(.tmp 9), (.const (.int .i64 8))], none⟩,
    ⟨(some 11), .fieldA 2 (.tmp 1), none⟩,
    ⟨(some 12), .load1 (.int .u64) (.tmp 11), none⟩,
    ⟨(some 13), .callF 64 [(.tmp 12), (.const (.int .i64 8))], none⟩,
    ⟨(some 14), .bin .add (.tmp 10) (.tmp 13), none⟩,
    ⟨(some 2), .mv (.tmp 14), none⟩] [(2, 4)]
def k127_8 : VC := .seq k127_7 .ret
def k127_9 : VC := .cond (.tmp 7) k127_8 .skip
def k127_10 : VC := .seq k127_6 k127_9
def k127_11 : VC := .reg [⟨(some 15), .fieldA 2 (.tmp 1), none⟩,
    ⟨(some 16), .load1 (.int .u64) (.tmp 15), none⟩,
    ⟨(some 17), .callF 64 [(.tmp 16), (.const (.int .i64 4))], none⟩,
    ⟨(some 2), .mv (.tmp 17), none⟩]
def k127_12 : VC := .seq k127_11 .ret
def k127_13 : VC := .seq k127_10 k127_12
def k127_14 : VC := .seq k127_5 k127_13
def k127_15 : VC := .seq k127_0 k127_14
def fn127 : VFn := ⟨18, k127_15, [.tmp 2]⟩
/- 98: cloakroom/cloakroomref12.Hash -/
def k98_0 : VC := .reg [⟨(some 2), .box (.tmp 0), none⟩,
    ⟨(some 4), .mv (.const (.int .u64 0)), none⟩]
def k98_1 : VC := .regD [⟨(some 14), .fieldA 0 (.tmp 2), none⟩,
    ⟨(some 15), .load1 (.int .u64) (.tmp 14), none⟩,
    ⟨(some 16), .bin .xor (.const (.int .u64 8317987319222330741)) (.tmp 15), none⟩,
    ⟨(some 17), .fieldA 1 (.tmp 2), none⟩,
    ⟨(some 18), .load1 (.int .u64) (.tmp 17), none⟩,
    ⟨(some 19), .bin .xor (.const (.int .u64 7237128888997146477)) (.tmp 18), none⟩,
    ⟨(some 5), .mv (.tmp 16), none⟩,
    ⟨(some 6), .mv (.tmp 19), none⟩] []
def k98_2 : VC := .regD [⟨(some 20), .fieldA 0 (.tmp 2), none⟩,
    ⟨(some 21), .load1 (.int .u64) (.tmp 20), none⟩,
    ⟨(some 22), .bin .xor (.const (.int .u64 7816392313619706465)) (.tmp 21), none⟩,
    ⟨(some 23), .fieldA 1 (.tmp 2), none⟩,
    ⟨(some 24), .load1 (.int .u64) (.tmp 23), none⟩,
    ⟨(some 25), .bin .xor (.const (.int .u64 8387220255154660723)) (.tmp 24), none⟩,
    ⟨(some 7), .mv (.tmp 22), none⟩,
    ⟨(some 8), .mv (.tmp 25), none⟩] []
def k98_3 : VC := .reg [⟨(some 26), .mv (.tmp 1), none⟩,
    ⟨(some 27), .lenS (.tmp 26), none⟩,
    ⟨(some 28), .bin .quo (.tmp 27) (.const (.int .i64 8)), none⟩,
    ⟨(some 29), .bin .mul (.tmp 28) (.const (.int .i64 8)), none⟩,
    ⟨(some 9), .mv (.tmp 29), none⟩]
def k98_4 : VC := .reg [⟨(some 10), .mv (.const (.int .i64 0)), none⟩]
def k98_5 : VC := .reg [⟨(some 30), .mv (.tmp 10), none⟩,
    ⟨(some 31), .mv (.tmp 9), none⟩,
    ⟨(some 32), .bin .leq (.tmp 30) (.tmp 31), none⟩]
def k98_6 : VC := .cond (.tmp 32) .skip (.exit 0)
def k98_7 : VC := .seq k98_5 k98_6
def k98_8 : VC := .reg [⟨(some 35), .mv (.tmp 1), none⟩,
    ⟨(some 36), .mv (.tmp 10), none⟩,
    ⟨(some 37), .mv (.tmp 10), none⟩,
    ⟨(some 38), .bin .add (.tmp 37) (.const (.int .i64 8)), none⟩,
    ⟨(some 39), .mv (.tmp 1), none⟩,
    ⟨(some 40), .lenS (.tmp 39), none⟩,
    ⟨(some 41), .minmax false [(.tmp 38), (.tmp 40)], none⟩,
    ⟨(some 42), .sliceS (.tmp 35) (some (.tmp 36)) (some (.tmp 41)), none⟩,
    ⟨(some 43), .callF 123 [(.tmp 42)], none⟩,
    ⟨(some 11), .mv (.tmp 43), none⟩]
def k98_9 : VC := .reg [⟨(some 44), .mv (.tmp 10), none⟩,
    ⟨(some 45), .mv (.tmp 9), none⟩,
    ⟨(some 46), .bin .eql (.tmp 44) (.tmp 45), none⟩]
def k98_10 : VC := .reg [⟨(some 47), .mv (.tmp 1), none⟩,
    ⟨(some 48), .mv (.tmp 10), none⟩,
    ⟨(some 49), .sliceS (.tmp 47) (some (.tmp 48)) none, none⟩,
    ⟨(some 50), .callF 123 [(.tmp 49)], none⟩,
    ⟨(some 51), .mv (.tmp 1), none⟩,
    ⟨(some 52), .lenS (.tmp 51), none⟩,
    ⟨(some 53), .bin .rem (.tmp 52) (.const (.int .i64 256)), none⟩,
    ⟨(some 54), .conv .u64 (.tmp 53), none⟩,
    ⟨(some 55), .bin .shl (.tmp 54) (.const (.int .u64 56)), none⟩,
    ⟨(some 56), .bin .add (.tmp 50) (.tmp 55), none⟩,
    ⟨(some 11), .mv (.tmp 56), none⟩]
def k98_11 : VC := .cond (.tmp 46) k98_10 .skip
def k98_12 : VC := .seq k98_9 k98_11
def k98_13 : VC := .reg [⟨(some 57), .mv (.tmp 8), none⟩,
    ⟨(some 58), .mv (.tmp 11), none⟩,
    ⟨(some 59), .bin .xor (.tmp 57) (.tmp 58), none⟩,
    ⟨(some 8), .mv (.tmp 59), none⟩]
def k98_14 : VC := .reg [⟨(some 12), .mv (.const (.int .i64 0)), none⟩]
def k98_15 : VC := .reg [⟨(some 60), .mv (.tmp 12), none⟩,
    ⟨(some 61), .bin .lss (.tmp 60) (.const (.int .i64 2)), none⟩]
def k98_16 : VC := .cond (.tmp 61) .skip (.exit 2)
def k98_17 : VC := .seq k98_15 k98_16
def k98_18 : VC := .reg [⟨(some 65), .mv (.tmp 5), none⟩,
    ⟨(some 66), .mv (.tmp 6), none⟩,
    ⟨(some 67), .mv (.tmp 7), none⟩,
    ⟨(some 68), .mv (.tmp 8), none⟩,
    ⟨(some 69), .callF 124 [(.tmp 65), (.tmp 66), (.tmp 67), (.tmp 68)], none⟩,
    ⟨(some 64), .mv (.tmp 69), none⟩,
    ⟨(some 70), .extract 0 (.tmp 64), none⟩,
    ⟨(some 71), .extract 1 (.tmp 64), none⟩,
    ⟨(some 72), .extract 2 (.tmp 64), none⟩,
    ⟨(some 73), .extract 3 (.tmp 64), none⟩,
    ⟨(some 5), .mv (.tmp 70), none⟩,
    ⟨(some 6), .mv (.tmp 71), none⟩,
    ⟨(some 7), .mv (.tmp 72), none⟩,
    ⟨(some 8), .mv (.tmp 73), none⟩]
def k98_19 : VC := .block 3 k98_18
def k98_20 : VC := .reg [⟨(some 62), .mv (.tmp 12), none⟩,
    ⟨(some 63), .bin .add (.tmp 62) (.const (.int .i64 1)), none⟩,
    ⟨(some 12), .mv (.tmp 63), none⟩]
def k98_21 : VC := .seq k98_19 k98_20
def k98_22 : VC := .seq k98_17 k98_21
def k98_23 : VC := .loop k98_22
def k98_24 : VC := .block 2 k98_23
def k98_25 : VC := .seq k98_14 k98_24
def k98_26 : VC := .reg [⟨(some 74), .mv (.tmp 5), none⟩,
    ⟨(some 75), .mv (.tmp 11), none⟩,
    ⟨(some 76), .bin .xor (.tmp 74) (.tmp 75), none⟩,
    ⟨(some 5), .mv (.tmp 76), none⟩]
def k98_27 : VC := .seq k98_25 k98_26
def k98_28 : VC := .seq k98_13 k98_27
def k98_29 : VC := .seq k98_12 k98_28
def k98_30 : VC := .seq k98_8 k98_29
def k98_31 : VC := .block 1 k98_30
def k98_32 : VC := .reg [⟨(some 33), .mv (.tmp 10), none⟩,
    ⟨(some 34), .bin .add (.tmp 33) (.const (.int .i64 8)), none⟩,
    ⟨(some 10), .mv (.tmp 34), none⟩]
def k98_33 : VC := .seq k98_31 k98_32
def k98_34 : VC := .seq k98_7 k98_33
def k98_35 : VC := .loop k98_34
def k98_36 : VC := .block 0 k98_35
def k98_37 : VC := .seq k98_4 k98_36
def k98_38 : VC := .reg [⟨(some 77), .mv (.tmp 7), none⟩,
    ⟨(some 78), .bin .xor (.tmp 77) (.const (.int .u64 255)), none⟩,
    ⟨(some 7), .mv (.tmp 78), none⟩]
def k98_39 : VC := .reg [⟨(some 79), .mv (.tmp 5), none⟩,
    ⟨(some 80), .mv (.tmp 6), none⟩,
    ⟨(some 81), .mv (.tmp 7), none⟩,
    ⟨(some 82), .mv (.tmp 8), none⟩,
    ⟨(some 83), .callF 125 [(.tmp 79), (.tmp 80), (.tmp 81), (.tmp 82), (.const (.int .i64 4))], none⟩,
    ⟨(some 13), .alloc [(.int .u64 0), (.int .u64 0), (.int .u64 0), (.int .u64 0)], none⟩,
    ⟨none, .store 4 (.tmp 13) (.tmp 83), none⟩]
def k98_40 : VC := .reg [⟨(some 84), .idxAA 4 1 (.tmp 13) (.const (.int .i64 0)), none⟩,
    ⟨(some 85), .load1 (.int .u64) (.tmp 84), none⟩,
    ⟨(some 86), .idxAA 4 1 (.tmp 13) (.const (.int .i64 1)), none⟩,
    ⟨(some 87), .load1 (.int .u64) (.tmp 86), none⟩,
    ⟨(some 88), .bin .xor (.tmp 85) (.tmp 87), none⟩,
    ⟨(some 89), .idxAA 4 1 (.tmp 13) (.const (.int .i64 2)), none⟩,
    ⟨(some 90), .load1 (.int .u64) (.tmp 89), none⟩,
    ⟨(some 91), .bin .xor (.tmp 88) (.tmp 90), none⟩,
    ⟨(some 92), .idxAA 4 1 (.tmp 13) (.const (.int .i64 3)), none⟩,
    ⟨(some 93), .load1 (.int .u64) (.tmp 92), none⟩,
    ⟨(some 94), .bin .xor (.tmp 91) (.tmp 93), none⟩,
    ⟨(some 4), .mv (.tmp 94), none⟩]
def k98_41 : VC := .seq k98_40 .ret
def k98_42 : VC := .seq k98_39 k98_41
def k98_43 : VC := .seq k98_38 k98_42
def k98_44 : VC := .seq k98_37 k98_43
def k98_45 : VC := .seq k98_3 k98_44
def k98_46 : VC := .seq k98_2 k98_45
def k98_47 : VC := .seq k98_1 k98_46
def k98_48 : VC := .seq k98_0 k98_47
def fn98 : VFn := ⟨95, k98_48, [.tmp 4]⟩
/- 123: cloakroom/cloakroomref12.word -/
def k123_0 : VC := .reg [⟨(some 2), .mv (.const (.int .u64 0)), none⟩]
def k123_1 : VC := .reg [⟨(some 3), .mv (.const (.int .u64 0)), none⟩]
def k123_2 : VC := .reg [⟨(some 5), .mv (.tmp 0), none⟩,
    ⟨(some 6), .lenS (.tmp 5), none⟩,
    ⟨(some 7), .bin .sub (.tmp 6) (.const (.int .i64 1)), none⟩,
    ⟨(some 4), .mv (.tmp 7), none⟩]
def k123_3 : VC := .reg [⟨(some 8), .mv (.tmp 4), none⟩,
    ⟨(some 9), .bin .geq (.tmp 8) (.const (.int .i64 0)), none⟩]
def k123_4 : VC := .cond (.tmp 9) .skip (.exit 0)
def k123_5 : VC := .seq k123_3 k123_4
def k123_6 : VC := .reg [⟨(some 12), .mv (.tmp 3), none⟩,
    ⟨(some 13), .bin .shl (.tmp 12) (.const (.int .u64 8)), none⟩,
    ⟨(some 14), .mv (.tmp 0), none⟩,
    ⟨(some 15), .mv (.tmp 4), none⟩,
    ⟨(some 16), .idxS (.tmp 14) (.tmp 15), none⟩,
    ⟨(some 17), .conv .u64 (.tmp 16), none⟩,
    ⟨(some 18), .bin .add (.tmp 13) (.tmp 17), none⟩,
    ⟨(some 3), .mv (.tmp 18), none⟩]
def k123_7 : VC := .block 1 k123_6
def k123_8 : VC := .reg [⟨(some 10), .mv (.tmp 4), none⟩,
    ⟨(some 11), .bin .sub (.tmp 10) (.const (.int .i64 1)), none⟩,
    ⟨(some 4), .mv (.tmp 11), none⟩]
def k123_9 : VC := .seq k123_7 k123_8
def k123_10 : VC := .seq k123_5 k123_9
def k123_11 : VC := .loop k123_10
def k123_12 : VC := .block 0 k123_11
def k123_13 : VC := .seq k123_2 k123_12
def k123_14 : VC := .reg [⟨(some 19), .mv (.tmp 3), none⟩,
    ⟨(some 2), .mv (.tmp 19), none⟩]
def k123_15 : VC := .seq k123_14 .ret
def k123_16 : VC := .seq k123_13 k123_15
def k123_17 : VC := .seq k123_1 k123_16
def k123_18 : VC := .seq k123_0 k123_17
def fn123 : VFn := ⟨20, k123_18, [.tmp 2]⟩
/- 124: cloakroom/cloakroomref12.Round -/
def k124_0 : VC := .reg [⟨(some 8), .mv (.const (.int .u64 0)), none⟩,
    ⟨(some 9), .mv (.const (.int .u64 0)), none⟩,
    ⟨(some 10), .mv (.const (.int .u64 0)), none⟩,
    ⟨(some 11), .mv (.const (.int .u64 0)), none⟩]
def k124_1 : VC := .reg [⟨(some 12), .mv (.tmp 0), none⟩,
    ⟨(some 13), .mv (.tmp 1), none⟩,
    ⟨(some 14), .bin .add (.tmp 12) (.tmp 13), none⟩,
    ⟨(some 0), .mv (.tmp 14), none⟩]
def k124_2 : VC := .reg [⟨(some 15), .mv (.tmp 1), none⟩,
    ⟨(some 16), .callF 143 [(.tmp 15), (.const (.int .i64 13))], none⟩,
    ⟨(some 17), .mv (.tmp 0), none⟩,
    ⟨(some 18), .bin .xor (.tmp 16) (.tmp 17), none⟩,
    ⟨(some 1), .mv (.tmp 18), none⟩]
def k124_3 : VC := .reg [⟨(some 19), .mv (.tmp 0), none⟩,
    ⟨(some 20), .callF 143 [(.tmp 19), (.const (.int .i64 32))], none⟩,
    ⟨(some 0), .mv (.tmp 20), none⟩]
def k124_4 : VC := .reg [⟨(some 21), .mv (.tmp 2), none⟩,
    ⟨(some 22), .mv (.tmp 3), none⟩,
    ⟨(some 23), .bin .add (.tmp 21) (.tmp 22), none⟩,
    ⟨(some 2), .mv (.tmp 23), none⟩]
def k124_5 : VC := .reg [⟨(some 24), .mv (.tmp 3), none⟩,
    ⟨(some 25), .callF 143 [(.tmp 24), (.const (.int .i64 16))], none⟩,
    ⟨(some 26), .mv (.tmp 2), none⟩,
    ⟨(some 27), .bin .xor (.tmp 25) (.tmp 26), none⟩,
    ⟨(some 3), .mv (.tmp 27), none⟩]
def k124_6 : VC := .reg [⟨(some 28), .mv (.tmp 0), none⟩,
    ⟨(some 29), .mv (.tmp 3), none⟩,
    ⟨(some 30), .bin .add (.tmp 28) (.tmp 29), none⟩,
    ⟨(some 0), .mv (.tmp 30), none⟩]
def k124_7 : VC := .reg [⟨(some 31), .mv (.tmp 3), none⟩,
    ⟨(some 32), .callF 143 [(.tmp 31), (.const (.int .i64 21))], none⟩,
    ⟨(some 33), .mv (.tmp 0), none⟩,
    ⟨(some 34), .bin .xor (.tmp 32) (.tmp 33), none⟩,
    ⟨(some 3), .mv (.tmp 34), none⟩]
def k124_8 : VC := .reg [⟨(some 35), .mv (.tmp 2), none⟩,
    ⟨(some 36), .mv (.tmp 1), none⟩,
    ⟨(some 37), .bin .add (.tmp 35) (.tmp 36), none⟩,
    ⟨(some 2), .mv (.tmp 37), none⟩]
def k124_9 : VC := .reg [⟨(some 38), .mv (.tmp 1), none⟩,
    ⟨(some 39), .callF 143 [(.tmp 38), (.const (.int .i64 17))], none⟩,
    ⟨(some 40), .mv (.tmp 2), none⟩,
    ⟨(some 41), .bin .xor (.tmp 39) (.tmp 40), none⟩,
    ⟨(some 1), .mv (.tmp 41), none⟩]
def k124_10 : VC := .reg [⟨(some 42), .mv (.tmp 2), none⟩,
    ⟨(some 43), .callF 143 [(.tmp 42), (.const (.int .i64 32))], none⟩,
    ⟨(some 2), .mv (.tmp 43), none⟩]
def k124_11 : VC := .reg [⟨(some 44), .mv (.tmp 0), none⟩,
    ⟨(some 45), .mv (.tmp 1), none⟩,
    ⟨(some 46), .mv (.tmp 2), none⟩,
    ⟨(some 47), .mv (.tmp 3), none⟩,
    ⟨(some 8), .mv (.tmp 44), none⟩,
    ⟨(some 9), .mv (.tmp 45), none⟩,
    ⟨(some 10), .mv (.tmp 46), none⟩,
    ⟨(some 11), .mv (.tmp 47), none⟩]
def k124_12 : VC := .seq k124_11 .ret
def k124_13 : VC := .seq k124_10 k124_12
def k124_14 : VC := .seq k124_9 k124_13
def k124_15 : VC := .seq k124_8 k124_14
def k124_16 : VC := .seq k124_7 k124_15
def k124_17 : VC := .seq k124_6 k124_16
def k124_18 : VC := .seq k124_5 k124_17
def k124_19 : VC := .seq k124_4 k124_18
def k124_20 : VC := .seq k124_3 k124_19
def k124_21 : VC := .seq k124_2 k124_20
def k124_22 : VC := .seq k124_1 k124_21
def k124_23 : VC := .seq k124_0 k124_22
def fn124 : VFn := ⟨48, k124_23, [.tmp 8, .tmp 9, .tmp 10, .tmp 11]⟩
/- 143: cloakroom/cloakroomref12.turn -/
def k143_0 : VC := .reg [⟨(some 4), .mv (.const (.int .u64 0)), none⟩]
def k143_1 : VC := .regD [⟨(some 5), .mv (.tmp 0), none⟩,
    ⟨(some 6), .mv (.tmp 1), none⟩,
    ⟨(some 7), .bin .shl (.tmp 5) (.tmp 6), none⟩,
    ⟨(some 8), .mv (.tmp 0), none⟩,
    ⟨(some 9), .mv (.tmp 1), none⟩,
    ⟨(some 10), .bin .sub (.const (.int .i64 64)) (.tmp 9), none⟩,
    ⟨(some 11), .bin .shr (.tmp 8) (.tmp 10), none⟩,
    ⟨(some 12), .bin .or (.tmp 7) (.tmp 11), none⟩,
    ⟨(some 4), .mv (.tmp 12), none⟩] []
def k143_2 : VC := .seq k143_1 .ret
def k143_3 : VC := .seq k143_0 k143_2
def fn143 : VFn := ⟨13, k143_3, [.tmp 4]⟩
/- 125: cloakroom/cloakroomref12.Mix -/
def k125_0 : VC := .reg [⟨(some 10), .alloc [(.int .u64 0), (.int .u64 0), (.int .u64 0), (.int .u64 0)], none⟩]
def k125_1 : VC := .reg [⟨(some 11), .mv (.const (.int .i64 0)), none⟩]
def k125_2 : VC := .reg [⟨(some 12), .mv (.tmp 11), none⟩,
    ⟨(some 13), .mv (.tmp 4), none⟩,
    ⟨(some 14), .bin .lss (.tmp 12) (.tmp 13), none⟩,
    ⟨(some 15), .mv (.tmp 14), none⟩,
    ⟨(some 16), .mv (.tmp 11), (some (15, true))⟩,
    ⟨(some 17), .bin .lss (.tmp 16) (.const (.int .i64 64)), (some (15, true))⟩,
    ⟨(some 18), .pick (.tmp 15) (.tmp 17) (.const (.bool false)), none⟩]
def k125_3 : VC := .cond (.tmp 18) .skip (.exit 0)
def k125_4 : VC := .seq k125_2 k125_3
def k125_5 : VC := .reg [⟨(some 22), .mv (.tmp 0), none⟩,
    ⟨(some 23), .mv (.tmp 1), none⟩,
    ⟨(some 24), .mv (.tmp 2), none⟩,
    ⟨(some 25), .mv (.tmp 3), none⟩,
    ⟨(some 26), .callF 124 [(.tmp 22), (.tmp 23), (.tmp 24), (.tmp 25)], none⟩,
    ⟨(some 21), .mv (.tmp 26), none⟩,
    ⟨(some 27), .extract 0 (.tmp 21), none⟩,
    ⟨(some 28), .extract 1 (.tmp 21), none⟩,
    ⟨(some 29), .extract 2 (.tmp 21), none⟩,
    ⟨(some 30), .extract 3 (.tmp 21), none⟩,
    ⟨(some 0), .mv (.tmp 27), none⟩,
    ⟨(some 1), .mv (.tmp 28), none⟩,
    ⟨(some 2), .mv (.tmp 29), none⟩,
    ⟨(some 3), .mv (.tmp 30), none⟩]
def k125_6 : VC := .block 1 k125_5
def k125_7 : VC := .reg [⟨(some 19), .mv (.tmp 11), none⟩,
    ⟨(some 20), .bin .add (.tmp 19) (.const (.int .i64 1)), none⟩,
    ⟨(some 11), .mv (.tmp 20), none⟩]
def k125_8 : VC := .seq k125_6 k125_7
def k125_9 : VC := .seq k125_4 k125_8
def k125_10 : VC := .loop k125_9
def k125_11 : VC := .block 0 k125_10
def k125_12 : VC := .seq k125_1 k125_11
def k125_13 : VC := .reg [⟨(some 31), .mv (.tmp 0), none⟩,
    ⟨(some 32), .mv (.tmp 1), none⟩,
    ⟨(some 33), .mv (.tmp 2), none⟩,
    ⟨(some 34), .mv (.tmp 3), none⟩,
    ⟨(some 35), .build [(.int .u64 0), (.int .u64 0), (.int .u64 0), (.int .u64 0)] [(0, 1, (.tmp 31)), (1, 1, (.tmp 32)), (2, 1, (.tmp 33)), (3, 1, (.tmp 34))], none⟩,
    ⟨none, .store 4 (.tmp 10) (.tmp 35), none⟩]
def k125_14 : VC := .seq k125_13 .ret
def k125_15 : VC := .seq k125_12 k125_14
def k125_16 : VC := .seq k125_0 k125_15
def fn125 : VFn := ⟨36, k125_16, [.cell 10 [(.int .u64), (.int .u64), (.int .u64), (.int .u64)] true]⟩
/- 41: cloakroom/cloakroomref14.Width -/
def k41_0 : VC := .reg [⟨(some 1), .box (.tmp 0), none⟩,
    ⟨(some 2), .mv (.const (.int .i64 0)), none⟩]
def k41_1 : VC := .reg [⟨(some 3), .loadN [.bool, (.int .i64), (.int .i64)] (.tmp 1), none⟩,
    ⟨(some 4), .callF 39 [(.tmp 3)], none⟩,
    ⟨(some 5), .not (.tmp 4), none⟩]
def k41_2 : VC := .reg [⟨(some 2), .mv (.const (.int .i64 0)), none⟩]
def k41_3 : VC := .seq k41_2 .ret
def k41_4 : VC := .cond (.tmp 5) k41_3 .skip
def k41_5 : VC := .seq k41_1 k41_4
def k41_6 : VC := .reg [⟨(some 6), .fieldA 0 (.tmp 1), none⟩,
    ⟨(some 7), .load1 .bool (.tmp 6), none⟩]
def k41_7 : VC := .reg [⟨(some 2), .mv (.const (.int .i64 64)), none⟩]
def k41_8 : VC := .seq k41_7 .ret
def k41_9 : VC := .cond (.tmp 7) k41_8 .skip
def k41_10 : VC := .seq k41_6 k41_9
def k41_11 : VC := .reg [⟨(some 2), .mv (.const (.int .i64 16)), none⟩]
def k41_12 : VC := .seq k41_11 .ret
def k41_13 : VC := .seq k41_10 k41_12
def k41_14 : VC := .seq k41_5 k41_13
def k41_15 : VC := .seq k41_0 k41_14
def fn41 : VFn := ⟨8, k41_15, [.tmp 2]⟩
/- 36: cloakroom/cookie.Open -/
def k36_0 : VC := .reg [⟨(some 4), .box (.tmp 0), none⟩,
    ⟨(some 5), .box (.tmp 1), none⟩,
    ⟨(some 6), .box (.tmp 2), none⟩,
    ⟨(some 8), .mv (.const (.int .i64 0)), none⟩,
    ⟨(some 9), .mv (.const (.int .u64 0)), none⟩,
    ⟨(some 10), .mv (.const (.bool false)), none⟩]
def k36_1 : VC := .reg [⟨(some 11), .mv (.tmp 3), none⟩,
    ⟨(some 12), .loadN [.bool, (.int .i64), (.int .i64)] (.tmp 4), none⟩,
    ⟨(some 13), .callF 40 [(.tmp 12)], none⟩,
    ⟨(some 14), .callF 90 [(.tmp 13)], none⟩,
    ⟨(some 15), .bin .andNot (.tmp 11) (.tmp 14), none⟩,
    ⟨(some 16), .bin .neq (.tmp 15) (.const (.int .u64 0)), none⟩]
def k36_2 : VC := .reg [⟨(some 8), .mv (.const (.int .i64 0)), none⟩,
    ⟨(some 9), .mv (.const (.int .u64 0)), none⟩,
    ⟨(some 10), .mv (.const (.bool false)), none⟩]
def k36_3 : VC := .seq k36_2 .ret
def k36_4 : VC := .cond (.tmp 16) k36_3 .skip
def k36_5 : VC := .seq k36_1 k36_4
def k36_6 : VC := .regD [⟨(some 17), .loadN [.bool, (.int .i64), (.int .i64)] (.tmp 4), none⟩,
    ⟨(some 18), .loadN [.bool, (.int .i64), (.int .i64)] (.tmp 4), none⟩,
    ⟨(some 19), .loadN [(.int .u64), (.int .u64)] (.tmp 5), none⟩,
    ⟨(some 20), .loadN [(.int .i64), .bool, (.int .u64), (.int .u64), .bool, (.int .u64), (.int .u64), (.int .i64), (.int .i64)] (.tmp 6), none⟩,
    ⟨(some 21), .mv (.tmp 3), none⟩,
    ⟨(some 22), .callF 42 [(.tmp 18), (.tmp 19), (.tmp 20), (.tmp 21)], none⟩,
    ⟨(some 23), .callF 32 [(.tmp 17), (.tmp 22)], none⟩,
    ⟨(some 24), .extract 0 (.tmp 23), none⟩,
    ⟨(some 25), .extract 1 (.tmp 23), none⟩,
    ⟨(some 26), .extract 2 (.tmp 23), none⟩,
    ⟨(some 8), .mv (.tmp 24), none⟩,
    ⟨(some 9), .mv (.tmp 25), none⟩,
    ⟨(some 10), .mv (.tmp 26), none⟩] [(0, 5)]
def k36_7 : VC := .seq k36_6 .ret
def k36_8 : VC := .seq k36_5 k36_7
def k36_9 : VC := .seq k36_0 k36_8
def fn36 : VFn := ⟨27, k36_9, [.tmp 8, .tmp 9, .tmp 10]⟩
/- 37: cloakroom/cloakroomref14.Open -/
def k37_0 : VC := .reg [⟨(some 4), .box (.tmp 0), none⟩,
    ⟨(some 5), .box (.tmp 1), none⟩,
    ⟨(some 6), .box (.tmp 2), none⟩,
    ⟨(some 8), .mv (.const (.int .i64 0)), none⟩,
    ⟨(some 9), .mv (.const (.int .u64 0)), none⟩,
    ⟨(some 10), .mv (.const (.bool false)), none⟩]
def k37_1 : VC := .reg [⟨(some 11), .mv (.tmp 3), none⟩,
    ⟨(some 12), .loadN [.bool, (.int .i64), (.int .i64)] (.tmp 4), none⟩,
    ⟨(some 13), .callF 41 [(.tmp 12)], none⟩,
    ⟨(some 14), .callF 91 [(.tmp 13)], none⟩,
    ⟨(some 15), .bin .gtr (.tmp 11) (.tmp 14), none⟩]
def k37_2 : VC := .reg [⟨(some 8), .mv (.const (.int .i64 0)), none⟩,
    ⟨(some 9), .mv (.const (.int .u64 0)), none⟩,
    ⟨(some 10), .mv (.const (.bool false)), none⟩]
def k37_3 : VC := .seq k37_2 .ret
def k37_4 : VC := .cond (.tmp 15) k37_3 .skip
def k37_5 : VC := .seq k37_1 k37_4
def k37_6 : VC := .regD [⟨(some 16), .loadN [.bool, (.int .i64), (.int .i64)] (.tmp 4), none⟩,
    ⟨(some 17), .loadN [.bool, (.int .i64), (.int .i64)] (.tmp 4), none⟩,
    ⟨(some 18), .loadN [(.int .u64), (.int .u64)] (.tmp 5), none⟩,
    ⟨(some 19), .loadN [(.int .i64), .bool, (.int .u64), (.int .u64), .bool, (.int .u64), (.int .u64), (.int .i64), (.int .i64)] (.tmp 6), none⟩,
    ⟨(some 20), .mv (.tmp 3), none⟩,
    ⟨(some 21), .callF 43 [(.tmp 17), (.tmp 18), (.tmp 19), (.tmp 20)], none⟩,
    ⟨(some 22), .callF 33 [(.tmp 16), (.tmp 21)], none⟩,
    ⟨(some 23), .extract 0 (.tmp 22), none⟩,
    ⟨(some 24), .extract 1 (.tmp 22), none⟩,
    ⟨(some 25), .extract 2 (.tmp 22), none⟩,
    ⟨(some 8), .mv (.tmp 23), none⟩,
    ⟨(some 9), .mv (.tmp 24), none⟩,
    ⟨(some 10), .mv (.tmp 25), none⟩] [(0, 5)]
def k37_7 : VC := .seq k37_6 .ret
def k37_8 : VC := .seq k37_5 k37_7
def k37_9 : VC := .seq k37_0 k37_8
def fn37 : VFn := ⟨26, k37_9, [.tmp 8, .tmp 9, .tmp 10]⟩
theorem fn3_ok : (Try.prog.funcs[3]?).bind (compFn Try.prog) = some fn3 := by kernel_rfl
theorem fn15_ok : (Try.prog.funcs[15]?).bind (compFn Try.prog) = some fn15 := by kernel_rfl
theorem fn16_ok : (Try.prog.funcs[16]?).bind (compFn Try.prog) = some fn16 := by kernel_rfl
theorem fn20_ok : (Try.prog.funcs[20]?).bind (compFn Try.prog) = some fn20 := by kernel_rfl
theorem fn67_ok : (Try.prog.funcs[67]?).bind (compFn Try.prog) = some fn67 := by kernel_rfl
theorem fn68_ok : (Try.prog.funcs[68]?).bind (compFn Try.prog) = some fn68 := by kernel_rfl
theorem fn70_ok : (Try.prog.funcs[70]?).bind (compFn Try.prog) = some fn70 := by kernel_rfl
theorem fn74_ok : (Try.prog.funcs[74]?).bind (compFn Try.prog) = some fn74 := by kernel_rfl
theorem fn59_ok : (Try.prog.funcs[59]?).bind (compFn Try.prog) = some fn59 := by kernel_rfl
theorem fn72_ok : (Try.prog.funcs[72]?).bind (compFn Try.prog) = some fn72 := by kernel_rfl
theorem fn77_ok : (Try.prog.funcs[77]?).bind (compFn Try.prog) = some fn77 := by kernel_rfl
theorem fn78_ok : (Try.prog.funcs[78]?).bind (compFn Try.prog) = some fn78 := by kernel_rfl
theorem fn18_ok : (Try.prog.funcs[18]?).bind (compFn Try.prog) = some fn18 := by kernel_rfl
theorem fn17_ok : (Try.prog.funcs[17]?).bind (compFn Try.prog) = some fn17 := by kernel_rfl
theorem fn75_ok : (Try.prog.funcs[75]?).bind (compFn Try.prog) = some fn75 := by kernel_rfl
theorem fn63_ok : (Try.prog.funcs[63]?).bind (compFn Try.prog) = some fn63 := by kernel_rfl
theorem fn76_ok : (Try.prog.funcs[76]?).bind (compFn Try.prog) = some fn76 := by kernel_rfl
theorem fn19_ok : (Try.prog.funcs[19]?).bind (compFn Try.prog) = some fn19 := by kernel_rfl
theorem fn64_ok : (Try.prog.funcs[64]?).bind (compFn Try.prog) = some fn64 := by kernel_rfl
theorem fn21_ok : (Try.prog.funcs[21]?).bind (compFn Try.prog) = some fn21 := by kernel_rfl
theorem fn79_ok : (Try.prog.funcs[79]?).bind (compFn Try.prog) = some fn79 := by kernel_rfl
theorem fn60_ok : (Try.prog.funcs[60]?).bind (compFn Try.prog) = some fn60 := by kernel_rfl
theorem fn80_ok : (Try.prog.funcs[80]?).bind (compFn Try.prog) = some fn80 := by kernel_rfl
theorem fn22_ok : (Try.prog.funcs[22]?).bind (compFn Try.prog) = some fn22 := by kernel_rfl
theorem fn23_ok : (Try.prog.funcs[23]?).bind (compFn Try.prog) = some fn23 := by kernel_rfl
theorem fn24_ok : (Try.prog.funcs[24]?).bind (compFn Try.prog) = some fn24 := by kernel_rfl
theorem fn4_ok : (Try.prog.funcs[4]?).bind (compFn Try.prog) = some fn4 := by kernel_rfl
theorem fn5_ok : (Try.prog.funcs[5]?).bind (compFn Try.prog) = some fn5 := by kernel_rfl
theorem fn25_ok : (Try.prog.funcs[25]?).bind (compFn Try.prog) = some fn25 := by kernel_rfl
theorem fn26_ok : (Try.prog.funcs[26]?).bind (compFn Try.prog) = some fn26 := by kernel_rfl
theorem fn81_ok : (Try.prog.funcs[81]?).bind (compFn Try.prog) = some fn81 := by kernel_rfl
theorem fn82_ok : (Try.prog.funcs[82]?).bind (compFn Try.prog) = some fn82 := by kernel_rfl
theorem fn84_ok : (Try.prog.funcs[84]?).bind (compFn Try.prog) = some fn84 := by kernel_rfl
theorem fn114_ok : (Try.prog.funcs[114]?).bind (compFn Try.prog) = some fn114 := by kernel_rfl
theorem fn137_ok : (Try.prog.funcs[137]?).bind (compFn Try.prog) = some fn137 := by kernel_rfl
theorem fn150_ok : (Try.prog.funcs[150]?).bind (compFn Try.prog) = some fn150 := by kernel_rfl
theorem fn138_ok : (Try.prog.funcs[138]?).bind (compFn Try.prog) = some fn138 := by kernel_rfl
theorem fn83_ok : (Try.prog.funcs[83]?).bind (compFn Try.prog) = some fn83 := by kernel_rfl
theorem fn28_ok : (Try.prog.funcs[28]?).bind (compFn Try.prog) = some fn28 := by kernel_rfl
theorem fn87_ok : (Try.prog.funcs[87]?).bind (compFn Try.prog) = some fn87 := by kernel_rfl
theorem fn115_ok : (Try.prog.funcs[115]?).bind (compFn Try.prog) = some fn115 := by kernel_rfl
theorem fn139_ok : (Try.prog.funcs[139]?).bind (compFn Try.prog) = some fn139 := by kernel_rfl
theorem fn88_ok : (Try.prog.funcs[88]?).bind (compFn Try.prog) = some fn88 := by kernel_rfl
theorem fn27_ok : (Try.prog.funcs[27]?).bind (compFn Try.prog) = some fn27 := by kernel_rfl
theorem fn86_ok : (Try.prog.funcs[86]?).bind (compFn Try.prog) = some fn86 := by kernel_rfl
theorem fn89_ok : (Try.prog.funcs[89]?).bind (compFn Try.prog) = some fn89 := by kernel_rfl
theorem fn117_ok : (Try.prog.funcs[117]?).bind (compFn Try.prog) = some fn117 := by kernel_rfl
theorem fn116_ok : (Try.prog.funcs[116]?).bind (compFn Try.prog) = some fn116 := by kernel_rfl
theorem fn85_ok : (Try.prog.funcs[85]?).bind (compFn Try.prog) = some fn85 := by kernel_rfl
theorem fn29_ok : (Try.prog.funcs[29]?).bind (compFn Try.prog) = some fn29 := by kernel_rfl
theorem fn6_ok : (Try.prog.funcs[6]?).bind (compFn Try.prog) = some fn6 := by kernel_rfl
theorem fn7_ok : (Try.prog.funcs[7]?).bind (compFn Try.prog) = some fn7 := by kernel_rfl
theorem fn30_ok : (Try.prog.funcs[30]?).bind (compFn Try.prog) = some fn30 := by kernel_rfl
theorem fn38_ok : (Try.prog.funcs[38]?).bind (compFn Try.prog) = some fn38 := by kernel_rfl
theorem fn92_ok : (Try.prog.funcs[92]?).bind (compFn Try.prog) = some fn92 := by kernel_rfl
theorem fn93_ok : (Try.prog.funcs[93]?).bind (compFn Try.prog) = some fn93 := by kernel_rfl
theorem fn90_ok : (Try.prog.funcs[90]?).bind (compFn Try.prog) = some fn90 := by kernel_rfl
theorem fn31_ok : (Try.prog.funcs[31]?).bind (compFn Try.prog) = some fn31 := by kernel_rfl
theorem fn39_ok : (Try.prog.funcs[39]?).bind (compFn Try.prog) = some fn39 := by kernel_rfl
theorem fn91_ok : (Try.prog.funcs[91]?).bind (compFn Try.prog) = some fn91 := by kernel_rfl
theorem fn32_ok : (Try.prog.funcs[32]?).bind (compFn Try.prog) = some fn32 := by kernel_rfl
theorem fn33_ok : (Try.prog.funcs[33]?).bind (compFn Try.prog) = some fn33 := by kernel_rfl
theorem fn34_ok : (Try.prog.funcs[34]?).bind (compFn Try.prog) = some fn34 := by kernel_rfl
theorem fn42_ok : (Try.prog.funcs[42]?).bind (compFn Try.prog) = some fn42 := by kernel_rfl
theorem fn94_ok : (Try.prog.funcs[94]?).bind (compFn Try.prog) = some fn94 := by kernel_rfl
theorem fn96_ok : (Try.prog.funcs[96]?).bind (compFn Try.prog) = some fn96 := by kernel_rfl
theorem fn119_ok : (Try.prog.funcs[119]?).bind (compFn Try.prog) = some fn119 := by kernel_rfl
theorem fn140_ok : (Try.prog.funcs[140]?).bind (compFn Try.prog) = some fn140 := by kernel_rfl
theorem fn141_ok : (Try.prog.funcs[141]?).bind (compFn Try.prog) = some fn141 := by kernel_rfl
theorem fn120_ok : (Try.prog.funcs[120]?).bind (compFn Try.prog) = some fn120 := by kernel_rfl
theorem fn121_ok : (Try.prog.funcs[121]?).bind (compFn Try.prog) = some fn121 := by kernel_rfl
theorem fn95_ok : (Try.prog.funcs[95]?).bind (compFn Try.prog) = some fn95 := by kernel_rfl
theorem fn118_ok : (Try.prog.funcs[118]?).bind (compFn Try.prog) = some fn118 := by kernel_rfl
theorem fn122_ok : (Try.prog.funcs[122]?).bind (compFn Try.prog) = some fn122 := by kernel_rfl
theorem fn142_ok : (Try.prog.funcs[142]?).bind (compFn Try.prog) = some fn142 := by kernel_rfl
theorem fn151_ok : (Try.prog.funcs[151]?).bind (compFn Try.prog) = some fn151 := by kernel_rfl
theorem fn97_ok : (Try.prog.funcs[97]?).bind (compFn Try.prog) = some fn97 := by kernel_rfl
theorem fn40_ok : (Try.prog.funcs[40]?).bind (compFn Try.prog) = some fn40 := by kernel_rfl
theorem fn35_ok : (Try.prog.funcs[35]?).bind (compFn Try.prog) = some fn35 := by kernel_rfl
theorem fn43_ok : (Try.prog.funcs[43]?).bind (compFn Try.prog) = some fn43 := by kernel_rfl
theorem fn99_ok : (Try.prog.funcs[99]?).bind (compFn Try.prog) = some fn99 := by kernel_rfl
theorem fn126_ok : (Try.prog.funcs[126]?).bind (compFn Try.prog) = some fn126 := by kernel_rfl
theorem fn144_ok : (Try.prog.funcs[144]?).bind (compFn Try.prog) = some fn144 := by kernel_rfl
theorem fn145_ok : (Try.prog.funcs[145]?).bind (compFn Try.prog) = some fn145 := by kernel_rfl
theorem fn127_ok : (Try.prog.funcs[127]?).bind (compFn Try.prog) = some fn127 := by kernel_rfl
theorem fn98_ok : (Try.prog.funcs[98]?).bind (compFn Try.prog) = some fn98 := by kernel_rfl
theorem fn123_ok : (Try.prog.funcs[123]?).bind (compFn Try.prog) = some fn123 := by kernel_rfl
theorem fn124_ok : (Try.prog.funcs[124]?).bind (compFn Try.prog) = some fn124 := by kernel_rfl
theorem fn143_ok : (Try.prog.funcs[143]?).bind (compFn Try.prog) = some fn143 := by kernel_rfl
theorem fn125_ok : (Try.prog.funcs[125]?).bind (compFn Try.prog) = some fn125 := by kernel_rfl
theorem fn41_ok : (Try.prog.funcs[41]?).bind (compFn Try.prog) = some fn41 := by kernel_rfl
theorem fn36_ok : (Try.prog.funcs[36]?).bind (compFn Try.prog) = some fn36 := by kernel_rfl
theorem fn37_ok : (Try.prog.funcs[37]?).bind (compFn Try.prog) = some fn37 := by kernel_rfl
end Go.Vm.Code
