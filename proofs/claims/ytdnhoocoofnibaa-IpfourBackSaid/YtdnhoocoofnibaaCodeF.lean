import Derived.Test.YtdnhoocoofnibaaVmLib
import Derived.Test.YtdnhoocoofnibaaProg
import Derived.KernelRfl
namespace Go.Vm.Code
open Go Go.Vm Go.Proofs
/- 5: cloakroom/cloakroomlaw05.IpfourTells -/
def k5_0 : VC := .reg [⟨(some 4), .box (.tmp 0), none⟩,
    ⟨(some 8), .mv (.const (.bool false)), none⟩]
def k5_1 : VC := .reg [⟨(some 19), .fieldA 11 (.tmp 4), none⟩,
    ⟨(some 20), .load1 .str (.tmp 19), none⟩,
    ⟨(some 21), .lenS (.tmp 20), none⟩,
    ⟨(some 22), .bin .gtr (.tmp 21) (.const (.int .i64 60)), none⟩,
    ⟨(some 23), .mv (.tmp 22), none⟩,
    ⟨(some 24), .mv (.tmp 1), (some (23, false))⟩,
    ⟨(some 25), .lenS (.tmp 24), (some (23, false))⟩,
    ⟨(some 26), .bin .gtr (.tmp 25) (.const (.int .i64 200)), (some (23, false))⟩,
    ⟨(some 27), .pick (.tmp 23) (.const (.bool true)) (.tmp 26), none⟩,
    ⟨(some 28), .mv (.tmp 27), none⟩,
    ⟨(some 29), .mv (.tmp 2), (some (28, false))⟩,
    ⟨(some 30), .lenS (.tmp 29), (some (28, false))⟩,
    ⟨(some 31), .bin .gtr (.tmp 30) (.const (.int .i64 200)), (some (28, false))⟩,
    ⟨(some 32), .pick (.tmp 28) (.const (.bool true)) (.tmp 31), none⟩]
def k5_2 : VC := .reg [⟨(some 33), .callF 20 [], none⟩,
    ⟨(some 8), .mv (.tmp 33), none⟩]
def k5_3 : VC := .seq k5_2 .ret
def k5_4 : VC := .cond (.tmp 32) k5_3 .skip
def k5_5 : VC := .seq k5_1 k5_4
def k5_6 : VC := .reg [⟨(some 35), .loadN [(.int .i64), (.int .i64), .bool, (.int .i64), (.int .i64), .bool, (.int .u64), (.int .u64), .bool, (.int .u64), (.int .u64), .str] (.tmp 4), none⟩,
    ⟨(some 36), .callF 22 [(.tmp 35)], none⟩,
    ⟨(some 37), .mv (.tmp 1), none⟩,
    ⟨(some 38), .callF 21 [(.tmp 36), (.tmp 37)], none⟩,
    ⟨(some 34), .mv (.tmp 38), none⟩,
    ⟨(some 39), .extract 0 (.tmp 34), none⟩,
    ⟨(some 40), .extract 1 (.tmp 34), none⟩,
    ⟨(some 9), .mv (.tmp 39), none⟩,
    ⟨(some 10), .mv (.tmp 40), none⟩]
def k5_7 : VC := .reg [⟨(some 42), .loadN [(.int .i64), (.int .i64), .bool, (.int .i64), (.int .i64), .bool, (.int .u64), (.int .u64), .bool, (.int .u64), (.int .u64), .str] (.tmp 4), none⟩,
    ⟨(some 43), .mv (.tmp 1), none⟩,
    ⟨(some 44), .callF 23 [(.tmp 42), (.tmp 43)], none⟩,
    ⟨(some 41), .mv (.tmp 44), none⟩,
    ⟨(some 45), .extract 0 (.tmp 41), none⟩,
    ⟨(some 46), .extract 1 (.tmp 41), none⟩,
    ⟨(some 11), .mv (.tmp 45), none⟩,
    ⟨(some 12), .mv (.tmp 46), none⟩]
def k5_8 : VC := .reg [⟨(some 48), .mv (.tmp 2), none⟩,
    ⟨(some 49), .callF 24 [(.tmp 48)], none⟩,
    ⟨(some 47), .mv (.tmp 49), none⟩,
    ⟨(some 50), .extract 0 (.tmp 47), none⟩,
    ⟨(some 51), .extract 1 (.tmp 47), none⟩,
    ⟨(some 52), .extract 2 (.tmp 47), none⟩,
    ⟨(some 13), .alloc [(.int .i64 0), (.int .i64 0), (.bool false), (.int .i64 0), (.int .i64 0), (.bool false), (.int .u64 0), (.int .u64 0), (.bool false), (.int .u64 0), (.int .u64 0), (.string ⟨⟨[]⟩⟩)], none⟩,
    ⟨none, .store 12 (.tmp 13) (.tmp 50), none⟩,
    ⟨(some 14), .mv (.tmp 51), none⟩,
    ⟨(some 15), .mv (.tmp 52), none⟩]
def k5_9 : VC := .reg [⟨(some 54), .mv (.tmp 2), none⟩,
    ⟨(some 55), .callF 25 [(.tmp 54)], none⟩,
    ⟨(some 53), .mv (.tmp 55), none⟩,
    ⟨(some 56), .extract 0 (.tmp 53), none⟩,
    ⟨(some 57), .extract 1 (.tmp 53), none⟩,
    ⟨(some 58), .extract 2 (.tmp 53), none⟩,
    ⟨(some 16), .alloc [(.int .i64 0), (.int .i64 0), (.bool false), (.int .i64 0), (.int .i64 0), (.bool false), (.int .u64 0), (.int .u64 0), (.bool false), (.int .u64 0), (.int .u64 0), (.string ⟨⟨[]⟩⟩)], none⟩,
    ⟨none, .store 12 (.tmp 16) (.tmp 56), none⟩,
    ⟨(some 17), .mv (.tmp 57), none⟩,
    ⟨(some 18), .mv (.tmp 58), none⟩]
def k5_10 : VC := .regD [⟨(some 59), .mv (.tmp 9), none⟩,
    ⟨(some 60), .mv (.tmp 11), none⟩,
    ⟨(some 61), .bin .eql (.tmp 59) (.tmp 60), none⟩,
    ⟨(some 62), .mv (.tmp 61), none⟩,
    ⟨(some 63), .mv (.tmp 10), (some (62, true))⟩,
    ⟨(some 64), .mv (.tmp 12), (some (62, true))⟩,
    ⟨(some 65), .bin .eql (.tmp 63) (.tmp 64), (some (62, true))⟩,
    ⟨(some 66), .pick (.tmp 62) (.tmp 65) (.const (.bool false)), none⟩,
    ⟨(some 67), .mv (.tmp 66), none⟩,
    ⟨(some 68), .loadN [(.int .i64), (.int .i64), .bool, (.int .i64), (.int .i64), .bool, (.int .u64), (.int .u64), .bool, (.int .u64), (.int .u64), .str] (.tmp 13), (some (67, true))⟩,
    ⟨(some 69), .callF 26 [(.tmp 68)], (some (67, true))⟩,
    ⟨(some 70), .loadN [(.int .i64), (.int .i64), .bool, (.int .i64), (.int .i64), .bool, (.int .u64), (.int .u64), .bool, (.int .u64), (.int .u64), .str] (.tmp 16), (some (67, true))⟩,
    ⟨(some 71), .eqAgg false [(0, (.int .i64)), (1, (.int .i64)), (2, .bool), (3, (.int .i64)), (4, (.int .i64)), (5, .bool), (6, (.int .u64)), (7, (.int .u64)), (8, .bool), (9, (.int .u64)), (10, (.int .u64)), (11, .str)] (.tmp 69) (.tmp 70), (some (67, true))⟩,
    ⟨(some 72), .pick (.tmp 67) (.tmp 71) (.const (.bool false)), none⟩,
    ⟨(some 73), .mv (.tmp 72), none⟩,
    ⟨(some 74), .mv (.tmp 14), (some (73, true))⟩,
    ⟨(some 75), .mv (.tmp 17), (some (73, true))⟩,
    ⟨(some 76), .bin .eql (.tmp 74) (.tmp 75), (some (73, true))⟩,
    ⟨(some 77), .pick (.tmp 73) (.tmp 76) (.const (.bool false)), none⟩,
    ⟨(some 78), .mv (.tmp 77), none⟩,
    ⟨(some 79), .mv (.tmp 15), (some (78, true))⟩,
    ⟨(some 80), .mv (.tmp 18), (some (78, true))⟩,
    ⟨(some 81), .bin .eql (.tmp 79) (.tmp 80), (some (78, true))⟩,
    ⟨(some 82), .pick (.tmp 78) (.tmp 81) (.const (.bool false)), none⟩,
    ⟨(some 83), .mv (.tmp 82), none⟩,
    ⟨(some 84), .fieldA 5 (.tmp 4), (some (83, true))⟩,
    ⟨(some 85), .loadN [.bool, (.int .u64), (.int .u64)] (.tmp 84), (some (83, true))⟩,
    ⟨(some 86), .fieldA 8 (.tmp 4), (some (83, true))⟩,
    ⟨(some 87), .loadN [.bool, (.int .u64), (.int .u64)] (.tmp 86), (some (83, true))⟩,
    ⟨(some 88), .fieldA 4 (.tmp 4), (some (83, true))⟩,
    ⟨(some 89), .load1 (.int .i64) (.tmp 88), (some (83, true))⟩,
    ⟨(some 90), .mv (.tmp 3), (some (83, true))⟩,
    ⟨(some 91), .callF 27 [(.tmp 85), (.tmp 87), (.tmp 89), (.tmp 90)], (some (83, true))⟩,
    ⟨(some 92), .fieldA 5 (.tmp 4), (some (83, true))⟩,
    ⟨(some 93), .loadN [.bool, (.int .u64), (.int .u64)] (.tmp 92), (some (83, true))⟩,
    ⟨(some 94), .fieldA 8 (.tmp 4), (some (83, true))⟩,
    ⟨(some 95), .loadN [.bool, (.int .u64), (.int .u64)] (.tmp 94), (some (83, true))⟩,
    ⟨(some 96), .fieldA 4 (.tmp 4), (some (83, true))⟩,
    ⟨(some 97), .load1 (.int .i64) (.tmp 96), (some (83, true))⟩,
    ⟨(some 98), .mv (.tmp 3), (some (83, true))⟩] [(10, 11), (32, 34), (32, 36), (32, 38)] [⟨(some 99), .callF 28 [(.tmp 93), (.tmp 95), (.tmp 97), (.tmp 98)], (some (83, true))⟩,
    ⟨(some 100), .bin .eql (.tmp 91) (.tmp 99), (some (83, true))⟩,
    ⟨(some 101), .pick (.tmp 83) (.tmp 100) (.const (.bool false)), none⟩,
    ⟨(some 102), .mv (.tmp 101), none⟩,
    ⟨(some 103), .callF 20 [], (some (102, true))⟩,
    ⟨(some 104), .pick (.tmp 102) (.tmp 103) (.const (.bool false)), none⟩,
    ⟨(some 8), .mv (.tmp 104), none⟩]
def k5_11 : VC := .seq k5_10 .ret
def k5_12 : VC := .seq k5_9 k5_11
def k5_13 : VC := .seq k5_8 k5_12
def k5_14 : VC := .seq k5_7 k5_13
def k5_15 : VC := .seq k5_6 k5_14
def k5_16 : VC := .seq k5_5 k5_15
def k5_17 : VC := .seq k5_0 k5_16
def fn5 : VFn := ⟨105, k5_17, [.tmp 8]⟩
/- 20: cloakroom/cloakroomlaw05.awake -/
def k20_0 : VC := .reg [⟨(some 0), .mv (.const (.bool false)), none⟩]
def k20_1 : VC := .reg [⟨(some 10), .build [(.bool false), (.int .u64 0), (.int .u64 0)] [(2, 1, (.const (.int .u64 1)))], none⟩,
    ⟨(some 11), .build [(.bool false), (.int .u64 0), (.int .u64 0)] [(2, 1, (.const (.int .u64 2)))], none⟩,
    ⟨(some 12), .build [(.int .i64 0), (.int .i64 0), (.bool false), (.int .i64 0), (.int .i64 0), (.bool false), (.int .u64 0), (.int .u64 0), (.bool false), (.int .u64 0), (.int .u64 0), (.string ⟨⟨[]⟩⟩)] [(3, 1, (.const (.int .i64 64))), (4, 1, (.const (.int .i64 6))), (5, 3, (.tmp 10)), (8, 3, (.tmp 11))], none⟩,
    ⟨(some 13), .callF 21 [(.tmp 12), (.const (.string ⟨⟨[]⟩⟩))], none⟩,
    ⟨(some 9), .mv (.tmp 13), none⟩,
    ⟨(some 14), .extract 0 (.tmp 9), none⟩,
    ⟨(some 15), .extract 1 (.tmp 9), none⟩,
    ⟨(some 1), .mv (.tmp 14), none⟩,
    ⟨(some 2), .mv (.tmp 15), none⟩]
def k20_2 : VC := .reg [⟨(some 17), .mv (.tmp 1), none⟩,
    ⟨(some 18), .callF 24 [(.tmp 17)], none⟩,
    ⟨(some 16), .mv (.tmp 18), none⟩,
    ⟨(some 19), .extract 0 (.tmp 16), none⟩,
    ⟨(some 20), .extract 1 (.tmp 16), none⟩,
    ⟨(some 21), .extract 2 (.tmp 16), none⟩,
    ⟨(some 3), .alloc [(.int .i64 0), (.int .i64 0), (.bool false), (.int .i64 0), (.int .i64 0), (.bool false), (.int .u64 0), (.int .u64 0), (.bool false), (.int .u64 0), (.int .u64 0), (.string ⟨⟨[]⟩⟩)], none⟩,
    ⟨none, .store 12 (.tmp 3) (.tmp 19), none⟩,
    ⟨(some 4), .mv (.tmp 20), none⟩,
    ⟨(some 5), .mv (.tmp 21), none⟩]
def k20_3 : VC := .reg [⟨(some 23), .callF 24 [(.const (.string ⟨⟨[]⟩⟩))], none⟩,
    ⟨(some 22), .mv (.tmp 23), none⟩,
    ⟨(some 24), .extract 0 (.tmp 22), none⟩,
    ⟨(some 25), .extract 1 (.tmp 22), none⟩,
    ⟨(some 26), .extract 2 (.tmp 22), none⟩,
    ⟨(some 6), .alloc [(.int .i64 0), (.int .i64 0), (.bool false), (.int .i64 0), (.int .i64 0), (.bool false), (.int .u64 0), (.int .u64 0), (.bool false), (.int .u64 0), (.int .u64 0), (.string ⟨⟨[]⟩⟩)], none⟩,
    ⟨none, .store 12 (.tmp 6) (.tmp 24), none⟩,
    ⟨(some 7), .mv (.tmp 25), none⟩,
    ⟨(some 8), .mv (.tmp 26), none⟩]
def k20_4 : VC := .reg [⟨(some 27), .mv (.tmp 2), none⟩,
    ⟨(some 28), .bin .eql (.tmp 27) (.const (.int .i64 0)), none⟩,
    ⟨(some 29), .mv (.tmp 28), none⟩,
    ⟨(some 30), .mv (.tmp 1), (some (29, true))⟩,
    ⟨(some 31), .lenS (.tmp 30), (some (29, true))⟩,
    ⟨(some 32), .bin .eql (.tmp 31) (.const (.int .i64 20)), (some (29, true))⟩,
    ⟨(some 33), .pick (.tmp 29) (.tmp 32) (.const (.bool false)), none⟩,
    ⟨(some 34), .mv (.tmp 33), none⟩,
    ⟨(some 35), .mv (.tmp 1), (some (34, true))⟩,
    ⟨(some 36), .idxS (.tmp 35) (.const (.int .i64 0)), (some (34, true))⟩,
    ⟨(some 37), .bin .eql (.tmp 36) (.const (.int .u8 69)), (some (34, true))⟩,
    ⟨(some 38), .pick (.tmp 34) (.tmp 37) (.const (.bool false)), none⟩,
    ⟨(some 39), .mv (.tmp 38), none⟩,
    ⟨(some 40), .mv (.tmp 5), (some (39, true))⟩,
    ⟨(some 41), .bin .eql (.tmp 40) (.const (.int .i64 0)), (some (39, true))⟩,
    ⟨(some 42), .pick (.tmp 39) (.tmp 41) (.const (.bool false)), none⟩,
    ⟨(some 43), .mv (.tmp 42), none⟩,
    ⟨(some 44), .mv (.tmp 8), (some (43, true))⟩,
    ⟨(some 45), .bin .eql (.tmp 44) (.const (.int .i64 2)), (some (43, true))⟩,
    ⟨(some 46), .pick (.tmp 43) (.tmp 45) (.const (.bool false)), none⟩,
    ⟨(some 0), .mv (.tmp 46), none⟩]
def k20_5 : VC := .seq k20_4 .ret
def k20_6 : VC := .seq k20_3 k20_5
def k20_7 : VC := .seq k20_2 k20_6
def k20_8 : VC := .seq k20_1 k20_7
def k20_9 : VC := .seq k20_0 k20_8
def fn20 : VFn := ⟨47, k20_9, [.tmp 0]⟩
/- 21: cloakroom/ipfour.Put -/
def k21_0 : VC := .reg [⟨(some 2), .box (.tmp 0), none⟩,
    ⟨(some 4), .mv (.const (.string ⟨⟨[]⟩⟩)), none⟩,
    ⟨(some 5), .mv (.const (.int .i64 0)), none⟩]
def k21_1 : VC := .reg [⟨(some 9), .fieldA 11 (.tmp 2), none⟩,
    ⟨(some 10), .load1 .str (.tmp 9), none⟩,
    ⟨(some 11), .lenS (.tmp 10), none⟩,
    ⟨(some 12), .bin .add (.const (.int .i64 20)) (.tmp 11), none⟩,
    ⟨(some 6), .mv (.tmp 12), none⟩]
def k21_2 : VC := .reg [⟨(some 14), .loadN [(.int .i64), (.int .i64), .bool, (.int .i64), (.int .i64), .bool, (.int .u64), (.int .u64), .bool, (.int .u64), (.int .u64), .str] (.tmp 2), none⟩,
    ⟨(some 15), .callF 76 [(.tmp 14)], none⟩,
    ⟨(some 16), .not (.tmp 15), none⟩,
    ⟨(some 13), .mv (.tmp 16), none⟩]
def k21_3 : VC := .reg [⟨(some 4), .mv (.const (.string ⟨⟨[]⟩⟩)), none⟩,
    ⟨(some 5), .mv (.const (.int .i64 1)), none⟩]
def k21_4 : VC := .seq k21_3 .ret
def k21_5 : VC := .reg [⟨(some 18), .mv (.tmp 1), none⟩,
    ⟨(some 19), .lenS (.tmp 18), none⟩,
    ⟨(some 20), .mv (.tmp 6), none⟩,
    ⟨(some 21), .bin .sub (.const (.int .i64 65535)) (.tmp 20), none⟩,
    ⟨(some 22), .bin .gtr (.tmp 19) (.tmp 21), none⟩,
    ⟨(some 17), .mv (.tmp 22), none⟩]
def k21_6 : VC := .reg [⟨(some 4), .mv (.const (.string ⟨⟨[]⟩⟩)), none⟩,
    ⟨(some 5), .mv (.const (.int .i64 5)), none⟩]
def k21_7 : VC := .seq k21_6 .ret
def k21_8 : VC := .cond (.tmp 17) k21_7 .skip
def k21_9 : VC := .seq k21_5 k21_8
def k21_10 : VC := .cond (.tmp 13) k21_4 k21_9
def k21_11 : VC := .seq k21_2 k21_10
def k21_12 : VC := .block 0 k21_11
def k21_13 : VC := .reg [⟨(some 7), .mv (.const (.int .i64 0)), none⟩]
def k21_14 : VC := .reg [⟨(some 23), .fieldA 2 (.tmp 2), none⟩,
    ⟨(some 24), .load1 .bool (.tmp 23), none⟩]
def k21_15 : VC := .reg [⟨(some 7), .mv (.const (.int .i64 64)), none⟩]
def k21_16 : VC := .cond (.tmp 24) k21_15 .skip
def k21_17 : VC := .seq k21_14 k21_16
def k21_18 : VC := .reg [⟨(some 25), .mv (.tmp 6), none⟩,
    ⟨(some 26), .bin .quo (.tmp 25) (.const (.int .i64 4)), none⟩,
    ⟨(some 27), .bin .or (.const (.int .i64 64)) (.tmp 26), none⟩,
    ⟨(some 28), .fieldA 0 (.tmp 2), none⟩,
    ⟨(some 29), .load1 (.int .i64) (.tmp 28), none⟩,
    ⟨(some 30), .mv (.tmp 6), none⟩,
    ⟨(some 31), .mv (.tmp 1), none⟩,
    ⟨(some 32), .lenS (.tmp 31), none⟩,
    ⟨(some 33), .bin .add (.tmp 30) (.tmp 32), none⟩,
    ⟨(some 34), .fieldA 1 (.tmp 2), none⟩,
    ⟨(some 35), .load1 (.int .i64) (.tmp 34), none⟩,
    ⟨(some 36), .mv (.tmp 7), none⟩,
    ⟨(some 37), .fieldA 3 (.tmp 2), none⟩,
    ⟨(some 38), .load1 (.int .i64) (.tmp 37), none⟩,
    ⟨(some 39), .fieldA 4 (.tmp 2), none⟩,
    ⟨(some 40), .load1 (.int .i64) (.tmp 39), none⟩,
    ⟨(some 41), .buildSl 18 1 [(.int .i64 0), (.int .i64 0), (.int .i64 0), (.int .i64 0), (.int .i64 0), (.int .i64 0), (.int .i64 0), (.int .i64 0), (.int .i64 0), (.int .i64 0), (.int .i64 0), (.int .i64 0), (.int .i64 0), (.int .i64 0), (.int .i64 0), (.int .i64 0), (.int .i64 0), (.int .i64 0)] [(0, 1, (.tmp 27)), (1, 1, (.const (.int .i64 1))), (2, 1, (.tmp 29)), (3, 1, (.const (.int .i64 1))), (4, 1, (.tmp 33)), (5, 1, (.const (.int .i64 2))), (6, 1, (.tmp 35)), (7, 1, (.const (.int .i64 2))), (8, 1, (.tmp 36)), (9, 1, (.const (.int .i64 1))), (10, 1, (.const (.int .i64 0))), (11, 1, (.const (.int .i64 1))), (12, 1, (.tmp 38)), (13, 1, (.const (.int .i64 1))), (14, 1, (.tmp 40)), (15, 1, (.const (.int .i64 1))), (16, 1, (.const (.int .i64 0))), (17, 1, (.const (.int .i64 2)))], none⟩,
    ⟨(some 42), .callF 77 [(.tmp 41)], none⟩,
    ⟨(some 8), .mv (.tmp 42), none⟩]
def k21_19 : VC := .regD [⟨(some 43), .mv (.tmp 8), none⟩,
    ⟨(some 44), .fieldA 5 (.tmp 2), none⟩,
    ⟨(some 45), .loadN [.bool, (.int .u64), (.int .u64)] (.tmp 44), none⟩,
    ⟨(some 46), .callF 78 [(.tmp 45)], none⟩,
    ⟨(some 47), .fieldA 8 (.tmp 2), none⟩,
    ⟨(some 48), .loadN [.bool, (.int .u64), (.int .u64)] (.tmp 47), none⟩,
    ⟨(some 49), .callF 78 [(.tmp 48)], none⟩,
    ⟨(some 50), .bin .add (.tmp 46) (.tmp 49), none⟩,
    ⟨(some 51), .fieldA 11 (.tmp 2), none⟩,
    ⟨(some 52), .load1 .str (.tmp 51), none⟩,
    ⟨(some 53), .bin .add (.tmp 50) (.tmp 52), none⟩] [(3, 5), (3, 9), (6, 9)] [⟨(some 54), .bin .add (.tmp 43) (.tmp 53), none⟩,
    ⟨(some 8), .mv (.tmp 54), none⟩]
def k21_20 : VC := .reg [⟨(some 55), .mv (.tmp 8), none⟩,
    ⟨(some 56), .mv (.tmp 8), none⟩,
    ⟨(some 57), .callF 64 [(.tmp 56)], none⟩,
    ⟨(some 58), .conv .u64 (.tmp 57), none⟩,
    ⟨(some 59), .callF 65 [(.tmp 55), (.const (.int .i64 10)), (.const (.int .i64 2)), (.tmp 58)], none⟩,
    ⟨(some 60), .mv (.tmp 1), none⟩,
    ⟨(some 61), .bin .add (.tmp 59) (.tmp 60), none⟩,
    ⟨(some 4), .mv (.tmp 61), none⟩,
    ⟨(some 5), .mv (.const (.int .i64 0)), none⟩]
def k21_21 : VC := .seq k21_20 .ret
def k21_22 : VC := .seq k21_19 k21_21
def k21_23 : VC := .seq k21_18 k21_22
def k21_24 : VC := .seq k21_17 k21_23
def k21_25 : VC := .seq k21_13 k21_24
def k21_26 : VC := .seq k21_12 k21_25
def k21_27 : VC := .seq k21_1 k21_26
def k21_28 : VC := .seq k21_0 k21_27
def fn21 : VFn := ⟨62, k21_28, [.tmp 4, .tmp 5]⟩
/- 76: (cloakroom/ipfour.Head).may -/
def k76_0 : VC := .reg [⟨(some 1), .box (.tmp 0), none⟩,
    ⟨(some 2), .mv (.const (.bool false)), none⟩]
def k76_1 : VC := .reg [⟨(some 3), .fieldA 0 (.tmp 1), none⟩,
    ⟨(some 4), .load1 (.int .i64) (.tmp 3), none⟩,
    ⟨(some 5), .callF 117 [(.tmp 4), (.const (.int .i64 255))], none⟩,
    ⟨(some 6), .not (.tmp 5), none⟩,
    ⟨(some 7), .mv (.tmp 6), none⟩,
    ⟨(some 8), .fieldA 1 (.tmp 1), (some (7, false))⟩,
    ⟨(some 9), .load1 (.int .i64) (.tmp 8), (some (7, false))⟩,
    ⟨(some 10), .callF 117 [(.tmp 9), (.const (.int .i64 65535))], (some (7, false))⟩,
    ⟨(some 11), .not (.tmp 10), (some (7, false))⟩,
    ⟨(some 12), .pick (.tmp 7) (.const (.bool true)) (.tmp 11), none⟩,
    ⟨(some 13), .mv (.tmp 12), none⟩,
    ⟨(some 14), .fieldA 3 (.tmp 1), (some (13, false))⟩,
    ⟨(some 15), .load1 (.int .i64) (.tmp 14), (some (13, false))⟩,
    ⟨(some 16), .callF 117 [(.tmp 15), (.const (.int .i64 255))], (some (13, false))⟩,
    ⟨(some 17), .not (.tmp 16), (some (13, false))⟩,
    ⟨(some 18), .pick (.tmp 13) (.const (.bool true)) (.tmp 17), none⟩,
    ⟨(some 19), .mv (.tmp 18), none⟩,
    ⟨(some 20), .fieldA 4 (.tmp 1), (some (19, false))⟩,
    ⟨(some 21), .load1 (.int .i64) (.tmp 20), (some (19, false))⟩,
    ⟨(some 22), .callF 117 [(.tmp 21), (.const (.int .i64 255))], (some (19, false))⟩,
    ⟨(some 23), .not (.tmp 22), (some (19, false))⟩,
    ⟨(some 24), .pick (.tmp 19) (.const (.bool true)) (.tmp 23), none⟩]
def k76_2 : VC := .reg [⟨(some 2), .mv (.const (.bool false)), none⟩]
def k76_3 : VC := .seq k76_2 .ret
def k76_4 : VC := .cond (.tmp 24) k76_3 .skip
def k76_5 : VC := .seq k76_1 k76_4
def k76_6 : VC := .reg [⟨(some 25), .fieldA 5 (.tmp 1), none⟩,
    ⟨(some 26), .loadN [.bool, (.int .u64), (.int .u64)] (.tmp 25), none⟩,
    ⟨(some 27), .callF 118 [(.tmp 26)], none⟩,
    ⟨(some 28), .mv (.tmp 27), none⟩,
    ⟨(some 29), .fieldA 8 (.tmp 1), (some (28, true))⟩,
    ⟨(some 30), .loadN [.bool, (.int .u64), (.int .u64)] (.tmp 29), (some (28, true))⟩,
    ⟨(some 31), .callF 118 [(.tmp 30)], (some (28, true))⟩,
    ⟨(some 32), .pick (.tmp 28) (.tmp 31) (.const (.bool false)), none⟩,
    ⟨(some 33), .mv (.tmp 32), none⟩,
    ⟨(some 34), .fieldA 11 (.tmp 1), (some (33, true))⟩,
    ⟨(some 35), .load1 .str (.tmp 34), (some (33, true))⟩,
    ⟨(some 36), .lenS (.tmp 35), (some (33, true))⟩,
    ⟨(some 37), .bin .rem (.tmp 36) (.const (.int .i64 4)), (some (33, true))⟩,
    ⟨(some 38), .bin .eql (.tmp 37) (.const (.int .i64 0)), (some (33, true))⟩,
    ⟨(some 39), .pick (.tmp 33) (.tmp 38) (.const (.bool false)), none⟩,
    ⟨(some 40), .mv (.tmp 39), none⟩,
    ⟨(some 41), .fieldA 11 (.tmp 1), (some (40, true))⟩,
    ⟨(some 42), .load1 .str (.tmp 41), (some (40, true))⟩,
    ⟨(some 43), .lenS (.tmp 42), (some (40, true))⟩,
    ⟨(some 44), .bin .leq (.tmp 43) (.const (.int .i64 40)), (some (40, true))⟩,
    ⟨(some 45), .pick (.tmp 40) (.tmp 44) (.const (.bool false)), none⟩,
    ⟨(some 2), .mv (.tmp 45), none⟩]
def k76_7 : VC := .seq k76_6 .ret
def k76_8 : VC := .seq k76_5 k76_7
def k76_9 : VC := .seq k76_0 k76_8
def fn76 : VFn := ⟨46, k76_9, [.tmp 2]⟩
/- 117: cloakroom/ipfour.within -/
def k117_0 : VC := .reg [⟨(some 4), .mv (.const (.bool false)), none⟩]
def k117_1 : VC := .reg [⟨(some 5), .mv (.tmp 0), none⟩,
    ⟨(some 6), .bin .leq (.const (.int .i64 0)) (.tmp 5), none⟩,
    ⟨(some 7), .mv (.tmp 6), none⟩,
    ⟨(some 8), .mv (.tmp 0), (some (7, true))⟩,
    ⟨(some 9), .mv (.tmp 1), (some (7, true))⟩,
    ⟨(some 10), .bin .leq (.tmp 8) (.tmp 9), (some (7, true))⟩,
    ⟨(some 11), .pick (.tmp 7) (.tmp 10) (.const (.bool false)), none⟩,
    ⟨(some 4), .mv (.tmp 11), none⟩]
def k117_2 : VC := .seq k117_1 .ret
def k117_3 : VC := .seq k117_0 k117_2
def fn117 : VFn := ⟨12, k117_3, [.tmp 4]⟩
/- 118: cloakroom/ipfour.four -/
def k118_0 : VC := .reg [⟨(some 1), .box (.tmp 0), none⟩,
    ⟨(some 2), .mv (.const (.bool false)), none⟩]
def k118_1 : VC := .reg [⟨(some 3), .fieldA 0 (.tmp 1), none⟩,
    ⟨(some 4), .load1 .bool (.tmp 3), none⟩,
    ⟨(some 5), .not (.tmp 4), none⟩,
    ⟨(some 6), .mv (.tmp 5), none⟩,
    ⟨(some 7), .loadN [.bool, (.int .u64), (.int .u64)] (.tmp 1), (some (6, true))⟩,
    ⟨(some 8), .callF 85 [(.tmp 7)], (some (6, true))⟩,
    ⟨(some 9), .pick (.tmp 6) (.tmp 8) (.const (.bool false)), none⟩,
    ⟨(some 2), .mv (.tmp 9), none⟩]
def k118_2 : VC := .seq k118_1 .ret
def k118_3 : VC := .seq k118_0 k118_2
def fn118 : VFn := ⟨10, k118_3, [.tmp 2]⟩
/- 85: cloakroom/addr.Right -/
def k85_0 : VC := .reg [⟨(some 1), .box (.tmp 0), none⟩,
    ⟨(some 2), .mv (.const (.bool false)), none⟩]
def k85_1 : VC := .reg [⟨(some 3), .fieldA 0 (.tmp 1), none⟩,
    ⟨(some 4), .load1 .bool (.tmp 3), none⟩,
    ⟨(some 5), .mv (.tmp 4), none⟩,
    ⟨(some 6), .fieldA 1 (.tmp 1), (some (5, false))⟩,
    ⟨(some 7), .load1 (.int .u64) (.tmp 6), (some (5, false))⟩,
    ⟨(some 8), .bin .eql (.tmp 7) (.const (.int .u64 0)), (some (5, false))⟩,
    ⟨(some 9), .mv (.tmp 8), (some (5, false))⟩,
    ⟨(some 10), .fieldA 2 (.tmp 1), (some (9, true))⟩,
    ⟨(some 11), .load1 (.int .u64) (.tmp 10), (some (9, true))⟩,
    ⟨(some 12), .bin .lss (.tmp 11) (.const (.int .u64 4294967296)), (some (9, true))⟩,
    ⟨(some 13), .pick (.tmp 9) (.tmp 12) (.const (.bool false)), (some (5, false))⟩,
    ⟨(some 14), .pick (.tmp 5) (.const (.bool true)) (.tmp 13), none⟩,
    ⟨(some 2), .mv (.tmp 14), none⟩]
def k85_2 : VC := .seq k85_1 .ret
def k85_3 : VC := .seq k85_0 k85_2
def fn85 : VFn := ⟨15, k85_3, [.tmp 2]⟩
/- 77: cloakroom/ipfour.row -/
def k77_0 : VC := .reg [⟨(some 2), .mv (.const (.string ⟨⟨[]⟩⟩)), none⟩]
def k77_1 : VC := .reg [⟨(some 3), .allocB 114 5, none⟩]
def k77_2 : VC := .reg [⟨(some 4), .mv (.const (.int .i64 0)), none⟩]
def k77_3 : VC := .reg [⟨(some 5), .mv (.tmp 4), none⟩,
    ⟨(some 6), .bin .add (.tmp 5) (.const (.int .i64 1)), none⟩,
    ⟨(some 7), .mv (.tmp 0), none⟩,
    ⟨(some 8), .lenL (.tmp 7), none⟩,
    ⟨(some 9), .bin .lss (.tmp 6) (.tmp 8), none⟩]
def k77_4 : VC := .cond (.tmp 9) .skip (.exit 0)
def k77_5 : VC := .seq k77_3 k77_4
def k77_6 : VC := .regD [⟨(some 12), .mv (.tmp 0), none⟩,
    ⟨(some 13), .mv (.tmp 4), none⟩,
    ⟨(some 14), .idxAL 1 (.tmp 12) (.tmp 13), none⟩,
    ⟨(some 15), .load1 (.int .i64) (.tmp 14), none⟩,
    ⟨(some 16), .conv .u64 (.tmp 15), none⟩,
    ⟨(some 17), .mv (.tmp 0), none⟩,
    ⟨(some 18), .mv (.tmp 4), none⟩,
    ⟨(some 19), .bin .add (.tmp 18) (.const (.int .i64 1)), none⟩,
    ⟨(some 20), .idxAL 1 (.tmp 17) (.tmp 19), none⟩,
    ⟨(some 21), .load1 (.int .i64) (.tmp 20), none⟩] [] [⟨(some 22), .callF 62 [(.tmp 16), (.tmp 21)], none⟩,
    ⟨(some 23), .callF 61 [(.tmp 3), (.tmp 22)], none⟩]
def k77_7 : VC := .block 1 k77_6
def k77_8 : VC := .reg [⟨(some 10), .mv (.tmp 4), none⟩,
    ⟨(some 11), .bin .add (.tmp 10) (.const (.int .i64 2)), none⟩,
    ⟨(some 4), .mv (.tmp 11), none⟩]
def k77_9 : VC := .seq k77_7 k77_8
def k77_10 : VC := .seq k77_5 k77_9
def k77_11 : VC := .loop k77_10
def k77_12 : VC := .block 0 k77_11
def k77_13 : VC := .seq k77_2 k77_12
def k77_14 : VC := .reg [⟨(some 24), .callF 63 [(.tmp 3)], none⟩,
    ⟨(some 2), .mv (.tmp 24), none⟩]
def k77_15 : VC := .seq k77_14 .ret
def k77_16 : VC := .seq k77_13 k77_15
def k77_17 : VC := .seq k77_1 k77_16
def k77_18 : VC := .seq k77_0 k77_17
def fn77 : VFn := ⟨25, k77_18, [.tmp 2]⟩
/- 62: cloakroom/octet.Put -/
def k62_0 : VC := .reg [⟨(some 4), .mv (.const (.string ⟨⟨[]⟩⟩)), none⟩]
def k62_1 : VC := .reg [⟨(some 7), .mv (.tmp 1), none⟩,
    ⟨(some 8), .bin .lss (.tmp 7) (.const (.int .i64 1)), none⟩,
    ⟨(some 9), .mv (.tmp 8), none⟩,
    ⟨(some 10), .mv (.tmp 1), (some (9, false))⟩,
    ⟨(some 11), .bin .gtr (.tmp 10) (.const (.int .i64 8)), (some (9, false))⟩,
    ⟨(some 12), .pick (.tmp 9) (.const (.bool true)) (.tmp 11), none⟩]
def k62_2 : VC := .reg [⟨(some 4), .mv (.const (.string ⟨⟨[]⟩⟩)), none⟩]
def k62_3 : VC := .seq k62_2 .ret
def k62_4 : VC := .cond (.tmp 12) k62_3 .skip
def k62_5 : VC := .seq k62_1 k62_4
def k62_6 : VC := .reg [⟨(some 13), .mv (.tmp 1), none⟩,
    ⟨(some 14), .mkSl 1 1 [(.int .u8 0)] (.tmp 13) (.tmp 13), none⟩,
    ⟨(some 5), .mv (.tmp 14), none⟩]
def k62_7 : VC := .reg [⟨(some 15), .mv (.tmp 5), none⟩,
    ⟨(some 16), .lenL (.tmp 15), none⟩,
    ⟨(some 17), .mv (.const (.int .i64 0)), none⟩]
def k62_8 : VC := .reg [⟨(some 18), .bin .lss (.tmp 17) (.tmp 16), none⟩]
def k62_9 : VC := .cond (.tmp 18) .skip (.exit 0)
def k62_10 : VC := .reg [⟨(some 19), .mv (.tmp 17), none⟩,
    ⟨(some 6), .mv (.tmp 19), none⟩]
def k62_11 : VC := .reg [⟨(some 20), .mv (.tmp 5), none⟩,
    ⟨(some 21), .mv (.tmp 6), none⟩,
    ⟨(some 22), .mv (.tmp 0), none⟩,
    ⟨(some 23), .mv (.tmp 1), none⟩,
    ⟨(some 24), .bin .sub (.tmp 23) (.const (.int .i64 1)), none⟩,
    ⟨(some 25), .mv (.tmp 6), none⟩,
    ⟨(some 26), .bin .sub (.tmp 24) (.tmp 25), none⟩,
    ⟨(some 27), .bin .mul (.const (.int .i64 8)) (.tmp 26), none⟩,
    ⟨(some 28), .bin .shr (.tmp 22) (.tmp 27), none⟩,
    ⟨(some 29), .conv .u8 (.tmp 28), none⟩,
    ⟨(some 30), .idxAL 1 (.tmp 20) (.tmp 21), none⟩,
    ⟨none, .store 1 (.tmp 30) (.tmp 29), none⟩]
def k62_12 : VC := .seq k62_10 k62_11
def k62_13 : VC := .block 1 k62_12
def k62_14 : VC := .reg [⟨(some 31), .bin .add (.tmp 17) (.const (.int .i64 1)), none⟩,
    ⟨(some 17), .mv (.tmp 31), none⟩]
def k62_15 : VC := .seq k62_13 k62_14
def k62_16 : VC := .seq k62_9 k62_15
def k62_17 : VC := .seq k62_8 k62_16
def k62_18 : VC := .loop k62_17
def k62_19 : VC := .block 0 k62_18
def k62_20 : VC := .seq k62_7 k62_19
def k62_21 : VC := .reg [⟨(some 32), .mv (.tmp 5), none⟩,
    ⟨(some 33), .b2s (.tmp 32), none⟩,
    ⟨(some 4), .mv (.tmp 33), none⟩]
def k62_22 : VC := .seq k62_21 .ret
def k62_23 : VC := .seq k62_20 k62_22
def k62_24 : VC := .seq k62_6 k62_23
def k62_25 : VC := .seq k62_5 k62_24
def k62_26 : VC := .seq k62_0 k62_25
def fn62 : VFn := ⟨34, k62_26, [.tmp 4]⟩
/- 61: (*strings.Builder).WriteString -/
def k61_0 : VC := .reg [⟨(some 4), .mv (.const (.int .i64 0)), none⟩,
    ⟨(some 5), .mv (.const .nilIface), none⟩]
def k61_1 : VC := .reg [⟨(some 6), .mv (.tmp 0), none⟩,
    ⟨(some 7), .callF 112 [(.tmp 6)], none⟩]
def k61_2 : VC := .reg [⟨(some 8), .mv (.tmp 0), none⟩,
    ⟨(some 9), .mv (.tmp 0), none⟩,
    ⟨(some 10), .nilCheck (.tmp 9), none⟩,
    ⟨(some 11), .fieldA 1 (.tmp 10), none⟩,
    ⟨(some 12), .load1 .oth (.tmp 11), none⟩,
    ⟨(some 13), .mv (.tmp 1), none⟩,
    ⟨(some 14), .app 5 1 1 (.tmp 12) (.tmp 13), none⟩,
    ⟨(some 15), .nilCheck (.tmp 8), none⟩,
    ⟨(some 16), .fieldA 1 (.tmp 15), none⟩,
    ⟨none, .store 1 (.tmp 16) (.tmp 14), none⟩]
def k61_3 : VC := .reg [⟨(some 17), .mv (.tmp 1), none⟩,
    ⟨(some 18), .lenS (.tmp 17), none⟩,
    ⟨(some 4), .mv (.tmp 18), none⟩,
    ⟨(some 5), .mv (.const .nilIface), none⟩]
def k61_4 : VC := .seq k61_3 .ret
def k61_5 : VC := .seq k61_2 k61_4
def k61_6 : VC := .seq k61_1 k61_5
def k61_7 : VC := .seq k61_0 k61_6
def fn61 : VFn := ⟨19, k61_7, [.tmp 4, .tmp 5]⟩
/- 112: (*strings.Builder).copyCheck -/
def k112_0 : VC := .reg [⟨(some 2), .mv (.tmp 0), none⟩,
    ⟨(some 3), .nilCheck (.tmp 2), none⟩,
    ⟨(some 4), .fieldA 0 (.tmp 3), none⟩,
    ⟨(some 5), .load1 .oth (.tmp 4), none⟩,
    ⟨(some 6), .isNil 0 false (.tmp 5), none⟩]
def k112_1 : VC := .reg [⟨(some 7), .mv (.tmp 0), none⟩,
    ⟨(some 8), .mv (.tmp 0), none⟩,
    ⟨(some 9), .toU (.tmp 8), none⟩,
    ⟨(some 10), .mv (.tmp 9), none⟩,
    ⟨(some 11), .ofU 114 2 (.tmp 10), none⟩,
    ⟨(some 12), .nilCheck (.tmp 7), none⟩,
    ⟨(some 13), .fieldA 0 (.tmp 12), none⟩,
    ⟨none, .store 1 (.tmp 13) (.tmp 11), none⟩]
def k112_2 : VC := .reg [⟨(some 14), .mv (.tmp 0), none⟩,
    ⟨(some 15), .nilCheck (.tmp 14), none⟩,
    ⟨(some 16), .fieldA 0 (.tmp 15), none⟩,
    ⟨(some 17), .load1 .oth (.tmp 16), none⟩,
    ⟨(some 18), .mv (.tmp 0), none⟩,
    ⟨(some 19), .eqP true (.tmp 17) (.tmp 18), none⟩]
def k112_3 : VC := .cond (.tmp 19) .stuck .skip
def k112_4 : VC := .seq k112_2 k112_3
def k112_5 : VC := .cond (.tmp 6) k112_1 k112_4
def k112_6 : VC := .seq k112_0 k112_5
def fn112 : VFn := ⟨20, k112_6, []⟩
/- 63: (*strings.Builder).String -/
def k63_0 : VC := .reg [⟨(some 2), .mv (.const (.string ⟨⟨[]⟩⟩)), none⟩]
def k63_1 : VC := .regD [⟨(some 3), .mv (.tmp 0), none⟩,
    ⟨(some 4), .nilCheck (.tmp 3), none⟩,
    ⟨(some 5), .fieldA 1 (.tmp 4), none⟩,
    ⟨(some 6), .load1 .oth (.tmp 5), none⟩,
    ⟨(some 7), .sdata (.tmp 6), none⟩,
    ⟨(some 8), .mv (.tmp 0), none⟩,
    ⟨(some 9), .nilCheck (.tmp 8), none⟩,
    ⟨(some 10), .fieldA 1 (.tmp 9), none⟩,
    ⟨(some 11), .load1 .oth (.tmp 10), none⟩,
    ⟨(some 12), .lenL (.tmp 11), none⟩] [] [⟨(some 13), .ustr 5 (.tmp 7) (.tmp 12), none⟩,
    ⟨(some 2), .mv (.tmp 13), none⟩]
def k63_2 : VC := .seq k63_1 .ret
def k63_3 : VC := .seq k63_0 k63_2
def fn63 : VFn := ⟨14, k63_3, [.tmp 2]⟩
/- 78: cloakroom/addr.Put -/
def k78_0 : VC := .reg [⟨(some 1), .box (.tmp 0), none⟩,
    ⟨(some 2), .mv (.const (.string ⟨⟨[]⟩⟩)), none⟩]
def k78_1 : VC := .reg [⟨(some 4), .loadN [.bool, (.int .u64), (.int .u64)] (.tmp 1), none⟩,
    ⟨(some 5), .callF 85 [(.tmp 4)], none⟩,
    ⟨(some 6), .not (.tmp 5), none⟩,
    ⟨(some 3), .mv (.tmp 6), none⟩]
def k78_2 : VC := .reg [⟨(some 2), .mv (.const (.string ⟨⟨[]⟩⟩)), none⟩]
def k78_3 : VC := .seq k78_2 .ret
def k78_4 : VC := .reg [⟨(some 8), .fieldA 0 (.tmp 1), none⟩,
    ⟨(some 9), .load1 .bool (.tmp 8), none⟩,
    ⟨(some 7), .mv (.tmp 9), none⟩]
def k78_5 : VC := .regD [⟨(some 10), .fieldA 1 (.tmp 1), none⟩,
    ⟨(some 11), .load1 (.int .u64) (.tmp 10), none⟩,
    ⟨(some 12), .callF 62 [(.tmp 11), (.const (.int .i64 8))], none⟩,
    ⟨(some 13), .fieldA 2 (.tmp 1), none⟩,
    ⟨(some 14), .load1 (.int .u64) (.tmp 13), none⟩] [(2, 4)] [⟨(some 15), .callF 62 [(.tmp 14), (.const (.int .i64 8))], none⟩,
    ⟨(some 16), .bin .add (.tmp 12) (.tmp 15), none⟩,
    ⟨(some 2), .mv (.tmp 16), none⟩]
def k78_6 : VC := .seq k78_5 .ret
def k78_7 : VC := .cond (.tmp 7) k78_6 .skip
def k78_8 : VC := .seq k78_4 k78_7
def k78_9 : VC := .cond (.tmp 3) k78_3 k78_8
def k78_10 : VC := .seq k78_1 k78_9
def k78_11 : VC := .block 0 k78_10
def k78_12 : VC := .reg [⟨(some 17), .fieldA 2 (.tmp 1), none⟩,
    ⟨(some 18), .load1 (.int .u64) (.tmp 17), none⟩,
    ⟨(some 19), .callF 62 [(.tmp 18), (.const (.int .i64 4))], none⟩,
    ⟨(some 2), .mv (.tmp 19), none⟩]
def k78_13 : VC := .seq k78_12 .ret
def k78_14 : VC := .seq k78_11 k78_13
def k78_15 : VC := .seq k78_0 k78_14
def fn78 : VFn := ⟨20, k78_15, [.tmp 2]⟩
/- 64: cloakroom/check.Of -/
def k64_0 : VC := .reg [⟨(some 2), .mv (.const (.int .i64 0)), none⟩]
def k64_1 : VC := .reg [⟨(some 3), .mv (.tmp 0), none⟩,
    ⟨(some 4), .callF 113 [(.tmp 3)], none⟩,
    ⟨(some 5), .bin .sub (.const (.int .i64 65535)) (.tmp 4), none⟩,
    ⟨(some 2), .mv (.tmp 5), none⟩]
def k64_2 : VC := .seq k64_1 .ret
def k64_3 : VC := .seq k64_0 k64_2
def fn64 : VFn := ⟨6, k64_3, [.tmp 2]⟩
/- 113: cloakroom/check.Sum -/
def k113_0 : VC := .reg [⟨(some 2), .mv (.const (.int .i64 0)), none⟩]
def k113_1 : VC := .reg [⟨(some 3), .alloc [(.int .i64 0)], none⟩,
    ⟨none, .store 1 (.tmp 3) (.const (.int .i64 0)), none⟩]
def k113_2 : VC := .reg [⟨(some 5), .mv (.tmp 0), none⟩,
    ⟨(some 6), .callF 130 [(.tmp 5)], none⟩]
def k113_3 : VC := .reg [⟨(some 4), .mv (.tmp 7), none⟩]
def k113_4 : VC := .reg [⟨(some 8), .load1 (.int .i64) (.tmp 3), none⟩,
    ⟨(some 9), .mv (.tmp 4), none⟩,
    ⟨(some 10), .bin .add (.tmp 8) (.tmp 9), none⟩,
    ⟨(some 11), .callF 131 [(.tmp 10)], none⟩,
    ⟨none, .store 1 (.tmp 3) (.tmp 11), none⟩]
def k113_5 : VC := .block 1 k113_4
def k113_6 : VC := .rangeF (.tmp 6) [7] k113_3 k113_5
def k113_7 : VC := .block 0 k113_6
def k113_8 : VC := .seq k113_2 k113_7
def k113_9 : VC := .reg [⟨(some 12), .load1 (.int .i64) (.tmp 3), none⟩,
    ⟨(some 2), .mv (.tmp 12), none⟩]
def k113_10 : VC := .seq k113_9 .ret
def k113_11 : VC := .seq k113_8 k113_10
def k113_12 : VC := .seq k113_1 k113_11
def k113_13 : VC := .seq k113_0 k113_12
def fn113 : VFn := ⟨13, k113_13, [.tmp 2]⟩
/- 130: cloakroom/check.words -/
def k130_0 : VC := .reg [⟨(some 1), .box (.tmp 0), none⟩,
    ⟨(some 2), .mv (.const .nilFunc), none⟩]
def k130_1 : VC := .reg [⟨(some 3), .mkFunc 133 [] [(.tmp 1)], none⟩,
    ⟨(some 2), .mv (.tmp 3), none⟩]
def k130_2 : VC := .seq k130_1 .ret
def k130_3 : VC := .seq k130_0 k130_2
def fn130 : VFn := ⟨4, k130_3, [.tmp 2]⟩
/- 133: cloakroom/check.words$1 -/
def k133_0 : VC := .reg [⟨(some 3), .mv (.const (.int .i64 0)), none⟩]
def k133_1 : VC := .reg [⟨(some 5), .mv (.tmp 3), none⟩,
    ⟨(some 6), .load1 .str (.tmp 1), none⟩,
    ⟨(some 7), .lenS (.tmp 6), none⟩,
    ⟨(some 8), .bin .lss (.tmp 5) (.tmp 7), none⟩]
def k133_2 : VC := .cond (.tmp 8) .skip (.exit 0)
def k133_3 : VC := .seq k133_1 k133_2
def k133_4 : VC := .reg [⟨(some 11), .load1 .str (.tmp 1), none⟩,
    ⟨(some 12), .mv (.tmp 3), none⟩,
    ⟨(some 13), .idxS (.tmp 11) (.tmp 12), none⟩,
    ⟨(some 14), .conv .i64 (.tmp 13), none⟩,
    ⟨(some 15), .bin .shl (.tmp 14) (.const (.int .u64 8)), none⟩,
    ⟨(some 4), .mv (.tmp 15), none⟩]
def k133_5 : VC := .reg [⟨(some 16), .mv (.tmp 3), none⟩,
    ⟨(some 17), .bin .add (.tmp 16) (.const (.int .i64 1)), none⟩,
    ⟨(some 18), .load1 .str (.tmp 1), none⟩,
    ⟨(some 19), .lenS (.tmp 18), none⟩,
    ⟨(some 20), .bin .lss (.tmp 17) (.tmp 19), none⟩]
def k133_6 : VC := .reg [⟨(some 21), .mv (.tmp 4), none⟩,
    ⟨(some 22), .load1 .str (.tmp 1), none⟩,
    ⟨(some 23), .mv (.tmp 3), none⟩,
    ⟨(some 24), .bin .add (.tmp 23) (.const (.int .i64 1)), none⟩,
    ⟨(some 25), .idxS (.tmp 22) (.tmp 24), none⟩,
    ⟨(some 26), .conv .i64 (.tmp 25), none⟩,
    ⟨(some 27), .bin .or (.tmp 21) (.tmp 26), none⟩,
    ⟨(some 4), .mv (.tmp 27), none⟩]
def k133_7 : VC := .cond (.tmp 20) k133_6 .skip
def k133_8 : VC := .seq k133_5 k133_7
def k133_9 : VC := .reg [⟨(some 28), .mv (.tmp 0), none⟩,
    ⟨(some 29), .mv (.tmp 4), none⟩,
    ⟨(some 30), .callV (.tmp 28) [(.tmp 29)], none⟩,
    ⟨(some 31), .not (.tmp 30), none⟩]
def k133_10 : VC := .cond (.tmp 31) .ret .skip
def k133_11 : VC := .seq k133_9 k133_10
def k133_12 : VC := .seq k133_8 k133_11
def k133_13 : VC := .seq k133_4 k133_12
def k133_14 : VC := .block 1 k133_13
def k133_15 : VC := .reg [⟨(some 9), .mv (.tmp 3), none⟩,
    ⟨(some 10), .bin .add (.tmp 9) (.const (.int .i64 2)), none⟩,
    ⟨(some 3), .mv (.tmp 10), none⟩]
def k133_16 : VC := .seq k133_14 k133_15
def k133_17 : VC := .seq k133_3 k133_16
def k133_18 : VC := .loop k133_17
def k133_19 : VC := .block 0 k133_18
def k133_20 : VC := .seq k133_0 k133_19
def fn133 : VFn := ⟨32, k133_20, []⟩
/- 131: cloakroom/check.fold -/
def k131_0 : VC := .reg [⟨(some 2), .mv (.const (.int .i64 0)), none⟩]
def k131_1 : VC := .reg [⟨(some 3), .mv (.tmp 0), none⟩,
    ⟨(some 4), .bin .gtr (.tmp 3) (.const (.int .i64 65535)), none⟩]
def k131_2 : VC := .cond (.tmp 4) .skip (.exit 0)
def k131_3 : VC := .seq k131_1 k131_2
def k131_4 : VC := .reg [⟨(some 5), .mv (.tmp 0), none⟩,
    ⟨(some 6), .bin .and (.tmp 5) (.const (.int .i64 65535)), none⟩,
    ⟨(some 7), .mv (.tmp 0), none⟩,
    ⟨(some 8), .bin .shr (.tmp 7) (.const (.int .u64 16)), none⟩,
    ⟨(some 9), .bin .add (.tmp 6) (.tmp 8), none⟩,
    ⟨(some 0), .mv (.tmp 9), none⟩]
def k131_5 : VC := .block 1 k131_4
def k131_6 : VC := .seq k131_3 k131_5
def k131_7 : VC := .loop k131_6
def k131_8 : VC := .block 0 k131_7
def k131_9 : VC := .reg [⟨(some 10), .mv (.tmp 0), none⟩,
    ⟨(some 2), .mv (.tmp 10), none⟩]
def k131_10 : VC := .seq k131_9 .ret
def k131_11 : VC := .seq k131_8 k131_10
def k131_12 : VC := .seq k131_0 k131_11
def fn131 : VFn := ⟨11, k131_12, [.tmp 2]⟩
/- 65: cloakroom/check.Set -/
def k65_0 : VC := .reg [⟨(some 8), .mv (.const (.string ⟨⟨[]⟩⟩)), none⟩]
def k65_1 : VC := .reg [⟨(some 10), .mv (.tmp 3), none⟩,
    ⟨(some 11), .mv (.tmp 2), none⟩,
    ⟨(some 12), .callF 62 [(.tmp 10), (.tmp 11)], none⟩,
    ⟨(some 9), .mv (.tmp 12), none⟩]
def k65_2 : VC := .reg [⟨(some 13), .mv (.tmp 9), none⟩,
    ⟨(some 14), .bin .eql (.tmp 13) (.const (.string ⟨⟨[]⟩⟩)), none⟩,
    ⟨(some 15), .mv (.tmp 14), none⟩,
    ⟨(some 16), .mv (.tmp 1), (some (15, false))⟩,
    ⟨(some 17), .bin .lss (.tmp 16) (.const (.int .i64 0)), (some (15, false))⟩,
    ⟨(some 18), .pick (.tmp 15) (.const (.bool true)) (.tmp 17), none⟩,
    ⟨(some 19), .mv (.tmp 18), none⟩,
    ⟨(some 20), .mv (.tmp 0), (some (19, false))⟩,
    ⟨(some 21), .lenS (.tmp 20), (some (19, false))⟩,
    ⟨(some 22), .mv (.tmp 2), (some (19, false))⟩,
    ⟨(some 23), .bin .sub (.tmp 21) (.tmp 22), (some (19, false))⟩,
    ⟨(some 24), .mv (.tmp 1), (some (19, false))⟩,
    ⟨(some 25), .bin .lss (.tmp 23) (.tmp 24), (some (19, false))⟩,
    ⟨(some 26), .pick (.tmp 19) (.const (.bool true)) (.tmp 25), none⟩]
def k65_3 : VC := .reg [⟨(some 27), .mv (.tmp 0), none⟩,
    ⟨(some 8), .mv (.tmp 27), none⟩]
def k65_4 : VC := .seq k65_3 .ret
def k65_5 : VC := .cond (.tmp 26) k65_4 .skip
def k65_6 : VC := .seq k65_2 k65_5
def k65_7 : VC := .regD [⟨(some 28), .mv (.tmp 0), none⟩,
    ⟨(some 29), .mv (.tmp 1), none⟩,
    ⟨(some 30), .sliceS (.tmp 28) none (some (.tmp 29)), none⟩,
    ⟨(some 31), .mv (.tmp 9), none⟩,
    ⟨(some 32), .bin .add (.tmp 30) (.tmp 31), none⟩,
    ⟨(some 33), .mv (.tmp 0), none⟩,
    ⟨(some 34), .mv (.tmp 1), none⟩,
    ⟨(some 35), .mv (.tmp 2), none⟩,
    ⟨(some 36), .bin .add (.tmp 34) (.tmp 35), none⟩,
    ⟨(some 37), .sliceS (.tmp 33) (some (.tmp 36)) none, none⟩] [] [⟨(some 38), .bin .add (.tmp 32) (.tmp 37), none⟩,
    ⟨(some 8), .mv (.tmp 38), none⟩]
def k65_8 : VC := .seq k65_7 .ret
def k65_9 : VC := .seq k65_6 k65_8
def k65_10 : VC := .seq k65_1 k65_9
def k65_11 : VC := .seq k65_0 k65_10
def fn65 : VFn := ⟨39, k65_11, [.tmp 8]⟩
/- 24: cloakroom/ipfour.Get -/
def k24_0 : VC := .reg [⟨(some 2), .alloc [(.int .i64 0), (.int .i64 0), (.bool false), (.int .i64 0), (.int .i64 0), (.bool false), (.int .u64 0), (.int .u64 0), (.bool false), (.int .u64 0), (.int .u64 0), (.string ⟨⟨[]⟩⟩)], none⟩,
    ⟨(some 3), .mv (.const (.string ⟨⟨[]⟩⟩)), none⟩,
    ⟨(some 4), .mv (.const (.int .i64 0)), none⟩]
def k24_1 : VC := .reg [⟨(some 11), .mv (.tmp 0), none⟩,
    ⟨(some 12), .lenS (.tmp 11), none⟩,
    ⟨(some 13), .bin .lss (.tmp 12) (.const (.int .i64 20)), none⟩]
def k24_2 : VC := .reg [⟨(some 14), .build [(.int .i64 0), (.int .i64 0), (.bool false), (.int .i64 0), (.int .i64 0), (.bool false), (.int .u64 0), (.int .u64 0), (.bool false), (.int .u64 0), (.int .u64 0), (.string ⟨⟨[]⟩⟩)] [], none⟩,
    ⟨none, .store 12 (.tmp 2) (.tmp 14), none⟩,
    ⟨(some 3), .mv (.const (.string ⟨⟨[]⟩⟩)), none⟩,
    ⟨(some 4), .mv (.const (.int .i64 2)), none⟩]
def k24_3 : VC := .seq k24_2 .ret
def k24_4 : VC := .cond (.tmp 13) k24_3 .skip
def k24_5 : VC := .seq k24_1 k24_4
def k24_6 : VC := .reg [⟨(some 15), .mv (.tmp 0), none⟩,
    ⟨(some 16), .callF 70 [(.tmp 15)], none⟩,
    ⟨(some 17), .build [(.pointer none)] [(0, 1, (.tmp 16))], none⟩,
    ⟨(some 5), .alloc [(.pointer none)], none⟩,
    ⟨none, .store 1 (.tmp 5) (.tmp 17), none⟩]
def k24_7 : VC := .reg [⟨(some 18), .fieldA 0 (.tmp 5), none⟩,
    ⟨(some 19), .load1 .oth (.tmp 18), none⟩,
    ⟨(some 20), .callF 71 [(.tmp 19), (.const (.int .i64 1))], none⟩,
    ⟨(some 6), .mv (.tmp 20), none⟩]
def k24_8 : VC := .reg [⟨(some 21), .fieldA 0 (.tmp 5), none⟩,
    ⟨(some 22), .load1 .oth (.tmp 21), none⟩,
    ⟨(some 23), .callF 71 [(.tmp 22), (.const (.int .i64 1))], none⟩,
    ⟨(some 24), .build [(.int .i64 0), (.int .i64 0), (.bool false), (.int .i64 0), (.int .i64 0), (.bool false), (.int .u64 0), (.int .u64 0), (.bool false), (.int .u64 0), (.int .u64 0), (.string ⟨⟨[]⟩⟩)] [(0, 1, (.tmp 23))], none⟩,
    ⟨(some 7), .alloc [(.int .i64 0), (.int .i64 0), (.bool false), (.int .i64 0), (.int .i64 0), (.bool false), (.int .u64 0), (.int .u64 0), (.bool false), (.int .u64 0), (.int .u64 0), (.string ⟨⟨[]⟩⟩)], none⟩,
    ⟨none, .store 12 (.tmp 7) (.tmp 24), none⟩]
def k24_9 : VC := .reg [⟨(some 25), .mv (.tmp 6), none⟩,
    ⟨(some 26), .bin .and (.tmp 25) (.const (.int .i64 15)), none⟩,
    ⟨(some 27), .bin .mul (.tmp 26) (.const (.int .i64 4)), none⟩,
    ⟨(some 28), .fieldA 0 (.tmp 5), none⟩,
    ⟨(some 29), .load1 .oth (.tmp 28), none⟩,
    ⟨(some 30), .callF 71 [(.tmp 29), (.const (.int .i64 2))], none⟩,
    ⟨(some 8), .mv (.tmp 27), none⟩,
    ⟨(some 9), .mv (.tmp 30), none⟩]
def k24_10 : VC := .reg [⟨(some 32), .mv (.tmp 6), none⟩,
    ⟨(some 33), .bin .shr (.tmp 32) (.const (.int .u64 4)), none⟩,
    ⟨(some 34), .bin .neq (.tmp 33) (.const (.int .i64 4)), none⟩,
    ⟨(some 35), .mv (.tmp 34), none⟩,
    ⟨(some 36), .mv (.tmp 8), (some (35, false))⟩,
    ⟨(some 37), .bin .lss (.tmp 36) (.const (.int .i64 20)), (some (35, false))⟩,
    ⟨(some 38), .pick (.tmp 35) (.const (.bool true)) (.tmp 37), none⟩,
    ⟨(some 39), .mv (.tmp 38), none⟩,
    ⟨(some 40), .mv (.tmp 9), (some (39, false))⟩,
    ⟨(some 41), .mv (.tmp 8), (some (39, false))⟩,
    ⟨(some 42), .bin .lss (.tmp 40) (.tmp 41), (some (39, false))⟩,
    ⟨(some 43), .pick (.tmp 39) (.const (.bool true)) (.tmp 42), none⟩,
    ⟨(some 31), .mv (.tmp 43), none⟩]
def k24_11 : VC := .reg [⟨(some 44), .build [(.int .i64 0), (.int .i64 0), (.bool false), (.int .i64 0), (.int .i64 0), (.bool false), (.int .u64 0), (.int .u64 0), (.bool false), (.int .u64 0), (.int .u64 0), (.string ⟨⟨[]⟩⟩)] [], none⟩,
    ⟨none, .store 12 (.tmp 2) (.tmp 44), none⟩,
    ⟨(some 3), .mv (.const (.string ⟨⟨[]⟩⟩)), none⟩,
    ⟨(some 4), .mv (.const (.int .i64 3)), none⟩]
def k24_12 : VC := .seq k24_11 .ret
def k24_13 : VC := .reg [⟨(some 46), .mv (.tmp 9), none⟩,
    ⟨(some 47), .mv (.tmp 0), none⟩,
    ⟨(some 48), .lenS (.tmp 47), none⟩,
    ⟨(some 49), .bin .gtr (.tmp 46) (.tmp 48), none⟩,
    ⟨(some 45), .mv (.tmp 49), none⟩]
def k24_14 : VC := .reg [⟨(some 50), .build [(.int .i64 0), (.int .i64 0), (.bool false), (.int .i64 0), (.int .i64 0), (.bool false), (.int .u64 0), (.int .u64 0), (.bool false), (.int .u64 0), (.int .u64 0), (.string ⟨⟨[]⟩⟩)] [], none⟩,
    ⟨none, .store 12 (.tmp 2) (.tmp 50), none⟩,
    ⟨(some 3), .mv (.const (.string ⟨⟨[]⟩⟩)), none⟩,
    ⟨(some 4), .mv (.const (.int .i64 2)), none⟩]
def k24_15 : VC := .seq k24_14 .ret
def k24_16 : VC := .reg [⟨(some 52), .mv (.tmp 0), none⟩,
    ⟨(some 53), .mv (.tmp 8), none⟩,
    ⟨(some 54), .sliceS (.tmp 52) none (some (.tmp 53)), none⟩,
    ⟨(some 55), .callF 73 [(.tmp 54)], none⟩,
    ⟨(some 56), .not (.tmp 55), none⟩,
    ⟨(some 51), .mv (.tmp 56), none⟩]
def k24_17 : VC := .reg [⟨(some 57), .build [(.int .i64 0), (.int .i64 0), (.bool false), (.int .i64 0), (.int .i64 0), (.bool false), (.int .u64 0), (.int .u64 0), (.bool false), (.int .u64 0), (.int .u64 0), (.string ⟨⟨[]⟩⟩)] [], none⟩,
    ⟨none, .store 12 (.tmp 2) (.tmp 57), none⟩,
    ⟨(some 3), .mv (.const (.string ⟨⟨[]⟩⟩)), none⟩,
    ⟨(some 4), .mv (.const (.int .i64 4)), none⟩]
def k24_18 : VC := .seq k24_17 .ret
def k24_19 : VC := .cond (.tmp 51) k24_18 .skip
def k24_20 : VC := .seq k24_16 k24_19
def k24_21 : VC := .cond (.tmp 45) k24_15 k24_20
def k24_22 : VC := .seq k24_13 k24_21
def k24_23 : VC := .cond (.tmp 31) k24_12 k24_22
def k24_24 : VC := .seq k24_10 k24_23
def k24_25 : VC := .block 0 k24_24
def k24_26 : VC := .reg [⟨(some 58), .fieldA 0 (.tmp 5), none⟩,
    ⟨(some 59), .load1 .oth (.tmp 58), none⟩,
    ⟨(some 60), .callF 71 [(.tmp 59), (.const (.int .i64 2))], none⟩,
    ⟨(some 61), .fieldA 1 (.tmp 7), none⟩,
    ⟨none, .store 1 (.tmp 61) (.tmp 60), none⟩]
def k24_27 : VC := .reg [⟨(some 62), .fieldA 0 (.tmp 5), none⟩,
    ⟨(some 63), .load1 .oth (.tmp 62), none⟩,
    ⟨(some 64), .callF 71 [(.tmp 63), (.const (.int .i64 2))], none⟩,
    ⟨(some 10), .mv (.tmp 64), none⟩]
def k24_28 : VC := .reg [⟨(some 65), .mv (.tmp 10), none⟩,
    ⟨(some 66), .bin .andNot (.tmp 65) (.const (.int .i64 16384)), none⟩,
    ⟨(some 67), .bin .neq (.tmp 66) (.const (.int .i64 0)), none⟩]
def k24_29 : VC := .reg [⟨(some 68), .build [(.int .i64 0), (.int .i64 0), (.bool false), (.int .i64 0), (.int .i64 0), (.bool false), (.int .u64 0), (.int .u64 0), (.bool false), (.int .u64 0), (.int .u64 0), (.string ⟨⟨[]⟩⟩)] [], none⟩,
    ⟨none, .store 12 (.tmp 2) (.tmp 68), none⟩,
    ⟨(some 3), .mv (.const (.string ⟨⟨[]⟩⟩)), none⟩,
    ⟨(some 4), .mv (.const (.int .i64 7)), none⟩]
def k24_30 : VC := .seq k24_29 .ret
def k24_31 : VC := .cond (.tmp 67) k24_30 .skip
def k24_32 : VC := .seq k24_28 k24_31
def k24_33 : VC := .reg [⟨(some 69), .mv (.tmp 10), none⟩,
    ⟨(some 70), .bin .neq (.tmp 69) (.const (.int .i64 0)), none⟩,
    ⟨(some 71), .fieldA 2 (.tmp 7), none⟩,
    ⟨none, .store 1 (.tmp 71) (.tmp 70), none⟩]
def k24_34 : VC := .regD [⟨(some 72), .fieldA 0 (.tmp 5), none⟩,
    ⟨(some 73), .load1 .oth (.tmp 72), none⟩,
    ⟨(some 74), .callF 71 [(.tmp 73), (.const (.int .i64 1))], none⟩,
    ⟨(some 75), .fieldA 0 (.tmp 5), none⟩,
    ⟨(some 76), .load1 .oth (.tmp 75), none⟩,
    ⟨(some 77), .callF 71 [(.tmp 76), (.const (.int .i64 1))], none⟩,
    ⟨(some 78), .fieldA 3 (.tmp 7), none⟩] [(2, 4)] [⟨none, .store 1 (.tmp 78) (.tmp 74), none⟩,
    ⟨(some 79), .fieldA 4 (.tmp 7), none⟩,
    ⟨none, .store 1 (.tmp 79) (.tmp 77), none⟩]
def k24_35 : VC := .reg [⟨(some 80), .fieldA 0 (.tmp 5), none⟩,
    ⟨(some 81), .load1 .oth (.tmp 80), none⟩,
    ⟨(some 82), .callF 71 [(.tmp 81), (.const (.int .i64 2))], none⟩]
def k24_36 : VC := .regD [⟨(some 83), .loadN [.oth] (.tmp 5), none⟩,
    ⟨(some 84), .callF 82 [(.tmp 83)], none⟩,
    ⟨(some 85), .loadN [.oth] (.tmp 5), none⟩,
    ⟨(some 86), .callF 82 [(.tmp 85)], none⟩,
    ⟨(some 87), .fieldA 5 (.tmp 7), none⟩] [(1, 2)] [⟨none, .store 3 (.tmp 87) (.tmp 84), none⟩,
    ⟨(some 88), .fieldA 8 (.tmp 7), none⟩,
    ⟨none, .store 3 (.tmp 88) (.tmp 86), none⟩]
def k24_37 : VC := .reg [⟨(some 89), .fieldA 0 (.tmp 5), none⟩,
    ⟨(some 90), .load1 .oth (.tmp 89), none⟩,
    ⟨(some 91), .mv (.tmp 8), none⟩,
    ⟨(some 92), .bin .sub (.tmp 91) (.const (.int .i64 20)), none⟩,
    ⟨(some 93), .callF 83 [(.tmp 90), (.tmp 92)], none⟩,
    ⟨(some 94), .fieldA 11 (.tmp 7), none⟩,
    ⟨none, .store 1 (.tmp 94) (.tmp 93), none⟩]
def k24_38 : VC := .regD [⟨(some 95), .loadN [(.int .i64), (.int .i64), .bool, (.int .i64), (.int .i64), .bool, (.int .u64), (.int .u64), .bool, (.int .u64), (.int .u64), .str] (.tmp 7), none⟩,
    ⟨(some 96), .fieldA 0 (.tmp 5), none⟩,
    ⟨(some 97), .load1 .oth (.tmp 96), none⟩,
    ⟨(some 98), .mv (.tmp 9), none⟩,
    ⟨(some 99), .mv (.tmp 8), none⟩,
    ⟨(some 100), .bin .sub (.tmp 98) (.tmp 99), none⟩,
    ⟨(some 101), .callF 83 [(.tmp 97), (.tmp 100)], none⟩] [(0, 6)] [⟨none, .store 12 (.tmp 2) (.tmp 95), none⟩,
    ⟨(some 3), .mv (.tmp 101), none⟩,
    ⟨(some 4), .mv (.const (.int .i64 0)), none⟩]
def k24_39 : VC := .seq k24_38 .ret
def k24_40 : VC := .seq k24_37 k24_39
def k24_41 : VC := .seq k24_36 k24_40
def k24_42 : VC := .seq k24_35 k24_41
def k24_43 : VC := .seq k24_34 k24_42
def k24_44 : VC := .seq k24_33 k24_43
def k24_45 : VC := .seq k24_32 k24_44
def k24_46 : VC := .seq k24_27 k24_45
def k24_47 : VC := .seq k24_26 k24_46
def k24_48 : VC := .seq k24_25 k24_47
def k24_49 : VC := .seq k24_9 k24_48
def k24_50 : VC := .seq k24_8 k24_49
def k24_51 : VC := .seq k24_7 k24_50
def k24_52 : VC := .seq k24_6 k24_51
def k24_53 : VC := .seq k24_5 k24_52
def k24_54 : VC := .seq k24_0 k24_53
def fn24 : VFn := ⟨102, k24_54, [.cell 2 [(.int .i64), (.int .i64), .bool, (.int .i64), (.int .i64), .bool, (.int .u64), (.int .u64), .bool, (.int .u64), (.int .u64), .str] true, .tmp 3, .tmp 4]⟩
/- 70: cloakroom/octet.New -/
def k70_0 : VC := .reg [⟨(some 2), .mv (.const (.pointer none)), none⟩]
def k70_1 : VC := .reg [⟨(some 3), .mv (.tmp 0), none⟩,
    ⟨(some 4), .build [(.string ⟨⟨[]⟩⟩), (.bool false), (.bool false)] [(0, 1, (.tmp 3)), (1, 1, (.const (.bool true)))], none⟩,
    ⟨(some 5), .box (.tmp 4), none⟩,
    ⟨(some 2), .mv (.tmp 5), none⟩]
def k70_2 : VC := .seq k70_1 .ret
def k70_3 : VC := .seq k70_0 k70_2
def fn70 : VFn := ⟨6, k70_3, [.tmp 2]⟩
/- 71: (*cloakroom/octet.Reader).Num -/
def k71_0 : VC := .reg [⟨(some 4), .mv (.const (.int .i64 0)), none⟩]
def k71_1 : VC := .reg [⟨(some 7), .mv (.tmp 1), none⟩,
    ⟨(some 8), .bin .lss (.tmp 7) (.const (.int .i64 1)), none⟩,
    ⟨(some 9), .mv (.tmp 8), none⟩,
    ⟨(some 10), .mv (.tmp 1), (some (9, false))⟩,
    ⟨(some 11), .bin .gtr (.tmp 10) (.const (.int .i64 7)), (some (9, false))⟩,
    ⟨(some 12), .pick (.tmp 9) (.const (.bool true)) (.tmp 11), none⟩]
def k71_2 : VC := .reg [⟨(some 1), .mv (.const (.int .i64 (-1))), none⟩]
def k71_3 : VC := .cond (.tmp 12) k71_2 .skip
def k71_4 : VC := .seq k71_1 k71_3
def k71_5 : VC := .reg [⟨(some 14), .mv (.tmp 0), none⟩,
    ⟨(some 15), .mv (.tmp 1), none⟩,
    ⟨(some 16), .callF 83 [(.tmp 14), (.tmp 15)], none⟩,
    ⟨(some 17), .mv (.tmp 1), none⟩,
    ⟨(some 18), .callF 101 [(.tmp 16), (.const (.int .i64 0)), (.tmp 17)], none⟩,
    ⟨(some 13), .mv (.tmp 18), none⟩,
    ⟨(some 19), .extract 0 (.tmp 13), none⟩,
    ⟨(some 20), .extract 1 (.tmp 13), none⟩,
    ⟨(some 5), .mv (.tmp 19), none⟩,
    ⟨(some 6), .mv (.tmp 20), none⟩]
def k71_6 : VC := .reg [⟨(some 21), .mv (.tmp 5), none⟩,
    ⟨(some 22), .conv .i64 (.tmp 21), none⟩,
    ⟨(some 4), .mv (.tmp 22), none⟩]
def k71_7 : VC := .seq k71_6 .ret
def k71_8 : VC := .seq k71_5 k71_7
def k71_9 : VC := .seq k71_4 k71_8
def k71_10 : VC := .seq k71_0 k71_9
def fn71 : VFn := ⟨23, k71_10, [.tmp 4]⟩
/- 83: (*cloakroom/octet.Reader).Text -/
def k83_0 : VC := .reg [⟨(some 4), .mv (.const (.string ⟨⟨[]⟩⟩)), none⟩]
def k83_1 : VC := .reg [⟨(some 6), .mv (.tmp 0), none⟩,
    ⟨(some 7), .callF 72 [(.tmp 6)], none⟩]
def k83_2 : VC := .reg [⟨(some 4), .mv (.const (.string ⟨⟨[]⟩⟩)), none⟩]
def k83_3 : VC := .seq k83_2 .ret
def k83_4 : VC := .cond (.tmp 7) k83_3 .skip
def k83_5 : VC := .seq k83_1 k83_4
def k83_6 : VC := .reg [⟨(some 8), .mv (.tmp 1), none⟩,
    ⟨(some 9), .bin .lss (.tmp 8) (.const (.int .i64 0)), none⟩,
    ⟨(some 10), .mv (.tmp 9), none⟩,
    ⟨(some 11), .mv (.tmp 1), (some (10, false))⟩,
    ⟨(some 12), .mv (.tmp 0), (some (10, false))⟩,
    ⟨(some 13), .nilCheck (.tmp 12), (some (10, false))⟩,
    ⟨(some 14), .fieldA 0 (.tmp 13), (some (10, false))⟩,
    ⟨(some 15), .load1 .str (.tmp 14), (some (10, false))⟩,
    ⟨(some 16), .lenS (.tmp 15), (some (10, false))⟩,
    ⟨(some 17), .bin .gtr (.tmp 11) (.tmp 16), (some (10, false))⟩,
    ⟨(some 18), .pick (.tmp 10) (.const (.bool true)) (.tmp 17), none⟩]
def k83_7 : VC := .reg [⟨(some 19), .mv (.tmp 0), none⟩,
    ⟨(some 20), .nilCheck (.tmp 19), none⟩,
    ⟨(some 21), .fieldA 2 (.tmp 20), none⟩,
    ⟨none, .store 1 (.tmp 21) (.const (.bool true)), none⟩]
def k83_8 : VC := .reg [⟨(some 4), .mv (.const (.string ⟨⟨[]⟩⟩)), none⟩]
def k83_9 : VC := .seq k83_8 .ret
def k83_10 : VC := .seq k83_7 k83_9
def k83_11 : VC := .cond (.tmp 18) k83_10 .skip
def k83_12 : VC := .seq k83_6 k83_11
def k83_13 : VC := .reg [⟨(some 22), .mv (.tmp 0), none⟩,
    ⟨(some 23), .nilCheck (.tmp 22), none⟩,
    ⟨(some 24), .fieldA 0 (.tmp 23), none⟩,
    ⟨(some 25), .load1 .str (.tmp 24), none⟩,
    ⟨(some 26), .mv (.tmp 1), none⟩,
    ⟨(some 27), .sliceS (.tmp 25) none (some (.tmp 26)), none⟩,
    ⟨(some 5), .mv (.tmp 27), none⟩]
def k83_14 : VC := .reg [⟨(some 28), .mv (.tmp 0), none⟩,
    ⟨(some 29), .mv (.tmp 0), none⟩,
    ⟨(some 30), .nilCheck (.tmp 29), none⟩,
    ⟨(some 31), .fieldA 0 (.tmp 30), none⟩,
    ⟨(some 32), .load1 .str (.tmp 31), none⟩,
    ⟨(some 33), .mv (.tmp 1), none⟩,
    ⟨(some 34), .sliceS (.tmp 32) (some (.tmp 33)) none, none⟩,
    ⟨(some 35), .nilCheck (.tmp 28), none⟩,
    ⟨(some 36), .fieldA 0 (.tmp 35), none⟩,
    ⟨none, .store 1 (.tmp 36) (.tmp 34), none⟩]
def k83_15 : VC := .reg [⟨(some 37), .mv (.tmp 5), none⟩,
    ⟨(some 4), .mv (.tmp 37), none⟩]
def k83_16 : VC := .seq k83_15 .ret
def k83_17 : VC := .seq k83_14 k83_16
def k83_18 : VC := .seq k83_13 k83_17
def k83_19 : VC := .seq k83_12 k83_18
def k83_20 : VC := .seq k83_5 k83_19
def k83_21 : VC := .seq k83_0 k83_20
def fn83 : VFn := ⟨38, k83_21, [.tmp 4]⟩
/- 72: (*cloakroom/octet.Reader).Bad -/
def k72_0 : VC := .reg [⟨(some 2), .mv (.const (.bool false)), none⟩]
def k72_1 : VC := .reg [⟨(some 3), .mv (.tmp 0), none⟩,
    ⟨(some 4), .isNil 0 false (.tmp 3), none⟩,
    ⟨(some 5), .mv (.tmp 4), none⟩,
    ⟨(some 6), .mv (.tmp 0), (some (5, false))⟩,
    ⟨(some 7), .nilCheck (.tmp 6), (some (5, false))⟩,
    ⟨(some 8), .fieldA 1 (.tmp 7), (some (5, false))⟩,
    ⟨(some 9), .load1 .bool (.tmp 8), (some (5, false))⟩,
    ⟨(some 10), .not (.tmp 9), (some (5, false))⟩,
    ⟨(some 11), .pick (.tmp 5) (.const (.bool true)) (.tmp 10), none⟩,
    ⟨(some 12), .mv (.tmp 11), none⟩,
    ⟨(some 13), .mv (.tmp 0), (some (12, false))⟩,
    ⟨(some 14), .nilCheck (.tmp 13), (some (12, false))⟩,
    ⟨(some 15), .fieldA 2 (.tmp 14), (some (12, false))⟩,
    ⟨(some 16), .load1 .bool (.tmp 15), (some (12, false))⟩,
    ⟨(some 17), .pick (.tmp 12) (.const (.bool true)) (.tmp 16), none⟩,
    ⟨(some 2), .mv (.tmp 17), none⟩]
def k72_2 : VC := .seq k72_1 .ret
def k72_3 : VC := .seq k72_0 k72_2
def fn72 : VFn := ⟨18, k72_3, [.tmp 2]⟩
/- 101: cloakroom/octet.Get -/
def k101_0 : VC := .reg [⟨(some 6), .mv (.const (.int .u64 0)), none⟩,
    ⟨(some 7), .mv (.const (.bool false)), none⟩]
def k101_1 : VC := .reg [⟨(some 11), .mv (.tmp 2), none⟩,
    ⟨(some 12), .bin .lss (.tmp 11) (.const (.int .i64 1)), none⟩,
    ⟨(some 13), .mv (.tmp 12), none⟩,
    ⟨(some 14), .mv (.tmp 2), (some (13, false))⟩,
    ⟨(some 15), .bin .gtr (.tmp 14) (.const (.int .i64 8)), (some (13, false))⟩,
    ⟨(some 16), .pick (.tmp 13) (.const (.bool true)) (.tmp 15), none⟩,
    ⟨(some 17), .mv (.tmp 16), none⟩,
    ⟨(some 18), .mv (.tmp 1), (some (17, false))⟩,
    ⟨(some 19), .bin .lss (.tmp 18) (.const (.int .i64 0)), (some (17, false))⟩,
    ⟨(some 20), .pick (.tmp 17) (.const (.bool true)) (.tmp 19), none⟩,
    ⟨(some 21), .mv (.tmp 20), none⟩,
    ⟨(some 22), .mv (.tmp 0), (some (21, false))⟩,
    ⟨(some 23), .lenS (.tmp 22), (some (21, false))⟩,
    ⟨(some 24), .mv (.tmp 2), (some (21, false))⟩,
    ⟨(some 25), .bin .sub (.tmp 23) (.tmp 24), (some (21, false))⟩,
    ⟨(some 26), .mv (.tmp 1), (some (21, false))⟩,
    ⟨(some 27), .bin .lss (.tmp 25) (.tmp 26), (some (21, false))⟩,
    ⟨(some 28), .pick (.tmp 21) (.const (.bool true)) (.tmp 27), none⟩]
def k101_2 : VC := .reg [⟨(some 6), .mv (.const (.int .u64 0)), none⟩,
    ⟨(some 7), .mv (.const (.bool false)), none⟩]
def k101_3 : VC := .seq k101_2 .ret
def k101_4 : VC := .cond (.tmp 28) k101_3 .skip
def k101_5 : VC := .seq k101_1 k101_4
def k101_6 : VC := .reg [⟨(some 8), .mv (.const (.int .u64 0)), none⟩]
def k101_7 : VC := .reg [⟨(some 29), .mv (.tmp 0), none⟩,
    ⟨(some 30), .mv (.tmp 1), none⟩,
    ⟨(some 31), .mv (.tmp 1), none⟩,
    ⟨(some 32), .mv (.tmp 2), none⟩,
    ⟨(some 33), .bin .add (.tmp 31) (.tmp 32), none⟩,
    ⟨(some 34), .sliceS (.tmp 29) (some (.tmp 30)) (some (.tmp 33)), none⟩,
    ⟨(some 35), .s2b (.tmp 34), none⟩,
    ⟨(some 36), .lenL (.tmp 35), none⟩,
    ⟨(some 37), .mv (.const (.int .i64 0)), none⟩]
def k101_8 : VC := .reg [⟨(some 38), .bin .lss (.tmp 37) (.tmp 36), none⟩]
def k101_9 : VC := .cond (.tmp 38) .skip (.exit 0)
def k101_10 : VC := .reg [⟨(some 39), .idxAL 1 (.tmp 35) (.tmp 37), none⟩,
    ⟨(some 40), .load1 (.int .u8) (.tmp 39), none⟩,
    ⟨(some 10), .mv (.tmp 40), none⟩]
def k101_11 : VC := .reg [⟨(some 41), .mv (.tmp 8), none⟩,
    ⟨(some 42), .bin .shl (.tmp 41) (.const (.int .u64 8)), none⟩,
    ⟨(some 43), .mv (.tmp 10), none⟩,
    ⟨(some 44), .conv .u64 (.tmp 43), none⟩,
    ⟨(some 45), .bin .or (.tmp 42) (.tmp 44), none⟩,
    ⟨(some 8), .mv (.tmp 45), none⟩]
def k101_12 : VC := .seq k101_10 k101_11
def k101_13 : VC := .block 1 k101_12
def k101_14 : VC := .reg [⟨(some 46), .bin .add (.tmp 37) (.const (.int .i64 1)), none⟩,
    ⟨(some 37), .mv (.tmp 46), none⟩]
def k101_15 : VC := .seq k101_13 k101_14
def k101_16 : VC := .seq k101_9 k101_15
def k101_17 : VC := .seq k101_8 k101_16
def k101_18 : VC := .loop k101_17
def k101_19 : VC := .block 0 k101_18
def k101_20 : VC := .seq k101_7 k101_19
def k101_21 : VC := .reg [⟨(some 47), .mv (.tmp 8), none⟩,
    ⟨(some 6), .mv (.tmp 47), none⟩,
    ⟨(some 7), .mv (.const (.bool true)), none⟩]
def k101_22 : VC := .seq k101_21 .ret
def k101_23 : VC := .seq k101_20 k101_22
def k101_24 : VC := .seq k101_6 k101_23
def k101_25 : VC := .seq k101_5 k101_24
def k101_26 : VC := .seq k101_0 k101_25
def fn101 : VFn := ⟨48, k101_26, [.tmp 6, .tmp 7]⟩
/- 73: cloakroom/check.Right -/
def k73_0 : VC := .reg [⟨(some 2), .mv (.const (.bool false)), none⟩]
def k73_1 : VC := .reg [⟨(some 3), .mv (.tmp 0), none⟩,
    ⟨(some 4), .callF 113 [(.tmp 3)], none⟩,
    ⟨(some 5), .bin .eql (.tmp 4) (.const (.int .i64 65535)), none⟩,
    ⟨(some 2), .mv (.tmp 5), none⟩]
def k73_2 : VC := .seq k73_1 .ret
def k73_3 : VC := .seq k73_0 k73_2
def fn73 : VFn := ⟨6, k73_3, [.tmp 2]⟩
/- 82: (cloakroom/ipfour.fields).address -/
def k82_0 : VC := .reg [⟨(some 1), .box (.tmp 0), none⟩,
    ⟨(some 2), .alloc [(.bool false), (.int .u64 0), (.int .u64 0)], none⟩]
def k82_1 : VC := .reg [⟨(some 6), .fieldA 0 (.tmp 1), none⟩,
    ⟨(some 7), .load1 .oth (.tmp 6), none⟩,
    ⟨(some 8), .callF 83 [(.tmp 7), (.const (.int .i64 4))], none⟩,
    ⟨(some 9), .callF 102 [(.tmp 8)], none⟩,
    ⟨(some 5), .mv (.tmp 9), none⟩,
    ⟨(some 10), .extract 0 (.tmp 5), none⟩,
    ⟨(some 11), .extract 1 (.tmp 5), none⟩,
    ⟨(some 3), .alloc [(.bool false), (.int .u64 0), (.int .u64 0)], none⟩,
    ⟨none, .store 3 (.tmp 3) (.tmp 10), none⟩,
    ⟨(some 4), .mv (.tmp 11), none⟩]
def k82_2 : VC := .reg [⟨(some 12), .loadN [.bool, (.int .u64), (.int .u64)] (.tmp 3), none⟩,
    ⟨none, .store 3 (.tmp 2) (.tmp 12), none⟩]
def k82_3 : VC := .seq k82_2 .ret
def k82_4 : VC := .seq k82_1 k82_3
def k82_5 : VC := .seq k82_0 k82_4
def fn82 : VFn := ⟨13, k82_5, [.cell 2 [.bool, (.int .u64), (.int .u64)] true]⟩
/- 102: cloakroom/addr.Get -/
def k102_0 : VC := .reg [⟨(some 2), .alloc [(.bool false), (.int .u64 0), (.int .u64 0)], none⟩,
    ⟨(some 3), .mv (.const (.bool false)), none⟩]
def k102_1 : VC := .reg [⟨(some 7), .mv (.tmp 0), none⟩,
    ⟨(some 8), .lenS (.tmp 7), none⟩]
def k102_2 : VC := .reg [⟨(some 10), .bin .eql (.tmp 8) (.const (.int .i64 4)), none⟩,
    ⟨(some 9), .mv (.tmp 10), none⟩]
def k102_3 : VC := .reg [⟨(some 12), .mv (.tmp 0), none⟩,
    ⟨(some 13), .callF 101 [(.tmp 12), (.const (.int .i64 0)), (.const (.int .i64 4))], none⟩,
    ⟨(some 11), .mv (.tmp 13), none⟩,
    ⟨(some 14), .extract 0 (.tmp 11), none⟩,
    ⟨(some 15), .extract 1 (.tmp 11), none⟩,
    ⟨(some 4), .mv (.tmp 14), none⟩,
    ⟨(some 5), .mv (.tmp 15), none⟩]
def k102_4 : VC := .reg [⟨(some 16), .mv (.tmp 4), none⟩,
    ⟨(some 17), .build [(.bool false), (.int .u64 0), (.int .u64 0)] [(2, 1, (.tmp 16))], none⟩,
    ⟨none, .store 3 (.tmp 2) (.tmp 17), none⟩,
    ⟨(some 3), .mv (.const (.bool true)), none⟩]
def k102_5 : VC := .seq k102_4 .ret
def k102_6 : VC := .seq k102_3 k102_5
def k102_7 : VC := .reg [⟨(some 19), .bin .eql (.tmp 8) (.const (.int .i64 16)), none⟩,
    ⟨(some 18), .mv (.tmp 19), none⟩]
def k102_8 : VC := .reg [⟨(some 20), .build [(.bool false), (.int .u64 0), (.int .u64 0)] [(0, 1, (.const (.bool true)))], none⟩,
    ⟨(some 6), .alloc [(.bool false), (.int .u64 0), (.int .u64 0)], none⟩,
    ⟨none, .store 3 (.tmp 6) (.tmp 20), none⟩]
def k102_9 : VC := .reg [⟨(some 22), .mv (.tmp 0), none⟩,
    ⟨(some 23), .callF 101 [(.tmp 22), (.const (.int .i64 0)), (.const (.int .i64 8))], none⟩,
    ⟨(some 21), .mv (.tmp 23), none⟩,
    ⟨(some 24), .extract 0 (.tmp 21), none⟩,
    ⟨(some 25), .extract 1 (.tmp 21), none⟩,
    ⟨(some 26), .fieldA 1 (.tmp 6), none⟩,
    ⟨none, .store 1 (.tmp 26) (.tmp 24), none⟩]
def k102_10 : VC := .reg [⟨(some 28), .mv (.tmp 0), none⟩,
    ⟨(some 29), .callF 101 [(.tmp 28), (.const (.int .i64 8)), (.const (.int .i64 8))], none⟩,
    ⟨(some 27), .mv (.tmp 29), none⟩,
    ⟨(some 30), .extract 0 (.tmp 27), none⟩,
    ⟨(some 31), .extract 1 (.tmp 27), none⟩,
    ⟨(some 32), .fieldA 2 (.tmp 6), none⟩,
    ⟨none, .store 1 (.tmp 32) (.tmp 30), none⟩]
def k102_11 : VC := .reg [⟨(some 33), .loadN [.bool, (.int .u64), (.int .u64)] (.tmp 6), none⟩,
    ⟨none, .store 3 (.tmp 2) (.tmp 33), none⟩,
    ⟨(some 3), .mv (.const (.bool true)), none⟩]
def k102_12 : VC := .seq k102_11 .ret
def k102_13 : VC := .seq k102_10 k102_12
def k102_14 : VC := .seq k102_9 k102_13
def k102_15 : VC := .seq k102_8 k102_14
def k102_16 : VC := .cond (.tmp 18) k102_15 .skip
def k102_17 : VC := .seq k102_7 k102_16
def k102_18 : VC := .cond (.tmp 9) k102_6 k102_17
def k102_19 : VC := .seq k102_2 k102_18
def k102_20 : VC := .block 0 k102_19
def k102_21 : VC := .seq k102_1 k102_20
def k102_22 : VC := .reg [⟨(some 34), .build [(.bool false), (.int .u64 0), (.int .u64 0)] [], none⟩,
    ⟨none, .store 3 (.tmp 2) (.tmp 34), none⟩,
    ⟨(some 3), .mv (.const (.bool false)), none⟩]
def k102_23 : VC := .seq k102_22 .ret
def k102_24 : VC := .seq k102_21 k102_23
def k102_25 : VC := .seq k102_0 k102_24
def fn102 : VFn := ⟨35, k102_25, [.cell 2 [.bool, (.int .u64), (.int .u64)] true, .tmp 3]⟩
/- 22: cloakroom/cloakroomlaw05.of -/
def k22_0 : VC := .reg [⟨(some 1), .box (.tmp 0), none⟩,
    ⟨(some 2), .alloc [(.int .i64 0), (.int .i64 0), (.bool false), (.int .i64 0), (.int .i64 0), (.bool false), (.int .u64 0), (.int .u64 0), (.bool false), (.int .u64 0), (.int .u64 0), (.string ⟨⟨[]⟩⟩)], none⟩]
def k22_1 : VC := .reg [⟨(some 3), .fieldA 0 (.tmp 1), none⟩,
    ⟨(some 4), .load1 (.int .i64) (.tmp 3), none⟩,
    ⟨(some 5), .fieldA 1 (.tmp 1), none⟩,
    ⟨(some 6), .load1 (.int .i64) (.tmp 5), none⟩,
    ⟨(some 7), .fieldA 2 (.tmp 1), none⟩,
    ⟨(some 8), .load1 .bool (.tmp 7), none⟩,
    ⟨(some 9), .fieldA 3 (.tmp 1), none⟩,
    ⟨(some 10), .load1 (.int .i64) (.tmp 9), none⟩,
    ⟨(some 11), .fieldA 4 (.tmp 1), none⟩,
    ⟨(some 12), .load1 (.int .i64) (.tmp 11), none⟩,
    ⟨(some 13), .fieldA 5 (.tmp 1), none⟩,
    ⟨(some 14), .loadN [.bool, (.int .u64), (.int .u64)] (.tmp 13), none⟩,
    ⟨(some 15), .fieldA 8 (.tmp 1), none⟩,
    ⟨(some 16), .loadN [.bool, (.int .u64), (.int .u64)] (.tmp 15), none⟩,
    ⟨(some 17), .fieldA 11 (.tmp 1), none⟩,
    ⟨(some 18), .load1 .str (.tmp 17), none⟩,
    ⟨(some 19), .build [(.int .i64 0), (.int .i64 0), (.bool false), (.int .i64 0), (.int .i64 0), (.bool false), (.int .u64 0), (.int .u64 0), (.bool false), (.int .u64 0), (.int .u64 0), (.string ⟨⟨[]⟩⟩)] [(0, 1, (.tmp 4)), (1, 1, (.tmp 6)), (2, 1, (.tmp 8)), (3, 1, (.tmp 10)), (4, 1, (.tmp 12)), (5, 3, (.tmp 14)), (8, 3, (.tmp 16)), (11, 1, (.tmp 18))], none⟩,
    ⟨none, .store 12 (.tmp 2) (.tmp 19), none⟩]
def k22_2 : VC := .seq k22_1 .ret
def k22_3 : VC := .seq k22_0 k22_2
def fn22 : VFn := ⟨20, k22_3, [.cell 2 [(.int .i64), (.int .i64), .bool, (.int .i64), (.int .i64), .bool, (.int .u64), (.int .u64), .bool, (.int .u64), (.int .u64), .str] true]⟩
/- 23: cloakroom/cloakroomref05.Put -/
def k23_0 : VC := .reg [⟨(some 2), .box (.tmp 0), none⟩,
    ⟨(some 4), .mv (.const (.string ⟨⟨[]⟩⟩)), none⟩,
    ⟨(some 5), .mv (.const (.int .i64 0)), none⟩]
def k23_1 : VC := .reg [⟨(some 9), .loadN [(.int .i64), (.int .i64), .bool, (.int .i64), (.int .i64), .bool, (.int .u64), (.int .u64), .bool, (.int .u64), (.int .u64), .str] (.tmp 2), none⟩,
    ⟨(some 10), .callF 79 [(.tmp 9)], none⟩,
    ⟨(some 11), .not (.tmp 10), none⟩]
def k23_2 : VC := .reg [⟨(some 4), .mv (.const (.string ⟨⟨[]⟩⟩)), none⟩,
    ⟨(some 5), .mv (.const (.int .i64 1)), none⟩]
def k23_3 : VC := .seq k23_2 .ret
def k23_4 : VC := .cond (.tmp 11) k23_3 .skip
def k23_5 : VC := .seq k23_1 k23_4
def k23_6 : VC := .reg [⟨(some 12), .fieldA 11 (.tmp 2), none⟩,
    ⟨(some 13), .load1 .str (.tmp 12), none⟩,
    ⟨(some 14), .lenS (.tmp 13), none⟩,
    ⟨(some 15), .bin .add (.const (.int .i64 20)) (.tmp 14), none⟩,
    ⟨(some 6), .mv (.tmp 15), none⟩]
def k23_7 : VC := .reg [⟨(some 16), .mv (.tmp 1), none⟩,
    ⟨(some 17), .lenS (.tmp 16), none⟩,
    ⟨(some 18), .mv (.tmp 6), none⟩,
    ⟨(some 19), .bin .sub (.const (.int .i64 65535)) (.tmp 18), none⟩,
    ⟨(some 20), .bin .gtr (.tmp 17) (.tmp 19), none⟩]
def k23_8 : VC := .reg [⟨(some 4), .mv (.const (.string ⟨⟨[]⟩⟩)), none⟩,
    ⟨(some 5), .mv (.const (.int .i64 5)), none⟩]
def k23_9 : VC := .seq k23_8 .ret
def k23_10 : VC := .cond (.tmp 20) k23_9 .skip
def k23_11 : VC := .seq k23_7 k23_10
def k23_12 : VC := .reg [⟨(some 7), .mv (.const (.int .i64 0)), none⟩]
def k23_13 : VC := .reg [⟨(some 21), .fieldA 2 (.tmp 2), none⟩,
    ⟨(some 22), .load1 .bool (.tmp 21), none⟩]
def k23_14 : VC := .reg [⟨(some 7), .mv (.const (.int .i64 64)), none⟩]
def k23_15 : VC := .cond (.tmp 22) k23_14 .skip
def k23_16 : VC := .seq k23_13 k23_15
def k23_17 : VC := .regD [⟨(some 23), .mv (.tmp 6), none⟩,
    ⟨(some 24), .bin .quo (.tmp 23) (.const (.int .i64 4)), none⟩,
    ⟨(some 25), .bin .add (.const (.int .i64 64)) (.tmp 24), none⟩,
    ⟨(some 26), .callF 80 [(.tmp 25), (.const (.int .i64 1))], none⟩,
    ⟨(some 27), .fieldA 0 (.tmp 2), none⟩,
    ⟨(some 28), .load1 (.int .i64) (.tmp 27), none⟩,
    ⟨(some 29), .callF 80 [(.tmp 28), (.const (.int .i64 1))], none⟩,
    ⟨(some 30), .bin .add (.tmp 26) (.tmp 29), none⟩,
    ⟨(some 31), .mv (.tmp 6), none⟩,
    ⟨(some 32), .mv (.tmp 1), none⟩,
    ⟨(some 33), .lenS (.tmp 32), none⟩,
    ⟨(some 34), .bin .add (.tmp 31) (.tmp 33), none⟩,
    ⟨(some 35), .callF 80 [(.tmp 34), (.const (.int .i64 2))], none⟩,
    ⟨(some 36), .bin .add (.tmp 30) (.tmp 35), none⟩,
    ⟨(some 37), .fieldA 1 (.tmp 2), none⟩,
    ⟨(some 38), .load1 (.int .i64) (.tmp 37), none⟩,
    ⟨(some 39), .callF 80 [(.tmp 38), (.const (.int .i64 2))], none⟩,
    ⟨(some 40), .bin .add (.tmp 36) (.tmp 39), none⟩,
    ⟨(some 41), .mv (.tmp 7), none⟩,
    ⟨(some 42), .callF 80 [(.tmp 41), (.const (.int .i64 1))], none⟩,
    ⟨(some 43), .bin .add (.tmp 40) (.tmp 42), none⟩,
    ⟨(some 44), .callF 80 [(.const (.int .i64 0)), (.const (.int .i64 1))], none⟩,
    ⟨(some 45), .bin .add (.tmp 43) (.tmp 44), none⟩,
    ⟨(some 46), .fieldA 3 (.tmp 2), none⟩,
    ⟨(some 47), .load1 (.int .i64) (.tmp 46), none⟩,
    ⟨(some 48), .callF 80 [(.tmp 47), (.const (.int .i64 1))], none⟩,
    ⟨(some 49), .bin .add (.tmp 45) (.tmp 48), none⟩,
    ⟨(some 50), .fieldA 4 (.tmp 2), none⟩,
    ⟨(some 51), .load1 (.int .i64) (.tmp 50), none⟩,
    ⟨(some 52), .callF 80 [(.tmp 51), (.const (.int .i64 1))], none⟩,
    ⟨(some 53), .bin .add (.tmp 49) (.tmp 52), none⟩,
    ⟨(some 54), .callF 80 [(.const (.int .i64 0)), (.const (.int .i64 2))], none⟩,
    ⟨(some 55), .bin .add (.tmp 53) (.tmp 54), none⟩,
    ⟨(some 56), .fieldA 5 (.tmp 2), none⟩,
    ⟨(some 57), .loadN [.bool, (.int .u64), (.int .u64)] (.tmp 56), none⟩,
    ⟨(some 58), .callF 81 [(.tmp 57)], none⟩,
    ⟨(some 59), .bin .add (.tmp 55) (.tmp 58), none⟩,
    ⟨(some 60), .fieldA 8 (.tmp 2), none⟩,
    ⟨(some 61), .loadN [.bool, (.int .u64), (.int .u64)] (.tmp 60), none⟩,
    ⟨(some 62), .callF 81 [(.tmp 61)], none⟩,
    ⟨(some 63), .bin .add (.tmp 59) (.tmp 62), none⟩,
    ⟨(some 64), .fieldA 11 (.tmp 2), none⟩,
    ⟨(some 65), .load1 .str (.tmp 64), none⟩] [(3, 5), (3, 15), (3, 24), (3, 28), (3, 34), (3, 38), (3, 42), (6, 15), (6, 24), (6, 28), (6, 34), (6, 38), (6, 42), (12, 15), (12, 24), (12, 28), (12, 34), (12, 38), (12, 42), (16, 24), (16, 28), (16, 34), (16, 38), (16, 42), (19, 24), (19, 28), (19, 34), (19, 38), (19, 42), (21, 24), (21, 28), (21, 34), (21, 38), (21, 42), (25, 28), (25, 34), (25, 38), (25, 42), (29, 34), (29, 38), (29, 42), (31, 34), (31, 38), (31, 42), (35, 38), (35, 42), (39, 42)] [⟨(some 66), .bin .add (.tmp 63) (.tmp 65), none⟩,
    ⟨(some 8), .mv (.tmp 66), none⟩]
def k23_18 : VC := .reg [⟨(some 67), .mv (.tmp 8), none⟩,
    ⟨(some 68), .mv (.tmp 8), none⟩,
    ⟨(some 69), .callF 68 [(.tmp 68)], none⟩,
    ⟨(some 70), .conv .u64 (.tmp 69), none⟩,
    ⟨(some 71), .callF 69 [(.tmp 67), (.const (.int .i64 10)), (.const (.int .i64 2)), (.tmp 70)], none⟩,
    ⟨(some 72), .mv (.tmp 1), none⟩,
    ⟨(some 73), .bin .add (.tmp 71) (.tmp 72), none⟩,
    ⟨(some 4), .mv (.tmp 73), none⟩,
    ⟨(some 5), .mv (.const (.int .i64 0)), none⟩]
def k23_19 : VC := .seq k23_18 .ret
def k23_20 : VC := .seq k23_17 k23_19
def k23_21 : VC := .seq k23_16 k23_20
def k23_22 : VC := .seq k23_12 k23_21
def k23_23 : VC := .seq k23_11 k23_22
def k23_24 : VC := .seq k23_6 k23_23
def k23_25 : VC := .seq k23_5 k23_24
def k23_26 : VC := .seq k23_0 k23_25
def fn23 : VFn := ⟨74, k23_26, [.tmp 4, .tmp 5]⟩
/- 79: cloakroom/cloakroomref05.Right -/
def k79_0 : VC := .reg [⟨(some 1), .box (.tmp 0), none⟩,
    ⟨(some 2), .mv (.const (.bool false)), none⟩]
def k79_1 : VC := .reg [⟨(some 3), .fieldA 0 (.tmp 1), none⟩,
    ⟨(some 4), .load1 (.int .i64) (.tmp 3), none⟩,
    ⟨(some 5), .callF 119 [(.tmp 4), (.const (.int .i64 255))], none⟩,
    ⟨(some 6), .mv (.tmp 5), none⟩,
    ⟨(some 7), .fieldA 1 (.tmp 1), (some (6, true))⟩,
    ⟨(some 8), .load1 (.int .i64) (.tmp 7), (some (6, true))⟩,
    ⟨(some 9), .callF 119 [(.tmp 8), (.const (.int .i64 65535))], (some (6, true))⟩,
    ⟨(some 10), .pick (.tmp 6) (.tmp 9) (.const (.bool false)), none⟩,
    ⟨(some 11), .mv (.tmp 10), none⟩,
    ⟨(some 12), .fieldA 3 (.tmp 1), (some (11, true))⟩,
    ⟨(some 13), .load1 (.int .i64) (.tmp 12), (some (11, true))⟩,
    ⟨(some 14), .callF 119 [(.tmp 13), (.const (.int .i64 255))], (some (11, true))⟩,
    ⟨(some 15), .pick (.tmp 11) (.tmp 14) (.const (.bool false)), none⟩,
    ⟨(some 16), .mv (.tmp 15), none⟩,
    ⟨(some 17), .fieldA 4 (.tmp 1), (some (16, true))⟩,
    ⟨(some 18), .load1 (.int .i64) (.tmp 17), (some (16, true))⟩,
    ⟨(some 19), .callF 119 [(.tmp 18), (.const (.int .i64 255))], (some (16, true))⟩,
    ⟨(some 20), .pick (.tmp 16) (.tmp 19) (.const (.bool false)), none⟩,
    ⟨(some 21), .mv (.tmp 20), none⟩,
    ⟨(some 22), .fieldA 5 (.tmp 1), (some (21, true))⟩,
    ⟨(some 23), .loadN [.bool, (.int .u64), (.int .u64)] (.tmp 22), (some (21, true))⟩,
    ⟨(some 24), .callF 120 [(.tmp 23)], (some (21, true))⟩,
    ⟨(some 25), .pick (.tmp 21) (.tmp 24) (.const (.bool false)), none⟩,
    ⟨(some 26), .mv (.tmp 25), none⟩,
    ⟨(some 27), .fieldA 8 (.tmp 1), (some (26, true))⟩,
    ⟨(some 28), .loadN [.bool, (.int .u64), (.int .u64)] (.tmp 27), (some (26, true))⟩,
    ⟨(some 29), .callF 120 [(.tmp 28)], (some (26, true))⟩,
    ⟨(some 30), .pick (.tmp 26) (.tmp 29) (.const (.bool false)), none⟩,
    ⟨(some 31), .mv (.tmp 30), none⟩,
    ⟨(some 32), .fieldA 11 (.tmp 1), (some (31, true))⟩,
    ⟨(some 33), .load1 .str (.tmp 32), (some (31, true))⟩,
    ⟨(some 34), .lenS (.tmp 33), (some (31, true))⟩,
    ⟨(some 35), .bin .leq (.tmp 34) (.const (.int .i64 40)), (some (31, true))⟩,
    ⟨(some 36), .pick (.tmp 31) (.tmp 35) (.const (.bool false)), none⟩,
    ⟨(some 37), .mv (.tmp 36), none⟩,
    ⟨(some 38), .fieldA 11 (.tmp 1), (some (37, true))⟩,
    ⟨(some 39), .load1 .str (.tmp 38), (some (37, true))⟩,
    ⟨(some 40), .lenS (.tmp 39), (some (37, true))⟩,
    ⟨(some 41), .bin .rem (.tmp 40) (.const (.int .i64 4)), (some (37, true))⟩,
    ⟨(some 42), .bin .eql (.tmp 41) (.const (.int .i64 0)), (some (37, true))⟩,
    ⟨(some 43), .pick (.tmp 37) (.tmp 42) (.const (.bool false)), none⟩,
    ⟨(some 2), .mv (.tmp 43), none⟩]
def k79_2 : VC := .seq k79_1 .ret
def k79_3 : VC := .seq k79_0 k79_2
def fn79 : VFn := ⟨44, k79_3, [.tmp 2]⟩
/- 119: cloakroom/cloakroomref05.in -/
def k119_0 : VC := .reg [⟨(some 4), .mv (.const (.bool false)), none⟩]
def k119_1 : VC := .reg [⟨(some 5), .mv (.tmp 0), none⟩,
    ⟨(some 6), .bin .geq (.tmp 5) (.const (.int .i64 0)), none⟩,
    ⟨(some 7), .mv (.tmp 6), none⟩,
    ⟨(some 8), .mv (.tmp 0), (some (7, true))⟩,
    ⟨(some 9), .mv (.tmp 1), (some (7, true))⟩,
    ⟨(some 10), .bin .leq (.tmp 8) (.tmp 9), (some (7, true))⟩,
    ⟨(some 11), .pick (.tmp 7) (.tmp 10) (.const (.bool false)), none⟩,
    ⟨(some 4), .mv (.tmp 11), none⟩]
def k119_2 : VC := .seq k119_1 .ret
def k119_3 : VC := .seq k119_0 k119_2
def fn119 : VFn := ⟨12, k119_3, [.tmp 4]⟩
/- 120: cloakroom/cloakroomref05.four -/
def k120_0 : VC := .reg [⟨(some 1), .box (.tmp 0), none⟩,
    ⟨(some 2), .mv (.const (.bool false)), none⟩]
def k120_1 : VC := .reg [⟨(some 3), .loadN [.bool, (.int .u64), (.int .u64)] (.tmp 1), none⟩,
    ⟨(some 4), .callF 86 [(.tmp 3)], none⟩,
    ⟨(some 5), .mv (.tmp 4), none⟩,
    ⟨(some 6), .fieldA 0 (.tmp 1), (some (5, true))⟩,
    ⟨(some 7), .load1 .bool (.tmp 6), (some (5, true))⟩,
    ⟨(some 8), .not (.tmp 7), (some (5, true))⟩,
    ⟨(some 9), .pick (.tmp 5) (.tmp 8) (.const (.bool false)), none⟩,
    ⟨(some 2), .mv (.tmp 9), none⟩]
def k120_2 : VC := .seq k120_1 .ret
def k120_3 : VC := .seq k120_0 k120_2
def fn120 : VFn := ⟨10, k120_3, [.tmp 2]⟩
/- 86: cloakroom/cloakroomref04.Right -/
def k86_0 : VC := .reg [⟨(some 1), .box (.tmp 0), none⟩,
    ⟨(some 2), .mv (.const (.bool false)), none⟩]
def k86_1 : VC := .reg [⟨(some 3), .fieldA 0 (.tmp 1), none⟩,
    ⟨(some 4), .load1 .bool (.tmp 3), none⟩,
    ⟨(some 5), .mv (.tmp 4), none⟩,
    ⟨(some 6), .fieldA 1 (.tmp 1), (some (5, false))⟩,
    ⟨(some 7), .load1 (.int .u64) (.tmp 6), (some (5, false))⟩,
    ⟨(some 8), .bin .eql (.tmp 7) (.const (.int .u64 0)), (some (5, false))⟩,
    ⟨(some 9), .mv (.tmp 8), (some (5, false))⟩,
    ⟨(some 10), .fieldA 2 (.tmp 1), (some (9, true))⟩,
    ⟨(some 11), .load1 (.int .u64) (.tmp 10), (some (9, true))⟩,
    ⟨(some 12), .bin .lss (.tmp 11) (.const (.int .u64 4294967296)), (some (9, true))⟩,
    ⟨(some 13), .pick (.tmp 9) (.tmp 12) (.const (.bool false)), (some (5, false))⟩,
    ⟨(some 14), .pick (.tmp 5) (.const (.bool true)) (.tmp 13), none⟩,
    ⟨(some 2), .mv (.tmp 14), none⟩]
def k86_2 : VC := .seq k86_1 .ret
def k86_3 : VC := .seq k86_0 k86_2
def fn86 : VFn := ⟨15, k86_3, [.tmp 2]⟩
/- 80: cloakroom/cloakroomref05.num -/
def k80_0 : VC := .reg [⟨(some 4), .mv (.const (.string ⟨⟨[]⟩⟩)), none⟩]
def k80_1 : VC := .reg [⟨(some 5), .mv (.tmp 0), none⟩,
    ⟨(some 6), .conv .u64 (.tmp 5), none⟩,
    ⟨(some 7), .mv (.tmp 1), none⟩,
    ⟨(some 8), .callF 67 [(.tmp 6), (.tmp 7)], none⟩,
    ⟨(some 4), .mv (.tmp 8), none⟩]
def k80_2 : VC := .seq k80_1 .ret
def k80_3 : VC := .seq k80_0 k80_2
def fn80 : VFn := ⟨9, k80_3, [.tmp 4]⟩
/- 67: cloakroom/cloakroomref02.Put -/
def k67_0 : VC := .reg [⟨(some 4), .mv (.const (.string ⟨⟨[]⟩⟩)), none⟩]
def k67_1 : VC := .reg [⟨(some 5), .mv (.const (.string ⟨⟨[]⟩⟩)), none⟩]
def k67_2 : VC := .reg [⟨(some 6), .mv (.const (.int .i64 0)), none⟩]
def k67_3 : VC := .reg [⟨(some 7), .mv (.tmp 6), none⟩,
    ⟨(some 8), .mv (.tmp 1), none⟩,
    ⟨(some 9), .bin .lss (.tmp 7) (.tmp 8), none⟩,
    ⟨(some 10), .mv (.tmp 9), none⟩,
    ⟨(some 11), .mv (.tmp 1), (some (10, true))⟩,
    ⟨(some 12), .bin .leq (.tmp 11) (.const (.int .i64 8)), (some (10, true))⟩,
    ⟨(some 13), .pick (.tmp 10) (.tmp 12) (.const (.bool false)), none⟩]
def k67_4 : VC := .cond (.tmp 13) .skip (.exit 0)
def k67_5 : VC := .seq k67_3 k67_4
def k67_6 : VC := .reg [⟨(some 16), .mv (.tmp 0), none⟩,
    ⟨(some 17), .bin .rem (.tmp 16) (.const (.int .u64 256)), none⟩,
    ⟨(some 18), .conv .u8 (.tmp 17), none⟩,
    ⟨(some 19), .buildSl 1 1 [(.int .u8 0)] [(0, 1, (.tmp 18))], none⟩,
    ⟨(some 20), .b2s (.tmp 19), none⟩,
    ⟨(some 21), .mv (.tmp 5), none⟩,
    ⟨(some 22), .bin .add (.tmp 20) (.tmp 21), none⟩,
    ⟨(some 5), .mv (.tmp 22), none⟩]
def k67_7 : VC := .reg [⟨(some 23), .mv (.tmp 0), none⟩,
    ⟨(some 24), .bin .quo (.tmp 23) (.const (.int .u64 256)), none⟩,
    ⟨(some 0), .mv (.tmp 24), none⟩]
def k67_8 : VC := .seq k67_6 k67_7
def k67_9 : VC := .block 1 k67_8
def k67_10 : VC := .reg [⟨(some 14), .mv (.tmp 6), none⟩,
    ⟨(some 15), .bin .add (.tmp 14) (.const (.int .i64 1)), none⟩,
    ⟨(some 6), .mv (.tmp 15), none⟩]
def k67_11 : VC := .seq k67_9 k67_10
def k67_12 : VC := .seq k67_5 k67_11
def k67_13 : VC := .loop k67_12
def k67_14 : VC := .block 0 k67_13
def k67_15 : VC := .seq k67_2 k67_14
def k67_16 : VC := .reg [⟨(some 25), .mv (.tmp 5), none⟩,
    ⟨(some 4), .mv (.tmp 25), none⟩]
def k67_17 : VC := .seq k67_16 .ret
def k67_18 : VC := .seq k67_15 k67_17
def k67_19 : VC := .seq k67_1 k67_18
def k67_20 : VC := .seq k67_0 k67_19
def fn67 : VFn := ⟨26, k67_20, [.tmp 4]⟩
/- 81: cloakroom/cloakroomref04.Put -/
def k81_0 : VC := .reg [⟨(some 1), .box (.tmp 0), none⟩,
    ⟨(some 2), .mv (.const (.string ⟨⟨[]⟩⟩)), none⟩]
def k81_1 : VC := .reg [⟨(some 3), .loadN [.bool, (.int .u64), (.int .u64)] (.tmp 1), none⟩,
    ⟨(some 4), .callF 86 [(.tmp 3)], none⟩,
    ⟨(some 5), .not (.tmp 4), none⟩]
def k81_2 : VC := .reg [⟨(some 2), .mv (.const (.string ⟨⟨[]⟩⟩)), none⟩]
def k81_3 : VC := .seq k81_2 .ret
def k81_4 : VC := .cond (.tmp 5) k81_3 .skip
def k81_5 : VC := .seq k81_1 k81_4
def k81_6 : VC := .reg [⟨(some 6), .fieldA 0 (.tmp 1), none⟩,
    ⟨(some 7), .load1 .bool (.tmp 6), none⟩]
def k81_7 : VC := .regD [⟨(some 8), .fieldA 1 (.tmp 1), none⟩,
    ⟨(some 9), .load1 (.int .u64) (.tmp 8), none⟩,
    ⟨(some 10), .callF 67 [(.tmp 9), (.const (.int .i64 8))], none⟩,
    ⟨(some 11), .fieldA 2 (.tmp 1), none⟩,
    ⟨(some 12), .load1 (.int .u64) (.tmp 11), none⟩] [(2, 4)] [⟨(some 13), .callF 67 [(.tmp 12), (.const (.int .i64 8))], none⟩,
    ⟨(some 14), .bin .add (.tmp 10) (.tmp 13), none⟩,
    ⟨(some 2), .mv (.tmp 14), none⟩]
def k81_8 : VC := .seq k81_7 .ret
def k81_9 : VC := .cond (.tmp 7) k81_8 .skip
def k81_10 : VC := .seq k81_6 k81_9
def k81_11 : VC := .reg [⟨(some 15), .fieldA 2 (.tmp 1), none⟩,
    ⟨(some 16), .load1 (.int .u64) (.tmp 15), none⟩,
    ⟨(some 17), .callF 67 [(.tmp 16), (.const (.int .i64 4))], none⟩,
    ⟨(some 2), .mv (.tmp 17), none⟩]
def k81_12 : VC := .seq k81_11 .ret
def k81_13 : VC := .seq k81_10 k81_12
def k81_14 : VC := .seq k81_5 k81_13
def k81_15 : VC := .seq k81_0 k81_14
def fn81 : VFn := ⟨18, k81_15, [.tmp 2]⟩
/- 68: cloakroom/cloakroomref03.Of -/
def k68_0 : VC := .reg [⟨(some 2), .mv (.const (.int .i64 0)), none⟩]
def k68_1 : VC := .reg [⟨(some 3), .mv (.tmp 0), none⟩,
    ⟨(some 4), .callF 75 [(.tmp 3)], none⟩,
    ⟨(some 5), .bin .sub (.const (.int .i64 65535)) (.tmp 4), none⟩,
    ⟨(some 2), .mv (.tmp 5), none⟩]
def k68_2 : VC := .seq k68_1 .ret
def k68_3 : VC := .seq k68_0 k68_2
def fn68 : VFn := ⟨6, k68_3, [.tmp 2]⟩
/- 75: cloakroom/cloakroomref03.Sum -/
def k75_0 : VC := .reg [⟨(some 2), .mv (.const (.int .i64 0)), none⟩]
def k75_1 : VC := .reg [⟨(some 3), .mv (.tmp 0), none⟩,
    ⟨(some 4), .callF 116 [(.tmp 3)], none⟩,
    ⟨(some 5), .callF 115 [(.tmp 4)], none⟩,
    ⟨(some 2), .mv (.tmp 5), none⟩]
def k75_2 : VC := .seq k75_1 .ret
def k75_3 : VC := .seq k75_0 k75_2
def fn75 : VFn := ⟨6, k75_3, [.tmp 2]⟩
/- 116: cloakroom/cloakroomref03.Words -/
def k116_0 : VC := .reg [⟨(some 2), .mv (.const (.slice none 0 0)), none⟩]
def k116_1 : VC := .reg [⟨(some 5), .mv (.tmp 0), none⟩,
    ⟨(some 6), .lenS (.tmp 5), none⟩,
    ⟨(some 7), .bin .rem (.tmp 6) (.const (.int .i64 2)), none⟩,
    ⟨(some 8), .bin .eql (.tmp 7) (.const (.int .i64 1)), none⟩]
def k116_2 : VC := .reg [⟨(some 9), .mv (.tmp 0), none⟩,
    ⟨(some 10), .bin .add (.tmp 9) (.const (.string ⟨⟨[0]⟩⟩)), none⟩,
    ⟨(some 0), .mv (.tmp 10), none⟩]
def k116_3 : VC := .cond (.tmp 8) k116_2 .skip
def k116_4 : VC := .seq k116_1 k116_3
def k116_5 : VC := .reg [⟨(some 3), .mv (.const (.slice none 0 0)), none⟩]
def k116_6 : VC := .reg [⟨(some 4), .mv (.const (.int .i64 0)), none⟩]
def k116_7 : VC := .reg [⟨(some 11), .mv (.tmp 4), none⟩,
    ⟨(some 12), .mv (.tmp 0), none⟩,
    ⟨(some 13), .lenS (.tmp 12), none⟩,
    ⟨(some 14), .bin .lss (.tmp 11) (.tmp 13), none⟩]
def k116_8 : VC := .cond (.tmp 14) .skip (.exit 0)
def k116_9 : VC := .seq k116_7 k116_8
def k116_10 : VC := .reg [⟨(some 17), .mv (.tmp 3), none⟩,
    ⟨(some 18), .mv (.tmp 0), none⟩,
    ⟨(some 19), .mv (.tmp 4), none⟩,
    ⟨(some 20), .callF 74 [(.tmp 18), (.tmp 19), (.const (.int .i64 2))], none⟩,
    ⟨(some 21), .buildSl 1 1 [(.int .i64 0)] [(0, 1, (.tmp 20))], none⟩,
    ⟨(some 22), .app 3 1 8 (.tmp 17) (.tmp 21), none⟩,
    ⟨(some 3), .mv (.tmp 22), none⟩]
def k116_11 : VC := .block 1 k116_10
def k116_12 : VC := .reg [⟨(some 15), .mv (.tmp 4), none⟩,
    ⟨(some 16), .bin .add (.tmp 15) (.const (.int .i64 2)), none⟩,
    ⟨(some 4), .mv (.tmp 16), none⟩]
def k116_13 : VC := .seq k116_11 k116_12
def k116_14 : VC := .seq k116_9 k116_13
def k116_15 : VC := .loop k116_14
def k116_16 : VC := .block 0 k116_15
def k116_17 : VC := .seq k116_6 k116_16
def k116_18 : VC := .reg [⟨(some 23), .mv (.tmp 3), none⟩,
    ⟨(some 2), .mv (.tmp 23), none⟩]
def k116_19 : VC := .seq k116_18 .ret
def k116_20 : VC := .seq k116_17 k116_19
def k116_21 : VC := .seq k116_5 k116_20
def k116_22 : VC := .seq k116_4 k116_21
def k116_23 : VC := .seq k116_0 k116_22
def fn116 : VFn := ⟨24, k116_23, [.tmp 2]⟩
/- 74: cloakroom/cloakroomref02.Must -/
def k74_0 : VC := .reg [⟨(some 6), .mv (.const (.int .i64 0)), none⟩]
def k74_1 : VC := .reg [⟨(some 10), .mv (.tmp 0), none⟩,
    ⟨(some 11), .mv (.tmp 1), none⟩,
    ⟨(some 12), .mv (.tmp 2), none⟩,
    ⟨(some 13), .callF 114 [(.tmp 10), (.tmp 11), (.tmp 12)], none⟩,
    ⟨(some 9), .mv (.tmp 13), none⟩,
    ⟨(some 14), .extract 0 (.tmp 9), none⟩,
    ⟨(some 15), .extract 1 (.tmp 9), none⟩,
    ⟨(some 7), .mv (.tmp 14), none⟩,
    ⟨(some 8), .mv (.tmp 15), none⟩]
def k74_2 : VC := .reg [⟨(some 16), .mv (.tmp 7), none⟩,
    ⟨(some 17), .conv .i64 (.tmp 16), none⟩,
    ⟨(some 6), .mv (.tmp 17), none⟩]
def k74_3 : VC := .seq k74_2 .ret
def k74_4 : VC := .seq k74_1 k74_3
def k74_5 : VC := .seq k74_0 k74_4
def fn74 : VFn := ⟨18, k74_5, [.tmp 6]⟩
/- 114: cloakroom/cloakroomref02.Get -/
def k114_0 : VC := .reg [⟨(some 6), .mv (.const (.int .u64 0)), none⟩,
    ⟨(some 7), .mv (.const (.bool false)), none⟩]
def k114_1 : VC := .reg [⟨(some 10), .mv (.tmp 2), none⟩,
    ⟨(some 11), .bin .lss (.tmp 10) (.const (.int .i64 1)), none⟩,
    ⟨(some 12), .mv (.tmp 11), none⟩,
    ⟨(some 13), .mv (.tmp 2), (some (12, false))⟩,
    ⟨(some 14), .bin .gtr (.tmp 13) (.const (.int .i64 8)), (some (12, false))⟩,
    ⟨(some 15), .pick (.tmp 12) (.const (.bool true)) (.tmp 14), none⟩,
    ⟨(some 16), .mv (.tmp 15), none⟩,
    ⟨(some 17), .mv (.tmp 1), (some (16, false))⟩,
    ⟨(some 18), .bin .lss (.tmp 17) (.const (.int .i64 0)), (some (16, false))⟩,
    ⟨(some 19), .pick (.tmp 16) (.const (.bool true)) (.tmp 18), none⟩,
    ⟨(some 20), .mv (.tmp 19), none⟩,
    ⟨(some 21), .mv (.tmp 1), (some (20, false))⟩,
    ⟨(some 22), .mv (.tmp 0), (some (20, false))⟩,
    ⟨(some 23), .lenS (.tmp 22), (some (20, false))⟩,
    ⟨(some 24), .bin .gtr (.tmp 21) (.tmp 23), (some (20, false))⟩,
    ⟨(some 25), .pick (.tmp 20) (.const (.bool true)) (.tmp 24), none⟩,
    ⟨(some 26), .mv (.tmp 25), none⟩,
    ⟨(some 27), .mv (.tmp 2), (some (26, false))⟩,
    ⟨(some 28), .mv (.tmp 0), (some (26, false))⟩,
    ⟨(some 29), .lenS (.tmp 28), (some (26, false))⟩,
    ⟨(some 30), .mv (.tmp 1), (some (26, false))⟩,
    ⟨(some 31), .bin .sub (.tmp 29) (.tmp 30), (some (26, false))⟩,
    ⟨(some 32), .bin .gtr (.tmp 27) (.tmp 31), (some (26, false))⟩,
    ⟨(some 33), .pick (.tmp 26) (.const (.bool true)) (.tmp 32), none⟩]
def k114_2 : VC := .reg [⟨(some 6), .mv (.const (.int .u64 0)), none⟩,
    ⟨(some 7), .mv (.const (.bool false)), none⟩]
def k114_3 : VC := .seq k114_2 .ret
def k114_4 : VC := .cond (.tmp 33) k114_3 .skip
def k114_5 : VC := .seq k114_1 k114_4
def k114_6 : VC := .reg [⟨(some 8), .mv (.const (.int .u64 0)), none⟩]
def k114_7 : VC := .reg [⟨(some 9), .mv (.const (.int .i64 0)), none⟩]
def k114_8 : VC := .reg [⟨(some 34), .mv (.tmp 9), none⟩,
    ⟨(some 35), .mv (.tmp 2), none⟩,
    ⟨(some 36), .bin .lss (.tmp 34) (.tmp 35), none⟩]
def k114_9 : VC := .cond (.tmp 36) .skip (.exit 0)
def k114_10 : VC := .seq k114_8 k114_9
def k114_11 : VC := .reg [⟨(some 39), .mv (.tmp 8), none⟩,
    ⟨(some 40), .bin .mul (.tmp 39) (.const (.int .u64 256)), none⟩,
    ⟨(some 41), .mv (.tmp 0), none⟩,
    ⟨(some 42), .mv (.tmp 1), none⟩,
    ⟨(some 43), .mv (.tmp 9), none⟩,
    ⟨(some 44), .bin .add (.tmp 42) (.tmp 43), none⟩,
    ⟨(some 45), .idxS (.tmp 41) (.tmp 44), none⟩,
    ⟨(some 46), .conv .u64 (.tmp 45), none⟩,
    ⟨(some 47), .bin .add (.tmp 40) (.tmp 46), none⟩,
    ⟨(some 8), .mv (.tmp 47), none⟩]
def k114_12 : VC := .block 1 k114_11
def k114_13 : VC := .reg [⟨(some 37), .mv (.tmp 9), none⟩,
    ⟨(some 38), .bin .add (.tmp 37) (.const (.int .i64 1)), none⟩,
    ⟨(some 9), .mv (.tmp 38), none⟩]
def k114_14 : VC := .seq k114_12 k114_13
def k114_15 : VC := .seq k114_10 k114_14
def k114_16 : VC := .loop k114_15
def k114_17 : VC := .block 0 k114_16
def k114_18 : VC := .seq k114_7 k114_17
def k114_19 : VC := .reg [⟨(some 48), .mv (.tmp 8), none⟩,
    ⟨(some 6), .mv (.tmp 48), none⟩,
    ⟨(some 7), .mv (.const (.bool true)), none⟩]
def k114_20 : VC := .seq k114_19 .ret
def k114_21 : VC := .seq k114_18 k114_20
def k114_22 : VC := .seq k114_6 k114_21
def k114_23 : VC := .seq k114_5 k114_22
def k114_24 : VC := .seq k114_0 k114_23
def fn114 : VFn := ⟨49, k114_24, [.tmp 6, .tmp 7]⟩
/- 115: cloakroom/cloakroomref03.Add -/
def k115_0 : VC := .reg [⟨(some 2), .mv (.const (.int .i64 0)), none⟩]
def k115_1 : VC := .reg [⟨(some 3), .mv (.const (.int .i64 0)), none⟩]
def k115_2 : VC := .reg [⟨(some 4), .mv (.const (.int .i64 0)), none⟩]
def k115_3 : VC := .reg [⟨(some 5), .mv (.tmp 4), none⟩,
    ⟨(some 6), .mv (.tmp 0), none⟩,
    ⟨(some 7), .lenL (.tmp 6), none⟩,
    ⟨(some 8), .bin .lss (.tmp 5) (.tmp 7), none⟩]
def k115_4 : VC := .cond (.tmp 8) .skip (.exit 0)
def k115_5 : VC := .seq k115_3 k115_4
def k115_6 : VC := .reg [⟨(some 11), .mv (.tmp 3), none⟩,
    ⟨(some 12), .mv (.tmp 0), none⟩,
    ⟨(some 13), .mv (.tmp 4), none⟩,
    ⟨(some 14), .idxAL 1 (.tmp 12) (.tmp 13), none⟩,
    ⟨(some 15), .load1 (.int .i64) (.tmp 14), none⟩,
    ⟨(some 16), .bin .add (.tmp 11) (.tmp 15), none⟩,
    ⟨(some 3), .mv (.tmp 16), none⟩]
def k115_7 : VC := .block 1 k115_6
def k115_8 : VC := .reg [⟨(some 9), .mv (.tmp 4), none⟩,
    ⟨(some 10), .bin .add (.tmp 9) (.const (.int .i64 1)), none⟩,
    ⟨(some 4), .mv (.tmp 10), none⟩]
def k115_9 : VC := .seq k115_7 k115_8
def k115_10 : VC := .seq k115_5 k115_9
def k115_11 : VC := .loop k115_10
def k115_12 : VC := .block 0 k115_11
def k115_13 : VC := .seq k115_2 k115_12
def k115_14 : VC := .reg [⟨(some 17), .mv (.tmp 3), none⟩,
    ⟨(some 18), .bin .gtr (.tmp 17) (.const (.int .i64 65535)), none⟩]
def k115_15 : VC := .cond (.tmp 18) .skip (.exit 2)
def k115_16 : VC := .seq k115_14 k115_15
def k115_17 : VC := .reg [⟨(some 19), .mv (.tmp 3), none⟩,
    ⟨(some 20), .bin .rem (.tmp 19) (.const (.int .i64 65536)), none⟩,
    ⟨(some 21), .mv (.tmp 3), none⟩,
    ⟨(some 22), .bin .quo (.tmp 21) (.const (.int .i64 65536)), none⟩,
    ⟨(some 23), .bin .add (.tmp 20) (.tmp 22), none⟩,
    ⟨(some 3), .mv (.tmp 23), none⟩]
def k115_18 : VC := .block 3 k115_17
def k115_19 : VC := .seq k115_16 k115_18
def k115_20 : VC := .loop k115_19
def k115_21 : VC := .block 2 k115_20
def k115_22 : VC := .reg [⟨(some 24), .mv (.tmp 3), none⟩,
    ⟨(some 2), .mv (.tmp 24), none⟩]
def k115_23 : VC := .seq k115_22 .ret
def k115_24 : VC := .seq k115_21 k115_23
def k115_25 : VC := .seq k115_13 k115_24
def k115_26 : VC := .seq k115_1 k115_25
def k115_27 : VC := .seq k115_0 k115_26
def fn115 : VFn := ⟨25, k115_27, [.tmp 2]⟩
/- 69: cloakroom/cloakroomref03.Set -/
def k69_0 : VC := .reg [⟨(some 8), .mv (.const (.string ⟨⟨[]⟩⟩)), none⟩]
def k69_1 : VC := .reg [⟨(some 12), .mv (.tmp 0), none⟩,
    ⟨(some 13), .mv (.tmp 1), none⟩,
    ⟨(some 14), .mv (.tmp 2), none⟩,
    ⟨(some 15), .callF 114 [(.tmp 12), (.tmp 13), (.tmp 14)], none⟩,
    ⟨(some 11), .mv (.tmp 15), none⟩,
    ⟨(some 16), .extract 0 (.tmp 11), none⟩,
    ⟨(some 17), .extract 1 (.tmp 11), none⟩,
    ⟨(some 9), .mv (.tmp 16), none⟩,
    ⟨(some 10), .mv (.tmp 17), none⟩]
def k69_2 : VC := .reg [⟨(some 18), .mv (.tmp 10), none⟩,
    ⟨(some 19), .not (.tmp 18), none⟩]
def k69_3 : VC := .reg [⟨(some 20), .mv (.tmp 0), none⟩,
    ⟨(some 8), .mv (.tmp 20), none⟩]
def k69_4 : VC := .seq k69_3 .ret
def k69_5 : VC := .cond (.tmp 19) k69_4 .skip
def k69_6 : VC := .seq k69_2 k69_5
def k69_7 : VC := .regD [⟨(some 21), .mv (.tmp 0), none⟩,
    ⟨(some 22), .mv (.tmp 1), none⟩,
    ⟨(some 23), .sliceS (.tmp 21) none (some (.tmp 22)), none⟩,
    ⟨(some 24), .mv (.tmp 3), none⟩,
    ⟨(some 25), .mv (.tmp 2), none⟩,
    ⟨(some 26), .callF 67 [(.tmp 24), (.tmp 25)], none⟩,
    ⟨(some 27), .bin .add (.tmp 23) (.tmp 26), none⟩,
    ⟨(some 28), .mv (.tmp 0), none⟩,
    ⟨(some 29), .mv (.tmp 1), none⟩,
    ⟨(some 30), .mv (.tmp 2), none⟩,
    ⟨(some 31), .bin .add (.tmp 29) (.tmp 30), none⟩,
    ⟨(some 32), .sliceS (.tmp 28) (some (.tmp 31)) none, none⟩] [] [⟨(some 33), .bin .add (.tmp 27) (.tmp 32), none⟩,
    ⟨(some 8), .mv (.tmp 33), none⟩]
def k69_8 : VC := .seq k69_7 .ret
def k69_9 : VC := .seq k69_6 k69_8
def k69_10 : VC := .seq k69_1 k69_9
def k69_11 : VC := .seq k69_0 k69_10
def fn69 : VFn := ⟨34, k69_11, [.tmp 8]⟩
/- 25: cloakroom/cloakroomref05.Get -/
def k25_0 : VC := .reg [⟨(some 2), .alloc [(.int .i64 0), (.int .i64 0), (.bool false), (.int .i64 0), (.int .i64 0), (.bool false), (.int .u64 0), (.int .u64 0), (.bool false), (.int .u64 0), (.int .u64 0), (.string ⟨⟨[]⟩⟩)], none⟩,
    ⟨(some 3), .mv (.const (.string ⟨⟨[]⟩⟩)), none⟩,
    ⟨(some 4), .mv (.const (.int .i64 0)), none⟩]
def k25_1 : VC := .reg [⟨(some 11), .mv (.tmp 0), none⟩,
    ⟨(some 12), .lenS (.tmp 11), none⟩,
    ⟨(some 13), .bin .lss (.tmp 12) (.const (.int .i64 20)), none⟩]
def k25_2 : VC := .reg [⟨(some 14), .build [(.int .i64 0), (.int .i64 0), (.bool false), (.int .i64 0), (.int .i64 0), (.bool false), (.int .u64 0), (.int .u64 0), (.bool false), (.int .u64 0), (.int .u64 0), (.string ⟨⟨[]⟩⟩)] [], none⟩,
    ⟨none, .store 12 (.tmp 2) (.tmp 14), none⟩,
    ⟨(some 3), .mv (.const (.string ⟨⟨[]⟩⟩)), none⟩,
    ⟨(some 4), .mv (.const (.int .i64 2)), none⟩]
def k25_3 : VC := .seq k25_2 .ret
def k25_4 : VC := .cond (.tmp 13) k25_3 .skip
def k25_5 : VC := .seq k25_1 k25_4
def k25_6 : VC := .regD [⟨(some 15), .mv (.tmp 0), none⟩,
    ⟨(some 16), .idxS (.tmp 15) (.const (.int .i64 0)), none⟩,
    ⟨(some 17), .bin .rem (.tmp 16) (.const (.int .u8 16)), none⟩,
    ⟨(some 18), .conv .i64 (.tmp 17), none⟩,
    ⟨(some 19), .bin .mul (.const (.int .i64 4)) (.tmp 18), none⟩,
    ⟨(some 20), .mv (.tmp 0), none⟩,
    ⟨(some 21), .callF 74 [(.tmp 20), (.const (.int .i64 2)), (.const (.int .i64 2))], none⟩] [] [⟨(some 5), .mv (.tmp 19), none⟩,
    ⟨(some 6), .mv (.tmp 21), none⟩]
def k25_7 : VC := .reg [⟨(some 22), .mv (.tmp 0), none⟩,
    ⟨(some 23), .idxS (.tmp 22) (.const (.int .i64 0)), none⟩,
    ⟨(some 24), .bin .quo (.tmp 23) (.const (.int .u8 16)), none⟩,
    ⟨(some 25), .bin .neq (.tmp 24) (.const (.int .u8 4)), none⟩,
    ⟨(some 26), .mv (.tmp 25), none⟩,
    ⟨(some 27), .mv (.tmp 5), (some (26, false))⟩,
    ⟨(some 28), .bin .lss (.tmp 27) (.const (.int .i64 20)), (some (26, false))⟩,
    ⟨(some 29), .pick (.tmp 26) (.const (.bool true)) (.tmp 28), none⟩,
    ⟨(some 30), .mv (.tmp 29), none⟩,
    ⟨(some 31), .mv (.tmp 6), (some (30, false))⟩,
    ⟨(some 32), .mv (.tmp 5), (some (30, false))⟩,
    ⟨(some 33), .bin .lss (.tmp 31) (.tmp 32), (some (30, false))⟩,
    ⟨(some 34), .pick (.tmp 30) (.const (.bool true)) (.tmp 33), none⟩]
def k25_8 : VC := .reg [⟨(some 35), .build [(.int .i64 0), (.int .i64 0), (.bool false), (.int .i64 0), (.int .i64 0), (.bool false), (.int .u64 0), (.int .u64 0), (.bool false), (.int .u64 0), (.int .u64 0), (.string ⟨⟨[]⟩⟩)] [], none⟩,
    ⟨none, .store 12 (.tmp 2) (.tmp 35), none⟩,
    ⟨(some 3), .mv (.const (.string ⟨⟨[]⟩⟩)), none⟩,
    ⟨(some 4), .mv (.const (.int .i64 3)), none⟩]
def k25_9 : VC := .seq k25_8 .ret
def k25_10 : VC := .cond (.tmp 34) k25_9 .skip
def k25_11 : VC := .seq k25_7 k25_10
def k25_12 : VC := .reg [⟨(some 36), .mv (.tmp 0), none⟩,
    ⟨(some 37), .lenS (.tmp 36), none⟩,
    ⟨(some 38), .mv (.tmp 6), none⟩,
    ⟨(some 39), .bin .lss (.tmp 37) (.tmp 38), none⟩]
def k25_13 : VC := .reg [⟨(some 40), .build [(.int .i64 0), (.int .i64 0), (.bool false), (.int .i64 0), (.int .i64 0), (.bool false), (.int .u64 0), (.int .u64 0), (.bool false), (.int .u64 0), (.int .u64 0), (.string ⟨⟨[]⟩⟩)] [], none⟩,
    ⟨none, .store 12 (.tmp 2) (.tmp 40), none⟩,
    ⟨(some 3), .mv (.const (.string ⟨⟨[]⟩⟩)), none⟩,
    ⟨(some 4), .mv (.const (.int .i64 2)), none⟩]
def k25_14 : VC := .seq k25_13 .ret
def k25_15 : VC := .cond (.tmp 39) k25_14 .skip
def k25_16 : VC := .seq k25_12 k25_15
def k25_17 : VC := .reg [⟨(some 41), .mv (.tmp 0), none⟩,
    ⟨(some 42), .mv (.tmp 5), none⟩,
    ⟨(some 43), .sliceS (.tmp 41) none (some (.tmp 42)), none⟩,
    ⟨(some 44), .callF 75 [(.tmp 43)], none⟩,
    ⟨(some 45), .bin .neq (.tmp 44) (.const (.int .i64 65535)), none⟩]
def k25_18 : VC := .reg [⟨(some 46), .build [(.int .i64 0), (.int .i64 0), (.bool false), (.int .i64 0), (.int .i64 0), (.bool false), (.int .u64 0), (.int .u64 0), (.bool false), (.int .u64 0), (.int .u64 0), (.string ⟨⟨[]⟩⟩)] [], none⟩,
    ⟨none, .store 12 (.tmp 2) (.tmp 46), none⟩,
    ⟨(some 3), .mv (.const (.string ⟨⟨[]⟩⟩)), none⟩,
    ⟨(some 4), .mv (.const (.int .i64 4)), none⟩]
def k25_19 : VC := .seq k25_18 .ret
def k25_20 : VC := .cond (.tmp 45) k25_19 .skip
def k25_21 : VC := .seq k25_17 k25_20
def k25_22 : VC := .reg [⟨(some 47), .mv (.tmp 0), none⟩,
    ⟨(some 48), .idxS (.tmp 47) (.const (.int .i64 6)), none⟩,
    ⟨(some 49), .bin .neq (.tmp 48) (.const (.int .u8 0)), none⟩,
    ⟨(some 50), .mv (.tmp 49), none⟩,
    ⟨(some 51), .mv (.tmp 0), (some (50, true))⟩,
    ⟨(some 52), .idxS (.tmp 51) (.const (.int .i64 6)), (some (50, true))⟩,
    ⟨(some 53), .bin .neq (.tmp 52) (.const (.int .u8 64)), (some (50, true))⟩,
    ⟨(some 54), .pick (.tmp 50) (.tmp 53) (.const (.bool false)), none⟩,
    ⟨(some 55), .mv (.tmp 54), none⟩,
    ⟨(some 56), .mv (.tmp 0), (some (55, false))⟩,
    ⟨(some 57), .idxS (.tmp 56) (.const (.int .i64 7)), (some (55, false))⟩,
    ⟨(some 58), .bin .neq (.tmp 57) (.const (.int .u8 0)), (some (55, false))⟩,
    ⟨(some 59), .pick (.tmp 55) (.const (.bool true)) (.tmp 58), none⟩]
def k25_23 : VC := .reg [⟨(some 60), .build [(.int .i64 0), (.int .i64 0), (.bool false), (.int .i64 0), (.int .i64 0), (.bool false), (.int .u64 0), (.int .u64 0), (.bool false), (.int .u64 0), (.int .u64 0), (.string ⟨⟨[]⟩⟩)] [], none⟩,
    ⟨none, .store 12 (.tmp 2) (.tmp 60), none⟩,
    ⟨(some 3), .mv (.const (.string ⟨⟨[]⟩⟩)), none⟩,
    ⟨(some 4), .mv (.const (.int .i64 7)), none⟩]
def k25_24 : VC := .seq k25_23 .ret
def k25_25 : VC := .cond (.tmp 59) k25_24 .skip
def k25_26 : VC := .seq k25_22 k25_25
def k25_27 : VC := .reg [⟨(some 62), .mv (.tmp 0), none⟩,
    ⟨(some 63), .sliceS (.tmp 62) (some (.const (.int .i64 12))) (some (.const (.int .i64 16))), none⟩,
    ⟨(some 64), .callF 84 [(.tmp 63)], none⟩,
    ⟨(some 61), .mv (.tmp 64), none⟩,
    ⟨(some 65), .extract 0 (.tmp 61), none⟩,
    ⟨(some 66), .extract 1 (.tmp 61), none⟩,
    ⟨(some 7), .alloc [(.bool false), (.int .u64 0), (.int .u64 0)], none⟩,
    ⟨none, .store 3 (.tmp 7) (.tmp 65), none⟩,
    ⟨(some 8), .mv (.tmp 66), none⟩]
def k25_28 : VC := .reg [⟨(some 68), .mv (.tmp 0), none⟩,
    ⟨(some 69), .sliceS (.tmp 68) (some (.const (.int .i64 16))) (some (.const (.int .i64 20))), none⟩,
    ⟨(some 70), .callF 84 [(.tmp 69)], none⟩,
    ⟨(some 67), .mv (.tmp 70), none⟩,
    ⟨(some 71), .extract 0 (.tmp 67), none⟩,
    ⟨(some 72), .extract 1 (.tmp 67), none⟩,
    ⟨(some 9), .alloc [(.bool false), (.int .u64 0), (.int .u64 0)], none⟩,
    ⟨none, .store 3 (.tmp 9) (.tmp 71), none⟩,
    ⟨(some 10), .mv (.tmp 72), none⟩]
def k25_29 : VC := .regD [⟨(some 73), .mv (.tmp 0), none⟩,
    ⟨(some 74), .idxS (.tmp 73) (.const (.int .i64 1)), none⟩,
    ⟨(some 75), .conv .i64 (.tmp 74), none⟩,
    ⟨(some 76), .mv (.tmp 0), none⟩,
    ⟨(some 77), .callF 74 [(.tmp 76), (.const (.int .i64 4)), (.const (.int .i64 2))], none⟩,
    ⟨(some 78), .mv (.tmp 0), none⟩,
    ⟨(some 79), .idxS (.tmp 78) (.const (.int .i64 6)), none⟩,
    ⟨(some 80), .bin .eql (.tmp 79) (.const (.int .u8 64)), none⟩,
    ⟨(some 81), .mv (.tmp 0), none⟩,
    ⟨(some 82), .idxS (.tmp 81) (.const (.int .i64 8)), none⟩,
    ⟨(some 83), .conv .i64 (.tmp 82), none⟩,
    ⟨(some 84), .mv (.tmp 0), none⟩,
    ⟨(some 85), .idxS (.tmp 84) (.const (.int .i64 9)), none⟩,
    ⟨(some 86), .conv .i64 (.tmp 85), none⟩,
    ⟨(some 87), .loadN [.bool, (.int .u64), (.int .u64)] (.tmp 7), none⟩,
    ⟨(some 88), .loadN [.bool, (.int .u64), (.int .u64)] (.tmp 9), none⟩,
    ⟨(some 89), .mv (.tmp 0), none⟩,
    ⟨(some 90), .mv (.tmp 5), none⟩,
    ⟨(some 91), .sliceS (.tmp 89) (some (.const (.int .i64 20))) (some (.tmp 90)), none⟩,
    ⟨(some 92), .build [(.int .i64 0), (.int .i64 0), (.bool false), (.int .i64 0), (.int .i64 0), (.bool false), (.int .u64 0), (.int .u64 0), (.bool false), (.int .u64 0), (.int .u64 0), (.string ⟨⟨[]⟩⟩)] [(0, 1, (.tmp 75)), (1, 1, (.tmp 77)), (2, 1, (.tmp 80)), (3, 1, (.tmp 83)), (4, 1, (.tmp 86)), (5, 3, (.tmp 87)), (8, 3, (.tmp 88)), (11, 1, (.tmp 91))], none⟩,
    ⟨(some 93), .mv (.tmp 0), none⟩,
    ⟨(some 94), .mv (.tmp 5), none⟩,
    ⟨(some 95), .mv (.tmp 6), none⟩,
    ⟨(some 96), .sliceS (.tmp 93) (some (.tmp 94)) (some (.tmp 95)), none⟩,
    ⟨none, .store 12 (.tmp 2) (.tmp 92), none⟩] [(4, 14), (4, 15)] [⟨(some 3), .mv (.tmp 96), none⟩,
    ⟨(some 4), .mv (.const (.int .i64 0)), none⟩]
def k25_30 : VC := .seq k25_29 .ret
def k25_31 : VC := .seq k25_28 k25_30
def k25_32 : VC := .seq k25_27 k25_31
def k25_33 : VC := .seq k25_26 k25_32
def k25_34 : VC := .seq k25_21 k25_33
def k25_35 : VC := .seq k25_16 k25_34
def k25_36 : VC := .seq k25_11 k25_35
def k25_37 : VC := .seq k25_6 k25_36
def k25_38 : VC := .seq k25_5 k25_37
def k25_39 : VC := .seq k25_0 k25_38
def fn25 : VFn := ⟨97, k25_39, [.cell 2 [(.int .i64), (.int .i64), .bool, (.int .i64), (.int .i64), .bool, (.int .u64), (.int .u64), .bool, (.int .u64), (.int .u64), .str] true, .tmp 3, .tmp 4]⟩
/- 84: cloakroom/cloakroomref04.Get -/
def k84_0 : VC := .reg [⟨(some 2), .alloc [(.bool false), (.int .u64 0), (.int .u64 0)], none⟩,
    ⟨(some 3), .mv (.const (.bool false)), none⟩]
def k84_1 : VC := .reg [⟨(some 10), .mv (.tmp 0), none⟩,
    ⟨(some 11), .lenS (.tmp 10), none⟩,
    ⟨(some 12), .bin .eql (.tmp 11) (.const (.int .i64 4)), none⟩]
def k84_2 : VC := .reg [⟨(some 14), .mv (.tmp 0), none⟩,
    ⟨(some 15), .callF 114 [(.tmp 14), (.const (.int .i64 0)), (.const (.int .i64 4))], none⟩,
    ⟨(some 13), .mv (.tmp 15), none⟩,
    ⟨(some 16), .extract 0 (.tmp 13), none⟩,
    ⟨(some 17), .extract 1 (.tmp 13), none⟩,
    ⟨(some 4), .mv (.tmp 16), none⟩,
    ⟨(some 5), .mv (.tmp 17), none⟩]
def k84_3 : VC := .reg [⟨(some 18), .mv (.tmp 4), none⟩,
    ⟨(some 19), .build [(.bool false), (.int .u64 0), (.int .u64 0)] [(2, 1, (.tmp 18))], none⟩,
    ⟨none, .store 3 (.tmp 2) (.tmp 19), none⟩,
    ⟨(some 3), .mv (.const (.bool true)), none⟩]
def k84_4 : VC := .seq k84_3 .ret
def k84_5 : VC := .seq k84_2 k84_4
def k84_6 : VC := .cond (.tmp 12) k84_5 .skip
def k84_7 : VC := .seq k84_1 k84_6
def k84_8 : VC := .reg [⟨(some 20), .mv (.tmp 0), none⟩,
    ⟨(some 21), .lenS (.tmp 20), none⟩,
    ⟨(some 22), .bin .eql (.tmp 21) (.const (.int .i64 16)), none⟩]
def k84_9 : VC := .reg [⟨(some 24), .mv (.tmp 0), none⟩,
    ⟨(some 25), .callF 114 [(.tmp 24), (.const (.int .i64 0)), (.const (.int .i64 8))], none⟩,
    ⟨(some 23), .mv (.tmp 25), none⟩,
    ⟨(some 26), .extract 0 (.tmp 23), none⟩,
    ⟨(some 27), .extract 1 (.tmp 23), none⟩,
    ⟨(some 6), .mv (.tmp 26), none⟩,
    ⟨(some 7), .mv (.tmp 27), none⟩]
def k84_10 : VC := .reg [⟨(some 29), .mv (.tmp 0), none⟩,
    ⟨(some 30), .callF 114 [(.tmp 29), (.const (.int .i64 8)), (.const (.int .i64 8))], none⟩,
    ⟨(some 28), .mv (.tmp 30), none⟩,
    ⟨(some 31), .extract 0 (.tmp 28), none⟩,
    ⟨(some 32), .extract 1 (.tmp 28), none⟩,
    ⟨(some 8), .mv (.tmp 31), none⟩,
    ⟨(some 9), .mv (.tmp 32), none⟩]
def k84_11 : VC := .reg [⟨(some 33), .mv (.tmp 6), none⟩,
    ⟨(some 34), .mv (.tmp 8), none⟩,
    ⟨(some 35), .build [(.bool false), (.int .u64 0), (.int .u64 0)] [(0, 1, (.const (.bool true))), (1, 1, (.tmp 33)), (2, 1, (.tmp 34))], none⟩,
    ⟨none, .store 3 (.tmp 2) (.tmp 35), none⟩,
    ⟨(some 3), .mv (.const (.bool true)), none⟩]
def k84_12 : VC := .seq k84_11 .ret
def k84_13 : VC := .seq k84_10 k84_12
def k84_14 : VC := .seq k84_9 k84_13
def k84_15 : VC := .cond (.tmp 22) k84_14 .skip
def k84_16 : VC := .seq k84_8 k84_15
def k84_17 : VC := .reg [⟨(some 36), .build [(.bool false), (.int .u64 0), (.int .u64 0)] [], none⟩,
    ⟨none, .store 3 (.tmp 2) (.tmp 36), none⟩,
    ⟨(some 3), .mv (.const (.bool false)), none⟩]
def k84_18 : VC := .seq k84_17 .ret
def k84_19 : VC := .seq k84_16 k84_18
def k84_20 : VC := .seq k84_7 k84_19
def k84_21 : VC := .seq k84_0 k84_20
def fn84 : VFn := ⟨37, k84_21, [.cell 2 [.bool, (.int .u64), (.int .u64)] true, .tmp 3]⟩
/- 26: cloakroom/cloakroomlaw05.back -/
def k26_0 : VC := .reg [⟨(some 1), .box (.tmp 0), none⟩,
    ⟨(some 2), .alloc [(.int .i64 0), (.int .i64 0), (.bool false), (.int .i64 0), (.int .i64 0), (.bool false), (.int .u64 0), (.int .u64 0), (.bool false), (.int .u64 0), (.int .u64 0), (.string ⟨⟨[]⟩⟩)], none⟩]
def k26_1 : VC := .reg [⟨(some 3), .fieldA 0 (.tmp 1), none⟩,
    ⟨(some 4), .load1 (.int .i64) (.tmp 3), none⟩,
    ⟨(some 5), .fieldA 1 (.tmp 1), none⟩,
    ⟨(some 6), .load1 (.int .i64) (.tmp 5), none⟩,
    ⟨(some 7), .fieldA 2 (.tmp 1), none⟩,
    ⟨(some 8), .load1 .bool (.tmp 7), none⟩,
    ⟨(some 9), .fieldA 3 (.tmp 1), none⟩,
    ⟨(some 10), .load1 (.int .i64) (.tmp 9), none⟩,
    ⟨(some 11), .fieldA 4 (.tmp 1), none⟩,
    ⟨(some 12), .load1 (.int .i64) (.tmp 11), none⟩,
    ⟨(some 13), .fieldA 5 (.tmp 1), none⟩,
    ⟨(some 14), .loadN [.bool, (.int .u64), (.int .u64)] (.tmp 13), none⟩,
    ⟨(some 15), .fieldA 8 (.tmp 1), none⟩,
    ⟨(some 16), .loadN [.bool, (.int .u64), (.int .u64)] (.tmp 15), none⟩,
    ⟨(some 17), .fieldA 11 (.tmp 1), none⟩,
    ⟨(some 18), .load1 .str (.tmp 17), none⟩,
    ⟨(some 19), .build [(.int .i64 0), (.int .i64 0), (.bool false), (.int .i64 0), (.int .i64 0), (.bool false), (.int .u64 0), (.int .u64 0), (.bool false), (.int .u64 0), (.int .u64 0), (.string ⟨⟨[]⟩⟩)] [(0, 1, (.tmp 4)), (1, 1, (.tmp 6)), (2, 1, (.tmp 8)), (3, 1, (.tmp 10)), (4, 1, (.tmp 12)), (5, 3, (.tmp 14)), (8, 3, (.tmp 16)), (11, 1, (.tmp 18))], none⟩,
    ⟨none, .store 12 (.tmp 2) (.tmp 19), none⟩]
def k26_2 : VC := .seq k26_1 .ret
def k26_3 : VC := .seq k26_0 k26_2
def fn26 : VFn := ⟨20, k26_3, [.cell 2 [(.int .i64), (.int .i64), .bool, (.int .i64), (.int .i64), .bool, (.int .u64), (.int .u64), .bool, (.int .u64), (.int .u64), .str] true]⟩
/- 27: cloakroom/ipfour.Pseudo -/
def k27_0 : VC := .reg [⟨(some 4), .box (.tmp 0), none⟩,
    ⟨(some 5), .box (.tmp 1), none⟩,
    ⟨(some 8), .mv (.const (.string ⟨⟨[]⟩⟩)), none⟩]
def k27_1 : VC := .reg [⟨(some 10), .loadN [.bool, (.int .u64), (.int .u64)] (.tmp 4), none⟩,
    ⟨(some 11), .callF 85 [(.tmp 10)], none⟩,
    ⟨(some 12), .not (.tmp 11), none⟩,
    ⟨(some 13), .mv (.tmp 12), none⟩,
    ⟨(some 14), .loadN [.bool, (.int .u64), (.int .u64)] (.tmp 5), (some (13, false))⟩,
    ⟨(some 15), .callF 85 [(.tmp 14)], (some (13, false))⟩,
    ⟨(some 16), .not (.tmp 15), (some (13, false))⟩,
    ⟨(some 17), .pick (.tmp 13) (.const (.bool true)) (.tmp 16), none⟩,
    ⟨(some 18), .mv (.tmp 17), none⟩,
    ⟨(some 19), .fieldA 0 (.tmp 4), (some (18, false))⟩,
    ⟨(some 20), .load1 .bool (.tmp 19), (some (18, false))⟩,
    ⟨(some 21), .fieldA 0 (.tmp 5), (some (18, false))⟩,
    ⟨(some 22), .load1 .bool (.tmp 21), (some (18, false))⟩,
    ⟨(some 23), .eqB true (.tmp 20) (.tmp 22), (some (18, false))⟩,
    ⟨(some 24), .pick (.tmp 18) (.const (.bool true)) (.tmp 23), none⟩]
def k27_2 : VC := .reg [⟨(some 8), .mv (.const (.string ⟨⟨[]⟩⟩)), none⟩]
def k27_3 : VC := .seq k27_2 .ret
def k27_4 : VC := .cond (.tmp 24) k27_3 .skip
def k27_5 : VC := .seq k27_1 k27_4
def k27_6 : VC := .regD [⟨(some 25), .loadN [.bool, (.int .u64), (.int .u64)] (.tmp 4), none⟩,
    ⟨(some 26), .callF 78 [(.tmp 25)], none⟩,
    ⟨(some 27), .loadN [.bool, (.int .u64), (.int .u64)] (.tmp 5), none⟩] [(1, 2)] [⟨(some 28), .callF 78 [(.tmp 27)], none⟩,
    ⟨(some 29), .bin .add (.tmp 26) (.tmp 28), none⟩,
    ⟨(some 9), .mv (.tmp 29), none⟩]
def k27_7 : VC := .reg [⟨(some 30), .fieldA 0 (.tmp 4), none⟩,
    ⟨(some 31), .load1 .bool (.tmp 30), none⟩]
def k27_8 : VC := .reg [⟨(some 32), .mv (.tmp 9), none⟩,
    ⟨(some 33), .mv (.tmp 3), none⟩,
    ⟨(some 34), .mv (.tmp 2), none⟩,
    ⟨(some 35), .buildSl 6 1 [(.int .i64 0), (.int .i64 0), (.int .i64 0), (.int .i64 0), (.int .i64 0), (.int .i64 0)] [(0, 1, (.tmp 33)), (1, 1, (.const (.int .i64 4))), (2, 1, (.const (.int .i64 0))), (3, 1, (.const (.int .i64 3))), (4, 1, (.tmp 34)), (5, 1, (.const (.int .i64 1)))], none⟩,
    ⟨(some 36), .callF 77 [(.tmp 35)], none⟩,
    ⟨(some 37), .bin .add (.tmp 32) (.tmp 36), none⟩,
    ⟨(some 8), .mv (.tmp 37), none⟩]
def k27_9 : VC := .seq k27_8 .ret
def k27_10 : VC := .cond (.tmp 31) k27_9 .skip
def k27_11 : VC := .seq k27_7 k27_10
def k27_12 : VC := .reg [⟨(some 38), .mv (.tmp 9), none⟩,
    ⟨(some 39), .mv (.tmp 2), none⟩,
    ⟨(some 40), .mv (.tmp 3), none⟩,
    ⟨(some 41), .buildSl 6 1 [(.int .i64 0), (.int .i64 0), (.int .i64 0), (.int .i64 0), (.int .i64 0), (.int .i64 0)] [(0, 1, (.const (.int .i64 0))), (1, 1, (.const (.int .i64 1))), (2, 1, (.tmp 39)), (3, 1, (.const (.int .i64 1))), (4, 1, (.tmp 40)), (5, 1, (.const (.int .i64 2)))], none⟩,
    ⟨(some 42), .callF 77 [(.tmp 41)], none⟩,
    ⟨(some 43), .bin .add (.tmp 38) (.tmp 42), none⟩,
    ⟨(some 8), .mv (.tmp 43), none⟩]
def k27_13 : VC := .seq k27_12 .ret
def k27_14 : VC := .seq k27_11 k27_13
def k27_15 : VC := .seq k27_6 k27_14
def k27_16 : VC := .seq k27_5 k27_15
def k27_17 : VC := .seq k27_0 k27_16
def fn27 : VFn := ⟨44, k27_17, [.tmp 8]⟩
/- 28: cloakroom/cloakroomref05.Pseudo -/
def k28_0 : VC := .reg [⟨(some 4), .box (.tmp 0), none⟩,
    ⟨(some 5), .box (.tmp 1), none⟩,
    ⟨(some 8), .mv (.const (.string ⟨⟨[]⟩⟩)), none⟩]
def k28_1 : VC := .reg [⟨(some 9), .loadN [.bool, (.int .u64), (.int .u64)] (.tmp 4), none⟩,
    ⟨(some 10), .callF 86 [(.tmp 9)], none⟩,
    ⟨(some 11), .not (.tmp 10), none⟩,
    ⟨(some 12), .mv (.tmp 11), none⟩,
    ⟨(some 13), .loadN [.bool, (.int .u64), (.int .u64)] (.tmp 5), (some (12, false))⟩,
    ⟨(some 14), .callF 86 [(.tmp 13)], (some (12, false))⟩,
    ⟨(some 15), .not (.tmp 14), (some (12, false))⟩,
    ⟨(some 16), .pick (.tmp 12) (.const (.bool true)) (.tmp 15), none⟩,
    ⟨(some 17), .mv (.tmp 16), none⟩,
    ⟨(some 18), .fieldA 0 (.tmp 4), (some (17, false))⟩,
    ⟨(some 19), .load1 .bool (.tmp 18), (some (17, false))⟩,
    ⟨(some 20), .fieldA 0 (.tmp 5), (some (17, false))⟩,
    ⟨(some 21), .load1 .bool (.tmp 20), (some (17, false))⟩,
    ⟨(some 22), .eqB true (.tmp 19) (.tmp 21), (some (17, false))⟩,
    ⟨(some 23), .pick (.tmp 17) (.const (.bool true)) (.tmp 22), none⟩]
def k28_2 : VC := .reg [⟨(some 8), .mv (.const (.string ⟨⟨[]⟩⟩)), none⟩]
def k28_3 : VC := .seq k28_2 .ret
def k28_4 : VC := .cond (.tmp 23) k28_3 .skip
def k28_5 : VC := .seq k28_1 k28_4
def k28_6 : VC := .reg [⟨(some 24), .fieldA 0 (.tmp 4), none⟩,
    ⟨(some 25), .load1 .bool (.tmp 24), none⟩]
def k28_7 : VC := .regD [⟨(some 26), .loadN [.bool, (.int .u64), (.int .u64)] (.tmp 4), none⟩,
    ⟨(some 27), .callF 81 [(.tmp 26)], none⟩,
    ⟨(some 28), .loadN [.bool, (.int .u64), (.int .u64)] (.tmp 5), none⟩,
    ⟨(some 29), .callF 81 [(.tmp 28)], none⟩,
    ⟨(some 30), .bin .add (.tmp 27) (.tmp 29), none⟩,
    ⟨(some 31), .mv (.tmp 3), none⟩,
    ⟨(some 32), .callF 80 [(.tmp 31), (.const (.int .i64 4))], none⟩,
    ⟨(some 33), .bin .add (.tmp 30) (.tmp 32), none⟩,
    ⟨(some 34), .callF 80 [(.const (.int .i64 0)), (.const (.int .i64 3))], none⟩,
    ⟨(some 35), .bin .add (.tmp 33) (.tmp 34), none⟩,
    ⟨(some 36), .mv (.tmp 2), none⟩,
    ⟨(some 37), .callF 80 [(.tmp 36), (.const (.int .i64 1))], none⟩] [(1, 2)] [⟨(some 38), .bin .add (.tmp 35) (.tmp 37), none⟩,
    ⟨(some 8), .mv (.tmp 38), none⟩]
def k28_8 : VC := .seq k28_7 .ret
def k28_9 : VC := .cond (.tmp 25) k28_8 .skip
def k28_10 : VC := .seq k28_6 k28_9
def k28_11 : VC := .regD [⟨(some 39), .loadN [.bool, (.int .u64), (.int .u64)] (.tmp 4), none⟩,
    ⟨(some 40), .callF 81 [(.tmp 39)], none⟩,
    ⟨(some 41), .loadN [.bool, (.int .u64), (.int .u64)] (.tmp 5), none⟩,
    ⟨(some 42), .callF 81 [(.tmp 41)], none⟩,
    ⟨(some 43), .bin .add (.tmp 40) (.tmp 42), none⟩,
    ⟨(some 44), .callF 80 [(.const (.int .i64 0)), (.const (.int .i64 1))], none⟩,
    ⟨(some 45), .bin .add (.tmp 43) (.tmp 44), none⟩,
    ⟨(some 46), .mv (.tmp 2), none⟩,
    ⟨(some 47), .callF 80 [(.tmp 46), (.const (.int .i64 1))], none⟩,
    ⟨(some 48), .bin .add (.tmp 45) (.tmp 47), none⟩,
    ⟨(some 49), .mv (.tmp 3), none⟩,
    ⟨(some 50), .callF 80 [(.tmp 49), (.const (.int .i64 2))], none⟩] [(1, 2)] [⟨(some 51), .bin .add (.tmp 48) (.tmp 50), none⟩,
    ⟨(some 8), .mv (.tmp 51), none⟩]
def k28_12 : VC := .seq k28_11 .ret
def k28_13 : VC := .seq k28_10 k28_12
def k28_14 : VC := .seq k28_5 k28_13
def k28_15 : VC := .seq k28_0 k28_14
def fn28 : VFn := ⟨52, k28_15, [.tmp 8]⟩
/- 6: cloakroom/cloakroomlaw05.IpfourBack -/
def k6_0 : VC := .reg [⟨(some 5), .box (.tmp 0), none⟩,
    ⟨(some 10), .mv (.const (.bool false)), none⟩]
def k6_1 : VC := .reg [⟨(some 27), .fieldA 11 (.tmp 5), none⟩,
    ⟨(some 28), .load1 .str (.tmp 27), none⟩,
    ⟨(some 29), .lenS (.tmp 28), none⟩,
    ⟨(some 30), .bin .gtr (.tmp 29) (.const (.int .i64 60)), none⟩,
    ⟨(some 31), .mv (.tmp 30), none⟩,
    ⟨(some 32), .mv (.tmp 1), (some (31, false))⟩,
    ⟨(some 33), .lenS (.tmp 32), (some (31, false))⟩,
    ⟨(some 34), .bin .gtr (.tmp 33) (.const (.int .i64 200)), (some (31, false))⟩,
    ⟨(some 35), .pick (.tmp 31) (.const (.bool true)) (.tmp 34), none⟩,
    ⟨(some 36), .mv (.tmp 35), none⟩,
    ⟨(some 37), .mv (.tmp 2), (some (36, false))⟩,
    ⟨(some 38), .lenS (.tmp 37), (some (36, false))⟩,
    ⟨(some 39), .bin .gtr (.tmp 38) (.const (.int .i64 200)), (some (36, false))⟩,
    ⟨(some 40), .pick (.tmp 36) (.const (.bool true)) (.tmp 39), none⟩,
    ⟨(some 41), .mv (.tmp 40), none⟩,
    ⟨(some 42), .mv (.tmp 3), (some (41, false))⟩,
    ⟨(some 43), .lenS (.tmp 42), (some (41, false))⟩,
    ⟨(some 44), .bin .gtr (.tmp 43) (.const (.int .i64 200)), (some (41, false))⟩,
    ⟨(some 45), .pick (.tmp 41) (.const (.bool true)) (.tmp 44), none⟩]
def k6_2 : VC := .reg [⟨(some 46), .callF 20 [], none⟩,
    ⟨(some 10), .mv (.tmp 46), none⟩]
def k6_3 : VC := .seq k6_2 .ret
def k6_4 : VC := .cond (.tmp 45) k6_3 .skip
def k6_5 : VC := .seq k6_1 k6_4
def k6_6 : VC := .reg [⟨(some 48), .mv (.tmp 3), none⟩,
    ⟨(some 49), .callF 24 [(.tmp 48)], none⟩,
    ⟨(some 47), .mv (.tmp 49), none⟩,
    ⟨(some 50), .extract 0 (.tmp 47), none⟩,
    ⟨(some 51), .extract 1 (.tmp 47), none⟩,
    ⟨(some 52), .extract 2 (.tmp 47), none⟩,
    ⟨(some 11), .alloc [(.int .i64 0), (.int .i64 0), (.bool false), (.int .i64 0), (.int .i64 0), (.bool false), (.int .u64 0), (.int .u64 0), (.bool false), (.int .u64 0), (.int .u64 0), (.string ⟨⟨[]⟩⟩)], none⟩,
    ⟨none, .store 12 (.tmp 11) (.tmp 50), none⟩,
    ⟨(some 12), .mv (.tmp 51), none⟩,
    ⟨(some 13), .mv (.tmp 52), none⟩]
def k6_7 : VC := .reg [⟨(some 53), .mv (.tmp 13), none⟩,
    ⟨(some 54), .bin .eql (.tmp 53) (.const (.int .i64 0)), none⟩]
def k6_8 : VC := .reg [⟨(some 56), .loadN [(.int .i64), (.int .i64), .bool, (.int .i64), (.int .i64), .bool, (.int .u64), (.int .u64), .bool, (.int .u64), (.int .u64), .str] (.tmp 11), none⟩,
    ⟨(some 57), .mv (.tmp 12), none⟩,
    ⟨(some 58), .callF 21 [(.tmp 56), (.tmp 57)], none⟩,
    ⟨(some 55), .mv (.tmp 58), none⟩,
    ⟨(some 59), .extract 0 (.tmp 55), none⟩,
    ⟨(some 60), .extract 1 (.tmp 55), none⟩,
    ⟨(some 14), .mv (.tmp 59), none⟩,
    ⟨(some 15), .mv (.tmp 60), none⟩]
def k6_9 : VC := .reg [⟨(some 61), .mv (.tmp 15), none⟩,
    ⟨(some 62), .bin .neq (.tmp 61) (.const (.int .i64 0)), none⟩,
    ⟨(some 63), .mv (.tmp 62), none⟩,
    ⟨(some 64), .mv (.tmp 14), (some (63, false))⟩,
    ⟨(some 65), .lenS (.tmp 64), (some (63, false))⟩,
    ⟨(some 66), .mv (.tmp 3), (some (63, false))⟩,
    ⟨(some 67), .lenS (.tmp 66), (some (63, false))⟩,
    ⟨(some 68), .bin .gtr (.tmp 65) (.tmp 67), (some (63, false))⟩,
    ⟨(some 69), .pick (.tmp 63) (.const (.bool true)) (.tmp 68), none⟩,
    ⟨(some 70), .mv (.tmp 69), none⟩,
    ⟨(some 71), .mv (.tmp 14), (some (70, false))⟩,
    ⟨(some 72), .mv (.tmp 3), (some (70, false))⟩,
    ⟨(some 73), .mv (.tmp 14), (some (70, false))⟩,
    ⟨(some 74), .lenS (.tmp 73), (some (70, false))⟩,
    ⟨(some 75), .sliceS (.tmp 72) none (some (.tmp 74)), (some (70, false))⟩,
    ⟨(some 76), .bin .neq (.tmp 71) (.tmp 75), (some (70, false))⟩,
    ⟨(some 77), .mv (.tmp 76), (some (70, false))⟩,
    ⟨(some 78), .mv (.tmp 14), (some (77, true))⟩,
    ⟨(some 79), .mv (.tmp 3), (some (77, true))⟩,
    ⟨(some 80), .callF 29 [(.tmp 78), (.tmp 79)], (some (77, true))⟩,
    ⟨(some 81), .not (.tmp 80), (some (77, true))⟩,
    ⟨(some 82), .pick (.tmp 77) (.tmp 81) (.const (.bool false)), (some (70, false))⟩,
    ⟨(some 83), .pick (.tmp 70) (.const (.bool true)) (.tmp 82), none⟩]
def k6_10 : VC := .reg [⟨(some 10), .mv (.const (.bool false)), none⟩]
def k6_11 : VC := .seq k6_10 .ret
def k6_12 : VC := .cond (.tmp 83) k6_11 .skip
def k6_13 : VC := .seq k6_9 k6_12
def k6_14 : VC := .seq k6_8 k6_13
def k6_15 : VC := .cond (.tmp 54) k6_14 .skip
def k6_16 : VC := .seq k6_7 k6_15
def k6_17 : VC := .seq k6_6 k6_16
def k6_18 : VC := .reg [⟨(some 85), .loadN [(.int .i64), (.int .i64), .bool, (.int .i64), (.int .i64), .bool, (.int .u64), (.int .u64), .bool, (.int .u64), (.int .u64), .str] (.tmp 5), none⟩,
    ⟨(some 86), .callF 22 [(.tmp 85)], none⟩,
    ⟨(some 87), .mv (.tmp 1), none⟩,
    ⟨(some 88), .callF 21 [(.tmp 86), (.tmp 87)], none⟩,
    ⟨(some 84), .mv (.tmp 88), none⟩,
    ⟨(some 89), .extract 0 (.tmp 84), none⟩,
    ⟨(some 90), .extract 1 (.tmp 84), none⟩,
    ⟨(some 16), .mv (.tmp 89), none⟩,
    ⟨(some 17), .mv (.tmp 90), none⟩]
def k6_19 : VC := .reg [⟨(some 91), .mv (.tmp 17), none⟩,
    ⟨(some 92), .bin .neq (.tmp 91) (.const (.int .i64 0)), none⟩]
def k6_20 : VC := .reg [⟨(some 93), .mv (.tmp 16), none⟩,
    ⟨(some 94), .bin .eql (.tmp 93) (.const (.string ⟨⟨[]⟩⟩)), none⟩,
    ⟨(some 95), .mv (.tmp 94), none⟩,
    ⟨(some 96), .callF 20 [], (some (95, true))⟩,
    ⟨(some 97), .pick (.tmp 95) (.tmp 96) (.const (.bool false)), none⟩,
    ⟨(some 10), .mv (.tmp 97), none⟩]
def k6_21 : VC := .seq k6_20 .ret
def k6_22 : VC := .cond (.tmp 92) k6_21 .skip
def k6_23 : VC := .seq k6_19 k6_22
def k6_24 : VC := .reg [⟨(some 99), .mv (.tmp 16), none⟩,
    ⟨(some 100), .mv (.tmp 2), none⟩,
    ⟨(some 101), .bin .add (.tmp 99) (.tmp 100), none⟩,
    ⟨(some 102), .callF 24 [(.tmp 101)], none⟩,
    ⟨(some 98), .mv (.tmp 102), none⟩,
    ⟨(some 103), .extract 0 (.tmp 98), none⟩,
    ⟨(some 104), .extract 1 (.tmp 98), none⟩,
    ⟨(some 105), .extract 2 (.tmp 98), none⟩,
    ⟨(some 18), .alloc [(.int .i64 0), (.int .i64 0), (.bool false), (.int .i64 0), (.int .i64 0), (.bool false), (.int .u64 0), (.int .u64 0), (.bool false), (.int .u64 0), (.int .u64 0), (.string ⟨⟨[]⟩⟩)], none⟩,
    ⟨none, .store 12 (.tmp 18) (.tmp 103), none⟩,
    ⟨(some 19), .mv (.tmp 104), none⟩,
    ⟨(some 20), .mv (.tmp 105), none⟩]
def k6_25 : VC := .regD [⟨(some 106), .mv (.tmp 20), none⟩,
    ⟨(some 107), .bin .neq (.tmp 106) (.const (.int .i64 0)), none⟩,
    ⟨(some 108), .mv (.tmp 107), none⟩,
    ⟨(some 109), .loadN [(.int .i64), (.int .i64), .bool, (.int .i64), (.int .i64), .bool, (.int .u64), (.int .u64), .bool, (.int .u64), (.int .u64), .str] (.tmp 18), (some (108, false))⟩,
    ⟨(some 110), .callF 26 [(.tmp 109)], (some (108, false))⟩,
    ⟨(some 111), .loadN [(.int .i64), (.int .i64), .bool, (.int .i64), (.int .i64), .bool, (.int .u64), (.int .u64), .bool, (.int .u64), (.int .u64), .str] (.tmp 5), (some (108, false))⟩,
    ⟨(some 112), .eqAgg true [(0, (.int .i64)), (1, (.int .i64)), (2, .bool), (3, (.int .i64)), (4, (.int .i64)), (5, .bool), (6, (.int .u64)), (7, (.int .u64)), (8, .bool), (9, (.int .u64)), (10, (.int .u64)), (11, .str)] (.tmp 110) (.tmp 111), (some (108, false))⟩,
    ⟨(some 113), .pick (.tmp 108) (.const (.bool true)) (.tmp 112), none⟩,
    ⟨(some 114), .mv (.tmp 113), none⟩,
    ⟨(some 115), .mv (.tmp 19), (some (114, false))⟩,
    ⟨(some 116), .mv (.tmp 1), (some (114, false))⟩] [(4, 5)] [⟨(some 117), .bin .neq (.tmp 115) (.tmp 116), (some (114, false))⟩,
    ⟨(some 118), .pick (.tmp 114) (.const (.bool true)) (.tmp 117), none⟩,
    ⟨(some 119), .mv (.tmp 118), none⟩,
    ⟨(some 120), .mv (.tmp 16), (some (119, false))⟩,
    ⟨(some 121), .lenS (.tmp 120), (some (119, false))⟩,
    ⟨(some 122), .bin .lss (.tmp 121) (.const (.int .i64 20)), (some (119, false))⟩,
    ⟨(some 123), .pick (.tmp 119) (.const (.bool true)) (.tmp 122), none⟩]
def k6_26 : VC := .reg [⟨(some 10), .mv (.const (.bool false)), none⟩]
def k6_27 : VC := .seq k6_26 .ret
def k6_28 : VC := .cond (.tmp 123) k6_27 .skip
def k6_29 : VC := .seq k6_25 k6_28
def k6_30 : VC := .reg [⟨(some 124), .mv (.tmp 16), none⟩,
    ⟨(some 125), .lenS (.tmp 124), none⟩,
    ⟨(some 126), .mv (.tmp 1), none⟩,
    ⟨(some 127), .lenS (.tmp 126), none⟩,
    ⟨(some 128), .bin .sub (.tmp 125) (.tmp 127), none⟩,
    ⟨(some 21), .mv (.tmp 128), none⟩]
def k6_31 : VC := .reg [⟨(some 129), .mv (.tmp 4), none⟩,
    ⟨(some 130), .conv .i64 (.tmp 129), none⟩,
    ⟨(some 131), .mv (.tmp 21), none⟩,
    ⟨(some 132), .bin .mul (.const (.int .i64 8)) (.tmp 131), none⟩,
    ⟨(some 133), .bin .sub (.tmp 132) (.const (.int .i64 8)), none⟩,
    ⟨(some 134), .bin .rem (.tmp 130) (.tmp 133), none⟩,
    ⟨(some 135), .bin .add (.const (.int .i64 8)) (.tmp 134), none⟩,
    ⟨(some 22), .mv (.tmp 135), none⟩]
def k6_32 : VC := .reg [⟨(some 136), .mv (.tmp 16), none⟩,
    ⟨(some 137), .s2b (.tmp 136), none⟩,
    ⟨(some 23), .mv (.tmp 137), none⟩]
def k6_33 : VC := .regD [⟨(some 138), .mv (.tmp 23), none⟩,
    ⟨(some 139), .mv (.tmp 22), none⟩,
    ⟨(some 140), .bin .quo (.tmp 139) (.const (.int .i64 8)), none⟩,
    ⟨(some 141), .mv (.tmp 23), none⟩,
    ⟨(some 142), .mv (.tmp 22), none⟩,
    ⟨(some 143), .bin .quo (.tmp 142) (.const (.int .i64 8)), none⟩,
    ⟨(some 144), .idxAL 1 (.tmp 141) (.tmp 143), none⟩,
    ⟨(some 145), .load1 (.int .u8) (.tmp 144), none⟩,
    ⟨(some 146), .mv (.tmp 22), none⟩,
    ⟨(some 147), .bin .rem (.tmp 146) (.const (.int .i64 8)), none⟩,
    ⟨(some 148), .bin .shl (.const (.int .u8 1)) (.tmp 147), none⟩,
    ⟨(some 149), .bin .xor (.tmp 145) (.tmp 148), none⟩] [] [⟨(some 150), .idxAL 1 (.tmp 138) (.tmp 140), none⟩,
    ⟨none, .store 1 (.tmp 150) (.tmp 149), none⟩]
def k6_34 : VC := .reg [⟨(some 152), .mv (.tmp 23), none⟩,
    ⟨(some 153), .b2s (.tmp 152), none⟩,
    ⟨(some 154), .callF 24 [(.tmp 153)], none⟩,
    ⟨(some 151), .mv (.tmp 154), none⟩,
    ⟨(some 155), .extract 0 (.tmp 151), none⟩,
    ⟨(some 156), .extract 1 (.tmp 151), none⟩,
    ⟨(some 157), .extract 2 (.tmp 151), none⟩,
    ⟨(some 24), .alloc [(.int .i64 0), (.int .i64 0), (.bool false), (.int .i64 0), (.int .i64 0), (.bool false), (.int .u64 0), (.int .u64 0), (.bool false), (.int .u64 0), (.int .u64 0), (.string ⟨⟨[]⟩⟩)], none⟩,
    ⟨none, .store 12 (.tmp 24) (.tmp 155), none⟩,
    ⟨(some 25), .mv (.tmp 156), none⟩,
    ⟨(some 26), .mv (.tmp 157), none⟩]
def k6_35 : VC := .reg [⟨(some 158), .mv (.tmp 26), none⟩,
    ⟨(some 159), .bin .neq (.tmp 158) (.const (.int .i64 0)), none⟩,
    ⟨(some 160), .mv (.tmp 159), none⟩,
    ⟨(some 161), .callF 20 [], (some (160, true))⟩,
    ⟨(some 162), .pick (.tmp 160) (.tmp 161) (.const (.bool false)), none⟩,
    ⟨(some 10), .mv (.tmp 162), none⟩]
def k6_36 : VC := .seq k6_35 .ret
def k6_37 : VC := .seq k6_34 k6_36
def k6_38 : VC := .seq k6_33 k6_37
def k6_39 : VC := .seq k6_32 k6_38
def k6_40 : VC := .seq k6_31 k6_39
def k6_41 : VC := .seq k6_30 k6_40
def k6_42 : VC := .seq k6_29 k6_41
def k6_43 : VC := .seq k6_24 k6_42
def k6_44 : VC := .seq k6_23 k6_43
def k6_45 : VC := .seq k6_18 k6_44
def k6_46 : VC := .seq k6_17 k6_45
def k6_47 : VC := .seq k6_5 k6_46
def k6_48 : VC := .seq k6_0 k6_47
def fn6 : VFn := ⟨163, k6_48, [.tmp 10]⟩
/- 29: cloakroom/cloakroomlaw05.same -/
def k29_0 : VC := .reg [⟨(some 4), .mv (.const (.bool false)), none⟩]
def k29_1 : VC := .regD [⟨(some 5), .mv (.tmp 1), none⟩,
    ⟨(some 6), .lenS (.tmp 5), none⟩,
    ⟨(some 7), .mv (.tmp 0), none⟩,
    ⟨(some 8), .lenS (.tmp 7), none⟩,
    ⟨(some 9), .bin .geq (.tmp 6) (.tmp 8), none⟩,
    ⟨(some 10), .mv (.tmp 9), none⟩,
    ⟨(some 11), .mv (.tmp 0), (some (10, true))⟩,
    ⟨(some 12), .lenS (.tmp 11), (some (10, true))⟩,
    ⟨(some 13), .bin .geq (.tmp 12) (.const (.int .i64 20)), (some (10, true))⟩,
    ⟨(some 14), .pick (.tmp 10) (.tmp 13) (.const (.bool false)), none⟩,
    ⟨(some 15), .mv (.tmp 14), none⟩,
    ⟨(some 16), .mv (.tmp 0), (some (15, true))⟩,
    ⟨(some 17), .sliceS (.tmp 16) none (some (.const (.int .i64 10))), (some (15, true))⟩,
    ⟨(some 18), .mv (.tmp 1), (some (15, true))⟩,
    ⟨(some 19), .sliceS (.tmp 18) none (some (.const (.int .i64 10))), (some (15, true))⟩,
    ⟨(some 20), .bin .eql (.tmp 17) (.tmp 19), (some (15, true))⟩,
    ⟨(some 21), .pick (.tmp 15) (.tmp 20) (.const (.bool false)), none⟩,
    ⟨(some 22), .mv (.tmp 21), none⟩,
    ⟨(some 23), .mv (.tmp 0), (some (22, true))⟩,
    ⟨(some 24), .sliceS (.tmp 23) (some (.const (.int .i64 12))) none, (some (22, true))⟩,
    ⟨(some 25), .mv (.tmp 1), (some (22, true))⟩,
    ⟨(some 26), .mv (.tmp 0), (some (22, true))⟩,
    ⟨(some 27), .lenS (.tmp 26), (some (22, true))⟩,
    ⟨(some 28), .sliceS (.tmp 25) (some (.const (.int .i64 12))) (some (.tmp 27)), (some (22, true))⟩] [] [⟨(some 29), .bin .eql (.tmp 24) (.tmp 28), (some (22, true))⟩,
    ⟨(some 30), .pick (.tmp 22) (.tmp 29) (.const (.bool false)), none⟩,
    ⟨(some 4), .mv (.tmp 30), none⟩]
def k29_2 : VC := .seq k29_1 .ret
def k29_3 : VC := .seq k29_0 k29_2
def fn29 : VFn := ⟨31, k29_3, [.tmp 4]⟩
theorem fn5_ok : (Try.prog.funcs[5]?).bind (compFn Try.prog) = some fn5 := by kernel_rfl
theorem fn20_ok : (Try.prog.funcs[20]?).bind (compFn Try.prog) = some fn20 := by kernel_rfl
theorem fn21_ok : (Try.prog.funcs[21]?).bind (compFn Try.prog) = some fn21 := by kernel_rfl
theorem fn76_ok : (Try.prog.funcs[76]?).bind (compFn Try.prog) = some fn76 := by kernel_rfl
theorem fn117_ok : (Try.prog.funcs[117]?).bind (compFn Try.prog) = some fn117 := by kernel_rfl
theorem fn118_ok : (Try.prog.funcs[118]?).bind (compFn Try.prog) = some fn118 := by kernel_rfl
theorem fn85_ok : (Try.prog.funcs[85]?).bind (compFn Try.prog) = some fn85 := by kernel_rfl
theorem fn77_ok : (Try.prog.funcs[77]?).bind (compFn Try.prog) = some fn77 := by kernel_rfl
theorem fn62_ok : (Try.prog.funcs[62]?).bind (compFn Try.prog) = some fn62 := by kernel_rfl
theorem fn61_ok : (Try.prog.funcs[61]?).bind (compFn Try.prog) = some fn61 := by kernel_rfl
theorem fn112_ok : (Try.prog.funcs[112]?).bind (compFn Try.prog) = some fn112 := by kernel_rfl
theorem fn63_ok : (Try.prog.funcs[63]?).bind (compFn Try.prog) = some fn63 := by kernel_rfl
theorem fn78_ok : (Try.prog.funcs[78]?).bind (compFn Try.prog) = some fn78 := by kernel_rfl
theorem fn64_ok : (Try.prog.funcs[64]?).bind (compFn Try.prog) = some fn64 := by kernel_rfl
theorem fn113_ok : (Try.prog.funcs[113]?).bind (compFn Try.prog) = some fn113 := by kernel_rfl
theorem fn130_ok : (Try.prog.funcs[130]?).bind (compFn Try.prog) = some fn130 := by kernel_rfl
theorem fn133_ok : (Try.prog.funcs[133]?).bind (compFn Try.prog) = some fn133 := by kernel_rfl
theorem fn131_ok : (Try.prog.funcs[131]?).bind (compFn Try.prog) = some fn131 := by kernel_rfl
theorem fn65_ok : (Try.prog.funcs[65]?).bind (compFn Try.prog) = some fn65 := by kernel_rfl
theorem fn24_ok : (Try.prog.funcs[24]?).bind (compFn Try.prog) = some fn24 := by kernel_rfl
theorem fn70_ok : (Try.prog.funcs[70]?).bind (compFn Try.prog) = some fn70 := by kernel_rfl
theorem fn71_ok : (Try.prog.funcs[71]?).bind (compFn Try.prog) = some fn71 := by kernel_rfl
theorem fn83_ok : (Try.prog.funcs[83]?).bind (compFn Try.prog) = some fn83 := by kernel_rfl
theorem fn72_ok : (Try.prog.funcs[72]?).bind (compFn Try.prog) = some fn72 := by kernel_rfl
theorem fn101_ok : (Try.prog.funcs[101]?).bind (compFn Try.prog) = some fn101 := by kernel_rfl
theorem fn73_ok : (Try.prog.funcs[73]?).bind (compFn Try.prog) = some fn73 := by kernel_rfl
theorem fn82_ok : (Try.prog.funcs[82]?).bind (compFn Try.prog) = some fn82 := by kernel_rfl
theorem fn102_ok : (Try.prog.funcs[102]?).bind (compFn Try.prog) = some fn102 := by kernel_rfl
theorem fn22_ok : (Try.prog.funcs[22]?).bind (compFn Try.prog) = some fn22 := by kernel_rfl
theorem fn23_ok : (Try.prog.funcs[23]?).bind (compFn Try.prog) = some fn23 := by kernel_rfl
theorem fn79_ok : (Try.prog.funcs[79]?).bind (compFn Try.prog) = some fn79 := by kernel_rfl
theorem fn119_ok : (Try.prog.funcs[119]?).bind (compFn Try.prog) = some fn119 := by kernel_rfl
theorem fn120_ok : (Try.prog.funcs[120]?).bind (compFn Try.prog) = some fn120 := by kernel_rfl
theorem fn86_ok : (Try.prog.funcs[86]?).bind (compFn Try.prog) = some fn86 := by kernel_rfl
theorem fn80_ok : (Try.prog.funcs[80]?).bind (compFn Try.prog) = some fn80 := by kernel_rfl
theorem fn67_ok : (Try.prog.funcs[67]?).bind (compFn Try.prog) = some fn67 := by kernel_rfl
theorem fn81_ok : (Try.prog.funcs[81]?).bind (compFn Try.prog) = some fn81 := by kernel_rfl
theorem fn68_ok : (Try.prog.funcs[68]?).bind (compFn Try.prog) = some fn68 := by kernel_rfl
theorem fn75_ok : (Try.prog.funcs[75]?).bind (compFn Try.prog) = some fn75 := by kernel_rfl
theorem fn116_ok : (Try.prog.funcs[116]?).bind (compFn Try.prog) = some fn116 := by kernel_rfl
theorem fn74_ok : (Try.prog.funcs[74]?).bind (compFn Try.prog) = some fn74 := by kernel_rfl
theorem fn114_ok : (Try.prog.funcs[114]?).bind (compFn Try.prog) = some fn114 := by kernel_rfl
theorem fn115_ok : (Try.prog.funcs[115]?).bind (compFn Try.prog) = some fn115 := by kernel_rfl
theorem fn69_ok : (Try.prog.funcs[69]?).bind (compFn Try.prog) = some fn69 := by kernel_rfl
theorem fn25_ok : (Try.prog.funcs[25]?).bind (compFn Try.prog) = some fn25 := by kernel_rfl
theorem fn84_ok : (Try.prog.funcs[84]?).bind (compFn Try.prog) = some fn84 := by kernel_rfl
theorem fn26_ok : (Try.prog.funcs[26]?).bind (compFn Try.prog) = some fn26 := by kernel_rfl
theorem fn27_ok : (Try.prog.funcs[27]?).bind (compFn Try.prog) = some fn27 := by kernel_rfl
theorem fn28_ok : (Try.prog.funcs[28]?).bind (compFn Try.prog) = some fn28 := by kernel_rfl
theorem fn6_ok : (Try.prog.funcs[6]?).bind (compFn Try.prog) = some fn6 := by kernel_rfl
theorem fn29_ok : (Try.prog.funcs[29]?).bind (compFn Try.prog) = some fn29 := by kernel_rfl
def tab : List (Nat × VFn) := [(5, fn5), (20, fn20), (21, fn21), (76, fn76), (117, fn117), (118, fn118), (85, fn85), (77, fn77), (62, fn62), (61, fn61), (112, fn112), (63, fn63), (78, fn78), (64, fn64), (113, fn113), (130, fn130), (133, fn133), (131, fn131), (65, fn65), (24, fn24), (70, fn70), (71, fn71), (83, fn83), (72, fn72), (101, fn101), (73, fn73), (82, fn82), (102, fn102), (22, fn22), (23, fn23), (79, fn79), (119, fn119), (120, fn120), (86, fn86), (80, fn80), (67, fn67), (81, fn81), (68, fn68), (75, fn75), (116, fn116), (74, fn74), (114, fn114), (115, fn115), (69, fn69), (25, fn25), (84, fn84), (26, fn26), (27, fn27), (28, fn28), (6, fn6), (29, fn29)]
theorem tab_ok : FnsOK Try.prog (aget tab) := FnsOK.of_tab ⟨fn5_ok, fn20_ok, fn21_ok, fn76_ok, fn117_ok, fn118_ok, fn85_ok, fn77_ok, fn62_ok, fn61_ok, fn112_ok, fn63_ok, fn78_ok, fn64_ok, fn113_ok, fn130_ok, fn133_ok, fn131_ok, fn65_ok, fn24_ok, fn70_ok, fn71_ok, fn83_ok, fn72_ok, fn101_ok, fn73_ok, fn82_ok, fn102_ok, fn22_ok, fn23_ok, fn79_ok, fn119_ok, fn120_ok, fn86_ok, fn80_ok, fn67_ok, fn81_ok, fn68_ok, fn75_ok, fn116_ok, fn74_ok, fn114_ok, fn115_ok, fn69_ok, fn25_ok, fn84_ok, fn26_ok, fn27_ok, fn28_ok, fn6_ok, fn29_ok, trivial⟩
end Go.Vm.Code
