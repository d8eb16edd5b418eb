import Derived.Test.YtdnhoocoofnibaaNIcmpAboutc
namespace Go.Vm.Code
open Go Go.Vm Go.Proofs
def k7_0 : VC := .reg [⟨(some 4), .box (.tmp 0), none⟩,
    ⟨(some 5), .box (.tmp 1), none⟩,
    ⟨(some 6), .box (.tmp 2), none⟩,
    ⟨(some 8), .mv (.const (.bool false)), none⟩]
def k7_1 : VC := .reg [⟨(some 21), .fieldA 3 (.tmp 4), none⟩,
    ⟨(some 22), .load1 .str (.tmp 21), none⟩,
    ⟨(some 23), .lenS (.tmp 22), none⟩,
    ⟨(some 24), .bin .gtr (.tmp 23) (.const (.int .i64 1300)), none⟩,
    ⟨(some 25), .mv (.tmp 24), none⟩,
    ⟨(some 26), .mv (.tmp 3), (some (25, false))⟩,
    ⟨(some 27), .lenS (.tmp 26), (some (25, false))⟩,
    ⟨(some 28), .bin .gtr (.tmp 27) (.const (.int .i64 300)), (some (25, false))⟩,
    ⟨(some 29), .pick (.tmp 25) (.const (.bool true)) (.tmp 28), none⟩]
def k7_2 : VC := .reg [⟨(some 30), .callF 30 [], none⟩,
    ⟨(some 8), .mv (.tmp 30), none⟩]
def k7_3 : VC := .seq k7_2 .ret
def k7_4 : VC := .cond (.tmp 29) k7_3 .skip
def k7_5 : VC := .seq k7_1 k7_4
def k7_6 : VC := .regD [⟨(some 32), .loadN [(.int .i64), (.int .i64), (.int .i64), .str] (.tmp 4), none⟩,
    ⟨(some 33), .callF 32 [(.tmp 32)], none⟩,
    ⟨(some 34), .loadN [.bool, (.int .u64), (.int .u64)] (.tmp 5), none⟩,
    ⟨(some 35), .loadN [.bool, (.int .u64), (.int .u64)] (.tmp 6), none⟩,
    ⟨(some 36), .callF 31 [(.tmp 33), (.tmp 34), (.tmp 35)], none⟩,
    ⟨(some 31), .mv (.tmp 36), none⟩,
    ⟨(some 37), .extract 0 (.tmp 31), none⟩,
    ⟨(some 38), .extract 1 (.tmp 31), none⟩,
    ⟨(some 9), .mv (.tmp 37), none⟩] [(1, 2), (1, 3)] [⟨(some 10), .mv (.tmp 38), none⟩]
def k7_7 : VC := .reg [⟨(some 40), .loadN [(.int .i64), (.int .i64), (.int .i64), .str] (.tmp 4), none⟩,
    ⟨(some 41), .loadN [.bool, (.int .u64), (.int .u64)] (.tmp 5), none⟩,
    ⟨(some 42), .loadN [.bool, (.int .u64), (.int .u64)] (.tmp 6), none⟩,
    ⟨(some 43), .callF 33 [(.tmp 40), (.tmp 41), (.tmp 42)], none⟩,
    ⟨(some 39), .mv (.tmp 43), none⟩,
    ⟨(some 44), .extract 0 (.tmp 39), none⟩,
    ⟨(some 45), .extract 1 (.tmp 39), none⟩,
    ⟨(some 11), .mv (.tmp 44), none⟩,
    ⟨(some 12), .mv (.tmp 45), none⟩]
def k7_8 : VC := .reg [⟨(some 47), .mv (.tmp 3), none⟩,
    ⟨(some 48), .loadN [.bool, (.int .u64), (.int .u64)] (.tmp 5), none⟩,
    ⟨(some 49), .loadN [.bool, (.int .u64), (.int .u64)] (.tmp 6), none⟩,
    ⟨(some 50), .callF 34 [(.tmp 47), (.tmp 48), (.tmp 49)], none⟩,
    ⟨(some 46), .mv (.tmp 50), none⟩,
    ⟨(some 51), .extract 0 (.tmp 46), none⟩,
    ⟨(some 52), .extract 1 (.tmp 46), none⟩,
    ⟨(some 13), .alloc [(.int .i64 0), (.int .i64 0), (.int .i64 0), (.string ⟨⟨[]⟩⟩)], none⟩,
    ⟨none, .store 4 (.tmp 13) (.tmp 51), none⟩,
    ⟨(some 14), .mv (.tmp 52), none⟩]
def k7_9 : VC := .reg [⟨(some 54), .mv (.tmp 3), none⟩,
    ⟨(some 55), .loadN [.bool, (.int .u64), (.int .u64)] (.tmp 5), none⟩,
    ⟨(some 56), .loadN [.bool, (.int .u64), (.int .u64)] (.tmp 6), none⟩,
    ⟨(some 57), .callF 35 [(.tmp 54), (.tmp 55), (.tmp 56)], none⟩,
    ⟨(some 53), .mv (.tmp 57), none⟩,
    ⟨(some 58), .extract 0 (.tmp 53), none⟩,
    ⟨(some 59), .extract 1 (.tmp 53), none⟩,
    ⟨(some 15), .alloc [(.int .i64 0), (.int .i64 0), (.int .i64 0), (.string ⟨⟨[]⟩⟩)], none⟩,
    ⟨none, .store 4 (.tmp 15) (.tmp 58), none⟩,
    ⟨(some 16), .mv (.tmp 59), none⟩]
def k7_10 : VC := .regD [⟨(some 61), .loadN [(.int .i64), (.int .i64), (.int .i64), .str] (.tmp 4), none⟩,
    ⟨(some 62), .callF 32 [(.tmp 61)], none⟩,
    ⟨(some 63), .loadN [.bool, (.int .u64), (.int .u64)] (.tmp 5), none⟩,
    ⟨(some 64), .loadN [.bool, (.int .u64), (.int .u64)] (.tmp 6), none⟩,
    ⟨(some 65), .callF 36 [(.tmp 62), (.tmp 63), (.tmp 64)], none⟩,
    ⟨(some 60), .mv (.tmp 65), none⟩,
    ⟨(some 66), .extract 0 (.tmp 60), none⟩,
    ⟨(some 67), .extract 1 (.tmp 60), none⟩,
    ⟨(some 17), .mv (.tmp 66), none⟩] [(1, 2), (1, 3)] [⟨(some 18), .mv (.tmp 67), none⟩]
def k7_11 : VC := .reg [⟨(some 69), .loadN [(.int .i64), (.int .i64), (.int .i64), .str] (.tmp 4), none⟩,
    ⟨(some 70), .loadN [.bool, (.int .u64), (.int .u64)] (.tmp 5), none⟩,
    ⟨(some 71), .loadN [.bool, (.int .u64), (.int .u64)] (.tmp 6), none⟩,
    ⟨(some 72), .callF 37 [(.tmp 69), (.tmp 70), (.tmp 71)], none⟩,
    ⟨(some 68), .mv (.tmp 72), none⟩,
    ⟨(some 73), .extract 0 (.tmp 68), none⟩,
    ⟨(some 74), .extract 1 (.tmp 68), none⟩,
    ⟨(some 19), .mv (.tmp 73), none⟩,
    ⟨(some 20), .mv (.tmp 74), none⟩]
def k7_12 : VC := .regD [⟨(some 75), .mv (.tmp 9), none⟩,
    ⟨(some 76), .mv (.tmp 11), none⟩,
    ⟨(some 77), .bin .eql (.tmp 75) (.tmp 76), none⟩,
    ⟨(some 78), .mv (.tmp 77), none⟩,
    ⟨(some 79), .mv (.tmp 10), (some (78, true))⟩,
    ⟨(some 80), .mv (.tmp 12), (some (78, true))⟩,
    ⟨(some 81), .bin .eql (.tmp 79) (.tmp 80), (some (78, true))⟩,
    ⟨(some 82), .pick (.tmp 78) (.tmp 81) (.const (.bool false)), none⟩,
    ⟨(some 83), .mv (.tmp 82), none⟩,
    ⟨(some 84), .loadN [(.int .i64), (.int .i64), (.int .i64), .str] (.tmp 13), (some (83, true))⟩,
    ⟨(some 85), .callF 38 [(.tmp 84)], (some (83, true))⟩,
    ⟨(some 86), .loadN [(.int .i64), (.int .i64), (.int .i64), .str] (.tmp 15), (some (83, true))⟩,
    ⟨(some 87), .eqAgg false [(0, (.int .i64)), (1, (.int .i64)), (2, (.int .i64)), (3, .str)] (.tmp 85) (.tmp 86), (some (83, true))⟩,
    ⟨(some 88), .pick (.tmp 83) (.tmp 87) (.const (.bool false)), none⟩,
    ⟨(some 89), .mv (.tmp 88), none⟩,
    ⟨(some 90), .mv (.tmp 14), (some (89, true))⟩,
    ⟨(some 91), .mv (.tmp 16), (some (89, true))⟩,
    ⟨(some 92), .bin .eql (.tmp 90) (.tmp 91), (some (89, true))⟩,
    ⟨(some 93), .pick (.tmp 89) (.tmp 92) (.const (.bool false)), none⟩,
    ⟨(some 94), .mv (.tmp 93), none⟩,
    ⟨(some 95), .mv (.tmp 17), (some (94, true))⟩,
    ⟨(some 96), .mv (.tmp 19), (some (94, true))⟩,
    ⟨(some 97), .bin .eql (.tmp 95) (.tmp 96), (some (94, true))⟩,
    ⟨(some 98), .pick (.tmp 94) (.tmp 97) (.const (.bool false)), none⟩,
    ⟨(some 99), .mv (.tmp 98), none⟩,
    ⟨(some 100), .mv (.tmp 18), (some (99, true))⟩,
    ⟨(some 101), .mv (.tmp 20), (some (99, true))⟩] [(10, 11)] [⟨(some 102), .bin .eql (.tmp 100) (.tmp 101), (some (99, true))⟩,
    ⟨(some 103), .pick (.tmp 99) (.tmp 102) (.const (.bool false)), none⟩,
    ⟨(some 104), .mv (.tmp 103), none⟩,
    ⟨(some 105), .callF 30 [], (some (104, true))⟩,
    ⟨(some 106), .pick (.tmp 104) (.tmp 105) (.const (.bool false)), none⟩,
    ⟨(some 8), .mv (.tmp 106), none⟩]
def k7_13 : VC := .seq k7_12 .ret
def k7_14 : VC := .seq k7_11 k7_13
def k7_15 : VC := .seq k7_10 k7_14
def k7_16 : VC := .seq k7_9 k7_15
def k7_17 : VC := .seq k7_8 k7_16
def k7_18 : VC := .seq k7_7 k7_17
def k7_19 : VC := .seq k7_6 k7_18
def k7_20 : VC := .seq k7_5 k7_19
def k7_21 : VC := .seq k7_0 k7_20
def fn7 : VFn := ⟨107, k7_21, [.tmp 8]⟩
def k30_0 : VC := .reg [⟨(some 0), .mv (.const (.bool false)), none⟩]
def k30_1 : VC := .reg [⟨(some 8), .build [(.bool false), (.int .u64 0), (.int .u64 0)] [], none⟩,
    ⟨(some 9), .build [(.bool false), (.int .u64 0), (.int .u64 0)] [], none⟩,
    ⟨(some 10), .callF 34 [(.const (.string ⟨⟨[]⟩⟩)), (.tmp 8), (.tmp 9)], none⟩,
    ⟨(some 7), .mv (.tmp 10), none⟩,
    ⟨(some 11), .extract 0 (.tmp 7), none⟩,
    ⟨(some 12), .extract 1 (.tmp 7), none⟩,
    ⟨(some 1), .alloc [(.int .i64 0), (.int .i64 0), (.int .i64 0), (.string ⟨⟨[]⟩⟩)], none⟩,
    ⟨none, .store 4 (.tmp 1) (.tmp 11), none⟩,
    ⟨(some 2), .mv (.tmp 12), none⟩]
def k30_2 : VC := .reg [⟨(some 14), .build [(.int .i64 0), (.int .i64 0), (.int .i64 0), (.string ⟨⟨[]⟩⟩)] [(0, 1, (.const (.int .i64 2))), (1, 1, (.const (.int .i64 4))), (2, 1, (.const (.int .i64 1400)))], none⟩,
    ⟨(some 15), .build [(.bool false), (.int .u64 0), (.int .u64 0)] [(2, 1, (.const (.int .u64 1)))], none⟩,
    ⟨(some 16), .build [(.bool false), (.int .u64 0), (.int .u64 0)] [(2, 1, (.const (.int .u64 2)))], none⟩,
    ⟨(some 17), .callF 31 [(.tmp 14), (.tmp 15), (.tmp 16)], none⟩,
    ⟨(some 13), .mv (.tmp 17), none⟩,
    ⟨(some 18), .extract 0 (.tmp 13), none⟩,
    ⟨(some 19), .extract 1 (.tmp 13), none⟩,
    ⟨(some 3), .mv (.tmp 18), none⟩,
    ⟨(some 4), .mv (.tmp 19), none⟩]
def k30_3 : VC := .reg [⟨(some 21), .mv (.tmp 3), none⟩,
    ⟨(some 22), .build [(.bool false), (.int .u64 0), (.int .u64 0)] [(2, 1, (.const (.int .u64 1)))], none⟩,
    ⟨(some 23), .build [(.bool false), (.int .u64 0), (.int .u64 0)] [(2, 1, (.const (.int .u64 2)))], none⟩,
    ⟨(some 24), .callF 34 [(.tmp 21), (.tmp 22), (.tmp 23)], none⟩,
    ⟨(some 20), .mv (.tmp 24), none⟩,
    ⟨(some 25), .extract 0 (.tmp 20), none⟩,
    ⟨(some 26), .extract 1 (.tmp 20), none⟩,
    ⟨(some 5), .alloc [(.int .i64 0), (.int .i64 0), (.int .i64 0), (.string ⟨⟨[]⟩⟩)], none⟩,
    ⟨none, .store 4 (.tmp 5) (.tmp 25), none⟩,
    ⟨(some 6), .mv (.tmp 26), none⟩]
def k30_4 : VC := .reg [⟨(some 27), .mv (.tmp 2), none⟩,
    ⟨(some 28), .bin .eql (.tmp 27) (.const (.int .i64 2)), none⟩,
    ⟨(some 29), .mv (.tmp 28), none⟩,
    ⟨(some 30), .mv (.tmp 4), (some (29, true))⟩,
    ⟨(some 31), .bin .eql (.tmp 30) (.const (.int .i64 0)), (some (29, true))⟩,
    ⟨(some 32), .pick (.tmp 29) (.tmp 31) (.const (.bool false)), none⟩,
    ⟨(some 33), .mv (.tmp 32), none⟩,
    ⟨(some 34), .mv (.tmp 3), (some (33, true))⟩,
    ⟨(some 35), .lenS (.tmp 34), (some (33, true))⟩,
    ⟨(some 36), .bin .eql (.tmp 35) (.const (.int .i64 8)), (some (33, true))⟩,
    ⟨(some 37), .pick (.tmp 33) (.tmp 36) (.const (.bool false)), none⟩,
    ⟨(some 38), .mv (.tmp 37), none⟩,
    ⟨(some 39), .mv (.tmp 6), (some (38, true))⟩,
    ⟨(some 40), .bin .eql (.tmp 39) (.const (.int .i64 0)), (some (38, true))⟩,
    ⟨(some 41), .pick (.tmp 38) (.tmp 40) (.const (.bool false)), none⟩,
    ⟨(some 42), .mv (.tmp 41), none⟩,
    ⟨(some 43), .fieldA 2 (.tmp 5), (some (42, true))⟩,
    ⟨(some 44), .load1 (.int .i64) (.tmp 43), (some (42, true))⟩,
    ⟨(some 45), .bin .eql (.tmp 44) (.const (.int .i64 1400)), (some (42, true))⟩,
    ⟨(some 46), .pick (.tmp 42) (.tmp 45) (.const (.bool false)), none⟩,
    ⟨(some 47), .mv (.tmp 46), none⟩,
    ⟨(some 48), .fieldA 0 (.tmp 5), (some (47, true))⟩,
    ⟨(some 49), .load1 (.int .i64) (.tmp 48), (some (47, true))⟩,
    ⟨(some 50), .bin .eql (.tmp 49) (.const (.int .i64 2)), (some (47, true))⟩,
    ⟨(some 51), .pick (.tmp 47) (.tmp 50) (.const (.bool false)), none⟩,
    ⟨(some 52), .mv (.tmp 51), none⟩,
    ⟨(some 53), .pick (.tmp 52) (.const (.bool true)) (.const (.bool false)), none⟩,
    ⟨(some 0), .mv (.tmp 53), none⟩]
def k30_5 : VC := .seq k30_4 .ret
def k30_6 : VC := .seq k30_3 k30_5
def k30_7 : VC := .seq k30_2 k30_6
def k30_8 : VC := .seq k30_1 k30_7
def k30_9 : VC := .seq k30_0 k30_8
def fn30 : VFn := ⟨54, k30_9, [.tmp 0]⟩
def k34_0 : VC := .reg [⟨(some 4), .box (.tmp 1), none⟩,
    ⟨(some 5), .box (.tmp 2), none⟩,
    ⟨(some 6), .alloc [(.int .i64 0), (.int .i64 0), (.int .i64 0), (.string ⟨⟨[]⟩⟩)], none⟩,
    ⟨(some 7), .mv (.const (.int .i64 0)), none⟩]
def k34_1 : VC := .reg [⟨(some 15), .mv (.tmp 0), none⟩,
    ⟨(some 16), .lenS (.tmp 15), none⟩,
    ⟨(some 17), .bin .lss (.tmp 16) (.const (.int .i64 8)), none⟩]
def k34_2 : VC := .reg [⟨(some 18), .build [(.int .i64 0), (.int .i64 0), (.int .i64 0), (.string ⟨⟨[]⟩⟩)] [], none⟩,
    ⟨none, .store 4 (.tmp 6) (.tmp 18), none⟩,
    ⟨(some 7), .mv (.const (.int .i64 2)), none⟩]
def k34_3 : VC := .seq k34_2 .ret
def k34_4 : VC := .cond (.tmp 17) k34_3 .skip
def k34_5 : VC := .seq k34_1 k34_4
def k34_6 : VC := .reg [⟨(some 20), .loadN [.bool, (.int .u64), (.int .u64)] (.tmp 4), none⟩,
    ⟨(some 21), .loadN [.bool, (.int .u64), (.int .u64)] (.tmp 5), none⟩,
    ⟨(some 22), .mv (.tmp 0), none⟩,
    ⟨(some 23), .lenS (.tmp 22), none⟩,
    ⟨(some 24), .callF 87 [(.tmp 20), (.tmp 21), (.tmp 23)], none⟩,
    ⟨(some 19), .mv (.tmp 24), none⟩,
    ⟨(some 25), .extract 0 (.tmp 19), none⟩,
    ⟨(some 26), .extract 1 (.tmp 19), none⟩,
    ⟨(some 8), .mv (.tmp 25), none⟩,
    ⟨(some 9), .mv (.tmp 26), none⟩]
def k34_7 : VC := .reg [⟨(some 28), .mv (.tmp 9), none⟩,
    ⟨(some 29), .not (.tmp 28), none⟩,
    ⟨(some 27), .mv (.tmp 29), none⟩]
def k34_8 : VC := .reg [⟨(some 30), .build [(.int .i64 0), (.int .i64 0), (.int .i64 0), (.string ⟨⟨[]⟩⟩)] [], none⟩,
    ⟨none, .store 4 (.tmp 6) (.tmp 30), none⟩,
    ⟨(some 7), .mv (.const (.int .i64 1)), none⟩]
def k34_9 : VC := .seq k34_8 .ret
def k34_10 : VC := .reg [⟨(some 32), .mv (.tmp 8), none⟩,
    ⟨(some 33), .mv (.tmp 0), none⟩,
    ⟨(some 34), .bin .add (.tmp 32) (.tmp 33), none⟩,
    ⟨(some 35), .callF 73 [(.tmp 34)], none⟩,
    ⟨(some 36), .not (.tmp 35), none⟩,
    ⟨(some 31), .mv (.tmp 36), none⟩]
def k34_11 : VC := .reg [⟨(some 37), .build [(.int .i64 0), (.int .i64 0), (.int .i64 0), (.string ⟨⟨[]⟩⟩)] [], none⟩,
    ⟨none, .store 4 (.tmp 6) (.tmp 37), none⟩,
    ⟨(some 7), .mv (.const (.int .i64 4)), none⟩]
def k34_12 : VC := .seq k34_11 .ret
def k34_13 : VC := .reg [⟨(some 39), .mv (.tmp 0), none⟩,
    ⟨(some 40), .lenS (.tmp 39), none⟩,
    ⟨(some 41), .bin .gtr (.tmp 40) (.const (.int .i64 1240)), none⟩,
    ⟨(some 38), .mv (.tmp 41), none⟩]
def k34_14 : VC := .reg [⟨(some 42), .build [(.int .i64 0), (.int .i64 0), (.int .i64 0), (.string ⟨⟨[]⟩⟩)] [], none⟩,
    ⟨none, .store 4 (.tmp 6) (.tmp 42), none⟩,
    ⟨(some 7), .mv (.const (.int .i64 5)), none⟩]
def k34_15 : VC := .seq k34_14 .ret
def k34_16 : VC := .cond (.tmp 38) k34_15 .skip
def k34_17 : VC := .seq k34_13 k34_16
def k34_18 : VC := .cond (.tmp 31) k34_12 k34_17
def k34_19 : VC := .seq k34_10 k34_18
def k34_20 : VC := .cond (.tmp 27) k34_9 k34_19
def k34_21 : VC := .seq k34_7 k34_20
def k34_22 : VC := .block 0 k34_21
def k34_23 : VC := .reg [⟨(some 43), .mv (.tmp 0), none⟩,
    ⟨(some 44), .callF 70 [(.tmp 43)], none⟩,
    ⟨(some 10), .mv (.tmp 44), none⟩]
def k34_24 : VC := .reg [⟨(some 45), .mv (.tmp 10), none⟩,
    ⟨(some 46), .callF 71 [(.tmp 45), (.const (.int .i64 1))], none⟩,
    ⟨(some 47), .mv (.tmp 10), none⟩,
    ⟨(some 48), .callF 71 [(.tmp 47), (.const (.int .i64 1))], none⟩,
    ⟨(some 11), .mv (.tmp 46), none⟩,
    ⟨(some 12), .mv (.tmp 48), none⟩]
def k34_25 : VC := .reg [⟨(some 49), .mv (.tmp 10), none⟩,
    ⟨(some 50), .callF 71 [(.tmp 49), (.const (.int .i64 4))], none⟩]
def k34_26 : VC := .reg [⟨(some 51), .mv (.tmp 11), none⟩,
    ⟨(some 52), .mv (.tmp 12), none⟩,
    ⟨(some 53), .fieldA 0 (.tmp 4), none⟩,
    ⟨(some 54), .load1 .bool (.tmp 53), none⟩,
    ⟨(some 55), .callF 95 [(.tmp 51), (.tmp 52), (.tmp 54)], none⟩,
    ⟨(some 56), .mv (.tmp 12), none⟩,
    ⟨(some 57), .build [(.int .i64 0), (.int .i64 0), (.int .i64 0), (.string ⟨⟨[]⟩⟩)] [(0, 1, (.tmp 55)), (1, 1, (.tmp 56))], none⟩,
    ⟨(some 13), .alloc [(.int .i64 0), (.int .i64 0), (.int .i64 0), (.string ⟨⟨[]⟩⟩)], none⟩,
    ⟨none, .store 4 (.tmp 13) (.tmp 57), none⟩]
def k34_27 : VC := .reg [⟨(some 58), .mv (.tmp 10), none⟩,
    ⟨(some 59), .callF 71 [(.tmp 58), (.const (.int .i64 2))], none⟩,
    ⟨(some 14), .mv (.tmp 59), none⟩]
def k34_28 : VC := .reg [⟨(some 60), .fieldA 0 (.tmp 13), none⟩,
    ⟨(some 61), .load1 (.int .i64) (.tmp 60), none⟩,
    ⟨(some 62), .bin .eql (.tmp 61) (.const (.int .i64 2)), none⟩]
def k34_29 : VC := .reg [⟨(some 63), .mv (.tmp 14), none⟩,
    ⟨(some 64), .fieldA 2 (.tmp 13), none⟩,
    ⟨none, .store 1 (.tmp 64) (.tmp 63), none⟩]
def k34_30 : VC := .cond (.tmp 62) k34_29 .skip
def k34_31 : VC := .seq k34_28 k34_30
def k34_32 : VC := .seq k34_27 k34_31
def k34_33 : VC := .reg [⟨(some 65), .mv (.tmp 10), none⟩,
    ⟨(some 66), .callF 96 [(.tmp 65)], none⟩,
    ⟨(some 67), .fieldA 3 (.tmp 13), none⟩,
    ⟨none, .store 1 (.tmp 67) (.tmp 66), none⟩]
def k34_34 : VC := .reg [⟨(some 68), .loadN [(.int .i64), (.int .i64), (.int .i64), .str] (.tmp 13), none⟩,
    ⟨none, .store 4 (.tmp 6) (.tmp 68), none⟩,
    ⟨(some 7), .mv (.const (.int .i64 0)), none⟩]
def k34_35 : VC := .seq k34_34 .ret
def k34_36 : VC := .seq k34_33 k34_35
def k34_37 : VC := .seq k34_32 k34_36
def k34_38 : VC := .seq k34_26 k34_37
def k34_39 : VC := .seq k34_25 k34_38
def k34_40 : VC := .seq k34_24 k34_39
def k34_41 : VC := .seq k34_23 k34_40
def k34_42 : VC := .seq k34_22 k34_41
def k34_43 : VC := .seq k34_6 k34_42
def k34_44 : VC := .seq k34_5 k34_43
def k34_45 : VC := .seq k34_0 k34_44
def fn34 : VFn := ⟨69, k34_45, [.cell 6 [(.int .i64), (.int .i64), (.int .i64), .str] true, .tmp 7]⟩
def k87_0 : VC := .reg [⟨(some 3), .box (.tmp 0), none⟩,
    ⟨(some 4), .box (.tmp 1), none⟩,
    ⟨(some 6), .mv (.const (.string ⟨⟨[]⟩⟩)), none⟩,
    ⟨(some 7), .mv (.const (.bool false)), none⟩]
def k87_1 : VC := .reg [⟨(some 9), .loadN [.bool, (.int .u64), (.int .u64)] (.tmp 3), none⟩,
    ⟨(some 10), .loadN [.bool, (.int .u64), (.int .u64)] (.tmp 4), none⟩,
    ⟨(some 11), .mv (.tmp 2), none⟩,
    ⟨(some 12), .callF 27 [(.tmp 9), (.tmp 10), (.const (.int .i64 58)), (.tmp 11)], none⟩,
    ⟨(some 8), .mv (.tmp 12), none⟩]
def k87_2 : VC := .reg [⟨(some 13), .mv (.tmp 8), none⟩,
    ⟨(some 14), .bin .eql (.tmp 13) (.const (.string ⟨⟨[]⟩⟩)), none⟩,
    ⟨(some 15), .mv (.tmp 14), none⟩,
    ⟨(some 16), .fieldA 0 (.tmp 3), (some (15, false))⟩,
    ⟨(some 17), .load1 .bool (.tmp 16), (some (15, false))⟩,
    ⟨(some 18), .pick (.tmp 15) (.const (.bool true)) (.tmp 17), none⟩]
def k87_3 : VC := .reg [⟨(some 19), .mv (.tmp 8), none⟩,
    ⟨(some 20), .mv (.tmp 8), none⟩,
    ⟨(some 21), .bin .neq (.tmp 20) (.const (.string ⟨⟨[]⟩⟩)), none⟩,
    ⟨(some 6), .mv (.tmp 19), none⟩,
    ⟨(some 7), .mv (.tmp 21), none⟩]
def k87_4 : VC := .seq k87_3 .ret
def k87_5 : VC := .cond (.tmp 18) k87_4 .skip
def k87_6 : VC := .seq k87_2 k87_5
def k87_7 : VC := .reg [⟨(some 6), .mv (.const (.string ⟨⟨[]⟩⟩)), none⟩,
    ⟨(some 7), .mv (.const (.bool true)), none⟩]
def k87_8 : VC := .seq k87_7 .ret
def k87_9 : VC := .seq k87_6 k87_8
def k87_10 : VC := .seq k87_1 k87_9
def k87_11 : VC := .seq k87_0 k87_10
def fn87 : VFn := ⟨22, k87_11, [.tmp 6, .tmp 7]⟩
def k27_0 : VC := .reg [⟨(some 4), .box (.tmp 0), none⟩,
    ⟨(some 5), .box (.tmp 1), none⟩,
    ⟨(some 8), .mv (.const (.string ⟨⟨[]⟩⟩)), none⟩]
def k27_1 : VC := .reg [⟨(some 10), .loadN [.bool, (.int .u64), (.int .u64)] (.tmp 4), none⟩,
    ⟨(some 11), .callF 85 [(.tmp 10)], none⟩,
    ⟨(some 12), .not (.tmp 11), none⟩,
    ⟨(some 13), .mv (.tmp 12), none⟩,
    ⟨(some 14), .loadN [.bool, (.int .u64), (.int .u64)] (.tmp 5), (some (13, false))⟩,
    ⟨(some 15), .callF 85 [(.tmp 14)], (some (13, false))⟩,
    ⟨(some 16), .not (.tmp 15), (some (13, false))⟩,
    ⟨(some 17), .pick (.tmp 13) (.const (.bool true)) (.tmp 16), none⟩,
    ⟨(some 18), .mv (.tmp 17), none⟩,
    ⟨(some 19), .fieldA 0 (.tmp 4), (some (18, false))⟩,
    ⟨(some 20), .load1 .bool (.tmp 19), (some (18, false))⟩,
    ⟨(some 21), .fieldA 0 (.tmp 5), (some (18, false))⟩,
    ⟨(some 22), .load1 .bool (.tmp 21), (some (18, false))⟩,
    ⟨(some 23), .eqB true (.tmp 20) (.tmp 22), (some (18, false))⟩,
    ⟨(some 24), .pick (.tmp 18) (.const (.bool true)) (.tmp 23), none⟩]
def k27_2 : VC := .reg [⟨(some 8), .mv (.const (.string ⟨⟨[]⟩⟩)), none⟩]
def k27_3 : VC := .seq k27_2 .ret
def k27_4 : VC := .cond (.tmp 24) k27_3 .skip
def k27_5 : VC := .seq k27_1 k27_4
def k27_6 : VC := .regD [⟨(some 25), .loadN [.bool, (.int .u64), (.int .u64)] (.tmp 4), none⟩,
    ⟨(some 26), .callF 78 [(.tmp 25)], none⟩,
    ⟨(some 27), .loadN [.bool, (.int .u64), (.int .u64)] (.tmp 5), none⟩] [(1, 2)] [⟨(some 28), .callF 78 [(.tmp 27)], none⟩,
    ⟨(some 29), .bin .add (.tmp 26) (.tmp 28), none⟩,
    ⟨(some 9), .mv (.tmp 29), none⟩]
def k27_7 : VC := .reg [⟨(some 30), .fieldA 0 (.tmp 4), none⟩,
    ⟨(some 31), .load1 .bool (.tmp 30), none⟩]
def k27_8 : VC := .reg [⟨(some 32), .mv (.tmp 9), none⟩,
    ⟨(some 33), .mv (.tmp 3), none⟩,
    ⟨(some 34), .mv (.tmp 2), none⟩,
    ⟨(some 35), .buildSl 6 1 [(.int .i64 0), (.int .i64 0), (.int .i64 0), (.int .i64 0), (.int .i64 0), (.int .i64 0)] [(0, 1, (.tmp 33)), (1, 1, (.const (.int .i64 4))), (2, 1, (.const (.int .i64 0))), (3, 1, (.const (.int .i64 3))), (4, 1, (.tmp 34)), (5, 1, (.const (.int .i64 1)))], none⟩,
    ⟨(some 36), .callF 77 [(.tmp 35)], none⟩,
    ⟨(some 37), .bin .add (.tmp 32) (.tmp 36), none⟩,
    ⟨(some 8), .mv (.tmp 37), none⟩]
def k27_9 : VC := .seq k27_8 .ret
def k27_10 : VC := .cond (.tmp 31) k27_9 .skip
def k27_11 : VC := .seq k27_7 k27_10
def k27_12 : VC := .reg [⟨(some 38), .mv (.tmp 9), none⟩,
    ⟨(some 39), .mv (.tmp 2), none⟩,
    ⟨(some 40), .mv (.tmp 3), none⟩,
    ⟨(some 41), .buildSl 6 1 [(.int .i64 0), (.int .i64 0), (.int .i64 0), (.int .i64 0), (.int .i64 0), (.int .i64 0)] [(0, 1, (.const (.int .i64 0))), (1, 1, (.const (.int .i64 1))), (2, 1, (.tmp 39)), (3, 1, (.const (.int .i64 1))), (4, 1, (.tmp 40)), (5, 1, (.const (.int .i64 2)))], none⟩,
    ⟨(some 42), .callF 77 [(.tmp 41)], none⟩,
    ⟨(some 43), .bin .add (.tmp 38) (.tmp 42), none⟩,
    ⟨(some 8), .mv (.tmp 43), none⟩]
def k27_13 : VC := .seq k27_12 .ret
def k27_14 : VC := .seq k27_11 k27_13
def k27_15 : VC := .seq k27_6 k27_14
def k27_16 : VC := .seq k27_5 k27_15
def k27_17 : VC := .seq k27_0 k27_16
def fn27 : VFn := ⟨44, k27_17, [.tmp 8]⟩
def k85_0 : VC := .reg [⟨(some 1), .box (.tmp 0), none⟩,
    ⟨(some 2), .mv (.const (.bool false)), none⟩]
def k85_1 : VC := .reg [⟨(some 3), .fieldA 0 (.tmp 1), none⟩,
    ⟨(some 4), .load1 .bool (.tmp 3), none⟩,
    ⟨(some 5), .mv (.tmp 4), none⟩,
    ⟨(some 6), .fieldA 1 (.tmp 1), (some (5, false))⟩,
    ⟨(some 7), .load1 (.int .u64) (.tmp 6), (some (5, false))⟩,
    ⟨(some 8), .bin .eql (.tmp 7) (.const (.int .u64 0)), (some (5, false))⟩,
    ⟨(some 9), .mv (.tmp 8), (some (5, false))⟩,
    ⟨(some 10), .fieldA 2 (.tmp 1), (some (9, true))⟩,
    ⟨(some 11), .load1 (.int .u64) (.tmp 10), (some (9, true))⟩,
    ⟨(some 12), .bin .lss (.tmp 11) (.const (.int .u64 4294967296)), (some (9, true))⟩,
    ⟨(some 13), .pick (.tmp 9) (.tmp 12) (.const (.bool false)), (some (5, false))⟩,
    ⟨(some 14), .pick (.tmp 5) (.const (.bool true)) (.tmp 13), none⟩,
    ⟨(some 2), .mv (.tmp 14), none⟩]
def k85_2 : VC := .seq k85_1 .ret
def k85_3 : VC := .seq k85_0 k85_2
def fn85 : VFn := ⟨15, k85_3, [.tmp 2]⟩
def k78_0 : VC := .reg [⟨(some 1), .box (.tmp 0), none⟩,
    ⟨(some 2), .mv (.const (.string ⟨⟨[]⟩⟩)), none⟩]
def k78_1 : VC := .reg [⟨(some 4), .loadN [.bool, (.int .u64), (.int .u64)] (.tmp 1), none⟩,
    ⟨(some 5), .callF 85 [(.tmp 4)], none⟩,
    ⟨(some 6), .not (.tmp 5), none⟩,
    ⟨(some 3), .mv (.tmp 6), none⟩]
def k78_2 : VC := .reg [⟨(some 2), .mv (.const (.string ⟨⟨[]⟩⟩)), none⟩]
def k78_3 : VC := .seq k78_2 .ret
def k78_4 : VC := .reg [⟨(some 8), .fieldA 0 (.tmp 1), none⟩,
    ⟨(some 9), .load1 .bool (.tmp 8), none⟩,
    ⟨(some 7), .mv (.tmp 9), none⟩]
def k78_5 : VC := .regD [⟨(some 10), .fieldA 1 (.tmp 1), none⟩,
    ⟨(some 11), .load1 (.int .u64) (.tmp 10), none⟩,
    ⟨(some 12), .callF 62 [(.tmp 11), (.const (.int .i64 8))], none⟩,
    ⟨(some 13), .fieldA 2 (.tmp 1), none⟩,
    ⟨(some 14), .load1 (.int .u64) (.tmp 13), none⟩] [(2, 4)] [⟨(some 15), .callF 62 [(.tmp 14), (.const (.int .i64 8))], none⟩,
    ⟨(some 16), .bin .add (.tmp 12) (.tmp 15), none⟩,
    ⟨(some 2), .mv (.tmp 16), none⟩]
def k78_6 : VC := .seq k78_5 .ret
def k78_7 : VC := .cond (.tmp 7) k78_6 .skip
def k78_8 : VC := .seq k78_4 k78_7
def k78_9 : VC := .cond (.tmp 3) k78_3 k78_8
def k78_10 : VC := .seq k78_1 k78_9
def k78_11 : VC := .block 0 k78_10
def k78_12 : VC := .reg [⟨(some 17), .fieldA 2 (.tmp 1), none⟩,
    ⟨(some 18), .load1 (.int .u64) (.tmp 17), none⟩,
    ⟨(some 19), .callF 62 [(.tmp 18), (.const (.int .i64 4))], none⟩,
    ⟨(some 2), .mv (.tmp 19), none⟩]
def k78_13 : VC := .seq k78_12 .ret
def k78_14 : VC := .seq k78_11 k78_13
def k78_15 : VC := .seq k78_0 k78_14
def fn78 : VFn := ⟨20, k78_15, [.tmp 2]⟩
def k62_0 : VC := .reg [⟨(some 4), .mv (.const (.string ⟨⟨[]⟩⟩)), none⟩]
def k62_1 : VC := .reg [⟨(some 7), .mv (.tmp 1), none⟩,
    ⟨(some 8), .bin .lss (.tmp 7) (.const (.int .i64 1)), none⟩,
    ⟨(some 9), .mv (.tmp 8), none⟩,
    ⟨(some 10), .mv (.tmp 1), (some (9, false))⟩,
    ⟨(some 11), .bin .gtr (.tmp 10) (.const (.int .i64 8)), (some (9, false))⟩,
    ⟨(some 12), .pick (.tmp 9) (.const (.bool true)) (.tmp 11), none⟩]
def k62_2 : VC := .reg [⟨(some 4), .mv (.const (.string ⟨⟨[]⟩⟩)), none⟩]
def k62_3 : VC := .seq k62_2 .ret
def k62_4 : VC := .cond (.tmp 12) k62_3 .skip
def k62_5 : VC := .seq k62_1 k62_4
def k62_6 : VC := .reg [⟨(some 13), .mv (.tmp 1), none⟩,
    ⟨(some 14), .mkSl 1 1 [(.int .u8 0)] (.tmp 13) (.tmp 13), none⟩,
    ⟨(some 5), .mv (.tmp 14), none⟩]
def k62_7 : VC := .reg [⟨(some 15), .mv (.tmp 5), none⟩,
    ⟨(some 16), .lenL (.tmp 15), none⟩,
    ⟨(some 17), .mv (.const (.int .i64 0)), none⟩]
def k62_8 : VC := .reg [⟨(some 18), .bin .lss (.tmp 17) (.tmp 16), none⟩]
def k62_9 : VC := .cond (.tmp 18) .skip (.exit 0)
def k62_10 : VC := .reg [⟨(some 19), .mv (.tmp 17), none⟩,
    ⟨(some 6), .mv (.tmp 19), none⟩]
def k62_11 : VC := .reg [⟨(some 20), .mv (.tmp 5), none⟩,
    ⟨(some 21), .mv (.tmp 6), none⟩,
    ⟨(some 22), .mv (.tmp 0), none⟩,
    ⟨(some 23), .mv (.tmp 1), none⟩,
    ⟨(some 24), .bin .sub (.tmp 23) (.const (.int .i64 1)), none⟩,
    ⟨(some 25), .mv (.tmp 6), none⟩,
    ⟨(some 26), .bin .sub (.tmp 24) (.tmp 25), none⟩,
    ⟨(some 27), .bin .mul (.const (.int .i64 8)) (.tmp 26), none⟩,
    ⟨(some 28), .bin .shr (.tmp 22) (.tmp 27), none⟩,
    ⟨(some 29), .conv .u8 (.tmp 28), none⟩,
    ⟨(some 30), .idxAL 1 (.tmp 20) (.tmp 21), none⟩,
    ⟨none, .store 1 (.tmp 30) (.tmp 29), none⟩]
def k62_12 : VC := .seq k62_10 k62_11
def k62_13 : VC := .block 1 k62_12
def k62_14 : VC := .reg [⟨(some 31), .bin .add (.tmp 17) (.const (.int .i64 1)), none⟩,
    ⟨(some 17), .mv (.tmp 31), none⟩]
def k62_15 : VC := .seq k62_13 k62_14
def k62_16 : VC := .seq k62_9 k62_15
def k62_17 : VC := .seq k62_8 k62_16
def k62_18 : VC := .loop k62_17
def k62_19 : VC := .block 0 k62_18
def k62_20 : VC := .seq k62_7 k62_19
def k62_21 : VC := .reg [⟨(some 32), .mv (.tmp 5), none⟩,
    ⟨(some 33), .b2s (.tmp 32), none⟩,
    ⟨(some 4), .mv (.tmp 33), none⟩]
def k62_22 : VC := .seq k62_21 .ret
def k62_23 : VC := .seq k62_20 k62_22
def k62_24 : VC := .seq k62_6 k62_23
def k62_25 : VC := .seq k62_5 k62_24
def k62_26 : VC := .seq k62_0 k62_25
def fn62 : VFn := ⟨34, k62_26, [.tmp 4]⟩
def k77_0 : VC := .reg [⟨(some 2), .mv (.const (.string ⟨⟨[]⟩⟩)), none⟩]
def k77_1 : VC := .reg [⟨(some 3), .allocB 114 5, none⟩]
def k77_2 : VC := .reg [⟨(some 4), .mv (.const (.int .i64 0)), none⟩]
def k77_3 : VC := .reg [⟨(some 5), .mv (.tmp 4), none⟩,
    ⟨(some 6), .bin .add (.tmp 5) (.const (.int .i64 1)), none⟩,
    ⟨(some 7), .mv (.tmp 0), none⟩,
    ⟨(some 8), .lenL (.tmp 7), none⟩,
    ⟨(some 9), .bin .lss (.tmp 6) (.tmp 8), none⟩]
def k77_4 : VC := .cond (.tmp 9) .skip (.exit 0)
def k77_5 : VC := .seq k77_3 k77_4
def k77_6 : VC := .regD [⟨(some 12), .mv (.tmp 0), none⟩,
    ⟨(some 13), .mv (.tmp 4), none⟩,
    ⟨(some 14), .idxAL 1 (.tmp 12) (.tmp 13), none⟩,
    ⟨(some 15), .load1 (.int .i64) (.tmp 14), none⟩,
    ⟨(some 16), .conv .u64 (.tmp 15), none⟩,
    ⟨(some 17), .mv (.tmp 0), none⟩,
    ⟨(some 18), .mv (.tmp 4), none⟩,
    ⟨(some 19), .bin .add (.tmp 18) (.const (.int .i64 1)), none⟩,
    ⟨(some 20), .idxAL 1 (.tmp 17) (.tmp 19), none⟩,
    ⟨(some 21), .load1 (.int .i64) (.tmp 20), none⟩] [] [⟨(some 22), .callF 62 [(.tmp 16), (.tmp 21)], none⟩,
    ⟨(some 23), .callF 61 [(.tmp 3), (.tmp 22)], none⟩]
def k77_7 : VC := .block 1 k77_6
def k77_8 : VC := .reg [⟨(some 10), .mv (.tmp 4), none⟩,
    ⟨(some 11), .bin .add (.tmp 10) (.const (.int .i64 2)), none⟩,
    ⟨(some 4), .mv (.tmp 11), none⟩]
def k77_9 : VC := .seq k77_7 k77_8
def k77_10 : VC := .seq k77_5 k77_9
def k77_11 : VC := .loop k77_10
def k77_12 : VC := .block 0 k77_11
def k77_13 : VC := .seq k77_2 k77_12
def k77_14 : VC := .reg [⟨(some 24), .callF 63 [(.tmp 3)], none⟩,
    ⟨(some 2), .mv (.tmp 24), none⟩]
def k77_15 : VC := .seq k77_14 .ret
def k77_16 : VC := .seq k77_13 k77_15
def k77_17 : VC := .seq k77_1 k77_16
def k77_18 : VC := .seq k77_0 k77_17
def fn77 : VFn := ⟨25, k77_18, [.tmp 2]⟩
def k61_0 : VC := .reg [⟨(some 4), .mv (.const (.int .i64 0)), none⟩,
    ⟨(some 5), .mv (.const .nilIface), none⟩]
def k61_1 : VC := .reg [⟨(some 6), .mv (.tmp 0), none⟩,
    ⟨(some 7), .callF 112 [(.tmp 6)], none⟩]
def k61_2 : VC := .reg [⟨(some 8), .mv (.tmp 0), none⟩,
    ⟨(some 9), .mv (.tmp 0), none⟩,
    ⟨(some 10), .nilCheck (.tmp 9), none⟩,
    ⟨(some 11), .fieldA 1 (.tmp 10), none⟩,
    ⟨(some 12), .load1 .oth (.tmp 11), none⟩,
    ⟨(some 13), .mv (.tmp 1), none⟩,
    ⟨(some 14), .app 5 1 1 (.tmp 12) (.tmp 13), none⟩,
    ⟨(some 15), .nilCheck (.tmp 8), none⟩,
    ⟨(some 16), .fieldA 1 (.tmp 15), none⟩,
    ⟨none, .store 1 (.tmp 16) (.tmp 14), none⟩]
def k61_3 : VC := .reg [⟨(some 17), .mv (.tmp 1), none⟩,
    ⟨(some 18), .lenS (.tmp 17), none⟩,
    ⟨(some 4), .mv (.tmp 18), none⟩,
    ⟨(some 5), .mv (.const .nilIface), none⟩]
def k61_4 : VC := .seq k61_3 .ret
def k61_5 : VC := .seq k61_2 k61_4
def k61_6 : VC := .seq k61_1 k61_5
def k61_7 : VC := .seq k61_0 k61_6
def fn61 : VFn := ⟨19, k61_7, [.tmp 4, .tmp 5]⟩
def k112_0 : VC := .reg [⟨(some 2), .mv (.tmp 0), none⟩,
    ⟨(some 3), .nilCheck (.tmp 2), none⟩,
    ⟨(some 4), .fieldA 0 (.tmp 3), none⟩,
    ⟨(some 5), .load1 .oth (.tmp 4), none⟩,
    ⟨(some 6), .isNil 0 false (.tmp 5), none⟩]
def k112_1 : VC := .reg [⟨(some 7), .mv (.tmp 0), none⟩,
    ⟨(some 8), .mv (.tmp 0), none⟩,
    ⟨(some 9), .toU (.tmp 8), none⟩,
    ⟨(some 10), .mv (.tmp 9), none⟩,
    ⟨(some 11), .ofU 114 2 (.tmp 10), none⟩,
    ⟨(some 12), .nilCheck (.tmp 7), none⟩,
    ⟨(some 13), .fieldA 0 (.tmp 12), none⟩,
    ⟨none, .store 1 (.tmp 13) (.tmp 11), none⟩]
def k112_2 : VC := .reg [⟨(some 14), .mv (.tmp 0), none⟩,
    ⟨(some 15), .nilCheck (.tmp 14), none⟩,
    ⟨(some 16), .fieldA 0 (.tmp 15), none⟩,
    ⟨(some 17), .load1 .oth (.tmp 16), none⟩,
    ⟨(some 18), .mv (.tmp 0), none⟩,
    ⟨(some 19), .eqP true (.tmp 17) (.tmp 18), none⟩]
def k112_3 : VC := .cond (.tmp 19) .stuck .skip
def k112_4 : VC := .seq k112_2 k112_3
def k112_5 : VC := .cond (.tmp 6) k112_1 k112_4
def k112_6 : VC := .seq k112_0 k112_5
def fn112 : VFn := ⟨20, k112_6, []⟩
def k63_0 : VC := .reg [⟨(some 2), .mv (.const (.string ⟨⟨[]⟩⟩)), none⟩]
def k63_1 : VC := .regD [⟨(some 3), .mv (.tmp 0), none⟩,
    ⟨(some 4), .nilCheck (.tmp 3), none⟩,
    ⟨(some 5), .fieldA 1 (.tmp 4), none⟩,
    ⟨(some 6), .load1 .oth (.tmp 5), none⟩,
    ⟨(some 7), .sdata (.tmp 6), none⟩,
    ⟨(some 8), .mv (.tmp 0), none⟩,
    ⟨(some 9), .nilCheck (.tmp 8), none⟩,
    ⟨(some 10), .fieldA 1 (.tmp 9), none⟩,
    ⟨(some 11), .load1 .oth (.tmp 10), none⟩,
    ⟨(some 12), .lenL (.tmp 11), none⟩] [] [⟨(some 13), .ustr 5 (.tmp 7) (.tmp 12), none⟩,
    ⟨(some 2), .mv (.tmp 13), none⟩]
def k63_2 : VC := .seq k63_1 .ret
def k63_3 : VC := .seq k63_0 k63_2
def fn63 : VFn := ⟨14, k63_3, [.tmp 2]⟩
def k73_0 : VC := .reg [⟨(some 2), .mv (.const (.bool false)), none⟩]
def k73_1 : VC := .reg [⟨(some 3), .mv (.tmp 0), none⟩,
    ⟨(some 4), .callF 113 [(.tmp 3)], none⟩,
    ⟨(some 5), .bin .eql (.tmp 4) (.const (.int .i64 65535)), none⟩,
    ⟨(some 2), .mv (.tmp 5), none⟩]
def k73_2 : VC := .seq k73_1 .ret
def k73_3 : VC := .seq k73_0 k73_2
def fn73 : VFn := ⟨6, k73_3, [.tmp 2]⟩
def k113_0 : VC := .reg [⟨(some 2), .mv (.const (.int .i64 0)), none⟩]
def k113_1 : VC := .reg [⟨(some 3), .alloc [(.int .i64 0)], none⟩,
    ⟨none, .store 1 (.tmp 3) (.const (.int .i64 0)), none⟩]
def k113_2 : VC := .reg [⟨(some 5), .mv (.tmp 0), none⟩,
    ⟨(some 6), .callF 130 [(.tmp 5)], none⟩]
def k113_3 : VC := .reg [⟨(some 4), .mv (.tmp 7), none⟩]
def k113_4 : VC := .reg [⟨(some 8), .load1 (.int .i64) (.tmp 3), none⟩,
    ⟨(some 9), .mv (.tmp 4), none⟩,
    ⟨(some 10), .bin .add (.tmp 8) (.tmp 9), none⟩,
    ⟨(some 11), .callF 131 [(.tmp 10)], none⟩,
    ⟨none, .store 1 (.tmp 3) (.tmp 11), none⟩]
def k113_5 : VC := .block 1 k113_4
def k113_6 : VC := .rangeF (.tmp 6) [7] k113_3 k113_5
def k113_7 : VC := .block 0 k113_6
def k113_8 : VC := .seq k113_2 k113_7
def k113_9 : VC := .reg [⟨(some 12), .load1 (.int .i64) (.tmp 3), none⟩,
    ⟨(some 2), .mv (.tmp 12), none⟩]
def k113_10 : VC := .seq k113_9 .ret
def k113_11 : VC := .seq k113_8 k113_10
def k113_12 : VC := .seq k113_1 k113_11
def k113_13 : VC := .seq k113_0 k113_12
def fn113 : VFn := ⟨13, k113_13, [.tmp 2]⟩
def k130_0 : VC := .reg [⟨(some 1), .box (.tmp 0), none⟩,
    ⟨(some 2), .mv (.const .nilFunc), none⟩]
def k130_1 : VC := .reg [⟨(some 3), .mkFunc 133 [] [(.tmp 1)], none⟩,
    ⟨(some 2), .mv (.tmp 3), none⟩]
def k130_2 : VC := .seq k130_1 .ret
def k130_3 : VC := .seq k130_0 k130_2
def fn130 : VFn := ⟨4, k130_3, [.tmp 2]⟩
def k133_0 : VC := .reg [⟨(some 3), .mv (.const (.int .i64 0)), none⟩]
def k133_1 : VC := .reg [⟨(some 5), .mv (.tmp 3), none⟩,
    ⟨(some 6), .load1 .str (.tmp 1), none⟩,
    ⟨(some 7), .lenS (.tmp 6), none⟩,
    ⟨(some 8), .bin .lss (.tmp 5) (.tmp 7), none⟩]
def k133_2 : VC := .cond (.tmp 8) .skip (.exit 0)
def k133_3 : VC := .seq k133_1 k133_2
def k133_4 : VC := .reg [⟨(some 11), .load1 .str (.tmp 1), none⟩,
    ⟨(some 12), .mv (.tmp 3), none⟩,
    ⟨(some 13), .idxS (.tmp 11) (.tmp 12), none⟩,
    ⟨(some 14), .conv .i64 (.tmp 13), none⟩,
    ⟨(some 15), .bin .shl (.tmp 14) (.const (.int .u64 8)), none⟩,
    ⟨(some 4), .mv (.tmp 15), none⟩]
def k133_5 : VC := .reg [⟨(some 16), .mv (.tmp 3), none⟩,
    ⟨(some 17), .bin .add (.tmp 16) (.const (.int .i64 1)), none⟩,
    ⟨(some 18), .load1 .str (.tmp 1), none⟩,
    ⟨(some 19), .lenS (.tmp 18), none⟩,
    ⟨(some 20), .bin .lss (.tmp 17) (.tmp 19), none⟩]
def k133_6 : VC := .reg [⟨(some 21), .mv (.tmp 4), none⟩,
    ⟨(some 22), .load1 .str (.tmp 1), none⟩,
    ⟨(some 23), .mv (.tmp 3), none⟩,
    ⟨(some 24), .bin .add (.tmp 23) (.const (.int .i64 1)), none⟩,
    ⟨(some 25), .idxS (.tmp 22) (.tmp 24), none⟩,
    ⟨(some 26), .conv .i64 (.tmp 25), none⟩,
    ⟨(some 27), .bin .or (.tmp 21) (.tmp 26), none⟩,
    ⟨(some 4), .mv (.tmp 27), none⟩]
def k133_7 : VC := .cond (.tmp 20) k133_6 .skip
def k133_8 : VC := .seq k133_5 k133_7
def k133_9 : VC := .reg [⟨(some 28), .mv (.tmp 0), none⟩,
    ⟨(some 29), .mv (.tmp 4), none⟩,
    ⟨(some 30), .callV (.tmp 28) [(.tmp 29)], none⟩,
    ⟨(some 31), .not (.tmp 30), none⟩]
def k133_10 : VC := .cond (.tmp 31) .ret .skip
def k133_11 : VC := .seq k133_9 k133_10
def k133_12 : VC := .seq k133_8 k133_11
def k133_13 : VC := .seq k133_4 k133_12
def k133_14 : VC := .block 1 k133_13
def k133_15 : VC := .reg [⟨(some 9), .mv (.tmp 3), none⟩,
    ⟨(some 10), .bin .add (.tmp 9) (.const (.int .i64 2)), none⟩,
    ⟨(some 3), .mv (.tmp 10), none⟩]
def k133_16 : VC := .seq k133_14 k133_15
def k133_17 : VC := .seq k133_3 k133_16
def k133_18 : VC := .loop k133_17
def k133_19 : VC := .block 0 k133_18
def k133_20 : VC := .seq k133_0 k133_19
def fn133 : VFn := ⟨32, k133_20, []⟩
def k131_0 : VC := .reg [⟨(some 2), .mv (.const (.int .i64 0)), none⟩]
def k131_1 : VC := .reg [⟨(some 3), .mv (.tmp 0), none⟩,
    ⟨(some 4), .bin .gtr (.tmp 3) (.const (.int .i64 65535)), none⟩]
def k131_2 : VC := .cond (.tmp 4) .skip (.exit 0)
def k131_3 : VC := .seq k131_1 k131_2
def k131_4 : VC := .reg [⟨(some 5), .mv (.tmp 0), none⟩,
    ⟨(some 6), .bin .and (.tmp 5) (.const (.int .i64 65535)), none⟩,
    ⟨(some 7), .mv (.tmp 0), none⟩,
    ⟨(some 8), .bin .shr (.tmp 7) (.const (.int .u64 16)), none⟩,
    ⟨(some 9), .bin .add (.tmp 6) (.tmp 8), none⟩,
    ⟨(some 0), .mv (.tmp 9), none⟩]
def k131_5 : VC := .block 1 k131_4
def k131_6 : VC := .seq k131_3 k131_5
def k131_7 : VC := .loop k131_6
def k131_8 : VC := .block 0 k131_7
def k131_9 : VC := .reg [⟨(some 10), .mv (.tmp 0), none⟩,
    ⟨(some 2), .mv (.tmp 10), none⟩]
def k131_10 : VC := .seq k131_9 .ret
def k131_11 : VC := .seq k131_8 k131_10
def k131_12 : VC := .seq k131_0 k131_11
def fn131 : VFn := ⟨11, k131_12, [.tmp 2]⟩
def k70_0 : VC := .reg [⟨(some 2), .mv (.const (.pointer none)), none⟩]
def k70_1 : VC := .reg [⟨(some 3), .mv (.tmp 0), none⟩,
    ⟨(some 4), .build [(.string ⟨⟨[]⟩⟩), (.bool false), (.bool false)] [(0, 1, (.tmp 3)), (1, 1, (.const (.bool true)))], none⟩,
    ⟨(some 5), .box (.tmp 4), none⟩,
    ⟨(some 2), .mv (.tmp 5), none⟩]
def k70_2 : VC := .seq k70_1 .ret
def k70_3 : VC := .seq k70_0 k70_2
def fn70 : VFn := ⟨6, k70_3, [.tmp 2]⟩
def k71_0 : VC := .reg [⟨(some 4), .mv (.const (.int .i64 0)), none⟩]
def k71_1 : VC := .reg [⟨(some 7), .mv (.tmp 1), none⟩,
    ⟨(some 8), .bin .lss (.tmp 7) (.const (.int .i64 1)), none⟩,
    ⟨(some 9), .mv (.tmp 8), none⟩,
    ⟨(some 10), .mv (.tmp 1), (some (9, false))⟩,
    ⟨(some 11), .bin .gtr (.tmp 10) (.const (.int .i64 7)), (some (9, false))⟩,
    ⟨(some 12), .pick (.tmp 9) (.const (.bool true)) (.tmp 11), none⟩]
def k71_2 : VC := .reg [⟨(some 1), .mv (.const (.int .i64 (-1))), none⟩]
def k71_3 : VC := .cond (.tmp 12) k71_2 .skip
def k71_4 : VC := .seq k71_1 k71_3
def k71_5 : VC := .reg [⟨(some 14), .mv (.tmp 0), none⟩,
    ⟨(some 15), .mv (.tmp 1), none⟩,
    ⟨(some 16), .callF 83 [(.tmp 14), (.tmp 15)], none⟩,
    ⟨(some 17), .mv (.tmp 1), none⟩,
    ⟨(some 18), .callF 101 [(.tmp 16), (.const (.int .i64 0)), (.tmp 17)], none⟩,
    ⟨(some 13), .mv (.tmp 18), none⟩,
    ⟨(some 19), .extract 0 (.tmp 13), none⟩,
    ⟨(some 20), .extract 1 (.tmp 13), none⟩,
    ⟨(some 5), .mv (.tmp 19), none⟩,
    ⟨(some 6), .mv (.tmp 20), none⟩]
def k71_6 : VC := .reg [⟨(some 21), .mv (.tmp 5), none⟩,
    ⟨(some 22), .conv .i64 (.tmp 21), none⟩,
    ⟨(some 4), .mv (.tmp 22), none⟩]
def k71_7 : VC := .seq k71_6 .ret
def k71_8 : VC := .seq k71_5 k71_7
def k71_9 : VC := .seq k71_4 k71_8
def k71_10 : VC := .seq k71_0 k71_9
def fn71 : VFn := ⟨23, k71_10, [.tmp 4]⟩
def k83_0 : VC := .reg [⟨(some 4), .mv (.const (.string ⟨⟨[]⟩⟩)), none⟩]
def k83_1 : VC := .reg [⟨(some 6), .mv (.tmp 0), none⟩,
    ⟨(some 7), .callF 72 [(.tmp 6)], none⟩]
def k83_2 : VC := .reg [⟨(some 4), .mv (.const (.string ⟨⟨[]⟩⟩)), none⟩]
def k83_3 : VC := .seq k83_2 .ret
def k83_4 : VC := .cond (.tmp 7) k83_3 .skip
def k83_5 : VC := .seq k83_1 k83_4
def k83_6 : VC := .reg [⟨(some 8), .mv (.tmp 1), none⟩,
    ⟨(some 9), .bin .lss (.tmp 8) (.const (.int .i64 0)), none⟩,
    ⟨(some 10), .mv (.tmp 9), none⟩,
    ⟨(some 11), .mv (.tmp 1), (some (10, false))⟩,
    ⟨(some 12), .mv (.tmp 0), (some (10, false))⟩,
    ⟨(some 13), .nilCheck (.tmp 12), (some (10, false))⟩,
    ⟨(some 14), .fieldA 0 (.tmp 13), (some (10, false))⟩,
    ⟨(some 15), .load1 .str (.tmp 14), (some (10, false))⟩,
    ⟨(some 16), .lenS (.tmp 15), (some (10, false))⟩,
    ⟨(some 17), .bin .gtr (.tmp 11) (.tmp 16), (some (10, false))⟩,
    ⟨(some 18), .pick (.tmp 10) (.const (.bool true)) (.tmp 17), none⟩]
def k83_7 : VC := .reg [⟨(some 19), .mv (.tmp 0), none⟩,
    ⟨(some 20), .nilCheck (.tmp 19), none⟩,
    ⟨(some 21), .fieldA 2 (.tmp 20), none⟩,
    ⟨none, .store 1 (.tmp 21) (.const (.bool true)), none⟩]
def k83_8 : VC := .reg [⟨(some 4), .mv (.const (.string ⟨⟨[]⟩⟩)), none⟩]
def k83_9 : VC := .seq k83_8 .ret
def k83_10 : VC := .seq k83_7 k83_9
def k83_11 : VC := .cond (.tmp 18) k83_10 .skip
def k83_12 : VC := .seq k83_6 k83_11
def k83_13 : VC := .reg [⟨(some 22), .mv (.tmp 0), none⟩,
    ⟨(some 23), .nilCheck (.tmp 22), none⟩,
    ⟨(some 24), .fieldA 0 (.tmp 23), none⟩,
    ⟨(some 25), .load1 .str (.tmp 24), none⟩,
    ⟨(some 26), .mv (.tmp 1), none⟩,
    ⟨(some 27), .sliceS (.tmp 25) none (some (.tmp 26)), none⟩,
    ⟨(some 5), .mv (.tmp 27), none⟩]
def k83_14 : VC := .reg [⟨(some 28), .mv (.tmp 0), none⟩,
    ⟨(some 29), .mv (.tmp 0), none⟩,
    ⟨(some 30), .nilCheck (.tmp 29), none⟩,
    ⟨(some 31), .fieldA 0 (.tmp 30), none⟩,
    ⟨(some 32), .load1 .str (.tmp 31), none⟩,
    ⟨(some 33), .mv (.tmp 1), none⟩,
    ⟨(some 34), .sliceS (.tmp 32) (some (.tmp 33)) none, none⟩,
    ⟨(some 35), .nilCheck (.tmp 28), none⟩,
    ⟨(some 36), .fieldA 0 (.tmp 35), none⟩,
    ⟨none, .store 1 (.tmp 36) (.tmp 34), none⟩]
def k83_15 : VC := .reg [⟨(some 37), .mv (.tmp 5), none⟩,
    ⟨(some 4), .mv (.tmp 37), none⟩]
def k83_16 : VC := .seq k83_15 .ret
def k83_17 : VC := .seq k83_14 k83_16
def k83_18 : VC := .seq k83_13 k83_17
def k83_19 : VC := .seq k83_12 k83_18
def k83_20 : VC := .seq k83_5 k83_19
def k83_21 : VC := .seq k83_0 k83_20
def fn83 : VFn := ⟨38, k83_21, [.tmp 4]⟩
def k72_0 : VC := .reg [⟨(some 2), .mv (.const (.bool false)), none⟩]
def k72_1 : VC := .reg [⟨(some 3), .mv (.tmp 0), none⟩,
    ⟨(some 4), .isNil 0 false (.tmp 3), none⟩,
    ⟨(some 5), .mv (.tmp 4), none⟩,
    ⟨(some 6), .mv (.tmp 0), (some (5, false))⟩,
    ⟨(some 7), .nilCheck (.tmp 6), (some (5, false))⟩,
    ⟨(some 8), .fieldA 1 (.tmp 7), (some (5, false))⟩,
    ⟨(some 9), .load1 .bool (.tmp 8), (some (5, false))⟩,
    ⟨(some 10), .not (.tmp 9), (some (5, false))⟩,
    ⟨(some 11), .pick (.tmp 5) (.const (.bool true)) (.tmp 10), none⟩,
    ⟨(some 12), .mv (.tmp 11), none⟩,
    ⟨(some 13), .mv (.tmp 0), (some (12, false))⟩,
    ⟨(some 14), .nilCheck (.tmp 13), (some (12, false))⟩,
    ⟨(some 15), .fieldA 2 (.tmp 14), (some (12, false))⟩,
    ⟨(some 16), .load1 .bool (.tmp 15), (some (12, false))⟩,
    ⟨(some 17), .pick (.tmp 12) (.const (.bool true)) (.tmp 16), none⟩,
    ⟨(some 2), .mv (.tmp 17), none⟩]
def k72_2 : VC := .seq k72_1 .ret
def k72_3 : VC := .seq k72_0 k72_2
def fn72 : VFn := ⟨18, k72_3, [.tmp 2]⟩
def k101_0 : VC := .reg [⟨(some 6), .mv (.const (.int .u64 0)), none⟩,
    ⟨(some 7), .mv (.const (.bool false)), none⟩]
def k101_1 : VC := .reg [⟨(some 11), .mv (.tmp 2), none⟩,
    ⟨(some 12), .bin .lss (.tmp 11) (.const (.int .i64 1)), none⟩,
    ⟨(some 13), .mv (.tmp 12), none⟩,
    ⟨(some 14), .mv (.tmp 2), (some (13, false))⟩,
    ⟨(some 15), .bin .gtr (.tmp 14) (.const (.int .i64 8)), (some (13, false))⟩,
    ⟨(some 16), .pick (.tmp 13) (.const (.bool true)) (.tmp 15), none⟩,
    ⟨(some 17), .mv (.tmp 16), none⟩,
    ⟨(some 18), .mv (.tmp 1), (some (17, false))⟩,
    ⟨(some 19), .bin .lss (.tmp 18) (.const (.int .i64 0)), (some (17, false))⟩,
    ⟨(some 20), .pick (.tmp 17) (.const (.bool true)) (.tmp 19), none⟩,
    ⟨(some 21), .mv (.tmp 20), none⟩,
    ⟨(some 22), .mv (.tmp 0), (some (21, false))⟩,
    ⟨(some 23), .lenS (.tmp 22), (some (21, false))⟩,
    ⟨(some 24), .mv (.tmp 2), (some (21, false))⟩,
    ⟨(some 25), .bin .sub (.tmp 23) (.tmp 24), (some (21, false))⟩,
    ⟨(some 26), .mv (.tmp 1), (some (21, false))⟩,
    ⟨(some 27), .bin .lss (.tmp 25) (.tmp 26), (some (21, false))⟩,
    ⟨(some 28), .pick (.tmp 21) (.const (.bool true)) (.tmp 27), none⟩]
def k101_2 : VC := .reg [⟨(some 6), .mv (.const (.int .u64 0)), none⟩,
    ⟨(some 7), .mv (.const (.bool false)), none⟩]
def k101_3 : VC := .seq k101_2 .ret
def k101_4 : VC := .cond (.tmp 28) k101_3 .skip
def k101_5 : VC := .seq k101_1 k101_4
def k101_6 : VC := .reg [⟨(some 8), .mv (.const (.int .u64 0)), none⟩]
def k101_7 : VC := .reg [⟨(some 29), .mv (.tmp 0), none⟩,
    ⟨(some 30), .mv (.tmp 1), none⟩,
    ⟨(some 31), .mv (.tmp 1), none⟩,
    ⟨(some 32), .mv (.tmp 2), none⟩,
    ⟨(some 33), .bin .add (.tmp 31) (.tmp 32), none⟩,
    ⟨(some 34), .sliceS (.tmp 29) (some (.tmp 30)) (some (.tmp 33)), none⟩,
    ⟨(some 35), .s2b (.tmp 34), none⟩,
    ⟨(some 36), .lenL (.tmp 35), none⟩,
    ⟨(some 37), .mv (.const (.int .i64 0)), none⟩]
def k101_8 : VC := .reg [⟨(some 38), .bin .lss (.tmp 37) (.tmp 36), none⟩]
def k101_9 : VC := .cond (.tmp 38) .skip (.exit 0)
def k101_10 : VC := .reg [⟨(some 39), .idxAL 1 (.tmp 35) (.tmp 37), none⟩,
    ⟨(some 40), .load1 (.int .u8) (.tmp 39), none⟩,
    ⟨(some 10), .mv (.tmp 40), none⟩]
def k101_11 : VC := .reg [⟨(some 41), .mv (.tmp 8), none⟩,
    ⟨(some 42), .bin .shl (.tmp 41) (.const (.int .u64 8)), none⟩,
    ⟨(some 43), .mv (.tmp 10), none⟩,
    ⟨(some 44), .conv .u64 (.tmp 43), none⟩,
    ⟨(some 45), .bin .or (.tmp 42) (.tmp 44), none⟩,
    ⟨(some 8), .mv (.tmp 45), none⟩]
def k101_12 : VC := .seq k101_10 k101_11
def k101_13 : VC := .block 1 k101_12
def k101_14 : VC := .reg [⟨(some 46), .bin .add (.tmp 37) (.const (.int .i64 1)), none⟩,
    ⟨(some 37), .mv (.tmp 46), none⟩]
def k101_15 : VC := .seq k101_13 k101_14
def k101_16 : VC := .seq k101_9 k101_15
def k101_17 : VC := .seq k101_8 k101_16
def k101_18 : VC := .loop k101_17
def k101_19 : VC := .block 0 k101_18
def k101_20 : VC := .seq k101_7 k101_19
def k101_21 : VC := .reg [⟨(some 47), .mv (.tmp 8), none⟩,
    ⟨(some 6), .mv (.tmp 47), none⟩,
    ⟨(some 7), .mv (.const (.bool true)), none⟩]
def k101_22 : VC := .seq k101_21 .ret
def k101_23 : VC := .seq k101_20 k101_22
def k101_24 : VC := .seq k101_6 k101_23
def k101_25 : VC := .seq k101_5 k101_24
def k101_26 : VC := .seq k101_0 k101_25
def fn101 : VFn := ⟨48, k101_26, [.tmp 6, .tmp 7]⟩
def k95_0 : VC := .reg [⟨(some 6), .mv (.const (.int .i64 0)), none⟩]
def k95_1 : VC := .reg [⟨(some 9), .callF 89 [], none⟩,
    ⟨(some 10), .mv (.const (.int .i64 0)), none⟩]
def k95_2 : VC := .reg [⟨(some 11), .bin .lss (.tmp 10) (.const (.int .i64 4)), none⟩]
def k95_3 : VC := .cond (.tmp 11) .skip (.exit 0)
def k95_4 : VC := .reg [⟨(some 12), .mv (.tmp 10), none⟩,
    ⟨(some 13), .idxVN 4 2 (.tmp 9) (.tmp 10), none⟩,
    ⟨(some 8), .alloc [(.int .i64 0), (.int .i64 0)], none⟩,
    ⟨(some 7), .mv (.tmp 12), none⟩,
    ⟨none, .store 2 (.tmp 8) (.tmp 13), none⟩]
def k95_5 : VC := .reg [⟨(some 14), .mv (.tmp 2), none⟩,
    ⟨(some 15), .callF 90 [(.tmp 14)], none⟩,
    ⟨(some 16), .idxAA 2 1 (.tmp 8) (.tmp 15), none⟩,
    ⟨(some 17), .load1 (.int .i64) (.tmp 16), none⟩,
    ⟨(some 18), .mv (.tmp 0), none⟩,
    ⟨(some 19), .bin .eql (.tmp 17) (.tmp 18), none⟩,
    ⟨(some 20), .mv (.tmp 19), none⟩,
    ⟨(some 21), .mv (.tmp 7), (some (20, true))⟩,
    ⟨(some 22), .mv (.tmp 1), (some (20, true))⟩,
    ⟨(some 23), .mv (.tmp 2), (some (20, true))⟩,
    ⟨(some 24), .callF 122 [(.tmp 21), (.tmp 22), (.tmp 23)], (some (20, true))⟩,
    ⟨(some 25), .pick (.tmp 20) (.tmp 24) (.const (.bool false)), none⟩]
def k95_6 : VC := .reg [⟨(some 26), .mv (.tmp 7), none⟩,
    ⟨(some 6), .mv (.tmp 26), none⟩]
def k95_7 : VC := .seq k95_6 .ret
def k95_8 : VC := .cond (.tmp 25) k95_7 .skip
def k95_9 : VC := .seq k95_5 k95_8
def k95_10 : VC := .seq k95_4 k95_9
def k95_11 : VC := .block 1 k95_10
def k95_12 : VC := .reg [⟨(some 27), .bin .add (.tmp 10) (.const (.int .i64 1)), none⟩,
    ⟨(some 10), .mv (.tmp 27), none⟩]
def k95_13 : VC := .seq k95_11 k95_12
def k95_14 : VC := .seq k95_3 k95_13
def k95_15 : VC := .seq k95_2 k95_14
def k95_16 : VC := .loop k95_15
def k95_17 : VC := .block 0 k95_16
def k95_18 : VC := .seq k95_1 k95_17
def k95_19 : VC := .reg [⟨(some 6), .mv (.const (.int .i64 4)), none⟩]
def k95_20 : VC := .seq k95_19 .ret
def k95_21 : VC := .seq k95_18 k95_20
def k95_22 : VC := .seq k95_0 k95_21
def fn95 : VFn := ⟨28, k95_22, [.tmp 6]⟩
def k89_0 : VC := .reg [⟨(some 0), .alloc [(.int .i64 0), (.int .i64 0), (.int .i64 0), (.int .i64 0), (.int .i64 0), (.int .i64 0), (.int .i64 0), (.int .i64 0)], none⟩]
def k89_1 : VC := .reg [⟨(some 1), .build [(.int .i64 0), (.int .i64 0)] [(0, 1, (.const (.int .i64 (-1)))), (1, 1, (.const (.int .i64 (-1))))], none⟩,
    ⟨(some 2), .build [(.int .i64 0), (.int .i64 0)] [(0, 1, (.const (.int .i64 3))), (1, 1, (.const (.int .i64 1)))], none⟩,
    ⟨(some 3), .build [(.int .i64 0), (.int .i64 0)] [(0, 1, (.const (.int .i64 3))), (1, 1, (.const (.int .i64 2)))], none⟩,
    ⟨(some 4), .build [(.int .i64 0), (.int .i64 0)] [(0, 1, (.const (.int .i64 11))), (1, 1, (.const (.int .i64 3)))], none⟩,
    ⟨(some 5), .build [(.int .i64 0), (.int .i64 0), (.int .i64 0), (.int .i64 0), (.int .i64 0), (.int .i64 0), (.int .i64 0), (.int .i64 0)] [(0, 2, (.tmp 1)), (2, 2, (.tmp 2)), (4, 2, (.tmp 3)), (6, 2, (.tmp 4))], none⟩,
    ⟨none, .store 8 (.tmp 0) (.tmp 5), none⟩]
def k89_2 : VC := .seq k89_1 .ret
def k89_3 : VC := .seq k89_0 k89_2
def fn89 : VFn := ⟨6, k89_3, [.cell 0 [(.int .i64), (.int .i64), (.int .i64), (.int .i64), (.int .i64), (.int .i64), (.int .i64), (.int .i64)] true]⟩
def k90_0 : VC := .reg [⟨(some 2), .mv (.const (.int .i64 0)), none⟩]
def k90_1 : VC := .reg [⟨(some 3), .mv (.tmp 0), none⟩]
def k90_2 : VC := .reg [⟨(some 2), .mv (.const (.int .i64 1)), none⟩]
def k90_3 : VC := .seq k90_2 .ret
def k90_4 : VC := .cond (.tmp 3) k90_3 .skip
def k90_5 : VC := .seq k90_1 k90_4
def k90_6 : VC := .reg [⟨(some 2), .mv (.const (.int .i64 0)), none⟩]
def k90_7 : VC := .seq k90_6 .ret
def k90_8 : VC := .seq k90_5 k90_7
def k90_9 : VC := .seq k90_0 k90_8
def fn90 : VFn := ⟨4, k90_9, [.tmp 2]⟩
def k122_0 : VC := .reg [⟨(some 6), .mv (.const (.bool false)), none⟩]
def k122_1 : VC := .reg [⟨(some 8), .mv (.tmp 0), none⟩,
    ⟨(some 9), .bin .eql (.tmp 8) (.const (.int .i64 2)), none⟩,
    ⟨(some 10), .mv (.tmp 9), none⟩,
    ⟨(some 11), .mv (.tmp 2), (some (10, true))⟩,
    ⟨(some 12), .pick (.tmp 10) (.tmp 11) (.const (.bool false)), none⟩,
    ⟨(some 7), .mv (.tmp 12), none⟩]
def k122_2 : VC := .reg [⟨(some 13), .mv (.tmp 1), none⟩,
    ⟨(some 14), .bin .eql (.tmp 13) (.const (.int .i64 0)), none⟩,
    ⟨(some 6), .mv (.tmp 14), none⟩]
def k122_3 : VC := .seq k122_2 .ret
def k122_4 : VC := .reg [⟨(some 16), .mv (.tmp 0), none⟩,
    ⟨(some 17), .bin .eql (.tmp 16) (.const (.int .i64 2)), none⟩,
    ⟨(some 15), .mv (.tmp 17), none⟩]
def k122_5 : VC := .reg [⟨(some 18), .mv (.tmp 1), none⟩,
    ⟨(some 19), .bin .eql (.tmp 18) (.const (.int .i64 4)), none⟩,
    ⟨(some 6), .mv (.tmp 19), none⟩]
def k122_6 : VC := .seq k122_5 .ret
def k122_7 : VC := .reg [⟨(some 21), .mv (.tmp 0), none⟩,
    ⟨(some 22), .bin .eql (.tmp 21) (.const (.int .i64 1)), none⟩,
    ⟨(some 23), .mv (.tmp 22), none⟩,
    ⟨(some 24), .mv (.tmp 2), (some (23, true))⟩,
    ⟨(some 25), .not (.tmp 24), (some (23, true))⟩,
    ⟨(some 26), .pick (.tmp 23) (.tmp 25) (.const (.bool false)), none⟩,
    ⟨(some 20), .mv (.tmp 26), none⟩]
def k122_8 : VC := .reg [⟨(some 27), .mv (.tmp 1), none⟩,
    ⟨(some 28), .bin .neq (.tmp 27) (.const (.int .i64 4)), none⟩,
    ⟨(some 6), .mv (.tmp 28), none⟩]
def k122_9 : VC := .seq k122_8 .ret
def k122_10 : VC := .cond (.tmp 20) k122_9 .skip
def k122_11 : VC := .seq k122_7 k122_10
def k122_12 : VC := .cond (.tmp 15) k122_6 k122_11
def k122_13 : VC := .seq k122_4 k122_12
def k122_14 : VC := .cond (.tmp 7) k122_3 k122_13
def k122_15 : VC := .seq k122_1 k122_14
def k122_16 : VC := .block 0 k122_15
def k122_17 : VC := .reg [⟨(some 6), .mv (.const (.bool true)), none⟩]
def k122_18 : VC := .seq k122_17 .ret
def k122_19 : VC := .seq k122_16 k122_18
def k122_20 : VC := .seq k122_0 k122_19
def fn122 : VFn := ⟨29, k122_20, [.tmp 6]⟩
def k96_0 : VC := .reg [⟨(some 2), .mv (.const (.string ⟨⟨[]⟩⟩)), none⟩]
def k96_1 : VC := .reg [⟨(some 3), .mv (.tmp 0), none⟩,
    ⟨(some 4), .callF 72 [(.tmp 3)], none⟩]
def k96_2 : VC := .reg [⟨(some 2), .mv (.const (.string ⟨⟨[]⟩⟩)), none⟩]
def k96_3 : VC := .seq k96_2 .ret
def k96_4 : VC := .cond (.tmp 4) k96_3 .skip
def k96_5 : VC := .seq k96_1 k96_4
def k96_6 : VC := .reg [⟨(some 5), .mv (.tmp 0), none⟩,
    ⟨(some 6), .mv (.tmp 0), none⟩,
    ⟨(some 7), .nilCheck (.tmp 6), none⟩,
    ⟨(some 8), .fieldA 0 (.tmp 7), none⟩,
    ⟨(some 9), .load1 .str (.tmp 8), none⟩,
    ⟨(some 10), .lenS (.tmp 9), none⟩,
    ⟨(some 11), .callF 83 [(.tmp 5), (.tmp 10)], none⟩,
    ⟨(some 2), .mv (.tmp 11), none⟩]
def k96_7 : VC := .seq k96_6 .ret
def k96_8 : VC := .seq k96_5 k96_7
def k96_9 : VC := .seq k96_0 k96_8
def fn96 : VFn := ⟨12, k96_9, [.tmp 2]⟩
def k31_0 : VC := .reg [⟨(some 3), .box (.tmp 0), none⟩,
    ⟨(some 4), .box (.tmp 1), none⟩,
    ⟨(some 5), .box (.tmp 2), none⟩,
    ⟨(some 6), .mv (.const (.string ⟨⟨[]⟩⟩)), none⟩,
    ⟨(some 7), .mv (.const (.int .i64 0)), none⟩]
def k31_1 : VC := .reg [⟨(some 13), .loadN [.bool, (.int .u64), (.int .u64)] (.tmp 4), none⟩,
    ⟨(some 14), .loadN [.bool, (.int .u64), (.int .u64)] (.tmp 5), none⟩,
    ⟨(some 15), .fieldA 3 (.tmp 3), none⟩,
    ⟨(some 16), .load1 .str (.tmp 15), none⟩,
    ⟨(some 17), .lenS (.tmp 16), none⟩,
    ⟨(some 18), .bin .add (.const (.int .i64 8)) (.tmp 17), none⟩,
    ⟨(some 19), .callF 87 [(.tmp 13), (.tmp 14), (.tmp 18)], none⟩,
    ⟨(some 12), .mv (.tmp 19), none⟩,
    ⟨(some 20), .extract 0 (.tmp 12), none⟩,
    ⟨(some 21), .extract 1 (.tmp 12), none⟩,
    ⟨(some 8), .mv (.tmp 20), none⟩,
    ⟨(some 9), .mv (.tmp 21), none⟩]
def k31_2 : VC := .reg [⟨(some 22), .mv (.tmp 9), none⟩,
    ⟨(some 23), .not (.tmp 22), none⟩,
    ⟨(some 24), .mv (.tmp 23), none⟩,
    ⟨(some 25), .loadN [(.int .i64), (.int .i64), (.int .i64), .str] (.tmp 3), (some (24, false))⟩,
    ⟨(some 26), .fieldA 0 (.tmp 4), (some (24, false))⟩,
    ⟨(some 27), .load1 .bool (.tmp 26), (some (24, false))⟩,
    ⟨(some 28), .callF 88 [(.tmp 25), (.tmp 27)], (some (24, false))⟩,
    ⟨(some 29), .not (.tmp 28), (some (24, false))⟩,
    ⟨(some 30), .pick (.tmp 24) (.const (.bool true)) (.tmp 29), none⟩]
def k31_3 : VC := .reg [⟨(some 6), .mv (.const (.string ⟨⟨[]⟩⟩)), none⟩,
    ⟨(some 7), .mv (.const (.int .i64 1)), none⟩]
def k31_4 : VC := .seq k31_3 .ret
def k31_5 : VC := .cond (.tmp 30) k31_4 .skip
def k31_6 : VC := .seq k31_2 k31_5
def k31_7 : VC := .regD [⟨(some 31), .callF 89 [], none⟩,
    ⟨(some 32), .fieldA 0 (.tmp 3), none⟩,
    ⟨(some 33), .load1 (.int .i64) (.tmp 32), none⟩,
    ⟨(some 34), .idxVN 4 2 (.tmp 31) (.tmp 33), none⟩,
    ⟨(some 35), .fieldA 0 (.tmp 4), none⟩,
    ⟨(some 36), .load1 .bool (.tmp 35), none⟩,
    ⟨(some 37), .callF 90 [(.tmp 36)], none⟩] [(0, 2), (0, 5), (2, 6)] [⟨(some 38), .idxV1 2 (.tmp 34) (.tmp 37), none⟩,
    ⟨(some 10), .mv (.tmp 38), none⟩]
def k31_8 : VC := .regD [⟨(some 39), .mv (.tmp 10), none⟩,
    ⟨(some 40), .conv .u64 (.tmp 39), none⟩,
    ⟨(some 41), .bin .shl (.tmp 40) (.const (.int .u64 8)), none⟩,
    ⟨(some 42), .fieldA 1 (.tmp 3), none⟩,
    ⟨(some 43), .load1 (.int .i64) (.tmp 42), none⟩,
    ⟨(some 44), .conv .u64 (.tmp 43), none⟩,
    ⟨(some 45), .bin .or (.tmp 41) (.tmp 44), none⟩,
    ⟨(some 46), .callF 62 [(.tmp 45), (.const (.int .i64 2))], none⟩,
    ⟨(some 47), .fieldA 2 (.tmp 3), none⟩,
    ⟨(some 48), .load1 (.int .i64) (.tmp 47), none⟩,
    ⟨(some 49), .conv .u64 (.tmp 48), none⟩,
    ⟨(some 50), .callF 62 [(.tmp 49), (.const (.int .i64 6))], none⟩,
    ⟨(some 51), .bin .add (.tmp 46) (.tmp 50), none⟩,
    ⟨(some 52), .fieldA 3 (.tmp 3), none⟩,
    ⟨(some 53), .load1 .str (.tmp 52), none⟩] [(7, 9), (7, 14), (11, 14)] [⟨(some 54), .bin .add (.tmp 51) (.tmp 53), none⟩,
    ⟨(some 11), .mv (.tmp 54), none⟩]
def k31_9 : VC := .reg [⟨(some 55), .mv (.tmp 11), none⟩,
    ⟨(some 56), .mv (.tmp 8), none⟩,
    ⟨(some 57), .mv (.tmp 11), none⟩,
    ⟨(some 58), .bin .add (.tmp 56) (.tmp 57), none⟩,
    ⟨(some 59), .callF 64 [(.tmp 58)], none⟩,
    ⟨(some 60), .conv .u64 (.tmp 59), none⟩,
    ⟨(some 61), .callF 65 [(.tmp 55), (.const (.int .i64 2)), (.const (.int .i64 2)), (.tmp 60)], none⟩,
    ⟨(some 6), .mv (.tmp 61), none⟩,
    ⟨(some 7), .mv (.const (.int .i64 0)), none⟩]
def k31_10 : VC := .seq k31_9 .ret
def k31_11 : VC := .seq k31_8 k31_10
def k31_12 : VC := .seq k31_7 k31_11
def k31_13 : VC := .seq k31_6 k31_12
def k31_14 : VC := .seq k31_1 k31_13
def k31_15 : VC := .seq k31_0 k31_14
def fn31 : VFn := ⟨62, k31_15, [.tmp 6, .tmp 7]⟩
def k88_0 : VC := .reg [⟨(some 2), .box (.tmp 0), none⟩,
    ⟨(some 4), .mv (.const (.bool false)), none⟩]
def k88_1 : VC := .reg [⟨(some 5), .fieldA 0 (.tmp 2), none⟩,
    ⟨(some 6), .load1 (.int .i64) (.tmp 5), none⟩,
    ⟨(some 7), .bin .lss (.tmp 6) (.const (.int .i64 1)), none⟩,
    ⟨(some 8), .mv (.tmp 7), none⟩,
    ⟨(some 9), .fieldA 0 (.tmp 2), (some (8, false))⟩,
    ⟨(some 10), .load1 (.int .i64) (.tmp 9), (some (8, false))⟩,
    ⟨(some 11), .bin .gtr (.tmp 10) (.const (.int .i64 3)), (some (8, false))⟩,
    ⟨(some 12), .pick (.tmp 8) (.const (.bool true)) (.tmp 11), none⟩,
    ⟨(some 13), .mv (.tmp 12), none⟩,
    ⟨(some 14), .fieldA 1 (.tmp 2), (some (13, false))⟩,
    ⟨(some 15), .load1 (.int .i64) (.tmp 14), (some (13, false))⟩,
    ⟨(some 16), .callF 121 [(.tmp 15), (.const (.int .i64 255))], (some (13, false))⟩,
    ⟨(some 17), .not (.tmp 16), (some (13, false))⟩,
    ⟨(some 18), .pick (.tmp 13) (.const (.bool true)) (.tmp 17), none⟩,
    ⟨(some 19), .mv (.tmp 18), none⟩,
    ⟨(some 20), .fieldA 2 (.tmp 2), (some (19, false))⟩,
    ⟨(some 21), .load1 (.int .i64) (.tmp 20), (some (19, false))⟩,
    ⟨(some 22), .callF 121 [(.tmp 21), (.const (.int .i64 65535))], (some (19, false))⟩,
    ⟨(some 23), .not (.tmp 22), (some (19, false))⟩,
    ⟨(some 24), .pick (.tmp 19) (.const (.bool true)) (.tmp 23), none⟩,
    ⟨(some 25), .mv (.tmp 24), none⟩,
    ⟨(some 26), .fieldA 3 (.tmp 2), (some (25, false))⟩,
    ⟨(some 27), .load1 .str (.tmp 26), (some (25, false))⟩,
    ⟨(some 28), .lenS (.tmp 27), (some (25, false))⟩,
    ⟨(some 29), .bin .gtr (.tmp 28) (.const (.int .i64 1232)), (some (25, false))⟩,
    ⟨(some 30), .pick (.tmp 25) (.const (.bool true)) (.tmp 29), none⟩]
def k88_2 : VC := .reg [⟨(some 4), .mv (.const (.bool false)), none⟩]
def k88_3 : VC := .seq k88_2 .ret
def k88_4 : VC := .cond (.tmp 30) k88_3 .skip
def k88_5 : VC := .seq k88_1 k88_4
def k88_6 : VC := .reg [⟨(some 31), .fieldA 0 (.tmp 2), none⟩,
    ⟨(some 32), .load1 (.int .i64) (.tmp 31), none⟩,
    ⟨(some 33), .fieldA 1 (.tmp 2), none⟩,
    ⟨(some 34), .load1 (.int .i64) (.tmp 33), none⟩,
    ⟨(some 35), .mv (.tmp 1), none⟩,
    ⟨(some 36), .callF 122 [(.tmp 32), (.tmp 34), (.tmp 35)], none⟩,
    ⟨(some 37), .mv (.tmp 36), none⟩,
    ⟨(some 38), .fieldA 0 (.tmp 2), (some (37, true))⟩,
    ⟨(some 39), .load1 (.int .i64) (.tmp 38), (some (37, true))⟩,
    ⟨(some 40), .bin .eql (.tmp 39) (.const (.int .i64 2)), (some (37, true))⟩,
    ⟨(some 41), .mv (.tmp 40), (some (37, true))⟩,
    ⟨(some 42), .fieldA 2 (.tmp 2), (some (41, false))⟩,
    ⟨(some 43), .load1 (.int .i64) (.tmp 42), (some (41, false))⟩,
    ⟨(some 44), .bin .eql (.tmp 43) (.const (.int .i64 0)), (some (41, false))⟩,
    ⟨(some 45), .pick (.tmp 41) (.const (.bool true)) (.tmp 44), (some (37, true))⟩,
    ⟨(some 46), .pick (.tmp 37) (.tmp 45) (.const (.bool false)), none⟩,
    ⟨(some 4), .mv (.tmp 46), none⟩]
def k88_7 : VC := .seq k88_6 .ret
def k88_8 : VC := .seq k88_5 k88_7
def k88_9 : VC := .seq k88_0 k88_8
def fn88 : VFn := ⟨47, k88_9, [.tmp 4]⟩
def k121_0 : VC := .reg [⟨(some 4), .mv (.const (.bool false)), none⟩]
def k121_1 : VC := .reg [⟨(some 5), .mv (.tmp 0), none⟩,
    ⟨(some 6), .bin .leq (.const (.int .i64 0)) (.tmp 5), none⟩,
    ⟨(some 7), .mv (.tmp 6), none⟩,
    ⟨(some 8), .mv (.tmp 0), (some (7, true))⟩,
    ⟨(some 9), .mv (.tmp 1), (some (7, true))⟩,
    ⟨(some 10), .bin .leq (.tmp 8) (.tmp 9), (some (7, true))⟩,
    ⟨(some 11), .pick (.tmp 7) (.tmp 10) (.const (.bool false)), none⟩,
    ⟨(some 4), .mv (.tmp 11), none⟩]
def k121_2 : VC := .seq k121_1 .ret
def k121_3 : VC := .seq k121_0 k121_2
def fn121 : VFn := ⟨12, k121_3, [.tmp 4]⟩
def k64_0 : VC := .reg [⟨(some 2), .mv (.const (.int .i64 0)), none⟩]
def k64_1 : VC := .reg [⟨(some 3), .mv (.tmp 0), none⟩,
    ⟨(some 4), .callF 113 [(.tmp 3)], none⟩,
    ⟨(some 5), .bin .sub (.const (.int .i64 65535)) (.tmp 4), none⟩,
    ⟨(some 2), .mv (.tmp 5), none⟩]
def k64_2 : VC := .seq k64_1 .ret
def k64_3 : VC := .seq k64_0 k64_2
def fn64 : VFn := ⟨6, k64_3, [.tmp 2]⟩
def k65_0 : VC := .reg [⟨(some 8), .mv (.const (.string ⟨⟨[]⟩⟩)), none⟩]
def k65_1 : VC := .reg [⟨(some 10), .mv (.tmp 3), none⟩,
    ⟨(some 11), .mv (.tmp 2), none⟩,
    ⟨(some 12), .callF 62 [(.tmp 10), (.tmp 11)], none⟩,
    ⟨(some 9), .mv (.tmp 12), none⟩]
def k65_2 : VC := .reg [⟨(some 13), .mv (.tmp 9), none⟩,
    ⟨(some 14), .bin .eql (.tmp 13) (.const (.string ⟨⟨[]⟩⟩)), none⟩,
    ⟨(some 15), .mv (.tmp 14), none⟩,
    ⟨(some 16), .mv (.tmp 1), (some (15, false))⟩,
    ⟨(some 17), .bin .lss (.tmp 16) (.const (.int .i64 0)), (some (15, false))⟩,
    ⟨(some 18), .pick (.tmp 15) (.const (.bool true)) (.tmp 17), none⟩,
    ⟨(some 19), .mv (.tmp 18), none⟩,
    ⟨(some 20), .mv (.tmp 0), (some (19, false))⟩,
    ⟨(some 21), .lenS (.tmp 20), (some (19, false))⟩,
    ⟨(some 22), .mv (.tmp 2), (some (19, false))⟩,
    ⟨(some 23), .bin .sub (.tmp 21) (.tmp 22), (some (19, false))⟩,
    ⟨(some 24), .mv (.tmp 1), (some (19, false))⟩,
    ⟨(some 25), .bin .lss (.tmp 23) (.tmp 24), (some (19, false))⟩,
    ⟨(some 26), .pick (.tmp 19) (.const (.bool true)) (.tmp 25), none⟩]
def k65_3 : VC := .reg [⟨(some 27), .mv (.tmp 0), none⟩,
    ⟨(some 8), .mv (.tmp 27), none⟩]
def k65_4 : VC := .seq k65_3 .ret
def k65_5 : VC := .cond (.tmp 26) k65_4 .skip
def k65_6 : VC := .seq k65_2 k65_5
def k65_7 : VC := .regD [⟨(some 28), .mv (.tmp 0), none⟩,
    ⟨(some 29), .mv (.tmp 1), none⟩,
    ⟨(some 30), .sliceS (.tmp 28) none (some (.tmp 29)), none⟩,
    ⟨(some 31), .mv (.tmp 9), none⟩,
    ⟨(some 32), .bin .add (.tmp 30) (.tmp 31), none⟩,
    ⟨(some 33), .mv (.tmp 0), none⟩,
    ⟨(some 34), .mv (.tmp 1), none⟩,
    ⟨(some 35), .mv (.tmp 2), none⟩,
    ⟨(some 36), .bin .add (.tmp 34) (.tmp 35), none⟩,
    ⟨(some 37), .sliceS (.tmp 33) (some (.tmp 36)) none, none⟩] [] [⟨(some 38), .bin .add (.tmp 32) (.tmp 37), none⟩,
    ⟨(some 8), .mv (.tmp 38), none⟩]
def k65_8 : VC := .seq k65_7 .ret
def k65_9 : VC := .seq k65_6 k65_8
def k65_10 : VC := .seq k65_1 k65_9
def k65_11 : VC := .seq k65_0 k65_10
def fn65 : VFn := ⟨39, k65_11, [.tmp 8]⟩
def k32_0 : VC := .reg [⟨(some 1), .box (.tmp 0), none⟩,
    ⟨(some 2), .alloc [(.int .i64 0), (.int .i64 0), (.int .i64 0), (.string ⟨⟨[]⟩⟩)], none⟩]
def k32_1 : VC := .reg [⟨(some 3), .fieldA 0 (.tmp 1), none⟩,
    ⟨(some 4), .load1 (.int .i64) (.tmp 3), none⟩,
    ⟨(some 5), .fieldA 1 (.tmp 1), none⟩,
    ⟨(some 6), .load1 (.int .i64) (.tmp 5), none⟩,
    ⟨(some 7), .fieldA 2 (.tmp 1), none⟩,
    ⟨(some 8), .load1 (.int .i64) (.tmp 7), none⟩,
    ⟨(some 9), .fieldA 3 (.tmp 1), none⟩,
    ⟨(some 10), .load1 .str (.tmp 9), none⟩,
    ⟨(some 11), .build [(.int .i64 0), (.int .i64 0), (.int .i64 0), (.string ⟨⟨[]⟩⟩)] [(0, 1, (.tmp 4)), (1, 1, (.tmp 6)), (2, 1, (.tmp 8)), (3, 1, (.tmp 10))], none⟩,
    ⟨none, .store 4 (.tmp 2) (.tmp 11), none⟩]
def k32_2 : VC := .seq k32_1 .ret
def k32_3 : VC := .seq k32_0 k32_2
def fn32 : VFn := ⟨12, k32_3, [.cell 2 [(.int .i64), (.int .i64), (.int .i64), .str] true]⟩
def k33_0 : VC := .reg [⟨(some 3), .box (.tmp 0), none⟩,
    ⟨(some 4), .box (.tmp 1), none⟩,
    ⟨(some 5), .box (.tmp 2), none⟩,
    ⟨(some 6), .mv (.const (.string ⟨⟨[]⟩⟩)), none⟩,
    ⟨(some 7), .mv (.const (.int .i64 0)), none⟩]
def k33_1 : VC := .reg [⟨(some 9), .loadN [.bool, (.int .u64), (.int .u64)] (.tmp 4), none⟩,
    ⟨(some 10), .loadN [.bool, (.int .u64), (.int .u64)] (.tmp 5), none⟩,
    ⟨(some 11), .callF 91 [(.tmp 9), (.tmp 10)], none⟩,
    ⟨(some 12), .not (.tmp 11), none⟩,
    ⟨(some 13), .mv (.tmp 12), none⟩,
    ⟨(some 14), .loadN [(.int .i64), (.int .i64), (.int .i64), .str] (.tmp 3), (some (13, false))⟩,
    ⟨(some 15), .fieldA 0 (.tmp 4), (some (13, false))⟩,
    ⟨(some 16), .load1 .bool (.tmp 15), (some (13, false))⟩,
    ⟨(some 17), .callF 92 [(.tmp 14), (.tmp 16)], (some (13, false))⟩,
    ⟨(some 18), .not (.tmp 17), (some (13, false))⟩,
    ⟨(some 19), .pick (.tmp 13) (.const (.bool true)) (.tmp 18), none⟩]
def k33_2 : VC := .reg [⟨(some 6), .mv (.const (.string ⟨⟨[]⟩⟩)), none⟩,
    ⟨(some 7), .mv (.const (.int .i64 1)), none⟩]
def k33_3 : VC := .seq k33_2 .ret
def k33_4 : VC := .cond (.tmp 19) k33_3 .skip
def k33_5 : VC := .seq k33_1 k33_4
def k33_6 : VC := .regD [⟨(some 20), .fieldA 0 (.tmp 4), none⟩,
    ⟨(some 21), .load1 .bool (.tmp 20), none⟩,
    ⟨(some 22), .fieldA 0 (.tmp 3), none⟩,
    ⟨(some 23), .load1 (.int .i64) (.tmp 22), none⟩,
    ⟨(some 24), .callF 93 [(.tmp 21), (.tmp 23)], none⟩,
    ⟨(some 25), .conv .u64 (.tmp 24), none⟩,
    ⟨(some 26), .callF 67 [(.tmp 25), (.const (.int .i64 1))], none⟩,
    ⟨(some 27), .fieldA 1 (.tmp 3), none⟩,
    ⟨(some 28), .load1 (.int .i64) (.tmp 27), none⟩,
    ⟨(some 29), .conv .u64 (.tmp 28), none⟩,
    ⟨(some 30), .callF 67 [(.tmp 29), (.const (.int .i64 1))], none⟩,
    ⟨(some 31), .bin .add (.tmp 26) (.tmp 30), none⟩,
    ⟨(some 32), .bin .add (.tmp 31) (.const (.string ⟨⟨[0, 0, 0, 0]⟩⟩)), none⟩,
    ⟨(some 33), .fieldA 2 (.tmp 3), none⟩,
    ⟨(some 34), .load1 (.int .i64) (.tmp 33), none⟩,
    ⟨(some 35), .conv .u64 (.tmp 34), none⟩,
    ⟨(some 36), .callF 67 [(.tmp 35), (.const (.int .i64 2))], none⟩,
    ⟨(some 37), .bin .add (.tmp 32) (.tmp 36), none⟩,
    ⟨(some 38), .fieldA 3 (.tmp 3), none⟩,
    ⟨(some 39), .load1 .str (.tmp 38), none⟩] [(4, 8), (4, 14), (4, 19), (6, 8), (6, 14), (6, 19), (10, 14), (10, 19), (16, 19)] [⟨(some 40), .bin .add (.tmp 37) (.tmp 39), none⟩,
    ⟨(some 8), .mv (.tmp 40), none⟩]
def k33_7 : VC := .reg [⟨(some 41), .mv (.tmp 8), none⟩,
    ⟨(some 42), .loadN [.bool, (.int .u64), (.int .u64)] (.tmp 4), none⟩,
    ⟨(some 43), .loadN [.bool, (.int .u64), (.int .u64)] (.tmp 5), none⟩,
    ⟨(some 44), .mv (.tmp 8), none⟩,
    ⟨(some 45), .lenS (.tmp 44), none⟩,
    ⟨(some 46), .callF 94 [(.tmp 42), (.tmp 43), (.tmp 45)], none⟩,
    ⟨(some 47), .mv (.tmp 8), none⟩,
    ⟨(some 48), .bin .add (.tmp 46) (.tmp 47), none⟩,
    ⟨(some 49), .callF 68 [(.tmp 48)], none⟩,
    ⟨(some 50), .conv .u64 (.tmp 49), none⟩,
    ⟨(some 51), .callF 69 [(.tmp 41), (.const (.int .i64 2)), (.const (.int .i64 2)), (.tmp 50)], none⟩,
    ⟨(some 6), .mv (.tmp 51), none⟩,
    ⟨(some 7), .mv (.const (.int .i64 0)), none⟩]
def k33_8 : VC := .seq k33_7 .ret
def k33_9 : VC := .seq k33_6 k33_8
def k33_10 : VC := .seq k33_5 k33_9
def k33_11 : VC := .seq k33_0 k33_10
def fn33 : VFn := ⟨52, k33_11, [.tmp 6, .tmp 7]⟩
def k91_0 : VC := .reg [⟨(some 2), .box (.tmp 0), none⟩,
    ⟨(some 3), .box (.tmp 1), none⟩,
    ⟨(some 4), .mv (.const (.bool false)), none⟩]
def k91_1 : VC := .reg [⟨(some 5), .loadN [.bool, (.int .u64), (.int .u64)] (.tmp 2), none⟩,
    ⟨(some 6), .loadN [.bool, (.int .u64), (.int .u64)] (.tmp 3), none⟩,
    ⟨(some 7), .callF 28 [(.tmp 5), (.tmp 6), (.const (.int .i64 1)), (.const (.int .i64 8))], none⟩,
    ⟨(some 8), .bin .neq (.tmp 7) (.const (.string ⟨⟨[]⟩⟩)), none⟩,
    ⟨(some 4), .mv (.tmp 8), none⟩]
def k91_2 : VC := .seq k91_1 .ret
def k91_3 : VC := .seq k91_0 k91_2
def fn91 : VFn := ⟨9, k91_3, [.tmp 4]⟩
def k28_0 : VC := .reg [⟨(some 4), .box (.tmp 0), none⟩,
    ⟨(some 5), .box (.tmp 1), none⟩,
    ⟨(some 8), .mv (.const (.string ⟨⟨[]⟩⟩)), none⟩]
def k28_1 : VC := .reg [⟨(some 9), .loadN [.bool, (.int .u64), (.int .u64)] (.tmp 4), none⟩,
    ⟨(some 10), .callF 86 [(.tmp 9)], none⟩,
    ⟨(some 11), .not (.tmp 10), none⟩,
    ⟨(some 12), .mv (.tmp 11), none⟩,
    ⟨(some 13), .loadN [.bool, (.int .u64), (.int .u64)] (.tmp 5), (some (12, false))⟩,
    ⟨(some 14), .callF 86 [(.tmp 13)], (some (12, false))⟩,
    ⟨(some 15), .not (.tmp 14), (some (12, false))⟩,
    ⟨(some 16), .pick (.tmp 12) (.const (.bool true)) (.tmp 15), none⟩,
    ⟨(some 17), .mv (.tmp 16), none⟩,
    ⟨(some 18), .fieldA 0 (.tmp 4), (some (17, false))⟩,
    ⟨(some 19), .load1 .bool (.tmp 18), (some (17, false))⟩,
    ⟨(some 20), .fieldA 0 (.tmp 5), (some (17, false))⟩,
    ⟨(some 21), .load1 .bool (.tmp 20), (some (17, false))⟩,
    ⟨(some 22), .eqB true (.tmp 19) (.tmp 21), (some (17, false))⟩,
    ⟨(some 23), .pick (.tmp 17) (.const (.bool true)) (.tmp 22), none⟩]
def k28_2 : VC := .reg [⟨(some 8), .mv (.const (.string ⟨⟨[]⟩⟩)), none⟩]
def k28_3 : VC := .seq k28_2 .ret
def k28_4 : VC := .cond (.tmp 23) k28_3 .skip
def k28_5 : VC := .seq k28_1 k28_4
def k28_6 : VC := .reg [⟨(some 24), .fieldA 0 (.tmp 4), none⟩,
    ⟨(some 25), .load1 .bool (.tmp 24), none⟩]
def k28_7 : VC := .regD [⟨(some 26), .loadN [.bool, (.int .u64), (.int .u64)] (.tmp 4), none⟩,
    ⟨(some 27), .callF 81 [(.tmp 26)], none⟩,
    ⟨(some 28), .loadN [.bool, (.int .u64), (.int .u64)] (.tmp 5), none⟩,
    ⟨(some 29), .callF 81 [(.tmp 28)], none⟩,
    ⟨(some 30), .bin .add (.tmp 27) (.tmp 29), none⟩,
    ⟨(some 31), .mv (.tmp 3), none⟩,
    ⟨(some 32), .callF 80 [(.tmp 31), (.const (.int .i64 4))], none⟩,
    ⟨(some 33), .bin .add (.tmp 30) (.tmp 32), none⟩,
    ⟨(some 34), .callF 80 [(.const (.int .i64 0)), (.const (.int .i64 3))], none⟩,
    ⟨(some 35), .bin .add (.tmp 33) (.tmp 34), none⟩,
    ⟨(some 36), .mv (.tmp 2), none⟩,
    ⟨(some 37), .callF 80 [(.tmp 36), (.const (.int .i64 1))], none⟩] [(1, 2)] [⟨(some 38), .bin .add (.tmp 35) (.tmp 37), none⟩,
    ⟨(some 8), .mv (.tmp 38), none⟩]
def k28_8 : VC := .seq k28_7 .ret
def k28_9 : VC := .cond (.tmp 25) k28_8 .skip
def k28_10 : VC := .seq k28_6 k28_9
def k28_11 : VC := .regD [⟨(some 39), .loadN [.bool, (.int .u64), (.int .u64)] (.tmp 4), none⟩,
    ⟨(some 40), .callF 81 [(.tmp 39)], none⟩,
    ⟨(some 41), .loadN [.bool, (.int .u64), (.int .u64)] (.tmp 5), none⟩,
    ⟨(some 42), .callF 81 [(.tmp 41)], none⟩,
    ⟨(some 43), .bin .add (.tmp 40) (.tmp 42), none⟩,
    ⟨(some 44), .callF 80 [(.const (.int .i64 0)), (.const (.int .i64 1))], none⟩,
    ⟨(some 45), .bin .add (.tmp 43) (.tmp 44), none⟩,
    ⟨(some 46), .mv (.tmp 2), none⟩,
    ⟨(some 47), .callF 80 [(.tmp 46), (.const (.int .i64 1))], none⟩,
    ⟨(some 48), .bin .add (.tmp 45) (.tmp 47), none⟩,
    ⟨(some 49), .mv (.tmp 3), none⟩,
    ⟨(some 50), .callF 80 [(.tmp 49), (.const (.int .i64 2))], none⟩] [(1, 2)] [⟨(some 51), .bin .add (.tmp 48) (.tmp 50), none⟩,
    ⟨(some 8), .mv (.tmp 51), none⟩]
def k28_12 : VC := .seq k28_11 .ret
def k28_13 : VC := .seq k28_10 k28_12
def k28_14 : VC := .seq k28_5 k28_13
def k28_15 : VC := .seq k28_0 k28_14
def fn28 : VFn := ⟨52, k28_15, [.tmp 8]⟩
def k86_0 : VC := .reg [⟨(some 1), .box (.tmp 0), none⟩,
    ⟨(some 2), .mv (.const (.bool false)), none⟩]
def k86_1 : VC := .reg [⟨(some 3), .fieldA 0 (.tmp 1), none⟩,
    ⟨(some 4), .load1 .bool (.tmp 3), none⟩,
    ⟨(some 5), .mv (.tmp 4), none⟩,
    ⟨(some 6), .fieldA 1 (.tmp 1), (some (5, false))⟩,
    ⟨(some 7), .load1 (.int .u64) (.tmp 6), (some (5, false))⟩,
    ⟨(some 8), .bin .eql (.tmp 7) (.const (.int .u64 0)), (some (5, false))⟩,
    ⟨(some 9), .mv (.tmp 8), (some (5, false))⟩,
    ⟨(some 10), .fieldA 2 (.tmp 1), (some (9, true))⟩,
    ⟨(some 11), .load1 (.int .u64) (.tmp 10), (some (9, true))⟩,
    ⟨(some 12), .bin .lss (.tmp 11) (.const (.int .u64 4294967296)), (some (9, true))⟩,
    ⟨(some 13), .pick (.tmp 9) (.tmp 12) (.const (.bool false)), (some (5, false))⟩,
    ⟨(some 14), .pick (.tmp 5) (.const (.bool true)) (.tmp 13), none⟩,
    ⟨(some 2), .mv (.tmp 14), none⟩]
def k86_2 : VC := .seq k86_1 .ret
def k86_3 : VC := .seq k86_0 k86_2
def fn86 : VFn := ⟨15, k86_3, [.tmp 2]⟩
def k81_0 : VC := .reg [⟨(some 1), .box (.tmp 0), none⟩,
    ⟨(some 2), .mv (.const (.string ⟨⟨[]⟩⟩)), none⟩]
def k81_1 : VC := .reg [⟨(some 3), .loadN [.bool, (.int .u64), (.int .u64)] (.tmp 1), none⟩,
    ⟨(some 4), .callF 86 [(.tmp 3)], none⟩,
    ⟨(some 5), .not (.tmp 4), none⟩]
def k81_2 : VC := .reg [⟨(some 2), .mv (.const (.string ⟨⟨[]⟩⟩)), none⟩]
def k81_3 : VC := .seq k81_2 .ret
def k81_4 : VC := .cond (.tmp 5) k81_3 .skip
def k81_5 : VC := .seq k81_1 k81_4
def k81_6 : VC := .reg [⟨(some 6), .fieldA 0 (.tmp 1), none⟩,
    ⟨(some 7), .load1 .bool (.tmp 6), none⟩]
def k81_7 : VC := .regD [⟨(some 8), .fieldA 1 (.tmp 1), none⟩,
    ⟨(some 9), .load1 (.int .u64) (.tmp 8), none⟩,
    ⟨(some 10), .callF 67 [(.tmp 9), (.const (.int .i64 8))], none⟩,
    ⟨(some 11), .fieldA 2 (.tmp 1), none⟩,
    ⟨(some 12), .load1 (.int .u64) (.tmp 11), none⟩] [(2, 4)] [⟨(some 13), .callF 67 [(.tmp 12), (.const (.int .i64 8))], none⟩,
    ⟨(some 14), .bin .add (.tmp 10) (.tmp 13), none⟩,
    ⟨(some 2), .mv (.tmp 14), none⟩]
def k81_8 : VC := .seq k81_7 .ret
def k81_9 : VC := .cond (.tmp 7) k81_8 .skip
def k81_10 : VC := .seq k81_6 k81_9
def k81_11 : VC := .reg [⟨(some 15), .fieldA 2 (.tmp 1), none⟩,
    ⟨(some 16), .load1 (.int .u64) (.tmp 15), none⟩,
    ⟨(some 17), .callF 67 [(.tmp 16), (.const (.int .i64 4))], none⟩,
    ⟨(some 2), .mv (.tmp 17), none⟩]
def k81_12 : VC := .seq k81_11 .ret
def k81_13 : VC := .seq k81_10 k81_12
def k81_14 : VC := .seq k81_5 k81_13
def k81_15 : VC := .seq k81_0 k81_14
def fn81 : VFn := ⟨18, k81_15, [.tmp 2]⟩
def k67_0 : VC := .reg [⟨(some 4), .mv (.const (.string ⟨⟨[]⟩⟩)), none⟩]
def k67_1 : VC := .reg [⟨(some 5), .mv (.const (.string ⟨⟨[]⟩⟩)), none⟩]
def k67_2 : VC := .reg [⟨(some 6), .mv (.const (.int .i64 0)), none⟩]
def k67_3 : VC := .reg [⟨(some 7), .mv (.tmp 6), none⟩,
    ⟨(some 8), .mv (.tmp 1), none⟩,
    ⟨(some 9), .bin .lss (.tmp 7) (.tmp 8), none⟩,
    ⟨(some 10), .mv (.tmp 9), none⟩,
    ⟨(some 11), .mv (.tmp 1), (some (10, true))⟩,
    ⟨(some 12), .bin .leq (.tmp 11) (.const (.int .i64 8)), (some (10, true))⟩,
    ⟨(some 13), .pick (.tmp 10) (.tmp 12) (.const (.bool false)), none⟩]
def k67_4 : VC := .cond (.tmp 13) .skip (.exit 0)
def k67_5 : VC := .seq k67_3 k67_4
def k67_6 : VC := .reg [⟨(some 16), .mv (.tmp 0), none⟩,
    ⟨(some 17), .bin .rem (.tmp 16) (.const (.int .u64 256)), none⟩,
    ⟨(some 18), .conv .u8 (.tmp 17), none⟩,
    ⟨(some 19), .buildSl 1 1 [(.int .u8 0)] [(0, 1, (.tmp 18))], none⟩,
    ⟨(some 20), .b2s (.tmp 19), none⟩,
    ⟨(some 21), .mv (.tmp 5), none⟩,
    ⟨(some 22), .bin .add (.tmp 20) (.tmp 21), none⟩,
    ⟨(some 5), .mv (.tmp 22), none⟩]
def k67_7 : VC := .reg [⟨(some 23), .mv (.tmp 0), none⟩,
    ⟨(some 24), .bin .quo (.tmp 23) (.const (.int .u64 256)), none⟩,
    ⟨(some 0), .mv (.tmp 24), none⟩]
def k67_8 : VC := .seq k67_6 k67_7
def k67_9 : VC := .block 1 k67_8
def k67_10 : VC := .reg [⟨(some 14), .mv (.tmp 6), none⟩,
    ⟨(some 15), .bin .add (.tmp 14) (.const (.int .i64 1)), none⟩,
    ⟨(some 6), .mv (.tmp 15), none⟩]
def k67_11 : VC := .seq k67_9 k67_10
def k67_12 : VC := .seq k67_5 k67_11
def k67_13 : VC := .loop k67_12
def k67_14 : VC := .block 0 k67_13
def k67_15 : VC := .seq k67_2 k67_14
def k67_16 : VC := .reg [⟨(some 25), .mv (.tmp 5), none⟩,
    ⟨(some 4), .mv (.tmp 25), none⟩]
def k67_17 : VC := .seq k67_16 .ret
def k67_18 : VC := .seq k67_15 k67_17
def k67_19 : VC := .seq k67_1 k67_18
def k67_20 : VC := .seq k67_0 k67_19
def fn67 : VFn := ⟨26, k67_20, [.tmp 4]⟩
def k80_0 : VC := .reg [⟨(some 4), .mv (.const (.string ⟨⟨[]⟩⟩)), none⟩]
def k80_1 : VC := .reg [⟨(some 5), .mv (.tmp 0), none⟩,
    ⟨(some 6), .conv .u64 (.tmp 5), none⟩,
    ⟨(some 7), .mv (.tmp 1), none⟩,
    ⟨(some 8), .callF 67 [(.tmp 6), (.tmp 7)], none⟩,
    ⟨(some 4), .mv (.tmp 8), none⟩]
def k80_2 : VC := .seq k80_1 .ret
def k80_3 : VC := .seq k80_0 k80_2
def fn80 : VFn := ⟨9, k80_3, [.tmp 4]⟩
def k92_0 : VC := .reg [⟨(some 2), .box (.tmp 0), none⟩,
    ⟨(some 4), .mv (.const (.bool false)), none⟩]
def k92_1 : VC := .reg [⟨(some 5), .fieldA 0 (.tmp 2), none⟩,
    ⟨(some 6), .load1 (.int .i64) (.tmp 5), none⟩,
    ⟨(some 7), .bin .lss (.tmp 6) (.const (.int .i64 1)), none⟩,
    ⟨(some 8), .mv (.tmp 7), none⟩,
    ⟨(some 9), .fieldA 0 (.tmp 2), (some (8, false))⟩,
    ⟨(some 10), .load1 (.int .i64) (.tmp 9), (some (8, false))⟩,
    ⟨(some 11), .bin .gtr (.tmp 10) (.const (.int .i64 3)), (some (8, false))⟩,
    ⟨(some 12), .pick (.tmp 8) (.const (.bool true)) (.tmp 11), none⟩,
    ⟨(some 13), .mv (.tmp 12), none⟩,
    ⟨(some 14), .fieldA 1 (.tmp 2), (some (13, false))⟩,
    ⟨(some 15), .load1 (.int .i64) (.tmp 14), (some (13, false))⟩,
    ⟨(some 16), .bin .lss (.tmp 15) (.const (.int .i64 0)), (some (13, false))⟩,
    ⟨(some 17), .pick (.tmp 13) (.const (.bool true)) (.tmp 16), none⟩,
    ⟨(some 18), .mv (.tmp 17), none⟩,
    ⟨(some 19), .fieldA 1 (.tmp 2), (some (18, false))⟩,
    ⟨(some 20), .load1 (.int .i64) (.tmp 19), (some (18, false))⟩,
    ⟨(some 21), .bin .gtr (.tmp 20) (.const (.int .i64 255)), (some (18, false))⟩,
    ⟨(some 22), .pick (.tmp 18) (.const (.bool true)) (.tmp 21), none⟩,
    ⟨(some 23), .mv (.tmp 22), none⟩,
    ⟨(some 24), .fieldA 2 (.tmp 2), (some (23, false))⟩,
    ⟨(some 25), .load1 (.int .i64) (.tmp 24), (some (23, false))⟩,
    ⟨(some 26), .bin .lss (.tmp 25) (.const (.int .i64 0)), (some (23, false))⟩,
    ⟨(some 27), .pick (.tmp 23) (.const (.bool true)) (.tmp 26), none⟩,
    ⟨(some 28), .mv (.tmp 27), none⟩,
    ⟨(some 29), .fieldA 2 (.tmp 2), (some (28, false))⟩,
    ⟨(some 30), .load1 (.int .i64) (.tmp 29), (some (28, false))⟩,
    ⟨(some 31), .bin .gtr (.tmp 30) (.const (.int .i64 65535)), (some (28, false))⟩,
    ⟨(some 32), .pick (.tmp 28) (.const (.bool true)) (.tmp 31), none⟩,
    ⟨(some 33), .mv (.tmp 32), none⟩,
    ⟨(some 34), .fieldA 0 (.tmp 2), (some (33, false))⟩,
    ⟨(some 35), .load1 (.int .i64) (.tmp 34), (some (33, false))⟩,
    ⟨(some 36), .bin .neq (.tmp 35) (.const (.int .i64 2)), (some (33, false))⟩,
    ⟨(some 37), .mv (.tmp 36), (some (33, false))⟩,
    ⟨(some 38), .fieldA 2 (.tmp 2), (some (37, true))⟩,
    ⟨(some 39), .load1 (.int .i64) (.tmp 38), (some (37, true))⟩,
    ⟨(some 40), .bin .neq (.tmp 39) (.const (.int .i64 0)), (some (37, true))⟩,
    ⟨(some 41), .pick (.tmp 37) (.tmp 40) (.const (.bool false)), (some (33, false))⟩,
    ⟨(some 42), .pick (.tmp 33) (.const (.bool true)) (.tmp 41), none⟩,
    ⟨(some 43), .mv (.tmp 42), none⟩,
    ⟨(some 44), .fieldA 3 (.tmp 2), (some (43, false))⟩,
    ⟨(some 45), .load1 .str (.tmp 44), (some (43, false))⟩,
    ⟨(some 46), .lenS (.tmp 45), (some (43, false))⟩,
    ⟨(some 47), .bin .gtr (.tmp 46) (.const (.int .i64 1232)), (some (43, false))⟩,
    ⟨(some 48), .pick (.tmp 43) (.const (.bool true)) (.tmp 47), none⟩]
def k92_2 : VC := .reg [⟨(some 4), .mv (.const (.bool false)), none⟩]
def k92_3 : VC := .seq k92_2 .ret
def k92_4 : VC := .cond (.tmp 48) k92_3 .skip
def k92_5 : VC := .seq k92_1 k92_4
def k92_6 : VC := .reg [⟨(some 49), .mv (.tmp 1), none⟩]
def k92_7 : VC := .reg [⟨(some 50), .fieldA 0 (.tmp 2), none⟩,
    ⟨(some 51), .load1 (.int .i64) (.tmp 50), none⟩,
    ⟨(some 52), .bin .neq (.tmp 51) (.const (.int .i64 2)), none⟩,
    ⟨(some 53), .mv (.tmp 52), none⟩,
    ⟨(some 54), .fieldA 1 (.tmp 2), (some (53, false))⟩,
    ⟨(some 55), .load1 (.int .i64) (.tmp 54), (some (53, false))⟩,
    ⟨(some 56), .bin .eql (.tmp 55) (.const (.int .i64 0)), (some (53, false))⟩,
    ⟨(some 57), .pick (.tmp 53) (.const (.bool true)) (.tmp 56), none⟩,
    ⟨(some 4), .mv (.tmp 57), none⟩]
def k92_8 : VC := .seq k92_7 .ret
def k92_9 : VC := .cond (.tmp 49) k92_8 .skip
def k92_10 : VC := .seq k92_6 k92_9
def k92_11 : VC := .reg [⟨(some 58), .fieldA 0 (.tmp 2), none⟩,
    ⟨(some 59), .load1 (.int .i64) (.tmp 58), none⟩,
    ⟨(some 60), .bin .eql (.tmp 59) (.const (.int .i64 3)), none⟩,
    ⟨(some 61), .mv (.tmp 60), none⟩,
    ⟨(some 62), .fieldA 0 (.tmp 2), (some (61, false))⟩,
    ⟨(some 63), .load1 (.int .i64) (.tmp 62), (some (61, false))⟩,
    ⟨(some 64), .bin .eql (.tmp 63) (.const (.int .i64 2)), (some (61, false))⟩,
    ⟨(some 65), .fieldA 1 (.tmp 2), (some (61, false))⟩,
    ⟨(some 66), .load1 (.int .i64) (.tmp 65), (some (61, false))⟩,
    ⟨(some 67), .bin .eql (.tmp 66) (.const (.int .i64 4)), (some (61, false))⟩,
    ⟨(some 68), .eqB false (.tmp 64) (.tmp 67), (some (61, false))⟩,
    ⟨(some 69), .pick (.tmp 61) (.const (.bool true)) (.tmp 68), none⟩,
    ⟨(some 4), .mv (.tmp 69), none⟩]
def k92_12 : VC := .seq k92_11 .ret
def k92_13 : VC := .seq k92_10 k92_12
def k92_14 : VC := .seq k92_5 k92_13
def k92_15 : VC := .seq k92_0 k92_14
def fn92 : VFn := ⟨70, k92_15, [.tmp 4]⟩
def k93_0 : VC := .reg [⟨(some 4), .mv (.const (.int .i64 0)), none⟩]
def k93_1 : VC := .reg [⟨(some 5), .mv (.tmp 0), none⟩]
def k93_2 : VC := .reg [⟨(some 6), .mv (.tmp 1), none⟩,
    ⟨(some 4), .mv (.tmp 6), none⟩]
def k93_3 : VC := .seq k93_2 .ret
def k93_4 : VC := .cond (.tmp 5) k93_3 .skip
def k93_5 : VC := .seq k93_1 k93_4
def k93_6 : VC := .reg [⟨(some 7), .mv (.tmp 1), none⟩,
    ⟨(some 8), .bin .eql (.tmp 7) (.const (.int .i64 3)), none⟩]
def k93_7 : VC := .reg [⟨(some 4), .mv (.const (.int .i64 11)), none⟩]
def k93_8 : VC := .seq k93_7 .ret
def k93_9 : VC := .cond (.tmp 8) k93_8 .skip
def k93_10 : VC := .seq k93_6 k93_9
def k93_11 : VC := .reg [⟨(some 4), .mv (.const (.int .i64 3)), none⟩]
def k93_12 : VC := .seq k93_11 .ret
def k93_13 : VC := .seq k93_10 k93_12
def k93_14 : VC := .seq k93_5 k93_13
def k93_15 : VC := .seq k93_0 k93_14
def fn93 : VFn := ⟨9, k93_15, [.tmp 4]⟩
def k94_0 : VC := .reg [⟨(some 3), .box (.tmp 0), none⟩,
    ⟨(some 4), .box (.tmp 1), none⟩,
    ⟨(some 6), .mv (.const (.string ⟨⟨[]⟩⟩)), none⟩]
def k94_1 : VC := .reg [⟨(some 7), .fieldA 0 (.tmp 3), none⟩,
    ⟨(some 8), .load1 .bool (.tmp 7), none⟩]
def k94_2 : VC := .reg [⟨(some 9), .loadN [.bool, (.int .u64), (.int .u64)] (.tmp 3), none⟩,
    ⟨(some 10), .loadN [.bool, (.int .u64), (.int .u64)] (.tmp 4), none⟩,
    ⟨(some 11), .mv (.tmp 2), none⟩,
    ⟨(some 12), .callF 28 [(.tmp 9), (.tmp 10), (.const (.int .i64 58)), (.tmp 11)], none⟩,
    ⟨(some 6), .mv (.tmp 12), none⟩]
def k94_3 : VC := .seq k94_2 .ret
def k94_4 : VC := .cond (.tmp 8) k94_3 .skip
def k94_5 : VC := .seq k94_1 k94_4
def k94_6 : VC := .reg [⟨(some 6), .mv (.const (.string ⟨⟨[]⟩⟩)), none⟩]
def k94_7 : VC := .seq k94_6 .ret
def k94_8 : VC := .seq k94_5 k94_7
def k94_9 : VC := .seq k94_0 k94_8
def fn94 : VFn := ⟨13, k94_9, [.tmp 6]⟩
def k68_0 : VC := .reg [⟨(some 2), .mv (.const (.int .i64 0)), none⟩]
def k68_1 : VC := .reg [⟨(some 3), .mv (.tmp 0), none⟩,
    ⟨(some 4), .callF 75 [(.tmp 3)], none⟩,
    ⟨(some 5), .bin .sub (.const (.int .i64 65535)) (.tmp 4), none⟩,
    ⟨(some 2), .mv (.tmp 5), none⟩]
def k68_2 : VC := .seq k68_1 .ret
def k68_3 : VC := .seq k68_0 k68_2
def fn68 : VFn := ⟨6, k68_3, [.tmp 2]⟩
def k75_0 : VC := .reg [⟨(some 2), .mv (.const (.int .i64 0)), none⟩]
def k75_1 : VC := .reg [⟨(some 3), .mv (.tmp 0), none⟩,
    ⟨(some 4), .callF 116 [(.tmp 3)], none⟩,
    ⟨(some 5), .callF 115 [(.tmp 4)], none⟩,
    ⟨(some 2), .mv (.tmp 5), none⟩]
def k75_2 : VC := .seq k75_1 .ret
def k75_3 : VC := .seq k75_0 k75_2
def fn75 : VFn := ⟨6, k75_3, [.tmp 2]⟩
def k116_0 : VC := .reg [⟨(some 2), .mv (.const (.slice none 0 0)), none⟩]
def k116_1 : VC := .reg [⟨(some 5), .mv (.tmp 0), none⟩,
    ⟨(some 6), .lenS (.tmp 5), none⟩,
    ⟨(some 7), .bin .rem (.tmp 6) (.const (.int .i64 2)), none⟩,
    ⟨(some 8), .bin .eql (.tmp 7) (.const (.int .i64 1)), none⟩]
def k116_2 : VC := .reg [⟨(some 9), .mv (.tmp 0), none⟩,
    ⟨(some 10), .bin .add (.tmp 9) (.const (.string ⟨⟨[0]⟩⟩)), none⟩,
    ⟨(some 0), .mv (.tmp 10), none⟩]
def k116_3 : VC := .cond (.tmp 8) k116_2 .skip
def k116_4 : VC := .seq k116_1 k116_3
def k116_5 : VC := .reg [⟨(some 3), .mv (.const (.slice none 0 0)), none⟩]
def k116_6 : VC := .reg [⟨(some 4), .mv (.const (.int .i64 0)), none⟩]
def k116_7 : VC := .reg [⟨(some 11), .mv (.tmp 4), none⟩,
    ⟨(some 12), .mv (.tmp 0), none⟩,
    ⟨(some 13), .lenS (.tmp 12), none⟩,
    ⟨(some 14), .bin .lss (.tmp 11) (.tmp 13), none⟩]
def k116_8 : VC := .cond (.tmp 14) .skip (.exit 0)
def k116_9 : VC := .seq k116_7 k116_8
def k116_10 : VC := .reg [⟨(some 17), .mv (.tmp 3), none⟩,
    ⟨(some 18), .mv (.tmp 0), none⟩,
    ⟨(some 19), .mv (.tmp 4), none⟩,
    ⟨(some 20), .callF 74 [(.tmp 18), (.tmp 19), (.const (.int .i64 2))], none⟩,
    ⟨(some 21), .buildSl 1 1 [(.int .i64 0)] [(0, 1, (.tmp 20))], none⟩,
    ⟨(some 22), .app 3 1 8 (.tmp 17) (.tmp 21), none⟩,
    ⟨(some 3), .mv (.tmp 22), none⟩]
def k116_11 : VC := .block 1 k116_10
def k116_12 : VC := .reg [⟨(some 15), .mv (.tmp 4), none⟩,
    ⟨(some 16), .bin .add (.tmp 15) (.const (.int .i64 2)), none⟩,
    ⟨(some 4), .mv (.tmp 16), none⟩]
def k116_13 : VC := .seq k116_11 k116_12
def k116_14 : VC := .seq k116_9 k116_13
def k116_15 : VC := .loop k116_14
def k116_16 : VC := .block 0 k116_15
def k116_17 : VC := .seq k116_6 k116_16
def k116_18 : VC := .reg [⟨(some 23), .mv (.tmp 3), none⟩,
    ⟨(some 2), .mv (.tmp 23), none⟩]
def k116_19 : VC := .seq k116_18 .ret
def k116_20 : VC := .seq k116_17 k116_19
def k116_21 : VC := .seq k116_5 k116_20
def k116_22 : VC := .seq k116_4 k116_21
def k116_23 : VC := .seq k116_0 k116_22
def fn116 : VFn := ⟨24, k116_23, [.tmp 2]⟩
def k74_0 : VC := .reg [⟨(some 6), .mv (.const (.int .i64 0)), none⟩]
def k74_1 : VC := .reg [⟨(some 10), .mv (.tmp 0), none⟩,
    ⟨(some 11), .mv (.tmp 1), none⟩,
    ⟨(some 12), .mv (.tmp 2), none⟩,
    ⟨(some 13), .callF 114 [(.tmp 10), (.tmp 11), (.tmp 12)], none⟩,
    ⟨(some 9), .mv (.tmp 13), none⟩,
    ⟨(some 14), .extract 0 (.tmp 9), none⟩,
    ⟨(some 15), .extract 1 (.tmp 9), none⟩,
    ⟨(some 7), .mv (.tmp 14), none⟩,
    ⟨(some 8), .mv (.tmp 15), none⟩]
def k74_2 : VC := .reg [⟨(some 16), .mv (.tmp 7), none⟩,
    ⟨(some 17), .conv .i64 (.tmp 16), none⟩,
    ⟨(some 6), .mv (.tmp 17), none⟩]
def k74_3 : VC := .seq k74_2 .ret
def k74_4 : VC := .seq k74_1 k74_3
def k74_5 : VC := .seq k74_0 k74_4
def fn74 : VFn := ⟨18, k74_5, [.tmp 6]⟩
def k114_0 : VC := .reg [⟨(some 6), .mv (.const (.int .u64 0)), none⟩,
    ⟨(some 7), .mv (.const (.bool false)), none⟩]
def k114_1 : VC := .reg [⟨(some 10), .mv (.tmp 2), none⟩,
    ⟨(some 11), .bin .lss (.tmp 10) (.const (.int .i64 1)), none⟩,
    ⟨(some 12), .mv (.tmp 11), none⟩,
    ⟨(some 13), .mv (.tmp 2), (some (12, false))⟩,
    ⟨(some 14), .bin .gtr (.tmp 13) (.const (.int .i64 8)), (some (12, false))⟩,
    ⟨(some 15), .pick (.tmp 12) (.const (.bool true)) (.tmp 14), none⟩,
    ⟨(some 16), .mv (.tmp 15), none⟩,
    ⟨(some 17), .mv (.tmp 1), (some (16, false))⟩,
    ⟨(some 18), .bin .lss (.tmp 17) (.const (.int .i64 0)), (some (16, false))⟩,
    ⟨(some 19), .pick (.tmp 16) (.const (.bool true)) (.tmp 18), none⟩,
    ⟨(some 20), .mv (.tmp 19), none⟩,
    ⟨(some 21), .mv (.tmp 1), (some (20, false))⟩,
    ⟨(some 22), .mv (.tmp 0), (some (20, false))⟩,
    ⟨(some 23), .lenS (.tmp 22), (some (20, false))⟩,
    ⟨(some 24), .bin .gtr (.tmp 21) (.tmp 23), (some (20, false))⟩,
    ⟨(some 25), .pick (.tmp 20) (.const (.bool true)) (.tmp 24), none⟩,
    ⟨(some 26), .mv (.tmp 25), none⟩,
    ⟨(some 27), .mv (.tmp 2), (some (26, false))⟩,
    ⟨(some 28), .mv (.tmp 0), (some (26, false))⟩,
    ⟨(some 29), .lenS (.tmp 28), (some (26, false))⟩,
    ⟨(some 30), .mv (.tmp 1), (some (26, false))⟩,
    ⟨(some 31), .bin .sub (.tmp 29) (.tmp 30), (some (26, false))⟩,
    ⟨(some 32), .bin .gtr (.tmp 27) (.tmp 31), (some (26, false))⟩,
    ⟨(some 33), .pick (.tmp 26) (.const (.bool true)) (.tmp 32), none⟩]
def k114_2 : VC := .reg [⟨(some 6), .mv (.const (.int .u64 0)), none⟩,
    ⟨(some 7), .mv (.const (.bool false)), none⟩]
def k114_3 : VC := .seq k114_2 .ret
def k114_4 : VC := .cond (.tmp 33) k114_3 .skip
def k114_5 : VC := .seq k114_1 k114_4
def k114_6 : VC := .reg [⟨(some 8), .mv (.const (.int .u64 0)), none⟩]
def k114_7 : VC := .reg [⟨(some 9), .mv (.const (.int .i64 0)), none⟩]
def k114_8 : VC := .reg [⟨(some 34), .mv (.tmp 9), none⟩,
    ⟨(some 35), .mv (.tmp 2), none⟩,
    ⟨(some 36), .bin .lss (.tmp 34) (.tmp 35), none⟩]
def k114_9 : VC := .cond (.tmp 36) .skip (.exit 0)
def k114_10 : VC := .seq k114_8 k114_9
def k114_11 : VC := .reg [⟨(some 39), .mv (.tmp 8), none⟩,
    ⟨(some 40), .bin .mul (.tmp 39) (.const (.int .u64 256)), none⟩,
    ⟨(some 41), .mv (.tmp 0), none⟩,
    ⟨(some 42), .mv (.tmp 1), none⟩,
    ⟨(some 43), .mv (.tmp 9), none⟩,
    ⟨(some 44), .bin .add (.tmp 42) (.tmp 43), none⟩,
    ⟨(some 45), .idxS (.tmp 41) (.tmp 44), none⟩,
    ⟨(some 46), .conv .u64 (.tmp 45), none⟩,
    ⟨(some 47), .bin .add (.tmp 40) (.tmp 46), none⟩,
    ⟨(some 8), .mv (.tmp 47), none⟩]
def k114_12 : VC := .block 1 k114_11
def k114_13 : VC := .reg [⟨(some 37), .mv (.tmp 9), none⟩,
    ⟨(some 38), .bin .add (.tmp 37) (.const (.int .i64 1)), none⟩,
    ⟨(some 9), .mv (.tmp 38), none⟩]
def k114_14 : VC := .seq k114_12 k114_13
def k114_15 : VC := .seq k114_10 k114_14
def k114_16 : VC := .loop k114_15
def k114_17 : VC := .block 0 k114_16
def k114_18 : VC := .seq k114_7 k114_17
def k114_19 : VC := .reg [⟨(some 48), .mv (.tmp 8), none⟩,
    ⟨(some 6), .mv (.tmp 48), none⟩,
    ⟨(some 7), .mv (.const (.bool true)), none⟩]
def k114_20 : VC := .seq k114_19 .ret
def k114_21 : VC := .seq k114_18 k114_20
def k114_22 : VC := .seq k114_6 k114_21
def k114_23 : VC := .seq k114_5 k114_22
def k114_24 : VC := .seq k114_0 k114_23
def fn114 : VFn := ⟨49, k114_24, [.tmp 6, .tmp 7]⟩
def k115_0 : VC := .reg [⟨(some 2), .mv (.const (.int .i64 0)), none⟩]
def k115_1 : VC := .reg [⟨(some 3), .mv (.const (.int .i64 0)), none⟩]
def k115_2 : VC := .reg [⟨(some 4), .mv (.const (.int .i64 0)), none⟩]
def k115_3 : VC := .reg [⟨(some 5), .mv (.tmp 4), none⟩,
    ⟨(some 6), .mv (.tmp 0), none⟩,
    ⟨(some 7), .lenL (.tmp 6), none⟩,
    ⟨(some 8), .bin .lss (.tmp 5) (.tmp 7), none⟩]
def k115_4 : VC := .cond (.tmp 8) .skip (.exit 0)
def k115_5 : VC := .seq k115_3 k115_4
def k115_6 : VC := .reg [⟨(some 11), .mv (.tmp 3), none⟩,
    ⟨(some 12), .mv (.tmp 0), none⟩,
    ⟨(some 13), .mv (.tmp 4), none⟩,
    ⟨(some 14), .idxAL 1 (.tmp 12) (.tmp 13), none⟩,
    ⟨(some 15), .load1 (.int .i64) (.tmp 14), none⟩,
    ⟨(some 16), .bin .add (.tmp 11) (.tmp 15), none⟩,
    ⟨(some 3), .mv (.tmp 16), none⟩]
def k115_7 : VC := .block 1 k115_6
def k115_8 : VC := .reg [⟨(some 9), .mv (.tmp 4), none⟩,
    ⟨(some 10), .bin .add (.tmp 9) (.const (.int .i64 1)), none⟩,
    ⟨(some 4), .mv (.tmp 10), none⟩]
def k115_9 : VC := .seq k115_7 k115_8
def k115_10 : VC := .seq k115_5 k115_9
def k115_11 : VC := .loop k115_10
def k115_12 : VC := .block 0 k115_11
def k115_13 : VC := .seq k115_2 k115_12
def k115_14 : VC := .reg [⟨(some 17), .mv (.tmp 3), none⟩,
    ⟨(some 18), .bin .gtr (.tmp 17) (.const (.int .i64 65535)), none⟩]
def k115_15 : VC := .cond (.tmp 18) .skip (.exit 2)
def k115_16 : VC := .seq k115_14 k115_15
def k115_17 : VC := .reg [⟨(some 19), .mv (.tmp 3), none⟩,
    ⟨(some 20), .bin .rem (.tmp 19) (.const (.int .i64 65536)), none⟩,
    ⟨(some 21), .mv (.tmp 3), none⟩,
    ⟨(some 22), .bin .quo (.tmp 21) (.const (.int .i64 65536)), none⟩,
    ⟨(some 23), .bin .add (.tmp 20) (.tmp 22), none⟩,
    ⟨(some 3), .mv (.tmp 23), none⟩]
def k115_18 : VC := .block 3 k115_17
def k115_19 : VC := .seq k115_16 k115_18
def k115_20 : VC := .loop k115_19
def k115_21 : VC := .block 2 k115_20
def k115_22 : VC := .reg [⟨(some 24), .mv (.tmp 3), none⟩,
    ⟨(some 2), .mv (.tmp 24), none⟩]
def k115_23 : VC := .seq k115_22 .ret
def k115_24 : VC := .seq k115_21 k115_23
def k115_25 : VC := .seq k115_13 k115_24
def k115_26 : VC := .seq k115_1 k115_25
def k115_27 : VC := .seq k115_0 k115_26
def fn115 : VFn := ⟨25, k115_27, [.tmp 2]⟩
def k69_0 : VC := .reg [⟨(some 8), .mv (.const (.string ⟨⟨[]⟩⟩)), none⟩]
def k69_1 : VC := .reg [⟨(some 12), .mv (.tmp 0), none⟩,
    ⟨(some 13), .mv (.tmp 1), none⟩,
    ⟨(some 14), .mv (.tmp 2), none⟩,
    ⟨(some 15), .callF 114 [(.tmp 12), (.tmp 13), (.tmp 14)], none⟩,
    ⟨(some 11), .mv (.tmp 15), none⟩,
    ⟨(some 16), .extract 0 (.tmp 11), none⟩,
    ⟨(some 17), .extract 1 (.tmp 11), none⟩,
    ⟨(some 9), .mv (.tmp 16), none⟩,
    ⟨(some 10), .mv (.tmp 17), none⟩]
def k69_2 : VC := .reg [⟨(some 18), .mv (.tmp 10), none⟩,
    ⟨(some 19), .not (.tmp 18), none⟩]
def k69_3 : VC := .reg [⟨(some 20), .mv (.tmp 0), none⟩,
    ⟨(some 8), .mv (.tmp 20), none⟩]
def k69_4 : VC := .seq k69_3 .ret
def k69_5 : VC := .cond (.tmp 19) k69_4 .skip
def k69_6 : VC := .seq k69_2 k69_5
def k69_7 : VC := .regD [⟨(some 21), .mv (.tmp 0), none⟩,
    ⟨(some 22), .mv (.tmp 1), none⟩,
    ⟨(some 23), .sliceS (.tmp 21) none (some (.tmp 22)), none⟩,
    ⟨(some 24), .mv (.tmp 3), none⟩,
    ⟨(some 25), .mv (.tmp 2), none⟩,
    ⟨(some 26), .callF 67 [(.tmp 24), (.tmp 25)], none⟩,
    ⟨(some 27), .bin .add (.tmp 23) (.tmp 26), none⟩,
    ⟨(some 28), .mv (.tmp 0), none⟩,
    ⟨(some 29), .mv (.tmp 1), none⟩,
    ⟨(some 30), .mv (.tmp 2), none⟩,
    ⟨(some 31), .bin .add (.tmp 29) (.tmp 30), none⟩,
    ⟨(some 32), .sliceS (.tmp 28) (some (.tmp 31)) none, none⟩] [] [⟨(some 33), .bin .add (.tmp 27) (.tmp 32), none⟩,
    ⟨(some 8), .mv (.tmp 33), none⟩]
def k69_8 : VC := .seq k69_7 .ret
def k69_9 : VC := .seq k69_6 k69_8
def k69_10 : VC := .seq k69_1 k69_9
def k69_11 : VC := .seq k69_0 k69_10
def fn69 : VFn := ⟨34, k69_11, [.tmp 8]⟩
def k35_0 : VC := .reg [⟨(some 4), .box (.tmp 1), none⟩,
    ⟨(some 5), .box (.tmp 2), none⟩,
    ⟨(some 6), .alloc [(.int .i64 0), (.int .i64 0), (.int .i64 0), (.string ⟨⟨[]⟩⟩)], none⟩,
    ⟨(some 7), .mv (.const (.int .i64 0)), none⟩]
def k35_1 : VC := .reg [⟨(some 9), .mv (.tmp 0), none⟩,
    ⟨(some 10), .lenS (.tmp 9), none⟩,
    ⟨(some 11), .bin .lss (.tmp 10) (.const (.int .i64 8)), none⟩]
def k35_2 : VC := .reg [⟨(some 12), .build [(.int .i64 0), (.int .i64 0), (.int .i64 0), (.string ⟨⟨[]⟩⟩)] [], none⟩,
    ⟨none, .store 4 (.tmp 6) (.tmp 12), none⟩,
    ⟨(some 7), .mv (.const (.int .i64 2)), none⟩]
def k35_3 : VC := .seq k35_2 .ret
def k35_4 : VC := .cond (.tmp 11) k35_3 .skip
def k35_5 : VC := .seq k35_1 k35_4
def k35_6 : VC := .reg [⟨(some 13), .loadN [.bool, (.int .u64), (.int .u64)] (.tmp 4), none⟩,
    ⟨(some 14), .loadN [.bool, (.int .u64), (.int .u64)] (.tmp 5), none⟩,
    ⟨(some 15), .callF 91 [(.tmp 13), (.tmp 14)], none⟩,
    ⟨(some 16), .not (.tmp 15), none⟩]
def k35_7 : VC := .reg [⟨(some 17), .build [(.int .i64 0), (.int .i64 0), (.int .i64 0), (.string ⟨⟨[]⟩⟩)] [], none⟩,
    ⟨none, .store 4 (.tmp 6) (.tmp 17), none⟩,
    ⟨(some 7), .mv (.const (.int .i64 1)), none⟩]
def k35_8 : VC := .seq k35_7 .ret
def k35_9 : VC := .cond (.tmp 16) k35_8 .skip
def k35_10 : VC := .seq k35_6 k35_9
def k35_11 : VC := .reg [⟨(some 18), .loadN [.bool, (.int .u64), (.int .u64)] (.tmp 4), none⟩,
    ⟨(some 19), .loadN [.bool, (.int .u64), (.int .u64)] (.tmp 5), none⟩,
    ⟨(some 20), .mv (.tmp 0), none⟩,
    ⟨(some 21), .lenS (.tmp 20), none⟩,
    ⟨(some 22), .callF 94 [(.tmp 18), (.tmp 19), (.tmp 21)], none⟩,
    ⟨(some 23), .mv (.tmp 0), none⟩,
    ⟨(some 24), .bin .add (.tmp 22) (.tmp 23), none⟩,
    ⟨(some 25), .callF 75 [(.tmp 24)], none⟩,
    ⟨(some 26), .bin .neq (.tmp 25) (.const (.int .i64 65535)), none⟩]
def k35_12 : VC := .reg [⟨(some 27), .build [(.int .i64 0), (.int .i64 0), (.int .i64 0), (.string ⟨⟨[]⟩⟩)] [], none⟩,
    ⟨none, .store 4 (.tmp 6) (.tmp 27), none⟩,
    ⟨(some 7), .mv (.const (.int .i64 4)), none⟩]
def k35_13 : VC := .seq k35_12 .ret
def k35_14 : VC := .cond (.tmp 26) k35_13 .skip
def k35_15 : VC := .seq k35_11 k35_14
def k35_16 : VC := .reg [⟨(some 28), .mv (.tmp 0), none⟩,
    ⟨(some 29), .lenS (.tmp 28), none⟩,
    ⟨(some 30), .bin .gtr (.tmp 29) (.const (.int .i64 1240)), none⟩]
def k35_17 : VC := .reg [⟨(some 31), .build [(.int .i64 0), (.int .i64 0), (.int .i64 0), (.string ⟨⟨[]⟩⟩)] [], none⟩,
    ⟨none, .store 4 (.tmp 6) (.tmp 31), none⟩,
    ⟨(some 7), .mv (.const (.int .i64 5)), none⟩]
def k35_18 : VC := .seq k35_17 .ret
def k35_19 : VC := .cond (.tmp 30) k35_18 .skip
def k35_20 : VC := .seq k35_16 k35_19
def k35_21 : VC := .regD [⟨(some 32), .fieldA 0 (.tmp 4), none⟩,
    ⟨(some 33), .load1 .bool (.tmp 32), none⟩,
    ⟨(some 34), .mv (.tmp 0), none⟩,
    ⟨(some 35), .idxS (.tmp 34) (.const (.int .i64 0)), none⟩,
    ⟨(some 36), .conv .i64 (.tmp 35), none⟩,
    ⟨(some 37), .mv (.tmp 0), none⟩,
    ⟨(some 38), .idxS (.tmp 37) (.const (.int .i64 1)), none⟩,
    ⟨(some 39), .conv .i64 (.tmp 38), none⟩,
    ⟨(some 40), .callF 97 [(.tmp 33), (.tmp 36), (.tmp 39)], none⟩,
    ⟨(some 41), .mv (.tmp 0), none⟩,
    ⟨(some 42), .idxS (.tmp 41) (.const (.int .i64 1)), none⟩,
    ⟨(some 43), .conv .i64 (.tmp 42), none⟩,
    ⟨(some 44), .mv (.tmp 0), none⟩,
    ⟨(some 45), .sliceS (.tmp 44) (some (.const (.int .i64 8))) none, none⟩,
    ⟨(some 46), .build [(.int .i64 0), (.int .i64 0), (.int .i64 0), (.string ⟨⟨[]⟩⟩)] [(0, 1, (.tmp 40)), (1, 1, (.tmp 43)), (3, 1, (.tmp 45))], none⟩,
    ⟨(some 8), .alloc [(.int .i64 0), (.int .i64 0), (.int .i64 0), (.string ⟨⟨[]⟩⟩)], none⟩] [(1, 15), (8, 15)] [⟨none, .store 4 (.tmp 8) (.tmp 46), none⟩]
def k35_22 : VC := .reg [⟨(some 47), .fieldA 0 (.tmp 8), none⟩,
    ⟨(some 48), .load1 (.int .i64) (.tmp 47), none⟩,
    ⟨(some 49), .bin .eql (.tmp 48) (.const (.int .i64 2)), none⟩]
def k35_23 : VC := .reg [⟨(some 50), .mv (.tmp 0), none⟩,
    ⟨(some 51), .callF 74 [(.tmp 50), (.const (.int .i64 6)), (.const (.int .i64 2))], none⟩,
    ⟨(some 52), .fieldA 2 (.tmp 8), none⟩,
    ⟨none, .store 1 (.tmp 52) (.tmp 51), none⟩]
def k35_24 : VC := .cond (.tmp 49) k35_23 .skip
def k35_25 : VC := .seq k35_22 k35_24
def k35_26 : VC := .reg [⟨(some 53), .loadN [(.int .i64), (.int .i64), (.int .i64), .str] (.tmp 8), none⟩,
    ⟨none, .store 4 (.tmp 6) (.tmp 53), none⟩,
    ⟨(some 7), .mv (.const (.int .i64 0)), none⟩]
def k35_27 : VC := .seq k35_26 .ret
def k35_28 : VC := .seq k35_25 k35_27
def k35_29 : VC := .seq k35_21 k35_28
def k35_30 : VC := .seq k35_20 k35_29
def k35_31 : VC := .seq k35_15 k35_30
def k35_32 : VC := .seq k35_10 k35_31
def k35_33 : VC := .seq k35_5 k35_32
def k35_34 : VC := .seq k35_0 k35_33
def fn35 : VFn := ⟨54, k35_34, [.cell 6 [(.int .i64), (.int .i64), (.int .i64), .str] true, .tmp 7]⟩
def k97_0 : VC := .reg [⟨(some 6), .mv (.const (.int .i64 0)), none⟩]
def k97_1 : VC := .reg [⟨(some 7), .mv (.tmp 0), none⟩]
def k97_2 : VC := .reg [⟨(some 8), .mv (.tmp 1), none⟩,
    ⟨(some 9), .bin .geq (.tmp 8) (.const (.int .i64 1)), none⟩,
    ⟨(some 10), .mv (.tmp 9), none⟩,
    ⟨(some 11), .mv (.tmp 1), (some (10, true))⟩,
    ⟨(some 12), .bin .leq (.tmp 11) (.const (.int .i64 3)), (some (10, true))⟩,
    ⟨(some 13), .pick (.tmp 10) (.tmp 12) (.const (.bool false)), none⟩,
    ⟨(some 14), .mv (.tmp 13), none⟩,
    ⟨(some 15), .mv (.tmp 1), (some (14, true))⟩,
    ⟨(some 16), .bin .neq (.tmp 15) (.const (.int .i64 2)), (some (14, true))⟩,
    ⟨(some 17), .mv (.tmp 16), (some (14, true))⟩,
    ⟨(some 18), .mv (.tmp 2), (some (17, false))⟩,
    ⟨(some 19), .bin .eql (.tmp 18) (.const (.int .i64 0)), (some (17, false))⟩,
    ⟨(some 20), .pick (.tmp 17) (.const (.bool true)) (.tmp 19), (some (14, true))⟩,
    ⟨(some 21), .pick (.tmp 14) (.tmp 20) (.const (.bool false)), none⟩]
def k97_3 : VC := .reg [⟨(some 22), .mv (.tmp 1), none⟩,
    ⟨(some 6), .mv (.tmp 22), none⟩]
def k97_4 : VC := .seq k97_3 .ret
def k97_5 : VC := .cond (.tmp 21) k97_4 .skip
def k97_6 : VC := .seq k97_2 k97_5
def k97_7 : VC := .reg [⟨(some 6), .mv (.const (.int .i64 4)), none⟩]
def k97_8 : VC := .seq k97_7 .ret
def k97_9 : VC := .seq k97_6 k97_8
def k97_10 : VC := .cond (.tmp 7) k97_9 .skip
def k97_11 : VC := .seq k97_1 k97_10
def k97_12 : VC := .reg [⟨(some 23), .mv (.tmp 1), none⟩,
    ⟨(some 24), .bin .eql (.tmp 23) (.const (.int .i64 11)), none⟩]
def k97_13 : VC := .reg [⟨(some 6), .mv (.const (.int .i64 3)), none⟩]
def k97_14 : VC := .seq k97_13 .ret
def k97_15 : VC := .cond (.tmp 24) k97_14 .skip
def k97_16 : VC := .seq k97_12 k97_15
def k97_17 : VC := .reg [⟨(some 25), .mv (.tmp 1), none⟩,
    ⟨(some 26), .bin .neq (.tmp 25) (.const (.int .i64 3)), none⟩]
def k97_18 : VC := .reg [⟨(some 6), .mv (.const (.int .i64 4)), none⟩]
def k97_19 : VC := .seq k97_18 .ret
def k97_20 : VC := .cond (.tmp 26) k97_19 .skip
def k97_21 : VC := .seq k97_17 k97_20
def k97_22 : VC := .reg [⟨(some 27), .mv (.tmp 2), none⟩,
    ⟨(some 28), .bin .eql (.tmp 27) (.const (.int .i64 4)), none⟩]
def k97_23 : VC := .reg [⟨(some 6), .mv (.const (.int .i64 2)), none⟩]
def k97_24 : VC := .seq k97_23 .ret
def k97_25 : VC := .cond (.tmp 28) k97_24 .skip
def k97_26 : VC := .seq k97_22 k97_25
def k97_27 : VC := .reg [⟨(some 6), .mv (.const (.int .i64 1)), none⟩]
def k97_28 : VC := .seq k97_27 .ret
def k97_29 : VC := .seq k97_26 k97_28
def k97_30 : VC := .seq k97_21 k97_29
def k97_31 : VC := .seq k97_16 k97_30
def k97_32 : VC := .seq k97_11 k97_31
def k97_33 : VC := .seq k97_0 k97_32
def fn97 : VFn := ⟨29, k97_33, [.tmp 6]⟩
def k36_0 : VC := .reg [⟨(some 3), .box (.tmp 0), none⟩,
    ⟨(some 4), .box (.tmp 1), none⟩,
    ⟨(some 5), .box (.tmp 2), none⟩,
    ⟨(some 6), .mv (.const (.string ⟨⟨[]⟩⟩)), none⟩,
    ⟨(some 7), .mv (.const (.int .i64 0)), none⟩]
def k36_1 : VC := .reg [⟨(some 11), .loadN [(.int .i64), (.int .i64), (.int .i64), .str] (.tmp 3), none⟩,
    ⟨(some 12), .loadN [.bool, (.int .u64), (.int .u64)] (.tmp 4), none⟩,
    ⟨(some 13), .loadN [.bool, (.int .u64), (.int .u64)] (.tmp 5), none⟩,
    ⟨(some 14), .callF 31 [(.tmp 11), (.tmp 12), (.tmp 13)], none⟩,
    ⟨(some 10), .mv (.tmp 14), none⟩,
    ⟨(some 15), .extract 0 (.tmp 10), none⟩,
    ⟨(some 16), .extract 1 (.tmp 10), none⟩,
    ⟨(some 8), .mv (.tmp 15), none⟩,
    ⟨(some 9), .mv (.tmp 16), none⟩]
def k36_2 : VC := .reg [⟨(some 18), .mv (.tmp 9), none⟩,
    ⟨(some 19), .bin .neq (.tmp 18) (.const (.int .i64 0)), none⟩,
    ⟨(some 17), .mv (.tmp 19), none⟩]
def k36_3 : VC := .reg [⟨(some 20), .mv (.tmp 9), none⟩,
    ⟨(some 6), .mv (.const (.string ⟨⟨[]⟩⟩)), none⟩,
    ⟨(some 7), .mv (.tmp 20), none⟩]
def k36_4 : VC := .seq k36_3 .ret
def k36_5 : VC := .reg [⟨(some 22), .fieldA 0 (.tmp 4), none⟩,
    ⟨(some 23), .load1 .bool (.tmp 22), none⟩,
    ⟨(some 21), .mv (.tmp 23), none⟩]
def k36_6 : VC := .reg [⟨(some 24), .loadN [.bool, (.int .u64), (.int .u64)] (.tmp 4), none⟩,
    ⟨(some 25), .loadN [.bool, (.int .u64), (.int .u64)] (.tmp 5), none⟩,
    ⟨(some 26), .build [(.int .i64 0), (.int .i64 0), (.int .i64 0), (.int .i64 0), (.bool false), (.int .u64 0), (.int .u64 0), (.bool false), (.int .u64 0), (.int .u64 0)] [(2, 1, (.const (.int .i64 58))), (3, 1, (.const (.int .i64 64))), (4, 3, (.tmp 24)), (7, 3, (.tmp 25))], none⟩,
    ⟨(some 27), .mv (.tmp 8), none⟩,
    ⟨(some 28), .callF 98 [(.tmp 26), (.tmp 27)], none⟩,
    ⟨(some 29), .extract 0 (.tmp 28), none⟩,
    ⟨(some 30), .extract 1 (.tmp 28), none⟩,
    ⟨(some 6), .mv (.tmp 29), none⟩,
    ⟨(some 7), .mv (.tmp 30), none⟩]
def k36_7 : VC := .seq k36_6 .ret
def k36_8 : VC := .cond (.tmp 21) k36_7 .skip
def k36_9 : VC := .seq k36_5 k36_8
def k36_10 : VC := .cond (.tmp 17) k36_4 k36_9
def k36_11 : VC := .seq k36_2 k36_10
def k36_12 : VC := .block 0 k36_11
def k36_13 : VC := .reg [⟨(some 31), .loadN [.bool, (.int .u64), (.int .u64)] (.tmp 4), none⟩,
    ⟨(some 32), .loadN [.bool, (.int .u64), (.int .u64)] (.tmp 5), none⟩,
    ⟨(some 33), .build [(.int .i64 0), (.int .i64 0), (.bool false), (.int .i64 0), (.int .i64 0), (.bool false), (.int .u64 0), (.int .u64 0), (.bool false), (.int .u64 0), (.int .u64 0), (.string ⟨⟨[]⟩⟩)] [(2, 1, (.const (.bool true))), (3, 1, (.const (.int .i64 64))), (4, 1, (.const (.int .i64 1))), (5, 3, (.tmp 31)), (8, 3, (.tmp 32))], none⟩,
    ⟨(some 34), .mv (.tmp 8), none⟩,
    ⟨(some 35), .callF 21 [(.tmp 33), (.tmp 34)], none⟩,
    ⟨(some 36), .extract 0 (.tmp 35), none⟩,
    ⟨(some 37), .extract 1 (.tmp 35), none⟩,
    ⟨(some 6), .mv (.tmp 36), none⟩,
    ⟨(some 7), .mv (.tmp 37), none⟩]
def k36_14 : VC := .seq k36_13 .ret
def k36_15 : VC := .seq k36_12 k36_14
def k36_16 : VC := .seq k36_1 k36_15
def k36_17 : VC := .seq k36_0 k36_16
def fn36 : VFn := ⟨38, k36_17, [.tmp 6, .tmp 7]⟩
def k98_0 : VC := .reg [⟨(some 2), .box (.tmp 0), none⟩,
    ⟨(some 4), .mv (.const (.string ⟨⟨[]⟩⟩)), none⟩,
    ⟨(some 5), .mv (.const (.int .i64 0)), none⟩]
def k98_1 : VC := .reg [⟨(some 9), .loadN [(.int .i64), (.int .i64), (.int .i64), (.int .i64), .bool, (.int .u64), (.int .u64), .bool, (.int .u64), (.int .u64)] (.tmp 2), none⟩,
    ⟨(some 10), .callF 123 [(.tmp 9)], none⟩,
    ⟨(some 11), .not (.tmp 10), none⟩,
    ⟨(some 8), .mv (.tmp 11), none⟩]
def k98_2 : VC := .reg [⟨(some 4), .mv (.const (.string ⟨⟨[]⟩⟩)), none⟩,
    ⟨(some 5), .mv (.const (.int .i64 1)), none⟩]
def k98_3 : VC := .seq k98_2 .ret
def k98_4 : VC := .reg [⟨(some 13), .mv (.tmp 1), none⟩,
    ⟨(some 14), .lenS (.tmp 13), none⟩,
    ⟨(some 15), .bin .gtr (.tmp 14) (.const (.int .i64 65535)), none⟩,
    ⟨(some 12), .mv (.tmp 15), none⟩]
def k98_5 : VC := .reg [⟨(some 4), .mv (.const (.string ⟨⟨[]⟩⟩)), none⟩,
    ⟨(some 5), .mv (.const (.int .i64 5)), none⟩]
def k98_6 : VC := .seq k98_5 .ret
def k98_7 : VC := .cond (.tmp 12) k98_6 .skip
def k98_8 : VC := .seq k98_4 k98_7
def k98_9 : VC := .cond (.tmp 8) k98_3 k98_8
def k98_10 : VC := .seq k98_1 k98_9
def k98_11 : VC := .block 0 k98_10
def k98_12 : VC := .reg [⟨(some 16), .fieldA 0 (.tmp 2), none⟩,
    ⟨(some 17), .load1 (.int .i64) (.tmp 16), none⟩,
    ⟨(some 18), .conv .u64 (.tmp 17), none⟩,
    ⟨(some 19), .bin .shl (.tmp 18) (.const (.int .u64 20)), none⟩,
    ⟨(some 20), .bin .or (.const (.int .u64 1610612736)) (.tmp 19), none⟩,
    ⟨(some 21), .fieldA 1 (.tmp 2), none⟩,
    ⟨(some 22), .load1 (.int .i64) (.tmp 21), none⟩,
    ⟨(some 23), .conv .u64 (.tmp 22), none⟩,
    ⟨(some 24), .bin .or (.tmp 20) (.tmp 23), none⟩,
    ⟨(some 25), .callF 62 [(.tmp 24), (.const (.int .i64 4))], none⟩,
    ⟨(some 6), .mv (.tmp 25), none⟩]
def k98_13 : VC := .reg [⟨(some 26), .mv (.tmp 1), none⟩,
    ⟨(some 27), .lenS (.tmp 26), none⟩,
    ⟨(some 28), .conv .u64 (.tmp 27), none⟩,
    ⟨(some 29), .bin .shl (.tmp 28) (.const (.int .u64 16)), none⟩,
    ⟨(some 30), .fieldA 2 (.tmp 2), none⟩,
    ⟨(some 31), .load1 (.int .i64) (.tmp 30), none⟩,
    ⟨(some 32), .conv .u64 (.tmp 31), none⟩,
    ⟨(some 33), .bin .shl (.tmp 32) (.const (.int .u64 8)), none⟩,
    ⟨(some 34), .bin .or (.tmp 29) (.tmp 33), none⟩,
    ⟨(some 35), .fieldA 3 (.tmp 2), none⟩,
    ⟨(some 36), .load1 (.int .i64) (.tmp 35), none⟩,
    ⟨(some 37), .conv .u64 (.tmp 36), none⟩,
    ⟨(some 38), .bin .or (.tmp 34) (.tmp 37), none⟩,
    ⟨(some 39), .callF 62 [(.tmp 38), (.const (.int .i64 4))], none⟩,
    ⟨(some 7), .mv (.tmp 39), none⟩]
def k98_14 : VC := .regD [⟨(some 40), .mv (.tmp 6), none⟩,
    ⟨(some 41), .mv (.tmp 7), none⟩,
    ⟨(some 42), .bin .add (.tmp 40) (.tmp 41), none⟩,
    ⟨(some 43), .fieldA 4 (.tmp 2), none⟩,
    ⟨(some 44), .loadN [.bool, (.int .u64), (.int .u64)] (.tmp 43), none⟩,
    ⟨(some 45), .callF 78 [(.tmp 44)], none⟩,
    ⟨(some 46), .bin .add (.tmp 42) (.tmp 45), none⟩,
    ⟨(some 47), .fieldA 7 (.tmp 2), none⟩,
    ⟨(some 48), .loadN [.bool, (.int .u64), (.int .u64)] (.tmp 47), none⟩,
    ⟨(some 49), .callF 78 [(.tmp 48)], none⟩,
    ⟨(some 50), .bin .add (.tmp 46) (.tmp 49), none⟩,
    ⟨(some 51), .mv (.tmp 1), none⟩] [(5, 8)] [⟨(some 52), .bin .add (.tmp 50) (.tmp 51), none⟩,
    ⟨(some 4), .mv (.tmp 52), none⟩,
    ⟨(some 5), .mv (.const (.int .i64 0)), none⟩]
def k98_15 : VC := .seq k98_14 .ret
def k98_16 : VC := .seq k98_13 k98_15
def k98_17 : VC := .seq k98_12 k98_16
def k98_18 : VC := .seq k98_11 k98_17
def k98_19 : VC := .seq k98_0 k98_18
def fn98 : VFn := ⟨53, k98_19, [.tmp 4, .tmp 5]⟩
def k123_0 : VC := .reg [⟨(some 1), .box (.tmp 0), none⟩,
    ⟨(some 2), .mv (.const (.bool false)), none⟩]
def k123_1 : VC := .reg [⟨(some 5), .fieldA 0 (.tmp 1), none⟩,
    ⟨(some 6), .load1 (.int .i64) (.tmp 5), none⟩,
    ⟨(some 7), .build [(.int .i64 0), (.int .i64 0)] [(0, 1, (.tmp 6)), (1, 1, (.const (.int .i64 255)))], none⟩,
    ⟨(some 8), .fieldA 1 (.tmp 1), none⟩,
    ⟨(some 9), .load1 (.int .i64) (.tmp 8), none⟩,
    ⟨(some 10), .build [(.int .i64 0), (.int .i64 0)] [(0, 1, (.tmp 9)), (1, 1, (.const (.int .i64 1048575)))], none⟩,
    ⟨(some 11), .fieldA 2 (.tmp 1), none⟩,
    ⟨(some 12), .load1 (.int .i64) (.tmp 11), none⟩,
    ⟨(some 13), .build [(.int .i64 0), (.int .i64 0)] [(0, 1, (.tmp 12)), (1, 1, (.const (.int .i64 255)))], none⟩,
    ⟨(some 14), .fieldA 3 (.tmp 1), none⟩,
    ⟨(some 15), .load1 (.int .i64) (.tmp 14), none⟩,
    ⟨(some 16), .build [(.int .i64 0), (.int .i64 0)] [(0, 1, (.tmp 15)), (1, 1, (.const (.int .i64 255)))], none⟩,
    ⟨(some 17), .buildSl 4 2 [(.int .i64 0), (.int .i64 0), (.int .i64 0), (.int .i64 0), (.int .i64 0), (.int .i64 0), (.int .i64 0), (.int .i64 0)] [(0, 2, (.tmp 7)), (2, 2, (.tmp 10)), (4, 2, (.tmp 13)), (6, 2, (.tmp 16))], none⟩,
    ⟨(some 18), .lenL (.tmp 17), none⟩,
    ⟨(some 19), .mv (.const (.int .i64 0)), none⟩]
def k123_2 : VC := .reg [⟨(some 20), .bin .lss (.tmp 19) (.tmp 18), none⟩]
def k123_3 : VC := .cond (.tmp 20) .skip (.exit 0)
def k123_4 : VC := .reg [⟨(some 21), .idxAL 2 (.tmp 17) (.tmp 19), none⟩,
    ⟨(some 22), .loadN [(.int .i64), (.int .i64)] (.tmp 21), none⟩,
    ⟨(some 4), .alloc [(.int .i64 0), (.int .i64 0)], none⟩,
    ⟨none, .store 2 (.tmp 4) (.tmp 22), none⟩]
def k123_5 : VC := .reg [⟨(some 23), .idxAA 2 1 (.tmp 4) (.const (.int .i64 0)), none⟩,
    ⟨(some 24), .load1 (.int .i64) (.tmp 23), none⟩,
    ⟨(some 25), .bin .lss (.tmp 24) (.const (.int .i64 0)), none⟩,
    ⟨(some 26), .mv (.tmp 25), none⟩,
    ⟨(some 27), .idxAA 2 1 (.tmp 4) (.const (.int .i64 0)), (some (26, false))⟩,
    ⟨(some 28), .load1 (.int .i64) (.tmp 27), (some (26, false))⟩,
    ⟨(some 29), .idxAA 2 1 (.tmp 4) (.const (.int .i64 1)), (some (26, false))⟩,
    ⟨(some 30), .load1 (.int .i64) (.tmp 29), (some (26, false))⟩,
    ⟨(some 31), .bin .gtr (.tmp 28) (.tmp 30), (some (26, false))⟩,
    ⟨(some 32), .pick (.tmp 26) (.const (.bool true)) (.tmp 31), none⟩]
def k123_6 : VC := .reg [⟨(some 2), .mv (.const (.bool false)), none⟩]
def k123_7 : VC := .seq k123_6 .ret
def k123_8 : VC := .cond (.tmp 32) k123_7 .skip
def k123_9 : VC := .seq k123_5 k123_8
def k123_10 : VC := .seq k123_4 k123_9
def k123_11 : VC := .block 1 k123_10
def k123_12 : VC := .reg [⟨(some 33), .bin .add (.tmp 19) (.const (.int .i64 1)), none⟩,
    ⟨(some 19), .mv (.tmp 33), none⟩]
def k123_13 : VC := .seq k123_11 k123_12
def k123_14 : VC := .seq k123_3 k123_13
def k123_15 : VC := .seq k123_2 k123_14
def k123_16 : VC := .loop k123_15
def k123_17 : VC := .block 0 k123_16
def k123_18 : VC := .seq k123_1 k123_17
def k123_19 : VC := .reg [⟨(some 34), .fieldA 4 (.tmp 1), none⟩,
    ⟨(some 35), .fieldA 0 (.tmp 34), none⟩,
    ⟨(some 36), .load1 .bool (.tmp 35), none⟩,
    ⟨(some 37), .mv (.tmp 36), none⟩,
    ⟨(some 38), .fieldA 7 (.tmp 1), (some (37, true))⟩,
    ⟨(some 39), .fieldA 0 (.tmp 38), (some (37, true))⟩,
    ⟨(some 40), .load1 .bool (.tmp 39), (some (37, true))⟩,
    ⟨(some 41), .pick (.tmp 37) (.tmp 40) (.const (.bool false)), none⟩,
    ⟨(some 2), .mv (.tmp 41), none⟩]
def k123_20 : VC := .seq k123_19 .ret
def k123_21 : VC := .seq k123_18 k123_20
def k123_22 : VC := .seq k123_0 k123_21
def fn123 : VFn := ⟨42, k123_22, [.tmp 2]⟩
def k21_0 : VC := .reg [⟨(some 2), .box (.tmp 0), none⟩,
    ⟨(some 4), .mv (.const (.string ⟨⟨[]⟩⟩)), none⟩,
    ⟨(some 5), .mv (.const (.int .i64 0)), none⟩]
def k21_1 : VC := .reg [⟨(some 9), .fieldA 11 (.tmp 2), none⟩,
    ⟨(some 10), .load1 .str (.tmp 9), none⟩,
    ⟨(some 11), .lenS (.tmp 10), none⟩,
    ⟨(some 12), .bin .add (.const (.int .i64 20)) (.tmp 11), none⟩,
    ⟨(some 6), .mv (.tmp 12), none⟩]
def k21_2 : VC := .reg [⟨(some 14), .loadN [(.int .i64), (.int .i64), .bool, (.int .i64), (.int .i64), .bool, (.int .u64), (.int .u64), .bool, (.int .u64), (.int .u64), .str] (.tmp 2), none⟩,
    ⟨(some 15), .callF 76 [(.tmp 14)], none⟩,
    ⟨(some 16), .not (.tmp 15), none⟩,
    ⟨(some 13), .mv (.tmp 16), none⟩]
def k21_3 : VC := .reg [⟨(some 4), .mv (.const (.string ⟨⟨[]⟩⟩)), none⟩,
    ⟨(some 5), .mv (.const (.int .i64 1)), none⟩]
def k21_4 : VC := .seq k21_3 .ret
def k21_5 : VC := .reg [⟨(some 18), .mv (.tmp 1), none⟩,
    ⟨(some 19), .lenS (.tmp 18), none⟩,
    ⟨(some 20), .mv (.tmp 6), none⟩,
    ⟨(some 21), .bin .sub (.const (.int .i64 65535)) (.tmp 20), none⟩,
    ⟨(some 22), .bin .gtr (.tmp 19) (.tmp 21), none⟩,
    ⟨(some 17), .mv (.tmp 22), none⟩]
def k21_6 : VC := .reg [⟨(some 4), .mv (.const (.string ⟨⟨[]⟩⟩)), none⟩,
    ⟨(some 5), .mv (.const (.int .i64 5)), none⟩]
def k21_7 : VC := .seq k21_6 .ret
def k21_8 : VC := .cond (.tmp 17) k21_7 .skip
def k21_9 : VC := .seq k21_5 k21_8
def k21_10 : VC := .cond (.tmp 13) k21_4 k21_9
def k21_11 : VC := .seq k21_2 k21_10
def k21_12 : VC := .block 0 k21_11
def k21_13 : VC := .reg [⟨(some 7), .mv (.const (.int .i64 0)), none⟩]
def k21_14 : VC := .reg [⟨(some 23), .fieldA 2 (.tmp 2), none⟩,
    ⟨(some 24), .load1 .bool (.tmp 23), none⟩]
def k21_15 : VC := .reg [⟨(some 7), .mv (.const (.int .i64 64)), none⟩]
def k21_16 : VC := .cond (.tmp 24) k21_15 .skip
def k21_17 : VC := .seq k21_14 k21_16
def k21_18 : VC := .reg [⟨(some 25), .mv (.tmp 6), none⟩,
    ⟨(some 26), .bin .quo (.tmp 25) (.const (.int .i64 4)), none⟩,
    ⟨(some 27), .bin .or (.const (.int .i64 64)) (.tmp 26), none⟩,
    ⟨(some 28), .fieldA 0 (.tmp 2), none⟩,
    ⟨(some 29), .load1 (.int .i64) (.tmp 28), none⟩,
    ⟨(some 30), .mv (.tmp 6), none⟩,
    ⟨(some 31), .mv (.tmp 1), none⟩,
    ⟨(some 32), .lenS (.tmp 31), none⟩,
    ⟨(some 33), .bin .add (.tmp 30) (.tmp 32), none⟩,
    ⟨(some 34), .fieldA 1 (.tmp 2), none⟩,
    ⟨(some 35), .load1 (.int .i64) (.tmp 34), none⟩,
    ⟨(some 36), .mv (.tmp 7), none⟩,
    ⟨(some 37), .fieldA 3 (.tmp 2), none⟩,
    ⟨(some 38), .load1 (.int .i64) (.tmp 37), none⟩,
    ⟨(some 39), .fieldA 4 (.tmp 2), none⟩,
    ⟨(some 40), .load1 (.int .i64) (.tmp 39), none⟩,
    ⟨(some 41), .buildSl 18 1 [(.int .i64 0), (.int .i64 0), (.int .i64 0), (.int .i64 0), (.int .i64 0), (.int .i64 0), (.int .i64 0), (.int .i64 0), (.int .i64 0), (.int .i64 0), (.int .i64 0), (.int .i64 0), (.int .i64 0), (.int .i64 0), (.int .i64 0), (.int .i64 0), (.int .i64 0), (.int .i64 0)] [(0, 1, (.tmp 27)), (1, 1, (.const (.int .i64 1))), (2, 1, (.tmp 29)), (3, 1, (.const (.int .i64 1))), (4, 1, (.tmp 33)), (5, 1, (.const (.int .i64 2))), (6, 1, (.tmp 35)), (7, 1, (.const (.int .i64 2))), (8, 1, (.tmp 36)), (9, 1, (.const (.int .i64 1))), (10, 1, (.const (.int .i64 0))), (11, 1, (.const (.int .i64 1))), (12, 1, (.tmp 38)), (13, 1, (.const (.int .i64 1))), (14, 1, (.tmp 40)), (15, 1, (.const (.int .i64 1))), (16, 1, (.const (.int .i64 0))), (17, 1, (.const (.int .i64 2)))], none⟩,
    ⟨(some 42), .callF 77 [(.tmp 41)], none⟩,
    ⟨(some 8), .mv (.tmp 42), none⟩]
def k21_19 : VC := .regD [⟨(some 43), .mv (.tmp 8), none⟩,
    ⟨(some 44), .fieldA 5 (.tmp 2), none⟩,
    ⟨(some 45), .loadN [.bool, (.int .u64), (.int .u64)] (.tmp 44), none⟩,
    ⟨(some 46), .callF 78 [(.tmp 45)], none⟩,
    ⟨(some 47), .fieldA 8 (.tmp 2), none⟩,
    ⟨(some 48), .loadN [.bool, (.int .u64), (.int .u64)] (.tmp 47), none⟩,
    ⟨(some 49), .callF 78 [(.tmp 48)], none⟩,
    ⟨(some 50), .bin .add (.tmp 46) (.tmp 49), none⟩,
    ⟨(some 51), .fieldA 11 (.tmp 2), none⟩,
    ⟨(some 52), .load1 .str (.tmp 51), none⟩,
    ⟨(some 53), .bin .add (.tmp 50) (.tmp 52), none⟩] [(3, 5), (3, 9), (6, 9)] [⟨(some 54), .bin .add (.tmp 43) (.tmp 53), none⟩,
    ⟨(some 8), .mv (.tmp 54), none⟩]
def k21_20 : VC := .reg [⟨(some 55), .mv (.tmp 8), none⟩,
    ⟨(some 56), .mv (.tmp 8), none⟩,
    ⟨(some 57), .callF 64 [(.tmp 56)], none⟩,
    ⟨(some 58), .conv .u64 (.tmp 57), none⟩,
    ⟨(some 59), .callF 65 [(.tmp 55), (.const (.int .i64 10)), (.const (.int .i64 2)), (.tmp 58)], none⟩,
    ⟨(some 60), .mv (.tmp 1), none⟩,
    ⟨(some 61), .bin .add (.tmp 59) (.tmp 60), none⟩,
    ⟨(some 4), .mv (.tmp 61), none⟩,
    ⟨(some 5), .mv (.const (.int .i64 0)), none⟩]
def k21_21 : VC := .seq k21_20 .ret
def k21_22 : VC := .seq k21_19 k21_21
def k21_23 : VC := .seq k21_18 k21_22
def k21_24 : VC := .seq k21_17 k21_23
def k21_25 : VC := .seq k21_13 k21_24
def k21_26 : VC := .seq k21_12 k21_25
def k21_27 : VC := .seq k21_1 k21_26
def k21_28 : VC := .seq k21_0 k21_27
def fn21 : VFn := ⟨62, k21_28, [.tmp 4, .tmp 5]⟩
def k76_0 : VC := .reg [⟨(some 1), .box (.tmp 0), none⟩,
    ⟨(some 2), .mv (.const (.bool false)), none⟩]
def k76_1 : VC := .reg [⟨(some 3), .fieldA 0 (.tmp 1), none⟩,
    ⟨(some 4), .load1 (.int .i64) (.tmp 3), none⟩,
    ⟨(some 5), .callF 117 [(.tmp 4), (.const (.int .i64 255))], none⟩,
    ⟨(some 6), .not (.tmp 5), none⟩,
    ⟨(some 7), .mv (.tmp 6), none⟩,
    ⟨(some 8), .fieldA 1 (.tmp 1), (some (7, false))⟩,
    ⟨(some 9), .load1 (.int .i64) (.tmp 8), (some (7, false))⟩,
    ⟨(some 10), .callF 117 [(.tmp 9), (.const (.int .i64 65535))], (some (7, false))⟩,
    ⟨(some 11), .not (.tmp 10), (some (7, false))⟩,
    ⟨(some 12), .pick (.tmp 7) (.const (.bool true)) (.tmp 11), none⟩,
    ⟨(some 13), .mv (.tmp 12), none⟩,
    ⟨(some 14), .fieldA 3 (.tmp 1), (some (13, false))⟩,
    ⟨(some 15), .load1 (.int .i64) (.tmp 14), (some (13, false))⟩,
    ⟨(some 16), .callF 117 [(.tmp 15), (.const (.int .i64 255))], (some (13, false))⟩,
    ⟨(some 17), .not (.tmp 16), (some (13, false))⟩,
    ⟨(some 18), .pick (.tmp 13) (.const (.bool true)) (.tmp 17), none⟩,
    ⟨(some 19), .mv (.tmp 18), none⟩,
    ⟨(some 20), .fieldA 4 (.tmp 1), (some (19, false))⟩,
    ⟨(some 21), .load1 (.int .i64) (.tmp 20), (some (19, false))⟩,
    ⟨(some 22), .callF 117 [(.tmp 21), (.const (.int .i64 255))], (some (19, false))⟩,
    ⟨(some 23), .not (.tmp 22), (some (19, false))⟩,
    ⟨(some 24), .pick (.tmp 19) (.const (.bool true)) (.tmp 23), none⟩]
def k76_2 : VC := .reg [⟨(some 2), .mv (.const (.bool false)), none⟩]
def k76_3 : VC := .seq k76_2 .ret
def k76_4 : VC := .cond (.tmp 24) k76_3 .skip
def k76_5 : VC := .seq k76_1 k76_4
def k76_6 : VC := .reg [⟨(some 25), .fieldA 5 (.tmp 1), none⟩,
    ⟨(some 26), .loadN [.bool, (.int .u64), (.int .u64)] (.tmp 25), none⟩,
    ⟨(some 27), .callF 118 [(.tmp 26)], none⟩,
    ⟨(some 28), .mv (.tmp 27), none⟩,
    ⟨(some 29), .fieldA 8 (.tmp 1), (some (28, true))⟩,
    ⟨(some 30), .loadN [.bool, (.int .u64), (.int .u64)] (.tmp 29), (some (28, true))⟩,
    ⟨(some 31), .callF 118 [(.tmp 30)], (some (28, true))⟩,
    ⟨(some 32), .pick (.tmp 28) (.tmp 31) (.const (.bool false)), none⟩,
    ⟨(some 33), .mv (.tmp 32), none⟩,
    ⟨(some 34), .fieldA 11 (.tmp 1), (some (33, true))⟩,
    ⟨(some 35), .load1 .str (.tmp 34), (some (33, true))⟩,
    ⟨(some 36), .lenS (.tmp 35), (some (33, true))⟩,
    ⟨(some 37), .bin .rem (.tmp 36) (.const (.int .i64 4)), (some (33, true))⟩,
    ⟨(some 38), .bin .eql (.tmp 37) (.const (.int .i64 0)), (some (33, true))⟩,
    ⟨(some 39), .pick (.tmp 33) (.tmp 38) (.const (.bool false)), none⟩,
    ⟨(some 40), .mv (.tmp 39), none⟩,
    ⟨(some 41), .fieldA 11 (.tmp 1), (some (40, true))⟩,
    ⟨(some 42), .load1 .str (.tmp 41), (some (40, true))⟩,
    ⟨(some 43), .lenS (.tmp 42), (some (40, true))⟩,
    ⟨(some 44), .bin .leq (.tmp 43) (.const (.int .i64 40)), (some (40, true))⟩,
    ⟨(some 45), .pick (.tmp 40) (.tmp 44) (.const (.bool false)), none⟩,
    ⟨(some 2), .mv (.tmp 45), none⟩]
def k76_7 : VC := .seq k76_6 .ret
def k76_8 : VC := .seq k76_5 k76_7
def k76_9 : VC := .seq k76_0 k76_8
def fn76 : VFn := ⟨46, k76_9, [.tmp 2]⟩
def k117_0 : VC := .reg [⟨(some 4), .mv (.const (.bool false)), none⟩]
def k117_1 : VC := .reg [⟨(some 5), .mv (.tmp 0), none⟩,
    ⟨(some 6), .bin .leq (.const (.int .i64 0)) (.tmp 5), none⟩,
    ⟨(some 7), .mv (.tmp 6), none⟩,
    ⟨(some 8), .mv (.tmp 0), (some (7, true))⟩,
    ⟨(some 9), .mv (.tmp 1), (some (7, true))⟩,
    ⟨(some 10), .bin .leq (.tmp 8) (.tmp 9), (some (7, true))⟩,
    ⟨(some 11), .pick (.tmp 7) (.tmp 10) (.const (.bool false)), none⟩,
    ⟨(some 4), .mv (.tmp 11), none⟩]
def k117_2 : VC := .seq k117_1 .ret
def k117_3 : VC := .seq k117_0 k117_2
def fn117 : VFn := ⟨12, k117_3, [.tmp 4]⟩
def k118_0 : VC := .reg [⟨(some 1), .box (.tmp 0), none⟩,
    ⟨(some 2), .mv (.const (.bool false)), none⟩]
def k118_1 : VC := .reg [⟨(some 3), .fieldA 0 (.tmp 1), none⟩,
    ⟨(some 4), .load1 .bool (.tmp 3), none⟩,
    ⟨(some 5), .not (.tmp 4), none⟩,
    ⟨(some 6), .mv (.tmp 5), none⟩,
    ⟨(some 7), .loadN [.bool, (.int .u64), (.int .u64)] (.tmp 1), (some (6, true))⟩,
    ⟨(some 8), .callF 85 [(.tmp 7)], (some (6, true))⟩,
    ⟨(some 9), .pick (.tmp 6) (.tmp 8) (.const (.bool false)), none⟩,
    ⟨(some 2), .mv (.tmp 9), none⟩]
def k118_2 : VC := .seq k118_1 .ret
def k118_3 : VC := .seq k118_0 k118_2
def fn118 : VFn := ⟨10, k118_3, [.tmp 2]⟩
def k37_0 : VC := .reg [⟨(some 3), .box (.tmp 0), none⟩,
    ⟨(some 4), .box (.tmp 1), none⟩,
    ⟨(some 5), .box (.tmp 2), none⟩,
    ⟨(some 6), .mv (.const (.string ⟨⟨[]⟩⟩)), none⟩,
    ⟨(some 7), .mv (.const (.int .i64 0)), none⟩]
def k37_1 : VC := .reg [⟨(some 11), .loadN [(.int .i64), (.int .i64), (.int .i64), .str] (.tmp 3), none⟩,
    ⟨(some 12), .loadN [.bool, (.int .u64), (.int .u64)] (.tmp 4), none⟩,
    ⟨(some 13), .loadN [.bool, (.int .u64), (.int .u64)] (.tmp 5), none⟩,
    ⟨(some 14), .callF 33 [(.tmp 11), (.tmp 12), (.tmp 13)], none⟩,
    ⟨(some 10), .mv (.tmp 14), none⟩,
    ⟨(some 15), .extract 0 (.tmp 10), none⟩,
    ⟨(some 16), .extract 1 (.tmp 10), none⟩,
    ⟨(some 8), .mv (.tmp 15), none⟩,
    ⟨(some 9), .mv (.tmp 16), none⟩]
def k37_2 : VC := .reg [⟨(some 17), .mv (.tmp 9), none⟩,
    ⟨(some 18), .bin .neq (.tmp 17) (.const (.int .i64 0)), none⟩]
def k37_3 : VC := .reg [⟨(some 19), .mv (.tmp 9), none⟩,
    ⟨(some 6), .mv (.const (.string ⟨⟨[]⟩⟩)), none⟩,
    ⟨(some 7), .mv (.tmp 19), none⟩]
def k37_4 : VC := .seq k37_3 .ret
def k37_5 : VC := .cond (.tmp 18) k37_4 .skip
def k37_6 : VC := .seq k37_2 k37_5
def k37_7 : VC := .reg [⟨(some 20), .fieldA 0 (.tmp 4), none⟩,
    ⟨(some 21), .load1 .bool (.tmp 20), none⟩]
def k37_8 : VC := .reg [⟨(some 22), .loadN [.bool, (.int .u64), (.int .u64)] (.tmp 4), none⟩,
    ⟨(some 23), .loadN [.bool, (.int .u64), (.int .u64)] (.tmp 5), none⟩,
    ⟨(some 24), .build [(.int .i64 0), (.int .i64 0), (.int .i64 0), (.int .i64 0), (.bool false), (.int .u64 0), (.int .u64 0), (.bool false), (.int .u64 0), (.int .u64 0)] [(2, 1, (.const (.int .i64 58))), (3, 1, (.const (.int .i64 64))), (4, 3, (.tmp 22)), (7, 3, (.tmp 23))], none⟩,
    ⟨(some 25), .mv (.tmp 8), none⟩,
    ⟨(some 26), .callF 99 [(.tmp 24), (.tmp 25)], none⟩,
    ⟨(some 27), .extract 0 (.tmp 26), none⟩,
    ⟨(some 28), .extract 1 (.tmp 26), none⟩,
    ⟨(some 6), .mv (.tmp 27), none⟩,
    ⟨(some 7), .mv (.tmp 28), none⟩]
def k37_9 : VC := .seq k37_8 .ret
def k37_10 : VC := .cond (.tmp 21) k37_9 .skip
def k37_11 : VC := .seq k37_7 k37_10
def k37_12 : VC := .reg [⟨(some 29), .loadN [.bool, (.int .u64), (.int .u64)] (.tmp 4), none⟩,
    ⟨(some 30), .loadN [.bool, (.int .u64), (.int .u64)] (.tmp 5), none⟩,
    ⟨(some 31), .build [(.int .i64 0), (.int .i64 0), (.bool false), (.int .i64 0), (.int .i64 0), (.bool false), (.int .u64 0), (.int .u64 0), (.bool false), (.int .u64 0), (.int .u64 0), (.string ⟨⟨[]⟩⟩)] [(2, 1, (.const (.bool true))), (3, 1, (.const (.int .i64 64))), (4, 1, (.const (.int .i64 1))), (5, 3, (.tmp 29)), (8, 3, (.tmp 30))], none⟩,
    ⟨(some 32), .mv (.tmp 8), none⟩,
    ⟨(some 33), .callF 23 [(.tmp 31), (.tmp 32)], none⟩,
    ⟨(some 34), .extract 0 (.tmp 33), none⟩,
    ⟨(some 35), .extract 1 (.tmp 33), none⟩,
    ⟨(some 6), .mv (.tmp 34), none⟩,
    ⟨(some 7), .mv (.tmp 35), none⟩]
def k37_13 : VC := .seq k37_12 .ret
def k37_14 : VC := .seq k37_11 k37_13
def k37_15 : VC := .seq k37_6 k37_14
def k37_16 : VC := .seq k37_1 k37_15
def k37_17 : VC := .seq k37_0 k37_16
def fn37 : VFn := ⟨36, k37_17, [.tmp 6, .tmp 7]⟩
def k99_0 : VC := .reg [⟨(some 2), .box (.tmp 0), none⟩,
    ⟨(some 4), .mv (.const (.string ⟨⟨[]⟩⟩)), none⟩,
    ⟨(some 5), .mv (.const (.int .i64 0)), none⟩]
def k99_1 : VC := .reg [⟨(some 6), .loadN [(.int .i64), (.int .i64), (.int .i64), (.int .i64), .bool, (.int .u64), (.int .u64), .bool, (.int .u64), (.int .u64)] (.tmp 2), none⟩,
    ⟨(some 7), .callF 124 [(.tmp 6)], none⟩,
    ⟨(some 8), .not (.tmp 7), none⟩]
def k99_2 : VC := .reg [⟨(some 4), .mv (.const (.string ⟨⟨[]⟩⟩)), none⟩,
    ⟨(some 5), .mv (.const (.int .i64 1)), none⟩]
def k99_3 : VC := .seq k99_2 .ret
def k99_4 : VC := .cond (.tmp 8) k99_3 .skip
def k99_5 : VC := .seq k99_1 k99_4
def k99_6 : VC := .reg [⟨(some 9), .mv (.tmp 1), none⟩,
    ⟨(some 10), .lenS (.tmp 9), none⟩,
    ⟨(some 11), .bin .gtr (.tmp 10) (.const (.int .i64 65535)), none⟩]
def k99_7 : VC := .reg [⟨(some 4), .mv (.const (.string ⟨⟨[]⟩⟩)), none⟩,
    ⟨(some 5), .mv (.const (.int .i64 5)), none⟩]
def k99_8 : VC := .seq k99_7 .ret
def k99_9 : VC := .cond (.tmp 11) k99_8 .skip
def k99_10 : VC := .seq k99_6 k99_9
def k99_11 : VC := .regD [⟨(some 12), .fieldA 0 (.tmp 2), none⟩,
    ⟨(some 13), .load1 (.int .i64) (.tmp 12), none⟩,
    ⟨(some 14), .bin .mul (.tmp 13) (.const (.int .i64 1048576)), none⟩,
    ⟨(some 15), .bin .add (.const (.int .i64 1610612736)) (.tmp 14), none⟩,
    ⟨(some 16), .fieldA 1 (.tmp 2), none⟩,
    ⟨(some 17), .load1 (.int .i64) (.tmp 16), none⟩,
    ⟨(some 18), .bin .add (.tmp 15) (.tmp 17), none⟩,
    ⟨(some 19), .callF 125 [(.tmp 18), (.const (.int .i64 4))], none⟩,
    ⟨(some 20), .mv (.tmp 1), none⟩,
    ⟨(some 21), .lenS (.tmp 20), none⟩,
    ⟨(some 22), .callF 125 [(.tmp 21), (.const (.int .i64 2))], none⟩,
    ⟨(some 23), .bin .add (.tmp 19) (.tmp 22), none⟩,
    ⟨(some 24), .fieldA 2 (.tmp 2), none⟩,
    ⟨(some 25), .load1 (.int .i64) (.tmp 24), none⟩,
    ⟨(some 26), .callF 125 [(.tmp 25), (.const (.int .i64 1))], none⟩,
    ⟨(some 27), .bin .add (.tmp 23) (.tmp 26), none⟩,
    ⟨(some 28), .fieldA 3 (.tmp 2), none⟩,
    ⟨(some 29), .load1 (.int .i64) (.tmp 28), none⟩,
    ⟨(some 30), .callF 125 [(.tmp 29), (.const (.int .i64 1))], none⟩,
    ⟨(some 31), .bin .add (.tmp 27) (.tmp 30), none⟩,
    ⟨(some 32), .fieldA 4 (.tmp 2), none⟩,
    ⟨(some 33), .loadN [.bool, (.int .u64), (.int .u64)] (.tmp 32), none⟩,
    ⟨(some 34), .callF 81 [(.tmp 33)], none⟩,
    ⟨(some 35), .bin .add (.tmp 31) (.tmp 34), none⟩,
    ⟨(some 36), .fieldA 7 (.tmp 2), none⟩,
    ⟨(some 37), .loadN [.bool, (.int .u64), (.int .u64)] (.tmp 36), none⟩,
    ⟨(some 38), .callF 81 [(.tmp 37)], none⟩,
    ⟨(some 39), .bin .add (.tmp 35) (.tmp 38), none⟩,
    ⟨(some 40), .mv (.tmp 1), none⟩] [(7, 13), (7, 17), (7, 21), (7, 25), (10, 13), (10, 17), (10, 21), (10, 25), (14, 17), (14, 21), (14, 25), (18, 21), (18, 25), (22, 25)] [⟨(some 41), .bin .add (.tmp 39) (.tmp 40), none⟩,
    ⟨(some 4), .mv (.tmp 41), none⟩,
    ⟨(some 5), .mv (.const (.int .i64 0)), none⟩]
def k99_12 : VC := .seq k99_11 .ret
def k99_13 : VC := .seq k99_10 k99_12
def k99_14 : VC := .seq k99_5 k99_13
def k99_15 : VC := .seq k99_0 k99_14
def fn99 : VFn := ⟨42, k99_15, [.tmp 4, .tmp 5]⟩
def k124_0 : VC := .reg [⟨(some 1), .box (.tmp 0), none⟩,
    ⟨(some 2), .mv (.const (.bool false)), none⟩]
def k124_1 : VC := .reg [⟨(some 3), .fieldA 0 (.tmp 1), none⟩,
    ⟨(some 4), .load1 (.int .i64) (.tmp 3), none⟩,
    ⟨(some 5), .callF 132 [(.tmp 4), (.const (.int .i64 255))], none⟩,
    ⟨(some 6), .mv (.tmp 5), none⟩,
    ⟨(some 7), .fieldA 1 (.tmp 1), (some (6, true))⟩,
    ⟨(some 8), .load1 (.int .i64) (.tmp 7), (some (6, true))⟩,
    ⟨(some 9), .callF 132 [(.tmp 8), (.const (.int .i64 1048575))], (some (6, true))⟩,
    ⟨(some 10), .pick (.tmp 6) (.tmp 9) (.const (.bool false)), none⟩,
    ⟨(some 11), .mv (.tmp 10), none⟩,
    ⟨(some 12), .fieldA 2 (.tmp 1), (some (11, true))⟩,
    ⟨(some 13), .load1 (.int .i64) (.tmp 12), (some (11, true))⟩,
    ⟨(some 14), .callF 132 [(.tmp 13), (.const (.int .i64 255))], (some (11, true))⟩,
    ⟨(some 15), .pick (.tmp 11) (.tmp 14) (.const (.bool false)), none⟩,
    ⟨(some 16), .mv (.tmp 15), none⟩,
    ⟨(some 17), .fieldA 3 (.tmp 1), (some (16, true))⟩,
    ⟨(some 18), .load1 (.int .i64) (.tmp 17), (some (16, true))⟩,
    ⟨(some 19), .callF 132 [(.tmp 18), (.const (.int .i64 255))], (some (16, true))⟩,
    ⟨(some 20), .pick (.tmp 16) (.tmp 19) (.const (.bool false)), none⟩,
    ⟨(some 21), .mv (.tmp 20), none⟩,
    ⟨(some 22), .fieldA 4 (.tmp 1), (some (21, true))⟩,
    ⟨(some 23), .fieldA 0 (.tmp 22), (some (21, true))⟩,
    ⟨(some 24), .load1 .bool (.tmp 23), (some (21, true))⟩,
    ⟨(some 25), .pick (.tmp 21) (.tmp 24) (.const (.bool false)), none⟩,
    ⟨(some 26), .mv (.tmp 25), none⟩,
    ⟨(some 27), .fieldA 7 (.tmp 1), (some (26, true))⟩,
    ⟨(some 28), .fieldA 0 (.tmp 27), (some (26, true))⟩,
    ⟨(some 29), .load1 .bool (.tmp 28), (some (26, true))⟩,
    ⟨(some 30), .pick (.tmp 26) (.tmp 29) (.const (.bool false)), none⟩,
    ⟨(some 2), .mv (.tmp 30), none⟩]
def k124_2 : VC := .seq k124_1 .ret
def k124_3 : VC := .seq k124_0 k124_2
def fn124 : VFn := ⟨31, k124_3, [.tmp 2]⟩
def k132_0 : VC := .reg [⟨(some 4), .mv (.const (.bool false)), none⟩]
def k132_1 : VC := .reg [⟨(some 5), .mv (.tmp 0), none⟩,
    ⟨(some 6), .bin .geq (.tmp 5) (.const (.int .i64 0)), none⟩,
    ⟨(some 7), .mv (.tmp 6), none⟩,
    ⟨(some 8), .mv (.tmp 0), (some (7, true))⟩,
    ⟨(some 9), .mv (.tmp 1), (some (7, true))⟩,
    ⟨(some 10), .bin .leq (.tmp 8) (.tmp 9), (some (7, true))⟩,
    ⟨(some 11), .pick (.tmp 7) (.tmp 10) (.const (.bool false)), none⟩,
    ⟨(some 4), .mv (.tmp 11), none⟩]
def k132_2 : VC := .seq k132_1 .ret
def k132_3 : VC := .seq k132_0 k132_2
def fn132 : VFn := ⟨12, k132_3, [.tmp 4]⟩
def k125_0 : VC := .reg [⟨(some 4), .mv (.const (.string ⟨⟨[]⟩⟩)), none⟩]
def k125_1 : VC := .reg [⟨(some 5), .mv (.tmp 0), none⟩,
    ⟨(some 6), .conv .u64 (.tmp 5), none⟩,
    ⟨(some 7), .mv (.tmp 1), none⟩,
    ⟨(some 8), .callF 67 [(.tmp 6), (.tmp 7)], none⟩,
    ⟨(some 4), .mv (.tmp 8), none⟩]
def k125_2 : VC := .seq k125_1 .ret
def k125_3 : VC := .seq k125_0 k125_2
def fn125 : VFn := ⟨9, k125_3, [.tmp 4]⟩
def k23_0 : VC := .reg [⟨(some 2), .box (.tmp 0), none⟩,
    ⟨(some 4), .mv (.const (.string ⟨⟨[]⟩⟩)), none⟩,
    ⟨(some 5), .mv (.const (.int .i64 0)), none⟩]
def k23_1 : VC := .reg [⟨(some 9), .loadN [(.int .i64), (.int .i64), .bool, (.int .i64), (.int .i64), .bool, (.int .u64), (.int .u64), .bool, (.int .u64), (.int .u64), .str] (.tmp 2), none⟩,
    ⟨(some 10), .callF 79 [(.tmp 9)], none⟩,
    ⟨(some 11), .not (.tmp 10), none⟩]
def k23_2 : VC := .reg [⟨(some 4), .mv (.const (.string ⟨⟨[]⟩⟩)), none⟩,
    ⟨(some 5), .mv (.const (.int .i64 1)), none⟩]
def k23_3 : VC := .seq k23_2 .ret
def k23_4 : VC := .cond (.tmp 11) k23_3 .skip
def k23_5 : VC := .seq k23_1 k23_4
def k23_6 : VC := .reg [⟨(some 12), .fieldA 11 (.tmp 2), none⟩,
    ⟨(some 13), .load1 .str (.tmp 12), none⟩,
    ⟨(some 14), .lenS (.tmp 13), none⟩,
    ⟨(some 15), .bin .add (.const (.int .i64 20)) (.tmp 14), none⟩,
    ⟨(some 6), .mv (.tmp 15), none⟩]
def k23_7 : VC := .reg [⟨(some 16), .mv (.tmp 1), none⟩,
    ⟨(some 17), .lenS (.tmp 16), none⟩,
    ⟨(some 18), .mv (.tmp 6), none⟩,
    ⟨(some 19), .bin .sub (.const (.int .i64 65535)) (.tmp 18), none⟩,
    ⟨(some 20), .bin .gtr (.tmp 17) (.tmp 19), none⟩]
def k23_8 : VC := .reg [⟨(some 4), .mv (.const (.string ⟨⟨[]⟩⟩)), none⟩,
    ⟨(some 5), .mv (.const (.int .i64 5)), none⟩]
def k23_9 : VC := .seq k23_8 .ret
def k23_10 : VC := .cond (.tmp 20) k23_9 .skip
def k23_11 : VC := .seq k23_7 k23_10
def k23_12 : VC := .reg [⟨(some 7), .mv (.const (.int .i64 0)), none⟩]
def k23_13 : VC := .reg [⟨(some 21), .fieldA 2 (.tmp 2), none⟩,
    ⟨(some 22), .load1 .bool (.tmp 21), none⟩]
def k23_14 : VC := .reg [⟨(some 7), .mv (.const (.int .i64 64)), none⟩]
def k23_15 : VC := .cond (.tmp 22) k23_14 .skip
def k23_16 : VC := .seq k23_13 k23_15
def k23_17 : VC := .regD [⟨(some 23), .mv (.tmp 6), none⟩,
    ⟨(some 24), .bin .quo (.tmp 23) (.const (.int .i64 4)), none⟩,
    ⟨(some 25), .bin .add (.const (.int .i64 64)) (.tmp 24), none⟩,
    ⟨(some 26), .callF 80 [(.tmp 25), (.const (.int .i64 1))], none⟩,
    ⟨(some 27), .fieldA 0 (.tmp 2), none⟩,
    ⟨(some 28), .load1 (.int .i64) (.tmp 27), none⟩,
    ⟨(some 29), .callF 80 [(.tmp 28), (.const (.int .i64 1))], none⟩,
    ⟨(some 30), .bin .add (.tmp 26) (.tmp 29), none⟩,
    ⟨(some 31), .mv (.tmp 6), none⟩,
    ⟨(some 32), .mv (.tmp 1), none⟩,
    ⟨(some 33), .lenS (.tmp 32), none⟩,
    ⟨(some 34), .bin .add (.tmp 31) (.tmp 33), none⟩,
    ⟨(some 35), .callF 80 [(.tmp 34), (.const (.int .i64 2))], none⟩,
    ⟨(some 36), .bin .add (.tmp 30) (.tmp 35), none⟩,
    ⟨(some 37), .fieldA 1 (.tmp 2), none⟩,
    ⟨(some 38), .load1 (.int .i64) (.tmp 37), none⟩,
    ⟨(some 39), .callF 80 [(.tmp 38), (.const (.int .i64 2))], none⟩,
    ⟨(some 40), .bin .add (.tmp 36) (.tmp 39), none⟩,
    ⟨(some 41), .mv (.tmp 7), none⟩,
    ⟨(some 42), .callF 80 [(.tmp 41), (.const (.int .i64 1))], none⟩,
    ⟨(some 43), .bin .add (.tmp 40) (.tmp 42), none⟩,
    ⟨(some 44), .callF 80 [(.const (.int .i64 0)), (.const (.int .i64 1))], none⟩,
    ⟨(some 45), .bin .add (.tmp 43) (.tmp 44), none⟩,
    ⟨(some 46), .fieldA 3 (.tmp 2), none⟩,
    ⟨(some 47), .load1 (.int .i64) (.tmp 46), none⟩,
    ⟨(some 48), .callF 80 [(.tmp 47), (.const (.int .i64 1))], none⟩,
    ⟨(some 49), .bin .add (.tmp 45) (.tmp 48), none⟩,
    ⟨(some 50), .fieldA 4 (.tmp 2), none⟩,
    ⟨(some 51), .load1 (.int .i64) (.tmp 50), none⟩,
    ⟨(some 52), .callF 80 [(.tmp 51), (.const (.int .i64 1))], none⟩,
    ⟨(some 53), .bin .add (.tmp 49) (.tmp 52), none⟩,
    ⟨(some 54), .callF 80 [(.const (.int .i64 0)), (.const (.int .i64 2))], none⟩,
    ⟨(some 55), .bin .add (.tmp 53) (.tmp 54), none⟩,
    ⟨(some 56), .fieldA 5 (.tmp 2), none⟩,
    ⟨(some 57), .loadN [.bool, (.int .u64), (.int .u64)] (.tmp 56), none⟩,
    ⟨(some 58), .callF 81 [(.tmp 57)], none⟩,
    ⟨(some 59), .bin .add (.tmp 55) (.tmp 58), none⟩,
    ⟨(some 60), .fieldA 8 (.tmp 2), none⟩,
    ⟨(some 61), .loadN [.bool, (.int .u64), (.int .u64)] (.tmp 60), none⟩,
    ⟨(some 62), .callF 81 [(.tmp 61)], none⟩,
    ⟨(some 63), .bin .add (.tmp 59) (.tmp 62), none⟩,
    ⟨(some 64), .fieldA 11 (.tmp 2), none⟩,
    ⟨(some 65), .load1 .str (.tmp 64), none⟩] [(3, 5), (3, 15), (3, 24), (3, 28), (3, 34), (3, 38), (3, 42), (6, 15), (6, 24), (6, 28), (6, 34), (6, 38), (6, 42), (12, 15), (12, 24), (12, 28), (12, 34), (12, 38), (12, 42), (16, 24), (16, 28), (16, 34), (16, 38), (16, 42), (19, 24), (19, 28), (19, 34), (19, 38), (19, 42), (21, 24), (21, 28), (21, 34), (21, 38), (21, 42), (25, 28), (25, 34), (25, 38), (25, 42), (29, 34), (29, 38), (29, 42), (31, 34), (31, 38), (31, 42), (35, 38), (35, 42), (39, 42)] [⟨(some 66), .bin .add (.tmp 63) (.tmp 65), none⟩,
    ⟨(some 8), .mv (.tmp 66), none⟩]
def k23_18 : VC := .reg [⟨(some 67), .mv (.tmp 8), none⟩,
    ⟨(some 68), .mv (.tmp 8), none⟩,
    ⟨(some 69), .callF 68 [(.tmp 68)], none⟩,
    ⟨(some 70), .conv .u64 (.tmp 69), none⟩,
    ⟨(some 71), .callF 69 [(.tmp 67), (.const (.int .i64 10)), (.const (.int .i64 2)), (.tmp 70)], none⟩,
    ⟨(some 72), .mv (.tmp 1), none⟩,
    ⟨(some 73), .bin .add (.tmp 71) (.tmp 72), none⟩,
    ⟨(some 4), .mv (.tmp 73), none⟩,
    ⟨(some 5), .mv (.const (.int .i64 0)), none⟩]
def k23_19 : VC := .seq k23_18 .ret
def k23_20 : VC := .seq k23_17 k23_19
def k23_21 : VC := .seq k23_16 k23_20
def k23_22 : VC := .seq k23_12 k23_21
def k23_23 : VC := .seq k23_11 k23_22
def k23_24 : VC := .seq k23_6 k23_23
def k23_25 : VC := .seq k23_5 k23_24
def k23_26 : VC := .seq k23_0 k23_25
def fn23 : VFn := ⟨74, k23_26, [.tmp 4, .tmp 5]⟩
def k79_0 : VC := .reg [⟨(some 1), .box (.tmp 0), none⟩,
    ⟨(some 2), .mv (.const (.bool false)), none⟩]
def k79_1 : VC := .reg [⟨(some 3), .fieldA 0 (.tmp 1), none⟩,
    ⟨(some 4), .load1 (.int .i64) (.tmp 3), none⟩,
    ⟨(some 5), .callF 119 [(.tmp 4), (.const (.int .i64 255))], none⟩,
    ⟨(some 6), .mv (.tmp 5), none⟩,
    ⟨(some 7), .fieldA 1 (.tmp 1), (some (6, true))⟩,
    ⟨(some 8), .load1 (.int .i64) (.tmp 7), (some (6, true))⟩,
    ⟨(some 9), .callF 119 [(.tmp 8), (.const (.int .i64 65535))], (some (6, true))⟩,
    ⟨(some 10), .pick (.tmp 6) (.tmp 9) (.const (.bool false)), none⟩,
    ⟨(some 11), .mv (.tmp 10), none⟩,
    ⟨(some 12), .fieldA 3 (.tmp 1), (some (11, true))⟩,
    ⟨(some 13), .load1 (.int .i64) (.tmp 12), (some (11, true))⟩,
    ⟨(some 14), .callF 119 [(.tmp 13), (.const (.int .i64 255))], (some (11, true))⟩,
    ⟨(some 15), .pick (.tmp 11) (.tmp 14) (.const (.bool false)), none⟩,
    ⟨(some 16), .mv (.tmp 15), none⟩,
    ⟨(some 17), .fieldA 4 (.tmp 1), (some (16, true))⟩,
    ⟨(some 18), .load1 (.int .i64) (.tmp 17), (some (16, true))⟩,
    ⟨(some 19), .callF 119 [(.tmp 18), (.const (.int .i64 255))], (some (16, true))⟩,
    ⟨(some 20), .pick (.tmp 16) (.tmp 19) (.const (.bool false)), none⟩,
    ⟨(some 21), .mv (.tmp 20), none⟩,
    ⟨(some 22), .fieldA 5 (.tmp 1), (some (21, true))⟩,
    ⟨(some 23), .loadN [.bool, (.int .u64), (.int .u64)] (.tmp 22), (some (21, true))⟩,
    ⟨(some 24), .callF 120 [(.tmp 23)], (some (21, true))⟩,
    ⟨(some 25), .pick (.tmp 21) (.tmp 24) (.const (.bool false)), none⟩,
    ⟨(some 26), .mv (.tmp 25), none⟩,
    ⟨(some 27), .fieldA 8 (.tmp 1), (some (26, true))⟩,
    ⟨(some 28), .loadN [.bool, (.int .u64), (.int .u64)] (.tmp 27), (some (26, true))⟩,
    ⟨(some 29), .callF 120 [(.tmp 28)], (some (26, true))⟩,
    ⟨(some 30), .pick (.tmp 26) (.tmp 29) (.const (.bool false)), none⟩,
    ⟨(some 31), .mv (.tmp 30), none⟩,
    ⟨(some 32), .fieldA 11 (.tmp 1), (some (31, true))⟩,
    ⟨(some 33), .load1 .str (.tmp 32), (some (31, true))⟩,
    ⟨(some 34), .lenS (.tmp 33), (some (31, true))⟩,
    ⟨(some 35), .bin .leq (.tmp 34) (.const (.int .i64 40)), (some (31, true))⟩,
    ⟨(some 36), .pick (.tmp 31) (.tmp 35) (.const (.bool false)), none⟩,
    ⟨(some 37), .mv (.tmp 36), none⟩,
    ⟨(some 38), .fieldA 11 (.tmp 1), (some (37, true))⟩,
    ⟨(some 39), .load1 .str (.tmp 38), (some (37, true))⟩,
    ⟨(some 40), .lenS (.tmp 39), (some (37, true))⟩,
    ⟨(some 41), .bin .rem (.tmp 40) (.const (.int .i64 4)), (some (37, true))⟩,
    ⟨(some 42), .bin .eql (.tmp 41) (.const (.int .i64 0)), (some (37, true))⟩,
    ⟨(some 43), .pick (.tmp 37) (.tmp 42) (.const (.bool false)), none⟩,
    ⟨(some 2), .mv (.tmp 43), none⟩]
def k79_2 : VC := .seq k79_1 .ret
def k79_3 : VC := .seq k79_0 k79_2
def fn79 : VFn := ⟨44, k79_3, [.tmp 2]⟩
def k119_0 : VC := .reg [⟨(some 4), .mv (.const (.bool false)), none⟩]
def k119_1 : VC := .reg [⟨(some 5), .mv (.tmp 0), none⟩,
    ⟨(some 6), .bin .geq (.tmp 5) (.const (.int .i64 0)), none⟩,
    ⟨(some 7), .mv (.tmp 6), none⟩,
    ⟨(some 8), .mv (.tmp 0), (some (7, true))⟩,
    ⟨(some 9), .mv (.tmp 1), (some (7, true))⟩,
    ⟨(some 10), .bin .leq (.tmp 8) (.tmp 9), (some (7, true))⟩,
    ⟨(some 11), .pick (.tmp 7) (.tmp 10) (.const (.bool false)), none⟩,
    ⟨(some 4), .mv (.tmp 11), none⟩]
def k119_2 : VC := .seq k119_1 .ret
def k119_3 : VC := .seq k119_0 k119_2
def fn119 : VFn := ⟨12, k119_3, [.tmp 4]⟩
def k120_0 : VC := .reg [⟨(some 1), .box (.tmp 0), none⟩,
    ⟨(some 2), .mv (.const (.bool false)), none⟩]
def k120_1 : VC := .reg [⟨(some 3), .loadN [.bool, (.int .u64), (.int .u64)] (.tmp 1), none⟩,
    ⟨(some 4), .callF 86 [(.tmp 3)], none⟩,
    ⟨(some 5), .mv (.tmp 4), none⟩,
    ⟨(some 6), .fieldA 0 (.tmp 1), (some (5, true))⟩,
    ⟨(some 7), .load1 .bool (.tmp 6), (some (5, true))⟩,
    ⟨(some 8), .not (.tmp 7), (some (5, true))⟩,
    ⟨(some 9), .pick (.tmp 5) (.tmp 8) (.const (.bool false)), none⟩,
    ⟨(some 2), .mv (.tmp 9), none⟩]
def k120_2 : VC := .seq k120_1 .ret
def k120_3 : VC := .seq k120_0 k120_2
def fn120 : VFn := ⟨10, k120_3, [.tmp 2]⟩
def k38_0 : VC := .reg [⟨(some 1), .box (.tmp 0), none⟩,
    ⟨(some 2), .alloc [(.int .i64 0), (.int .i64 0), (.int .i64 0), (.string ⟨⟨[]⟩⟩)], none⟩]
def k38_1 : VC := .reg [⟨(some 3), .fieldA 0 (.tmp 1), none⟩,
    ⟨(some 4), .load1 (.int .i64) (.tmp 3), none⟩,
    ⟨(some 5), .fieldA 1 (.tmp 1), none⟩,
    ⟨(some 6), .load1 (.int .i64) (.tmp 5), none⟩,
    ⟨(some 7), .fieldA 2 (.tmp 1), none⟩,
    ⟨(some 8), .load1 (.int .i64) (.tmp 7), none⟩,
    ⟨(some 9), .fieldA 3 (.tmp 1), none⟩,
    ⟨(some 10), .load1 .str (.tmp 9), none⟩,
    ⟨(some 11), .build [(.int .i64 0), (.int .i64 0), (.int .i64 0), (.string ⟨⟨[]⟩⟩)] [(0, 1, (.tmp 4)), (1, 1, (.tmp 6)), (2, 1, (.tmp 8)), (3, 1, (.tmp 10))], none⟩,
    ⟨none, .store 4 (.tmp 2) (.tmp 11), none⟩]
def k38_2 : VC := .seq k38_1 .ret
def k38_3 : VC := .seq k38_0 k38_2
def fn38 : VFn := ⟨12, k38_3, [.cell 2 [(.int .i64), (.int .i64), (.int .i64), .str] true]⟩
def k8_0 : VC := .reg [⟨(some 4), .box (.tmp 0), none⟩,
    ⟨(some 5), .box (.tmp 1), none⟩,
    ⟨(some 6), .box (.tmp 2), none⟩,
    ⟨(some 8), .mv (.const (.bool false)), none⟩]
def k8_1 : VC := .reg [⟨(some 17), .fieldA 3 (.tmp 4), none⟩,
    ⟨(some 18), .load1 .str (.tmp 17), none⟩,
    ⟨(some 19), .lenS (.tmp 18), none⟩,
    ⟨(some 20), .bin .gtr (.tmp 19) (.const (.int .i64 300)), none⟩]
def k8_2 : VC := .reg [⟨(some 21), .callF 30 [], none⟩,
    ⟨(some 8), .mv (.tmp 21), none⟩]
def k8_3 : VC := .seq k8_2 .ret
def k8_4 : VC := .cond (.tmp 20) k8_3 .skip
def k8_5 : VC := .seq k8_1 k8_4
def k8_6 : VC := .regD [⟨(some 23), .loadN [(.int .i64), (.int .i64), (.int .i64), .str] (.tmp 4), none⟩,
    ⟨(some 24), .callF 32 [(.tmp 23)], none⟩,
    ⟨(some 25), .loadN [.bool, (.int .u64), (.int .u64)] (.tmp 5), none⟩,
    ⟨(some 26), .loadN [.bool, (.int .u64), (.int .u64)] (.tmp 6), none⟩,
    ⟨(some 27), .callF 31 [(.tmp 24), (.tmp 25), (.tmp 26)], none⟩,
    ⟨(some 22), .mv (.tmp 27), none⟩,
    ⟨(some 28), .extract 0 (.tmp 22), none⟩,
    ⟨(some 29), .extract 1 (.tmp 22), none⟩,
    ⟨(some 9), .mv (.tmp 28), none⟩] [(1, 2), (1, 3)] [⟨(some 10), .mv (.tmp 29), none⟩]
def k8_7 : VC := .reg [⟨(some 30), .mv (.tmp 10), none⟩,
    ⟨(some 31), .bin .neq (.tmp 30) (.const (.int .i64 0)), none⟩]
def k8_8 : VC := .reg [⟨(some 32), .mv (.tmp 9), none⟩,
    ⟨(some 33), .bin .eql (.tmp 32) (.const (.string ⟨⟨[]⟩⟩)), none⟩,
    ⟨(some 34), .mv (.tmp 33), none⟩,
    ⟨(some 35), .callF 30 [], (some (34, true))⟩,
    ⟨(some 36), .pick (.tmp 34) (.tmp 35) (.const (.bool false)), none⟩,
    ⟨(some 8), .mv (.tmp 36), none⟩]
def k8_9 : VC := .seq k8_8 .ret
def k8_10 : VC := .cond (.tmp 31) k8_9 .skip
def k8_11 : VC := .seq k8_7 k8_10
def k8_12 : VC := .reg [⟨(some 38), .mv (.tmp 9), none⟩,
    ⟨(some 39), .loadN [.bool, (.int .u64), (.int .u64)] (.tmp 5), none⟩,
    ⟨(some 40), .loadN [.bool, (.int .u64), (.int .u64)] (.tmp 6), none⟩,
    ⟨(some 41), .callF 34 [(.tmp 38), (.tmp 39), (.tmp 40)], none⟩,
    ⟨(some 37), .mv (.tmp 41), none⟩,
    ⟨(some 42), .extract 0 (.tmp 37), none⟩,
    ⟨(some 43), .extract 1 (.tmp 37), none⟩,
    ⟨(some 11), .alloc [(.int .i64 0), (.int .i64 0), (.int .i64 0), (.string ⟨⟨[]⟩⟩)], none⟩,
    ⟨none, .store 4 (.tmp 11) (.tmp 42), none⟩,
    ⟨(some 12), .mv (.tmp 43), none⟩]
def k8_13 : VC := .regD [⟨(some 44), .mv (.tmp 12), none⟩,
    ⟨(some 45), .bin .neq (.tmp 44) (.const (.int .i64 0)), none⟩,
    ⟨(some 46), .mv (.tmp 45), none⟩,
    ⟨(some 47), .loadN [(.int .i64), (.int .i64), (.int .i64), .str] (.tmp 11), (some (46, false))⟩,
    ⟨(some 48), .callF 38 [(.tmp 47)], (some (46, false))⟩,
    ⟨(some 49), .loadN [(.int .i64), (.int .i64), (.int .i64), .str] (.tmp 4), (some (46, false))⟩,
    ⟨(some 50), .eqAgg true [(0, (.int .i64)), (1, (.int .i64)), (2, (.int .i64)), (3, .str)] (.tmp 48) (.tmp 49), (some (46, false))⟩,
    ⟨(some 51), .pick (.tmp 46) (.const (.bool true)) (.tmp 50), none⟩,
    ⟨(some 52), .mv (.tmp 51), none⟩,
    ⟨(some 53), .mv (.tmp 9), (some (52, false))⟩,
    ⟨(some 54), .lenS (.tmp 53), (some (52, false))⟩,
    ⟨(some 55), .fieldA 3 (.tmp 4), (some (52, false))⟩,
    ⟨(some 56), .load1 .str (.tmp 55), (some (52, false))⟩,
    ⟨(some 57), .lenS (.tmp 56), (some (52, false))⟩,
    ⟨(some 58), .bin .add (.const (.int .i64 8)) (.tmp 57), (some (52, false))⟩] [(4, 5)] [⟨(some 59), .bin .neq (.tmp 54) (.tmp 58), (some (52, false))⟩,
    ⟨(some 60), .pick (.tmp 52) (.const (.bool true)) (.tmp 59), none⟩]
def k8_14 : VC := .reg [⟨(some 8), .mv (.const (.bool false)), none⟩]
def k8_15 : VC := .seq k8_14 .ret
def k8_16 : VC := .cond (.tmp 60) k8_15 .skip
def k8_17 : VC := .seq k8_13 k8_16
def k8_18 : VC := .reg [⟨(some 61), .mv (.tmp 3), none⟩,
    ⟨(some 62), .conv .i64 (.tmp 61), none⟩,
    ⟨(some 63), .mv (.tmp 9), none⟩,
    ⟨(some 64), .lenS (.tmp 63), none⟩,
    ⟨(some 65), .bin .mul (.const (.int .i64 8)) (.tmp 64), none⟩,
    ⟨(some 66), .bin .rem (.tmp 62) (.tmp 65), none⟩,
    ⟨(some 13), .mv (.tmp 66), none⟩]
def k8_19 : VC := .reg [⟨(some 67), .mv (.tmp 9), none⟩,
    ⟨(some 68), .s2b (.tmp 67), none⟩,
    ⟨(some 14), .mv (.tmp 68), none⟩]
def k8_20 : VC := .regD [⟨(some 69), .mv (.tmp 14), none⟩,
    ⟨(some 70), .mv (.tmp 13), none⟩,
    ⟨(some 71), .bin .quo (.tmp 70) (.const (.int .i64 8)), none⟩,
    ⟨(some 72), .mv (.tmp 14), none⟩,
    ⟨(some 73), .mv (.tmp 13), none⟩,
    ⟨(some 74), .bin .quo (.tmp 73) (.const (.int .i64 8)), none⟩,
    ⟨(some 75), .idxAL 1 (.tmp 72) (.tmp 74), none⟩,
    ⟨(some 76), .load1 (.int .u8) (.tmp 75), none⟩,
    ⟨(some 77), .mv (.tmp 13), none⟩,
    ⟨(some 78), .bin .rem (.tmp 77) (.const (.int .i64 8)), none⟩,
    ⟨(some 79), .bin .shl (.const (.int .u8 1)) (.tmp 78), none⟩,
    ⟨(some 80), .bin .xor (.tmp 76) (.tmp 79), none⟩] [] [⟨(some 81), .idxAL 1 (.tmp 69) (.tmp 71), none⟩,
    ⟨none, .store 1 (.tmp 81) (.tmp 80), none⟩]
def k8_21 : VC := .reg [⟨(some 83), .mv (.tmp 14), none⟩,
    ⟨(some 84), .b2s (.tmp 83), none⟩,
    ⟨(some 85), .loadN [.bool, (.int .u64), (.int .u64)] (.tmp 5), none⟩,
    ⟨(some 86), .loadN [.bool, (.int .u64), (.int .u64)] (.tmp 6), none⟩,
    ⟨(some 87), .callF 34 [(.tmp 84), (.tmp 85), (.tmp 86)], none⟩,
    ⟨(some 82), .mv (.tmp 87), none⟩,
    ⟨(some 88), .extract 0 (.tmp 82), none⟩,
    ⟨(some 89), .extract 1 (.tmp 82), none⟩,
    ⟨(some 15), .alloc [(.int .i64 0), (.int .i64 0), (.int .i64 0), (.string ⟨⟨[]⟩⟩)], none⟩,
    ⟨none, .store 4 (.tmp 15) (.tmp 88), none⟩,
    ⟨(some 16), .mv (.tmp 89), none⟩]
def k8_22 : VC := .reg [⟨(some 90), .mv (.tmp 16), none⟩,
    ⟨(some 91), .bin .eql (.tmp 90) (.const (.int .i64 4)), none⟩,
    ⟨(some 92), .mv (.tmp 91), none⟩,
    ⟨(some 93), .callF 30 [], (some (92, true))⟩,
    ⟨(some 94), .pick (.tmp 92) (.tmp 93) (.const (.bool false)), none⟩,
    ⟨(some 8), .mv (.tmp 94), none⟩]
def k8_23 : VC := .seq k8_22 .ret
def k8_24 : VC := .seq k8_21 k8_23
def k8_25 : VC := .seq k8_20 k8_24
def k8_26 : VC := .seq k8_19 k8_25
def k8_27 : VC := .seq k8_18 k8_26
def k8_28 : VC := .seq k8_17 k8_27
def k8_29 : VC := .seq k8_12 k8_28
def k8_30 : VC := .seq k8_11 k8_29
def k8_31 : VC := .seq k8_6 k8_30
def k8_32 : VC := .seq k8_5 k8_31
def k8_33 : VC := .seq k8_0 k8_32
def fn8 : VFn := ⟨95, k8_33, [.tmp 8]⟩
def k9_0 : VC := .reg [⟨(some 1), .box (.tmp 0), none⟩,
    ⟨(some 2), .mv (.const (.bool false)), none⟩]
def k9_1 : VC := .reg [⟨(some 11), .fieldA 3 (.tmp 1), none⟩,
    ⟨(some 12), .load1 .str (.tmp 11), none⟩,
    ⟨(some 13), .lenS (.tmp 12), none⟩,
    ⟨(some 14), .bin .gtr (.tmp 13) (.const (.int .i64 300)), none⟩]
def k9_2 : VC := .reg [⟨(some 15), .callF 30 [], none⟩,
    ⟨(some 2), .mv (.tmp 15), none⟩]
def k9_3 : VC := .seq k9_2 .ret
def k9_4 : VC := .cond (.tmp 14) k9_3 .skip
def k9_5 : VC := .seq k9_1 k9_4
def k9_6 : VC := .reg [⟨(some 17), .fieldA 3 (.tmp 1), none⟩,
    ⟨(some 18), .load1 .str (.tmp 17), none⟩,
    ⟨(some 19), .callF 39 [(.tmp 18)], none⟩,
    ⟨(some 16), .mv (.tmp 19), none⟩,
    ⟨(some 20), .extract 0 (.tmp 16), none⟩,
    ⟨(some 21), .extract 1 (.tmp 16), none⟩,
    ⟨(some 3), .alloc [(.int .i64 0), (.bool false), (.int .u64 0), (.int .u64 0), (.bool false), (.int .u64 0), (.int .u64 0), (.int .i64 0), (.int .i64 0)], none⟩,
    ⟨none, .store 9 (.tmp 3) (.tmp 20), none⟩,
    ⟨(some 4), .mv (.tmp 21), none⟩]
def k9_7 : VC := .reg [⟨(some 23), .fieldA 3 (.tmp 1), none⟩,
    ⟨(some 24), .load1 .str (.tmp 23), none⟩,
    ⟨(some 25), .callF 40 [(.tmp 24)], none⟩,
    ⟨(some 22), .mv (.tmp 25), none⟩,
    ⟨(some 26), .extract 0 (.tmp 22), none⟩,
    ⟨(some 27), .extract 1 (.tmp 22), none⟩,
    ⟨(some 5), .alloc [(.int .i64 0), (.bool false), (.int .u64 0), (.int .u64 0), (.bool false), (.int .u64 0), (.int .u64 0), (.int .i64 0), (.int .i64 0)], none⟩,
    ⟨none, .store 9 (.tmp 5) (.tmp 26), none⟩,
    ⟨(some 6), .mv (.tmp 27), none⟩]
def k9_8 : VC := .reg [⟨(some 29), .loadN [(.int .i64), (.int .i64), (.int .i64), .str] (.tmp 1), none⟩,
    ⟨(some 30), .callF 32 [(.tmp 29)], none⟩,
    ⟨(some 31), .callF 41 [(.tmp 30)], none⟩,
    ⟨(some 28), .mv (.tmp 31), none⟩,
    ⟨(some 32), .extract 0 (.tmp 28), none⟩,
    ⟨(some 33), .extract 1 (.tmp 28), none⟩,
    ⟨(some 7), .alloc [(.int .i64 0), (.bool false), (.int .u64 0), (.int .u64 0), (.bool false), (.int .u64 0), (.int .u64 0), (.int .i64 0), (.int .i64 0)], none⟩,
    ⟨none, .store 9 (.tmp 7) (.tmp 32), none⟩,
    ⟨(some 8), .mv (.tmp 33), none⟩]
def k9_9 : VC := .reg [⟨(some 35), .loadN [(.int .i64), (.int .i64), (.int .i64), .str] (.tmp 1), none⟩,
    ⟨(some 36), .callF 42 [(.tmp 35)], none⟩,
    ⟨(some 34), .mv (.tmp 36), none⟩,
    ⟨(some 37), .extract 0 (.tmp 34), none⟩,
    ⟨(some 38), .extract 1 (.tmp 34), none⟩,
    ⟨(some 9), .alloc [(.int .i64 0), (.bool false), (.int .u64 0), (.int .u64 0), (.bool false), (.int .u64 0), (.int .u64 0), (.int .i64 0), (.int .i64 0)], none⟩,
    ⟨none, .store 9 (.tmp 9) (.tmp 37), none⟩,
    ⟨(some 10), .mv (.tmp 38), none⟩]
def k9_10 : VC := .reg [⟨(some 39), .loadN [(.int .i64), .bool, (.int .u64), (.int .u64), .bool, (.int .u64), (.int .u64), (.int .i64), (.int .i64)] (.tmp 3), none⟩,
    ⟨(some 40), .loadN [(.int .i64), .bool, (.int .u64), (.int .u64), .bool, (.int .u64), (.int .u64), (.int .i64), (.int .i64)] (.tmp 5), none⟩,
    ⟨(some 41), .eqAgg false [(0, (.int .i64)), (1, .bool), (2, (.int .u64)), (3, (.int .u64)), (4, .bool), (5, (.int .u64)), (6, (.int .u64)), (7, (.int .i64)), (8, (.int .i64))] (.tmp 39) (.tmp 40), none⟩,
    ⟨(some 42), .mv (.tmp 41), none⟩,
    ⟨(some 43), .mv (.tmp 4), (some (42, true))⟩,
    ⟨(some 44), .mv (.tmp 6), (some (42, true))⟩,
    ⟨(some 45), .eqB false (.tmp 43) (.tmp 44), (some (42, true))⟩,
    ⟨(some 46), .pick (.tmp 42) (.tmp 45) (.const (.bool false)), none⟩,
    ⟨(some 47), .mv (.tmp 46), none⟩,
    ⟨(some 48), .loadN [(.int .i64), .bool, (.int .u64), (.int .u64), .bool, (.int .u64), (.int .u64), (.int .i64), (.int .i64)] (.tmp 7), (some (47, true))⟩,
    ⟨(some 49), .loadN [(.int .i64), .bool, (.int .u64), (.int .u64), .bool, (.int .u64), (.int .u64), (.int .i64), (.int .i64)] (.tmp 9), (some (47, true))⟩,
    ⟨(some 50), .eqAgg false [(0, (.int .i64)), (1, .bool), (2, (.int .u64)), (3, (.int .u64)), (4, .bool), (5, (.int .u64)), (6, (.int .u64)), (7, (.int .i64)), (8, (.int .i64))] (.tmp 48) (.tmp 49), (some (47, true))⟩,
    ⟨(some 51), .pick (.tmp 47) (.tmp 50) (.const (.bool false)), none⟩,
    ⟨(some 52), .mv (.tmp 51), none⟩,
    ⟨(some 53), .mv (.tmp 8), (some (52, true))⟩,
    ⟨(some 54), .mv (.tmp 10), (some (52, true))⟩,
    ⟨(some 55), .eqB false (.tmp 53) (.tmp 54), (some (52, true))⟩,
    ⟨(some 56), .pick (.tmp 52) (.tmp 55) (.const (.bool false)), none⟩,
    ⟨(some 57), .mv (.tmp 56), none⟩,
    ⟨(some 58), .callF 30 [], (some (57, true))⟩,
    ⟨(some 59), .pick (.tmp 57) (.tmp 58) (.const (.bool false)), none⟩,
    ⟨(some 2), .mv (.tmp 59), none⟩]
def k9_11 : VC := .seq k9_10 .ret
def k9_12 : VC := .seq k9_9 k9_11
def k9_13 : VC := .seq k9_8 k9_12
def k9_14 : VC := .seq k9_7 k9_13
def k9_15 : VC := .seq k9_6 k9_14
def k9_16 : VC := .seq k9_5 k9_15
def k9_17 : VC := .seq k9_0 k9_16
def fn9 : VFn := ⟨60, k9_17, [.tmp 2]⟩
def k39_0 : VC := .reg [⟨(some 2), .alloc [(.int .i64 0), (.bool false), (.int .u64 0), (.int .u64 0), (.bool false), (.int .u64 0), (.int .u64 0), (.int .i64 0), (.int .i64 0)], none⟩,
    ⟨(some 3), .mv (.const (.bool false)), none⟩]
def k39_1 : VC := .reg [⟨(some 12), .mv (.tmp 0), none⟩,
    ⟨(some 13), .callF 100 [(.tmp 12)], none⟩,
    ⟨(some 11), .mv (.tmp 13), none⟩,
    ⟨(some 14), .extract 0 (.tmp 11), none⟩,
    ⟨(some 15), .extract 1 (.tmp 11), none⟩,
    ⟨(some 16), .extract 2 (.tmp 11), none⟩,
    ⟨(some 17), .extract 3 (.tmp 11), none⟩,
    ⟨(some 4), .mv (.tmp 14), none⟩,
    ⟨(some 5), .mv (.tmp 15), none⟩,
    ⟨(some 6), .mv (.tmp 16), none⟩,
    ⟨(some 7), .mv (.tmp 17), none⟩]
def k39_2 : VC := .reg [⟨(some 19), .mv (.tmp 6), none⟩,
    ⟨(some 20), .callF 101 [(.tmp 19), (.const (.int .i64 0)), (.const (.int .i64 4))], none⟩,
    ⟨(some 18), .mv (.tmp 20), none⟩,
    ⟨(some 21), .extract 0 (.tmp 18), none⟩,
    ⟨(some 22), .extract 1 (.tmp 18), none⟩,
    ⟨(some 8), .mv (.tmp 21), none⟩,
    ⟨(some 9), .mv (.tmp 22), none⟩]
def k39_3 : VC := .reg [⟨(some 23), .mv (.tmp 7), none⟩,
    ⟨(some 24), .not (.tmp 23), none⟩,
    ⟨(some 25), .mv (.tmp 24), none⟩,
    ⟨(some 26), .mv (.tmp 9), (some (25, false))⟩,
    ⟨(some 27), .not (.tmp 26), (some (25, false))⟩,
    ⟨(some 28), .pick (.tmp 25) (.const (.bool true)) (.tmp 27), none⟩,
    ⟨(some 29), .mv (.tmp 28), none⟩,
    ⟨(some 30), .mv (.tmp 4), (some (29, false))⟩,
    ⟨(some 31), .bin .neq (.tmp 30) (.const (.int .i64 6)), (some (29, false))⟩,
    ⟨(some 32), .mv (.tmp 31), (some (29, false))⟩,
    ⟨(some 33), .mv (.tmp 4), (some (32, true))⟩,
    ⟨(some 34), .bin .neq (.tmp 33) (.const (.int .i64 17)), (some (32, true))⟩,
    ⟨(some 35), .pick (.tmp 32) (.tmp 34) (.const (.bool false)), (some (29, false))⟩,
    ⟨(some 36), .pick (.tmp 29) (.const (.bool true)) (.tmp 35), none⟩]
def k39_4 : VC := .reg [⟨(some 37), .build [(.int .i64 0), (.bool false), (.int .u64 0), (.int .u64 0), (.bool false), (.int .u64 0), (.int .u64 0), (.int .i64 0), (.int .i64 0)] [], none⟩,
    ⟨none, .store 9 (.tmp 2) (.tmp 37), none⟩,
    ⟨(some 3), .mv (.const (.bool false)), none⟩]
def k39_5 : VC := .seq k39_4 .ret
def k39_6 : VC := .cond (.tmp 36) k39_5 .skip
def k39_7 : VC := .seq k39_3 k39_6
def k39_8 : VC := .reg [⟨(some 38), .mv (.tmp 4), none⟩,
    ⟨(some 39), .mv (.tmp 8), none⟩,
    ⟨(some 40), .bin .shr (.tmp 39) (.const (.int .u64 16)), none⟩,
    ⟨(some 41), .conv .i64 (.tmp 40), none⟩,
    ⟨(some 42), .mv (.tmp 8), none⟩,
    ⟨(some 43), .bin .and (.tmp 42) (.const (.int .u64 65535)), none⟩,
    ⟨(some 44), .conv .i64 (.tmp 43), none⟩,
    ⟨(some 45), .build [(.int .i64 0), (.bool false), (.int .u64 0), (.int .u64 0), (.bool false), (.int .u64 0), (.int .u64 0), (.int .i64 0), (.int .i64 0)] [(0, 1, (.tmp 38)), (7, 1, (.tmp 41)), (8, 1, (.tmp 44))], none⟩,
    ⟨(some 10), .alloc [(.int .i64 0), (.bool false), (.int .u64 0), (.int .u64 0), (.bool false), (.int .u64 0), (.int .u64 0), (.int .i64 0), (.int .i64 0)], none⟩,
    ⟨none, .store 9 (.tmp 10) (.tmp 45), none⟩]
def k39_9 : VC := .reg [⟨(some 47), .mv (.tmp 5), none⟩,
    ⟨(some 48), .mv (.tmp 5), none⟩,
    ⟨(some 49), .lenS (.tmp 48), none⟩,
    ⟨(some 50), .bin .quo (.tmp 49) (.const (.int .i64 2)), none⟩,
    ⟨(some 51), .sliceS (.tmp 47) none (some (.tmp 50)), none⟩,
    ⟨(some 52), .callF 102 [(.tmp 51)], none⟩,
    ⟨(some 46), .mv (.tmp 52), none⟩,
    ⟨(some 53), .extract 0 (.tmp 46), none⟩,
    ⟨(some 54), .extract 1 (.tmp 46), none⟩,
    ⟨(some 55), .fieldA 1 (.tmp 10), none⟩,
    ⟨none, .store 3 (.tmp 55) (.tmp 53), none⟩]
def k39_10 : VC := .reg [⟨(some 57), .mv (.tmp 5), none⟩,
    ⟨(some 58), .mv (.tmp 5), none⟩,
    ⟨(some 59), .lenS (.tmp 58), none⟩,
    ⟨(some 60), .bin .quo (.tmp 59) (.const (.int .i64 2)), none⟩,
    ⟨(some 61), .sliceS (.tmp 57) (some (.tmp 60)) none, none⟩,
    ⟨(some 62), .callF 102 [(.tmp 61)], none⟩,
    ⟨(some 56), .mv (.tmp 62), none⟩,
    ⟨(some 63), .extract 0 (.tmp 56), none⟩,
    ⟨(some 64), .extract 1 (.tmp 56), none⟩,
    ⟨(some 65), .fieldA 4 (.tmp 10), none⟩,
    ⟨none, .store 3 (.tmp 65) (.tmp 63), none⟩]
def k39_11 : VC := .reg [⟨(some 66), .loadN [(.int .i64), .bool, (.int .u64), (.int .u64), .bool, (.int .u64), (.int .u64), (.int .i64), (.int .i64)] (.tmp 10), none⟩,
    ⟨none, .store 9 (.tmp 2) (.tmp 66), none⟩,
    ⟨(some 3), .mv (.const (.bool true)), none⟩]
def k39_12 : VC := .seq k39_11 .ret
def k39_13 : VC := .seq k39_10 k39_12
def k39_14 : VC := .seq k39_9 k39_13
def k39_15 : VC := .seq k39_8 k39_14
def k39_16 : VC := .seq k39_7 k39_15
def k39_17 : VC := .seq k39_2 k39_16
def k39_18 : VC := .seq k39_1 k39_17
def k39_19 : VC := .seq k39_0 k39_18
def fn39 : VFn := ⟨67, k39_19, [.cell 2 [(.int .i64), .bool, (.int .u64), (.int .u64), .bool, (.int .u64), (.int .u64), (.int .i64), (.int .i64)] true, .tmp 3]⟩
def k100_0 : VC := .reg [⟨(some 2), .mv (.const (.int .i64 0)), none⟩,
    ⟨(some 3), .mv (.const (.string ⟨⟨[]⟩⟩)), none⟩,
    ⟨(some 4), .mv (.const (.string ⟨⟨[]⟩⟩)), none⟩,
    ⟨(some 5), .mv (.const (.bool false)), none⟩]
def k100_1 : VC := .reg [⟨(some 9), .mv (.tmp 0), none⟩,
    ⟨(some 10), .callF 70 [(.tmp 9)], none⟩,
    ⟨(some 6), .mv (.tmp 10), none⟩]
def k100_2 : VC := .reg [⟨(some 11), .mv (.tmp 6), none⟩,
    ⟨(some 12), .callF 71 [(.tmp 11), (.const (.int .i64 1))], none⟩,
    ⟨(some 7), .mv (.tmp 12), none⟩]
def k100_3 : VC := .reg [⟨(some 8), .mv (.const (.int .i64 40)), none⟩]
def k100_4 : VC := .reg [⟨(some 13), .mv (.tmp 7), none⟩,
    ⟨(some 14), .bin .shr (.tmp 13) (.const (.int .u64 4)), none⟩]
def k100_5 : VC := .reg [⟨(some 16), .bin .eql (.tmp 14) (.const (.int .i64 4)), none⟩,
    ⟨(some 15), .mv (.tmp 16), none⟩]
def k100_6 : VC := .reg [⟨(some 17), .mv (.tmp 7), none⟩,
    ⟨(some 18), .bin .and (.tmp 17) (.const (.int .i64 15)), none⟩,
    ⟨(some 19), .bin .mul (.tmp 18) (.const (.int .i64 4)), none⟩,
    ⟨(some 8), .mv (.tmp 19), none⟩]
def k100_7 : VC := .reg [⟨(some 20), .mv (.tmp 8), none⟩,
    ⟨(some 21), .bin .lss (.tmp 20) (.const (.int .i64 20)), none⟩,
    ⟨(some 22), .mv (.tmp 21), none⟩,
    ⟨(some 23), .mv (.tmp 8), (some (22, false))⟩,
    ⟨(some 24), .mv (.tmp 0), (some (22, false))⟩,
    ⟨(some 25), .lenS (.tmp 24), (some (22, false))⟩,
    ⟨(some 26), .bin .gtr (.tmp 23) (.tmp 25), (some (22, false))⟩,
    ⟨(some 27), .pick (.tmp 22) (.const (.bool true)) (.tmp 26), none⟩,
    ⟨(some 28), .mv (.tmp 27), none⟩,
    ⟨(some 29), .mv (.tmp 0), (some (28, false))⟩,
    ⟨(some 30), .mv (.tmp 8), (some (28, false))⟩,
    ⟨(some 31), .sliceS (.tmp 29) none (some (.tmp 30)), (some (28, false))⟩,
    ⟨(some 32), .callF 73 [(.tmp 31)], (some (28, false))⟩,
    ⟨(some 33), .not (.tmp 32), (some (28, false))⟩,
    ⟨(some 34), .pick (.tmp 28) (.const (.bool true)) (.tmp 33), none⟩]
def k100_8 : VC := .reg [⟨(some 2), .mv (.const (.int .i64 0)), none⟩,
    ⟨(some 3), .mv (.const (.string ⟨⟨[]⟩⟩)), none⟩,
    ⟨(some 4), .mv (.const (.string ⟨⟨[]⟩⟩)), none⟩,
    ⟨(some 5), .mv (.const (.bool false)), none⟩]
def k100_9 : VC := .seq k100_8 .ret
def k100_10 : VC := .cond (.tmp 34) k100_9 .skip
def k100_11 : VC := .seq k100_7 k100_10
def k100_12 : VC := .regD [⟨(some 35), .mv (.tmp 0), none⟩,
    ⟨(some 36), .idxS (.tmp 35) (.const (.int .i64 9)), none⟩,
    ⟨(some 37), .conv .i64 (.tmp 36), none⟩,
    ⟨(some 38), .mv (.tmp 0), none⟩,
    ⟨(some 39), .sliceS (.tmp 38) (some (.const (.int .i64 12))) (some (.const (.int .i64 20))), none⟩,
    ⟨(some 40), .mv (.tmp 0), none⟩,
    ⟨(some 41), .mv (.tmp 8), none⟩,
    ⟨(some 42), .sliceS (.tmp 40) (some (.tmp 41)) none, none⟩,
    ⟨(some 2), .mv (.tmp 37), none⟩,
    ⟨(some 3), .mv (.tmp 39), none⟩] [] [⟨(some 4), .mv (.tmp 42), none⟩,
    ⟨(some 5), .mv (.const (.bool true)), none⟩]
def k100_13 : VC := .seq k100_12 .ret
def k100_14 : VC := .seq k100_11 k100_13
def k100_15 : VC := .seq k100_6 k100_14
def k100_16 : VC := .reg [⟨(some 44), .bin .eql (.tmp 14) (.const (.int .i64 6)), none⟩,
    ⟨(some 43), .mv (.tmp 44), none⟩]
def k100_17 : VC := .reg [⟨(some 45), .mv (.tmp 0), none⟩,
    ⟨(some 46), .lenS (.tmp 45), none⟩,
    ⟨(some 47), .mv (.tmp 8), none⟩,
    ⟨(some 48), .bin .lss (.tmp 46) (.tmp 47), none⟩]
def k100_18 : VC := .reg [⟨(some 2), .mv (.const (.int .i64 0)), none⟩,
    ⟨(some 3), .mv (.const (.string ⟨⟨[]⟩⟩)), none⟩,
    ⟨(some 4), .mv (.const (.string ⟨⟨[]⟩⟩)), none⟩,
    ⟨(some 5), .mv (.const (.bool false)), none⟩]
def k100_19 : VC := .seq k100_18 .ret
def k100_20 : VC := .cond (.tmp 48) k100_19 .skip
def k100_21 : VC := .seq k100_17 k100_20
def k100_22 : VC := .regD [⟨(some 49), .mv (.tmp 0), none⟩,
    ⟨(some 50), .idxS (.tmp 49) (.const (.int .i64 6)), none⟩,
    ⟨(some 51), .conv .i64 (.tmp 50), none⟩,
    ⟨(some 52), .mv (.tmp 0), none⟩,
    ⟨(some 53), .mv (.tmp 8), none⟩,
    ⟨(some 54), .sliceS (.tmp 52) (some (.const (.int .i64 8))) (some (.tmp 53)), none⟩,
    ⟨(some 55), .mv (.tmp 0), none⟩,
    ⟨(some 56), .mv (.tmp 8), none⟩,
    ⟨(some 57), .sliceS (.tmp 55) (some (.tmp 56)) none, none⟩,
    ⟨(some 2), .mv (.tmp 51), none⟩,
    ⟨(some 3), .mv (.tmp 54), none⟩] [] [⟨(some 4), .mv (.tmp 57), none⟩,
    ⟨(some 5), .mv (.const (.bool true)), none⟩]
def k100_23 : VC := .seq k100_22 .ret
def k100_24 : VC := .seq k100_21 k100_23
def k100_25 : VC := .cond (.tmp 43) k100_24 .skip
def k100_26 : VC := .seq k100_16 k100_25
def k100_27 : VC := .cond (.tmp 15) k100_15 k100_26
def k100_28 : VC := .seq k100_5 k100_27
def k100_29 : VC := .block 0 k100_28
def k100_30 : VC := .seq k100_4 k100_29
def k100_31 : VC := .reg [⟨(some 2), .mv (.const (.int .i64 0)), none⟩,
    ⟨(some 3), .mv (.const (.string ⟨⟨[]⟩⟩)), none⟩,
    ⟨(some 4), .mv (.const (.string ⟨⟨[]⟩⟩)), none⟩,
    ⟨(some 5), .mv (.const (.bool false)), none⟩]
def k100_32 : VC := .seq k100_31 .ret
def k100_33 : VC := .seq k100_30 k100_32
def k100_34 : VC := .seq k100_3 k100_33
def k100_35 : VC := .seq k100_2 k100_34
def k100_36 : VC := .seq k100_1 k100_35
def k100_37 : VC := .seq k100_0 k100_36
def fn100 : VFn := ⟨58, k100_37, [.tmp 2, .tmp 3, .tmp 4, .tmp 5]⟩
def k102_0 : VC := .reg [⟨(some 2), .alloc [(.bool false), (.int .u64 0), (.int .u64 0)], none⟩,
    ⟨(some 3), .mv (.const (.bool false)), none⟩]
def k102_1 : VC := .reg [⟨(some 7), .mv (.tmp 0), none⟩,
    ⟨(some 8), .lenS (.tmp 7), none⟩]
def k102_2 : VC := .reg [⟨(some 10), .bin .eql (.tmp 8) (.const (.int .i64 4)), none⟩,
    ⟨(some 9), .mv (.tmp 10), none⟩]
def k102_3 : VC := .reg [⟨(some 12), .mv (.tmp 0), none⟩,
    ⟨(some 13), .callF 101 [(.tmp 12), (.const (.int .i64 0)), (.const (.int .i64 4))], none⟩,
    ⟨(some 11), .mv (.tmp 13), none⟩,
    ⟨(some 14), .extract 0 (.tmp 11), none⟩,
    ⟨(some 15), .extract 1 (.tmp 11), none⟩,
    ⟨(some 4), .mv (.tmp 14), none⟩,
    ⟨(some 5), .mv (.tmp 15), none⟩]
def k102_4 : VC := .reg [⟨(some 16), .mv (.tmp 4), none⟩,
    ⟨(some 17), .build [(.bool false), (.int .u64 0), (.int .u64 0)] [(2, 1, (.tmp 16))], none⟩,
    ⟨none, .store 3 (.tmp 2) (.tmp 17), none⟩,
    ⟨(some 3), .mv (.const (.bool true)), none⟩]
def k102_5 : VC := .seq k102_4 .ret
def k102_6 : VC := .seq k102_3 k102_5
def k102_7 : VC := .reg [⟨(some 19), .bin .eql (.tmp 8) (.const (.int .i64 16)), none⟩,
    ⟨(some 18), .mv (.tmp 19), none⟩]
def k102_8 : VC := .reg [⟨(some 20), .build [(.bool false), (.int .u64 0), (.int .u64 0)] [(0, 1, (.const (.bool true)))], none⟩,
    ⟨(some 6), .alloc [(.bool false), (.int .u64 0), (.int .u64 0)], none⟩,
    ⟨none, .store 3 (.tmp 6) (.tmp 20), none⟩]
def k102_9 : VC := .reg [⟨(some 22), .mv (.tmp 0), none⟩,
    ⟨(some 23), .callF 101 [(.tmp 22), (.const (.int .i64 0)), (.const (.int .i64 8))], none⟩,
    ⟨(some 21), .mv (.tmp 23), none⟩,
    ⟨(some 24), .extract 0 (.tmp 21), none⟩,
    ⟨(some 25), .extract 1 (.tmp 21), none⟩,
    ⟨(some 26), .fieldA 1 (.tmp 6), none⟩,
    ⟨none, .store 1 (.tmp 26) (.tmp 24), none⟩]
def k102_10 : VC := .reg [⟨(some 28), .mv (.tmp 0), none⟩,
    ⟨(some 29), .callF 101 [(.tmp 28), (.const (.int .i64 8)), (.const (.int .i64 8))], none⟩,
    ⟨(some 27), .mv (.tmp 29), none⟩,
    ⟨(some 30), .extract 0 (.tmp 27), none⟩,
    ⟨(some 31), .extract 1 (.tmp 27), none⟩,
    ⟨(some 32), .fieldA 2 (.tmp 6), none⟩,
    ⟨none, .store 1 (.tmp 32) (.tmp 30), none⟩]
def k102_11 : VC := .reg [⟨(some 33), .loadN [.bool, (.int .u64), (.int .u64)] (.tmp 6), none⟩,
    ⟨none, .store 3 (.tmp 2) (.tmp 33), none⟩,
    ⟨(some 3), .mv (.const (.bool true)), none⟩]
def k102_12 : VC := .seq k102_11 .ret
def k102_13 : VC := .seq k102_10 k102_12
def k102_14 : VC := .seq k102_9 k102_13
def k102_15 : VC := .seq k102_8 k102_14
def k102_16 : VC := .cond (.tmp 18) k102_15 .skip
def k102_17 : VC := .seq k102_7 k102_16
def k102_18 : VC := .cond (.tmp 9) k102_6 k102_17
def k102_19 : VC := .seq k102_2 k102_18
def k102_20 : VC := .block 0 k102_19
def k102_21 : VC := .seq k102_1 k102_20
def k102_22 : VC := .reg [⟨(some 34), .build [(.bool false), (.int .u64 0), (.int .u64 0)] [], none⟩,
    ⟨none, .store 3 (.tmp 2) (.tmp 34), none⟩,
    ⟨(some 3), .mv (.const (.bool false)), none⟩]
def k102_23 : VC := .seq k102_22 .ret
def k102_24 : VC := .seq k102_21 k102_23
def k102_25 : VC := .seq k102_0 k102_24
def fn102 : VFn := ⟨35, k102_25, [.cell 2 [.bool, (.int .u64), (.int .u64)] true, .tmp 3]⟩
def k40_0 : VC := .reg [⟨(some 2), .alloc [(.int .i64 0), (.bool false), (.int .u64 0), (.int .u64 0), (.bool false), (.int .u64 0), (.int .u64 0), (.int .i64 0), (.int .i64 0)], none⟩,
    ⟨(some 3), .mv (.const (.bool false)), none⟩]
def k40_1 : VC := .reg [⟨(some 12), .mv (.tmp 0), none⟩,
    ⟨(some 13), .lenS (.tmp 12), none⟩,
    ⟨(some 14), .bin .lss (.tmp 13) (.const (.int .i64 20)), none⟩]
def k40_2 : VC := .reg [⟨(some 15), .build [(.int .i64 0), (.bool false), (.int .u64 0), (.int .u64 0), (.bool false), (.int .u64 0), (.int .u64 0), (.int .i64 0), (.int .i64 0)] [], none⟩,
    ⟨none, .store 9 (.tmp 2) (.tmp 15), none⟩,
    ⟨(some 3), .mv (.const (.bool false)), none⟩]
def k40_3 : VC := .seq k40_2 .ret
def k40_4 : VC := .cond (.tmp 14) k40_3 .skip
def k40_5 : VC := .seq k40_1 k40_4
def k40_6 : VC := .reg [⟨(some 4), .mv (.const (.int .i64 40)), none⟩,
    ⟨(some 5), .mv (.const (.int .i64 0)), none⟩,
    ⟨(some 6), .mv (.const (.int .i64 16)), none⟩]
def k40_7 : VC := .reg [⟨(some 7), .mv (.const (.int .i64 8)), none⟩]
def k40_8 : VC := .reg [⟨(some 16), .mv (.tmp 0), none⟩,
    ⟨(some 17), .idxS (.tmp 16) (.const (.int .i64 0)), none⟩,
    ⟨(some 18), .bin .quo (.tmp 17) (.const (.int .u8 16)), none⟩,
    ⟨(some 19), .bin .eql (.tmp 18) (.const (.int .u8 4)), none⟩]
def k40_9 : VC := .reg [⟨(some 20), .mv (.tmp 0), none⟩,
    ⟨(some 21), .idxS (.tmp 20) (.const (.int .i64 0)), none⟩,
    ⟨(some 22), .bin .rem (.tmp 21) (.const (.int .u8 16)), none⟩,
    ⟨(some 23), .conv .i64 (.tmp 22), none⟩,
    ⟨(some 24), .bin .mul (.const (.int .i64 4)) (.tmp 23), none⟩,
    ⟨(some 4), .mv (.tmp 24), none⟩]
def k40_10 : VC := .reg [⟨(some 25), .mv (.tmp 0), none⟩,
    ⟨(some 26), .idxS (.tmp 25) (.const (.int .i64 9)), none⟩,
    ⟨(some 27), .conv .i64 (.tmp 26), none⟩,
    ⟨(some 5), .mv (.tmp 27), none⟩]
def k40_11 : VC := .reg [⟨(some 6), .mv (.const (.int .i64 4)), none⟩]
def k40_12 : VC := .reg [⟨(some 7), .mv (.const (.int .i64 12)), none⟩]
def k40_13 : VC := .reg [⟨(some 28), .mv (.tmp 4), none⟩,
    ⟨(some 29), .bin .lss (.tmp 28) (.const (.int .i64 20)), none⟩,
    ⟨(some 30), .mv (.tmp 29), none⟩,
    ⟨(some 31), .mv (.tmp 4), (some (30, false))⟩,
    ⟨(some 32), .mv (.tmp 0), (some (30, false))⟩,
    ⟨(some 33), .lenS (.tmp 32), (some (30, false))⟩,
    ⟨(some 34), .bin .gtr (.tmp 31) (.tmp 33), (some (30, false))⟩,
    ⟨(some 35), .pick (.tmp 30) (.const (.bool true)) (.tmp 34), none⟩,
    ⟨(some 36), .mv (.tmp 35), none⟩,
    ⟨(some 37), .mv (.tmp 0), (some (36, false))⟩,
    ⟨(some 38), .mv (.tmp 4), (some (36, false))⟩,
    ⟨(some 39), .sliceS (.tmp 37) none (some (.tmp 38)), (some (36, false))⟩,
    ⟨(some 40), .callF 75 [(.tmp 39)], (some (36, false))⟩,
    ⟨(some 41), .bin .neq (.tmp 40) (.const (.int .i64 65535)), (some (36, false))⟩,
    ⟨(some 42), .pick (.tmp 36) (.const (.bool true)) (.tmp 41), none⟩]
def k40_14 : VC := .reg [⟨(some 43), .build [(.int .i64 0), (.bool false), (.int .u64 0), (.int .u64 0), (.bool false), (.int .u64 0), (.int .u64 0), (.int .i64 0), (.int .i64 0)] [], none⟩,
    ⟨none, .store 9 (.tmp 2) (.tmp 43), none⟩,
    ⟨(some 3), .mv (.const (.bool false)), none⟩]
def k40_15 : VC := .seq k40_14 .ret
def k40_16 : VC := .cond (.tmp 42) k40_15 .skip
def k40_17 : VC := .seq k40_13 k40_16
def k40_18 : VC := .seq k40_12 k40_17
def k40_19 : VC := .seq k40_11 k40_18
def k40_20 : VC := .seq k40_10 k40_19
def k40_21 : VC := .seq k40_9 k40_20
def k40_22 : VC := .reg [⟨(some 44), .mv (.tmp 0), none⟩,
    ⟨(some 45), .idxS (.tmp 44) (.const (.int .i64 0)), none⟩,
    ⟨(some 46), .bin .quo (.tmp 45) (.const (.int .u8 16)), none⟩,
    ⟨(some 47), .bin .eql (.tmp 46) (.const (.int .u8 6)), none⟩]
def k40_23 : VC := .reg [⟨(some 48), .mv (.tmp 0), none⟩,
    ⟨(some 49), .idxS (.tmp 48) (.const (.int .i64 6)), none⟩,
    ⟨(some 50), .conv .i64 (.tmp 49), none⟩,
    ⟨(some 5), .mv (.tmp 50), none⟩]
def k40_24 : VC := .cond (.tmp 47) k40_23 .skip
def k40_25 : VC := .seq k40_22 k40_24
def k40_26 : VC := .cond (.tmp 19) k40_21 k40_25
def k40_27 : VC := .seq k40_8 k40_26
def k40_28 : VC := .reg [⟨(some 51), .mv (.tmp 0), none⟩,
    ⟨(some 52), .lenS (.tmp 51), none⟩,
    ⟨(some 53), .mv (.tmp 4), none⟩,
    ⟨(some 54), .bin .add (.tmp 53) (.const (.int .i64 4)), none⟩,
    ⟨(some 55), .bin .lss (.tmp 52) (.tmp 54), none⟩,
    ⟨(some 56), .mv (.tmp 55), none⟩,
    ⟨(some 57), .mv (.tmp 5), (some (56, false))⟩,
    ⟨(some 58), .bin .neq (.tmp 57) (.const (.int .i64 6)), (some (56, false))⟩,
    ⟨(some 59), .mv (.tmp 58), (some (56, false))⟩,
    ⟨(some 60), .mv (.tmp 5), (some (59, true))⟩,
    ⟨(some 61), .bin .neq (.tmp 60) (.const (.int .i64 17)), (some (59, true))⟩,
    ⟨(some 62), .pick (.tmp 59) (.tmp 61) (.const (.bool false)), (some (56, false))⟩,
    ⟨(some 63), .pick (.tmp 56) (.const (.bool true)) (.tmp 62), none⟩]
def k40_29 : VC := .reg [⟨(some 64), .build [(.int .i64 0), (.bool false), (.int .u64 0), (.int .u64 0), (.bool false), (.int .u64 0), (.int .u64 0), (.int .i64 0), (.int .i64 0)] [], none⟩,
    ⟨none, .store 9 (.tmp 2) (.tmp 64), none⟩,
    ⟨(some 3), .mv (.const (.bool false)), none⟩]
def k40_30 : VC := .seq k40_29 .ret
def k40_31 : VC := .cond (.tmp 63) k40_30 .skip
def k40_32 : VC := .seq k40_28 k40_31
def k40_33 : VC := .reg [⟨(some 66), .mv (.tmp 0), none⟩,
    ⟨(some 67), .mv (.tmp 7), none⟩,
    ⟨(some 68), .mv (.tmp 7), none⟩,
    ⟨(some 69), .mv (.tmp 6), none⟩,
    ⟨(some 70), .bin .add (.tmp 68) (.tmp 69), none⟩,
    ⟨(some 71), .sliceS (.tmp 66) (some (.tmp 67)) (some (.tmp 70)), none⟩,
    ⟨(some 72), .callF 84 [(.tmp 71)], none⟩,
    ⟨(some 65), .mv (.tmp 72), none⟩,
    ⟨(some 73), .extract 0 (.tmp 65), none⟩,
    ⟨(some 74), .extract 1 (.tmp 65), none⟩,
    ⟨(some 8), .alloc [(.bool false), (.int .u64 0), (.int .u64 0)], none⟩,
    ⟨none, .store 3 (.tmp 8) (.tmp 73), none⟩,
    ⟨(some 9), .mv (.tmp 74), none⟩]
def k40_34 : VC := .reg [⟨(some 76), .mv (.tmp 0), none⟩,
    ⟨(some 77), .mv (.tmp 7), none⟩,
    ⟨(some 78), .mv (.tmp 6), none⟩,
    ⟨(some 79), .bin .add (.tmp 77) (.tmp 78), none⟩,
    ⟨(some 80), .mv (.tmp 7), none⟩,
    ⟨(some 81), .mv (.tmp 6), none⟩,
    ⟨(some 82), .bin .mul (.const (.int .i64 2)) (.tmp 81), none⟩,
    ⟨(some 83), .bin .add (.tmp 80) (.tmp 82), none⟩,
    ⟨(some 84), .sliceS (.tmp 76) (some (.tmp 79)) (some (.tmp 83)), none⟩,
    ⟨(some 85), .callF 84 [(.tmp 84)], none⟩,
    ⟨(some 75), .mv (.tmp 85), none⟩,
    ⟨(some 86), .extract 0 (.tmp 75), none⟩,
    ⟨(some 87), .extract 1 (.tmp 75), none⟩,
    ⟨(some 10), .alloc [(.bool false), (.int .u64 0), (.int .u64 0)], none⟩,
    ⟨none, .store 3 (.tmp 10) (.tmp 86), none⟩,
    ⟨(some 11), .mv (.tmp 87), none⟩]
def k40_35 : VC := .regD [⟨(some 88), .mv (.tmp 5), none⟩,
    ⟨(some 89), .loadN [.bool, (.int .u64), (.int .u64)] (.tmp 8), none⟩,
    ⟨(some 90), .loadN [.bool, (.int .u64), (.int .u64)] (.tmp 10), none⟩,
    ⟨(some 91), .mv (.tmp 0), none⟩,
    ⟨(some 92), .mv (.tmp 4), none⟩,
    ⟨(some 93), .callF 74 [(.tmp 91), (.tmp 92), (.const (.int .i64 2))], none⟩,
    ⟨(some 94), .mv (.tmp 0), none⟩,
    ⟨(some 95), .mv (.tmp 4), none⟩,
    ⟨(some 96), .bin .add (.tmp 95) (.const (.int .i64 2)), none⟩,
    ⟨(some 97), .callF 74 [(.tmp 94), (.tmp 96), (.const (.int .i64 2))], none⟩] [(1, 5), (1, 9), (2, 5), (2, 9)] [⟨(some 98), .build [(.int .i64 0), (.bool false), (.int .u64 0), (.int .u64 0), (.bool false), (.int .u64 0), (.int .u64 0), (.int .i64 0), (.int .i64 0)] [(0, 1, (.tmp 88)), (1, 3, (.tmp 89)), (4, 3, (.tmp 90)), (7, 1, (.tmp 93)), (8, 1, (.tmp 97))], none⟩,
    ⟨none, .store 9 (.tmp 2) (.tmp 98), none⟩,
    ⟨(some 3), .mv (.const (.bool true)), none⟩]
def k40_36 : VC := .seq k40_35 .ret
def k40_37 : VC := .seq k40_34 k40_36
def k40_38 : VC := .seq k40_33 k40_37
def k40_39 : VC := .seq k40_32 k40_38
def k40_40 : VC := .seq k40_27 k40_39
def k40_41 : VC := .seq k40_7 k40_40
def k40_42 : VC := .seq k40_6 k40_41
def k40_43 : VC := .seq k40_5 k40_42
def k40_44 : VC := .seq k40_0 k40_43
def fn40 : VFn := ⟨99, k40_44, [.cell 2 [(.int .i64), .bool, (.int .u64), (.int .u64), .bool, (.int .u64), (.int .u64), (.int .i64), (.int .i64)] true, .tmp 3]⟩
def k84_0 : VC := .reg [⟨(some 2), .alloc [(.bool false), (.int .u64 0), (.int .u64 0)], none⟩,
    ⟨(some 3), .mv (.const (.bool false)), none⟩]
def k84_1 : VC := .reg [⟨(some 10), .mv (.tmp 0), none⟩,
    ⟨(some 11), .lenS (.tmp 10), none⟩,
    ⟨(some 12), .bin .eql (.tmp 11) (.const (.int .i64 4)), none⟩]
def k84_2 : VC := .reg [⟨(some 14), .mv (.tmp 0), none⟩,
    ⟨(some 15), .callF 114 [(.tmp 14), (.const (.int .i64 0)), (.const (.int .i64 4))], none⟩,
    ⟨(some 13), .mv (.tmp 15), none⟩,
    ⟨(some 16), .extract 0 (.tmp 13), none⟩,
    ⟨(some 17), .extract 1 (.tmp 13), none⟩,
    ⟨(some 4), .mv (.tmp 16), none⟩,
    ⟨(some 5), .mv (.tmp 17), none⟩]
def k84_3 : VC := .reg [⟨(some 18), .mv (.tmp 4), none⟩,
    ⟨(some 19), .build [(.bool false), (.int .u64 0), (.int .u64 0)] [(2, 1, (.tmp 18))], none⟩,
    ⟨none, .store 3 (.tmp 2) (.tmp 19), none⟩,
    ⟨(some 3), .mv (.const (.bool true)), none⟩]
def k84_4 : VC := .seq k84_3 .ret
def k84_5 : VC := .seq k84_2 k84_4
def k84_6 : VC := .cond (.tmp 12) k84_5 .skip
def k84_7 : VC := .seq k84_1 k84_6
def k84_8 : VC := .reg [⟨(some 20), .mv (.tmp 0), none⟩,
    ⟨(some 21), .lenS (.tmp 20), none⟩,
    ⟨(some 22), .bin .eql (.tmp 21) (.const (.int .i64 16)), none⟩]
def k84_9 : VC := .reg [⟨(some 24), .mv (.tmp 0), none⟩,
    ⟨(some 25), .callF 114 [(.tmp 24), (.const (.int .i64 0)), (.const (.int .i64 8))], none⟩,
    ⟨(some 23), .mv (.tmp 25), none⟩,
    ⟨(some 26), .extract 0 (.tmp 23), none⟩,
    ⟨(some 27), .extract 1 (.tmp 23), none⟩,
    ⟨(some 6), .mv (.tmp 26), none⟩,
    ⟨(some 7), .mv (.tmp 27), none⟩]
def k84_10 : VC := .reg [⟨(some 29), .mv (.tmp 0), none⟩,
    ⟨(some 30), .callF 114 [(.tmp 29), (.const (.int .i64 8)), (.const (.int .i64 8))], none⟩,
    ⟨(some 28), .mv (.tmp 30), none⟩,
    ⟨(some 31), .extract 0 (.tmp 28), none⟩,
    ⟨(some 32), .extract 1 (.tmp 28), none⟩,
    ⟨(some 8), .mv (.tmp 31), none⟩,
    ⟨(some 9), .mv (.tmp 32), none⟩]
def k84_11 : VC := .reg [⟨(some 33), .mv (.tmp 6), none⟩,
    ⟨(some 34), .mv (.tmp 8), none⟩,
    ⟨(some 35), .build [(.bool false), (.int .u64 0), (.int .u64 0)] [(0, 1, (.const (.bool true))), (1, 1, (.tmp 33)), (2, 1, (.tmp 34))], none⟩,
    ⟨none, .store 3 (.tmp 2) (.tmp 35), none⟩,
    ⟨(some 3), .mv (.const (.bool true)), none⟩]
def k84_12 : VC := .seq k84_11 .ret
def k84_13 : VC := .seq k84_10 k84_12
def k84_14 : VC := .seq k84_9 k84_13
def k84_15 : VC := .cond (.tmp 22) k84_14 .skip
def k84_16 : VC := .seq k84_8 k84_15
def k84_17 : VC := .reg [⟨(some 36), .build [(.bool false), (.int .u64 0), (.int .u64 0)] [], none⟩,
    ⟨none, .store 3 (.tmp 2) (.tmp 36), none⟩,
    ⟨(some 3), .mv (.const (.bool false)), none⟩]
def k84_18 : VC := .seq k84_17 .ret
def k84_19 : VC := .seq k84_16 k84_18
def k84_20 : VC := .seq k84_7 k84_19
def k84_21 : VC := .seq k84_0 k84_20
def fn84 : VFn := ⟨37, k84_21, [.cell 2 [.bool, (.int .u64), (.int .u64)] true, .tmp 3]⟩
def k41_0 : VC := .reg [⟨(some 1), .box (.tmp 0), none⟩,
    ⟨(some 2), .alloc [(.int .i64 0), (.bool false), (.int .u64 0), (.int .u64 0), (.bool false), (.int .u64 0), (.int .u64 0), (.int .i64 0), (.int .i64 0)], none⟩,
    ⟨(some 3), .mv (.const (.bool false)), none⟩]
def k41_1 : VC := .reg [⟨(some 7), .fieldA 3 (.tmp 1), none⟩,
    ⟨(some 8), .load1 .str (.tmp 7), none⟩,
    ⟨(some 9), .callF 39 [(.tmp 8)], none⟩,
    ⟨(some 6), .mv (.tmp 9), none⟩,
    ⟨(some 10), .extract 0 (.tmp 6), none⟩,
    ⟨(some 11), .extract 1 (.tmp 6), none⟩,
    ⟨(some 4), .alloc [(.int .i64 0), (.bool false), (.int .u64 0), (.int .u64 0), (.bool false), (.int .u64 0), (.int .u64 0), (.int .i64 0), (.int .i64 0)], none⟩,
    ⟨none, .store 9 (.tmp 4) (.tmp 10), none⟩,
    ⟨(some 5), .mv (.tmp 11), none⟩]
def k41_2 : VC := .reg [⟨(some 12), .mv (.tmp 5), none⟩,
    ⟨(some 13), .not (.tmp 12), none⟩,
    ⟨(some 14), .mv (.tmp 13), none⟩,
    ⟨(some 15), .fieldA 0 (.tmp 1), (some (14, false))⟩,
    ⟨(some 16), .load1 (.int .i64) (.tmp 15), (some (14, false))⟩,
    ⟨(some 17), .bin .lss (.tmp 16) (.const (.int .i64 1)), (some (14, false))⟩,
    ⟨(some 18), .pick (.tmp 14) (.const (.bool true)) (.tmp 17), none⟩,
    ⟨(some 19), .mv (.tmp 18), none⟩,
    ⟨(some 20), .fieldA 0 (.tmp 1), (some (19, false))⟩,
    ⟨(some 21), .load1 (.int .i64) (.tmp 20), (some (19, false))⟩,
    ⟨(some 22), .bin .gtr (.tmp 21) (.const (.int .i64 3)), (some (19, false))⟩,
    ⟨(some 23), .pick (.tmp 19) (.const (.bool true)) (.tmp 22), none⟩]
def k41_3 : VC := .reg [⟨(some 24), .build [(.int .i64 0), (.bool false), (.int .u64 0), (.int .u64 0), (.bool false), (.int .u64 0), (.int .u64 0), (.int .i64 0), (.int .i64 0)] [], none⟩,
    ⟨none, .store 9 (.tmp 2) (.tmp 24), none⟩,
    ⟨(some 3), .mv (.const (.bool false)), none⟩]
def k41_4 : VC := .seq k41_3 .ret
def k41_5 : VC := .cond (.tmp 23) k41_4 .skip
def k41_6 : VC := .seq k41_2 k41_5
def k41_7 : VC := .reg [⟨(some 25), .loadN [(.int .i64), .bool, (.int .u64), (.int .u64), .bool, (.int .u64), (.int .u64), (.int .i64), (.int .i64)] (.tmp 4), none⟩,
    ⟨(some 26), .callF 103 [(.tmp 25)], none⟩,
    ⟨none, .store 9 (.tmp 2) (.tmp 26), none⟩,
    ⟨(some 3), .mv (.const (.bool true)), none⟩]
def k41_8 : VC := .seq k41_7 .ret
def k41_9 : VC := .seq k41_6 k41_8
def k41_10 : VC := .seq k41_1 k41_9
def k41_11 : VC := .seq k41_0 k41_10
def fn41 : VFn := ⟨27, k41_11, [.cell 2 [(.int .i64), .bool, (.int .u64), (.int .u64), .bool, (.int .u64), (.int .u64), (.int .i64), (.int .i64)] true, .tmp 3]⟩
def k103_0 : VC := .reg [⟨(some 1), .box (.tmp 0), none⟩,
    ⟨(some 2), .alloc [(.int .i64 0), (.bool false), (.int .u64 0), (.int .u64 0), (.bool false), (.int .u64 0), (.int .u64 0), (.int .i64 0), (.int .i64 0)], none⟩]
def k103_1 : VC := .reg [⟨(some 3), .fieldA 4 (.tmp 1), none⟩,
    ⟨(some 4), .loadN [.bool, (.int .u64), (.int .u64)] (.tmp 3), none⟩,
    ⟨(some 5), .fieldA 1 (.tmp 1), none⟩,
    ⟨(some 6), .loadN [.bool, (.int .u64), (.int .u64)] (.tmp 5), none⟩,
    ⟨(some 7), .fieldA 8 (.tmp 1), none⟩,
    ⟨(some 8), .load1 (.int .i64) (.tmp 7), none⟩,
    ⟨(some 9), .fieldA 7 (.tmp 1), none⟩,
    ⟨(some 10), .load1 (.int .i64) (.tmp 9), none⟩,
    ⟨(some 11), .fieldA 1 (.tmp 1), none⟩,
    ⟨none, .store 3 (.tmp 11) (.tmp 4), none⟩,
    ⟨(some 12), .fieldA 4 (.tmp 1), none⟩,
    ⟨none, .store 3 (.tmp 12) (.tmp 6), none⟩,
    ⟨(some 13), .fieldA 7 (.tmp 1), none⟩,
    ⟨none, .store 1 (.tmp 13) (.tmp 8), none⟩,
    ⟨(some 14), .fieldA 8 (.tmp 1), none⟩,
    ⟨none, .store 1 (.tmp 14) (.tmp 10), none⟩]
def k103_2 : VC := .reg [⟨(some 15), .loadN [(.int .i64), .bool, (.int .u64), (.int .u64), .bool, (.int .u64), (.int .u64), (.int .i64), (.int .i64)] (.tmp 1), none⟩,
    ⟨none, .store 9 (.tmp 2) (.tmp 15), none⟩]
def k103_3 : VC := .seq k103_2 .ret
def k103_4 : VC := .seq k103_1 k103_3
def k103_5 : VC := .seq k103_0 k103_4
def fn103 : VFn := ⟨16, k103_5, [.cell 2 [(.int .i64), .bool, (.int .u64), (.int .u64), .bool, (.int .u64), (.int .u64), (.int .i64), (.int .i64)] true]⟩
def k42_0 : VC := .reg [⟨(some 1), .box (.tmp 0), none⟩,
    ⟨(some 2), .alloc [(.int .i64 0), (.bool false), (.int .u64 0), (.int .u64 0), (.bool false), (.int .u64 0), (.int .u64 0), (.int .i64 0), (.int .i64 0)], none⟩,
    ⟨(some 3), .mv (.const (.bool false)), none⟩]
def k42_1 : VC := .reg [⟨(some 7), .fieldA 3 (.tmp 1), none⟩,
    ⟨(some 8), .load1 .str (.tmp 7), none⟩,
    ⟨(some 9), .callF 40 [(.tmp 8)], none⟩,
    ⟨(some 6), .mv (.tmp 9), none⟩,
    ⟨(some 10), .extract 0 (.tmp 6), none⟩,
    ⟨(some 11), .extract 1 (.tmp 6), none⟩,
    ⟨(some 4), .alloc [(.int .i64 0), (.bool false), (.int .u64 0), (.int .u64 0), (.bool false), (.int .u64 0), (.int .u64 0), (.int .i64 0), (.int .i64 0)], none⟩,
    ⟨none, .store 9 (.tmp 4) (.tmp 10), none⟩,
    ⟨(some 5), .mv (.tmp 11), none⟩]
def k42_2 : VC := .reg [⟨(some 12), .mv (.tmp 5), none⟩,
    ⟨(some 13), .not (.tmp 12), none⟩,
    ⟨(some 14), .mv (.tmp 13), none⟩,
    ⟨(some 15), .fieldA 0 (.tmp 1), (some (14, false))⟩,
    ⟨(some 16), .load1 (.int .i64) (.tmp 15), (some (14, false))⟩,
    ⟨(some 17), .bin .lss (.tmp 16) (.const (.int .i64 1)), (some (14, false))⟩,
    ⟨(some 18), .pick (.tmp 14) (.const (.bool true)) (.tmp 17), none⟩,
    ⟨(some 19), .mv (.tmp 18), none⟩,
    ⟨(some 20), .fieldA 0 (.tmp 1), (some (19, false))⟩,
    ⟨(some 21), .load1 (.int .i64) (.tmp 20), (some (19, false))⟩,
    ⟨(some 22), .bin .gtr (.tmp 21) (.const (.int .i64 3)), (some (19, false))⟩,
    ⟨(some 23), .pick (.tmp 19) (.const (.bool true)) (.tmp 22), none⟩]
def k42_3 : VC := .reg [⟨(some 24), .build [(.int .i64 0), (.bool false), (.int .u64 0), (.int .u64 0), (.bool false), (.int .u64 0), (.int .u64 0), (.int .i64 0), (.int .i64 0)] [], none⟩,
    ⟨none, .store 9 (.tmp 2) (.tmp 24), none⟩,
    ⟨(some 3), .mv (.const (.bool false)), none⟩]
def k42_4 : VC := .seq k42_3 .ret
def k42_5 : VC := .cond (.tmp 23) k42_4 .skip
def k42_6 : VC := .seq k42_2 k42_5
def k42_7 : VC := .reg [⟨(some 25), .loadN [(.int .i64), .bool, (.int .u64), (.int .u64), .bool, (.int .u64), (.int .u64), (.int .i64), (.int .i64)] (.tmp 4), none⟩,
    ⟨(some 26), .callF 46 [(.tmp 25)], none⟩,
    ⟨none, .store 9 (.tmp 2) (.tmp 26), none⟩,
    ⟨(some 3), .mv (.const (.bool true)), none⟩]
def k42_8 : VC := .seq k42_7 .ret
def k42_9 : VC := .seq k42_6 k42_8
def k42_10 : VC := .seq k42_1 k42_9
def k42_11 : VC := .seq k42_0 k42_10
def fn42 : VFn := ⟨27, k42_11, [.cell 2 [(.int .i64), .bool, (.int .u64), (.int .u64), .bool, (.int .u64), (.int .u64), (.int .i64), (.int .i64)] true, .tmp 3]⟩
def k46_0 : VC := .reg [⟨(some 1), .box (.tmp 0), none⟩,
    ⟨(some 2), .alloc [(.int .i64 0), (.bool false), (.int .u64 0), (.int .u64 0), (.bool false), (.int .u64 0), (.int .u64 0), (.int .i64 0), (.int .i64 0)], none⟩]
def k46_1 : VC := .reg [⟨(some 3), .fieldA 0 (.tmp 1), none⟩,
    ⟨(some 4), .load1 (.int .i64) (.tmp 3), none⟩,
    ⟨(some 5), .fieldA 4 (.tmp 1), none⟩,
    ⟨(some 6), .loadN [.bool, (.int .u64), (.int .u64)] (.tmp 5), none⟩,
    ⟨(some 7), .fieldA 1 (.tmp 1), none⟩,
    ⟨(some 8), .loadN [.bool, (.int .u64), (.int .u64)] (.tmp 7), none⟩,
    ⟨(some 9), .fieldA 8 (.tmp 1), none⟩,
    ⟨(some 10), .load1 (.int .i64) (.tmp 9), none⟩,
    ⟨(some 11), .fieldA 7 (.tmp 1), none⟩,
    ⟨(some 12), .load1 (.int .i64) (.tmp 11), none⟩,
    ⟨(some 13), .build [(.int .i64 0), (.bool false), (.int .u64 0), (.int .u64 0), (.bool false), (.int .u64 0), (.int .u64 0), (.int .i64 0), (.int .i64 0)] [(0, 1, (.tmp 4)), (1, 3, (.tmp 6)), (4, 3, (.tmp 8)), (7, 1, (.tmp 10)), (8, 1, (.tmp 12))], none⟩,
    ⟨none, .store 9 (.tmp 2) (.tmp 13), none⟩]
def k46_2 : VC := .seq k46_1 .ret
def k46_3 : VC := .seq k46_0 k46_2
def fn46 : VFn := ⟨14, k46_3, [.cell 2 [(.int .i64), .bool, (.int .u64), (.int .u64), .bool, (.int .u64), (.int .u64), (.int .i64), (.int .i64)] true]⟩
def k10_0 : VC := .reg [⟨(some 4), .box (.tmp 0), none⟩,
    ⟨(some 8), .mv (.const (.bool false)), none⟩]
def k10_1 : VC := .reg [⟨(some 15), .mv (.tmp 1), none⟩,
    ⟨(some 16), .lenS (.tmp 15), none⟩,
    ⟨(some 17), .bin .gtr (.tmp 16) (.const (.int .i64 50)), none⟩,
    ⟨(some 18), .mv (.tmp 17), none⟩,
    ⟨(some 19), .fieldA 0 (.tmp 4), (some (18, false))⟩,
    ⟨(some 20), .load1 (.int .i64) (.tmp 19), (some (18, false))⟩,
    ⟨(some 21), .bin .neq (.tmp 20) (.const (.int .i64 6)), (some (18, false))⟩,
    ⟨(some 22), .mv (.tmp 21), (some (18, false))⟩,
    ⟨(some 23), .fieldA 0 (.tmp 4), (some (22, true))⟩,
    ⟨(some 24), .load1 (.int .i64) (.tmp 23), (some (22, true))⟩,
    ⟨(some 25), .bin .neq (.tmp 24) (.const (.int .i64 17)), (some (22, true))⟩,
    ⟨(some 26), .pick (.tmp 22) (.tmp 25) (.const (.bool false)), (some (18, false))⟩,
    ⟨(some 27), .pick (.tmp 18) (.const (.bool true)) (.tmp 26), none⟩,
    ⟨(some 28), .mv (.tmp 27), none⟩,
    ⟨(some 29), .loadN [(.int .i64), .bool, (.int .u64), (.int .u64), .bool, (.int .u64), (.int .u64), (.int .i64), (.int .i64)] (.tmp 4), (some (28, false))⟩,
    ⟨(some 30), .callF 43 [(.tmp 29)], (some (28, false))⟩,
    ⟨(some 31), .not (.tmp 30), (some (28, false))⟩,
    ⟨(some 32), .pick (.tmp 28) (.const (.bool true)) (.tmp 31), none⟩]
def k10_2 : VC := .reg [⟨(some 33), .callF 30 [], none⟩,
    ⟨(some 8), .mv (.tmp 33), none⟩]
def k10_3 : VC := .seq k10_2 .ret
def k10_4 : VC := .cond (.tmp 32) k10_3 .skip
def k10_5 : VC := .seq k10_1 k10_4
def k10_6 : VC := .reg [⟨(some 35), .loadN [(.int .i64), .bool, (.int .u64), (.int .u64), .bool, (.int .u64), (.int .u64), (.int .i64), (.int .i64)] (.tmp 4), none⟩,
    ⟨(some 36), .mv (.tmp 1), none⟩,
    ⟨(some 37), .callF 44 [(.tmp 35), (.const (.int .i64 16)), (.const (.string ⟨⟨[]⟩⟩)), (.tmp 36)], none⟩,
    ⟨(some 34), .mv (.tmp 37), none⟩,
    ⟨(some 38), .extract 0 (.tmp 34), none⟩,
    ⟨(some 39), .extract 1 (.tmp 34), none⟩,
    ⟨(some 9), .mv (.tmp 38), none⟩,
    ⟨(some 10), .mv (.tmp 39), none⟩]
def k10_7 : VC := .reg [⟨(some 40), .fieldA 0 (.tmp 4), none⟩,
    ⟨(some 41), .load1 (.int .i64) (.tmp 40), none⟩,
    ⟨(some 42), .bin .eql (.tmp 41) (.const (.int .i64 17)), none⟩]
def k10_8 : VC := .reg [⟨(some 44), .loadN [(.int .i64), .bool, (.int .u64), (.int .u64), .bool, (.int .u64), (.int .u64), (.int .i64), (.int .i64)] (.tmp 4), none⟩,
    ⟨(some 45), .mv (.tmp 1), none⟩,
    ⟨(some 46), .callF 45 [(.tmp 44), (.tmp 45)], none⟩,
    ⟨(some 43), .mv (.tmp 46), none⟩,
    ⟨(some 47), .extract 0 (.tmp 43), none⟩,
    ⟨(some 48), .extract 1 (.tmp 43), none⟩,
    ⟨(some 9), .mv (.tmp 47), none⟩,
    ⟨(some 10), .mv (.tmp 48), none⟩]
def k10_9 : VC := .cond (.tmp 42) k10_8 .skip
def k10_10 : VC := .seq k10_7 k10_9
def k10_11 : VC := .reg [⟨(some 49), .mv (.tmp 10), none⟩,
    ⟨(some 50), .bin .neq (.tmp 49) (.const (.int .i64 0)), none⟩]
def k10_12 : VC := .reg [⟨(some 51), .callF 30 [], none⟩,
    ⟨(some 8), .mv (.tmp 51), none⟩]
def k10_13 : VC := .seq k10_12 .ret
def k10_14 : VC := .cond (.tmp 50) k10_13 .skip
def k10_15 : VC := .seq k10_11 k10_14
def k10_16 : VC := .reg [⟨(some 11), .mv (.const (.int .i64 20)), none⟩]
def k10_17 : VC := .reg [⟨(some 52), .fieldA 1 (.tmp 4), none⟩,
    ⟨(some 53), .fieldA 0 (.tmp 52), none⟩,
    ⟨(some 54), .load1 .bool (.tmp 53), none⟩]
def k10_18 : VC := .reg [⟨(some 11), .mv (.const (.int .i64 40)), none⟩]
def k10_19 : VC := .cond (.tmp 54) k10_18 .skip
def k10_20 : VC := .seq k10_17 k10_19
def k10_21 : VC := .reg [⟨(some 55), .mv (.tmp 3), none⟩,
    ⟨(some 56), .conv .i64 (.tmp 55), none⟩,
    ⟨(some 57), .mv (.tmp 9), none⟩,
    ⟨(some 58), .lenS (.tmp 57), none⟩,
    ⟨(some 59), .bin .add (.tmp 58) (.const (.int .i64 1)), none⟩,
    ⟨(some 60), .bin .rem (.tmp 56) (.tmp 59), none⟩,
    ⟨(some 12), .mv (.tmp 60), none⟩]
def k10_22 : VC := .reg [⟨(some 62), .mv (.tmp 2), none⟩,
    ⟨(some 63), .conv .i64 (.tmp 62), none⟩,
    ⟨(some 64), .bin .rem (.tmp 63) (.const (.int .i64 3)), none⟩,
    ⟨(some 65), .bin .add (.const (.int .i64 1)) (.tmp 64), none⟩,
    ⟨(some 66), .mv (.tmp 9), none⟩,
    ⟨(some 67), .mv (.tmp 12), none⟩,
    ⟨(some 68), .sliceS (.tmp 66) none (some (.tmp 67)), none⟩,
    ⟨(some 69), .build [(.int .i64 0), (.int .i64 0), (.int .i64 0), (.string ⟨⟨[]⟩⟩)] [(0, 1, (.tmp 65)), (3, 1, (.tmp 68))], none⟩,
    ⟨(some 70), .callF 41 [(.tmp 69)], none⟩,
    ⟨(some 61), .mv (.tmp 70), none⟩,
    ⟨(some 71), .extract 0 (.tmp 61), none⟩,
    ⟨(some 72), .extract 1 (.tmp 61), none⟩,
    ⟨(some 13), .alloc [(.int .i64 0), (.bool false), (.int .u64 0), (.int .u64 0), (.bool false), (.int .u64 0), (.int .u64 0), (.int .i64 0), (.int .i64 0)], none⟩,
    ⟨none, .store 9 (.tmp 13) (.tmp 71), none⟩,
    ⟨(some 14), .mv (.tmp 72), none⟩]
def k10_23 : VC := .reg [⟨(some 73), .mv (.tmp 12), none⟩,
    ⟨(some 74), .mv (.tmp 11), none⟩,
    ⟨(some 75), .bin .add (.tmp 74) (.const (.int .i64 4)), none⟩,
    ⟨(some 76), .bin .lss (.tmp 73) (.tmp 75), none⟩]
def k10_24 : VC := .reg [⟨(some 77), .mv (.tmp 14), none⟩,
    ⟨(some 78), .not (.tmp 77), none⟩,
    ⟨(some 79), .mv (.tmp 78), none⟩,
    ⟨(some 80), .loadN [(.int .i64), .bool, (.int .u64), (.int .u64), .bool, (.int .u64), (.int .u64), (.int .i64), (.int .i64)] (.tmp 13), (some (79, true))⟩,
    ⟨(some 81), .build [(.int .i64 0), (.bool false), (.int .u64 0), (.int .u64 0), (.bool false), (.int .u64 0), (.int .u64 0), (.int .i64 0), (.int .i64 0)] [], (some (79, true))⟩,
    ⟨(some 82), .eqAgg false [(0, (.int .i64)), (1, .bool), (2, (.int .u64)), (3, (.int .u64)), (4, .bool), (5, (.int .u64)), (6, (.int .u64)), (7, (.int .i64)), (8, (.int .i64))] (.tmp 80) (.tmp 81), (some (79, true))⟩,
    ⟨(some 83), .pick (.tmp 79) (.tmp 82) (.const (.bool false)), none⟩,
    ⟨(some 84), .mv (.tmp 83), none⟩,
    ⟨(some 85), .callF 30 [], (some (84, true))⟩,
    ⟨(some 86), .pick (.tmp 84) (.tmp 85) (.const (.bool false)), none⟩,
    ⟨(some 8), .mv (.tmp 86), none⟩]
def k10_25 : VC := .seq k10_24 .ret
def k10_26 : VC := .cond (.tmp 76) k10_25 .skip
def k10_27 : VC := .seq k10_23 k10_26
def k10_28 : VC := .regD [⟨(some 87), .mv (.tmp 14), none⟩,
    ⟨(some 88), .mv (.tmp 87), none⟩,
    ⟨(some 89), .loadN [(.int .i64), .bool, (.int .u64), (.int .u64), .bool, (.int .u64), (.int .u64), (.int .i64), (.int .i64)] (.tmp 13), (some (88, true))⟩,
    ⟨(some 90), .loadN [(.int .i64), .bool, (.int .u64), (.int .u64), .bool, (.int .u64), (.int .u64), (.int .i64), (.int .i64)] (.tmp 4), (some (88, true))⟩,
    ⟨(some 91), .callF 46 [(.tmp 90)], (some (88, true))⟩] [(2, 4)] [⟨(some 92), .eqAgg false [(0, (.int .i64)), (1, .bool), (2, (.int .u64)), (3, (.int .u64)), (4, .bool), (5, (.int .u64)), (6, (.int .u64)), (7, (.int .i64)), (8, (.int .i64))] (.tmp 89) (.tmp 91), (some (88, true))⟩,
    ⟨(some 93), .pick (.tmp 88) (.tmp 92) (.const (.bool false)), none⟩,
    ⟨(some 94), .mv (.tmp 93), none⟩,
    ⟨(some 95), .callF 30 [], (some (94, true))⟩,
    ⟨(some 96), .pick (.tmp 94) (.tmp 95) (.const (.bool false)), none⟩,
    ⟨(some 8), .mv (.tmp 96), none⟩]
def k10_29 : VC := .seq k10_28 .ret
def k10_30 : VC := .seq k10_27 k10_29
def k10_31 : VC := .seq k10_22 k10_30
def k10_32 : VC := .seq k10_21 k10_31
def k10_33 : VC := .seq k10_20 k10_32
def k10_34 : VC := .seq k10_16 k10_33
def k10_35 : VC := .seq k10_15 k10_34
def k10_36 : VC := .seq k10_10 k10_35
def k10_37 : VC := .seq k10_6 k10_36
def k10_38 : VC := .seq k10_5 k10_37
def k10_39 : VC := .seq k10_0 k10_38
def fn10 : VFn := ⟨97, k10_39, [.tmp 8]⟩
def k43_0 : VC := .reg [⟨(some 1), .box (.tmp 0), none⟩,
    ⟨(some 2), .mv (.const (.bool false)), none⟩]
def k43_1 : VC := .reg [⟨(some 3), .fieldA 0 (.tmp 1), none⟩,
    ⟨(some 4), .load1 (.int .i64) (.tmp 3), none⟩,
    ⟨(some 5), .callF 104 [(.tmp 4), (.const (.int .i64 255))], none⟩,
    ⟨(some 6), .mv (.tmp 5), none⟩,
    ⟨(some 7), .fieldA 1 (.tmp 1), (some (6, true))⟩,
    ⟨(some 8), .loadN [.bool, (.int .u64), (.int .u64)] (.tmp 7), (some (6, true))⟩,
    ⟨(some 9), .callF 86 [(.tmp 8)], (some (6, true))⟩,
    ⟨(some 10), .pick (.tmp 6) (.tmp 9) (.const (.bool false)), none⟩,
    ⟨(some 11), .mv (.tmp 10), none⟩,
    ⟨(some 12), .fieldA 4 (.tmp 1), (some (11, true))⟩,
    ⟨(some 13), .loadN [.bool, (.int .u64), (.int .u64)] (.tmp 12), (some (11, true))⟩,
    ⟨(some 14), .callF 86 [(.tmp 13)], (some (11, true))⟩,
    ⟨(some 15), .pick (.tmp 11) (.tmp 14) (.const (.bool false)), none⟩,
    ⟨(some 16), .mv (.tmp 15), none⟩,
    ⟨(some 17), .fieldA 1 (.tmp 1), (some (16, true))⟩,
    ⟨(some 18), .fieldA 0 (.tmp 17), (some (16, true))⟩,
    ⟨(some 19), .load1 .bool (.tmp 18), (some (16, true))⟩,
    ⟨(some 20), .fieldA 4 (.tmp 1), (some (16, true))⟩,
    ⟨(some 21), .fieldA 0 (.tmp 20), (some (16, true))⟩,
    ⟨(some 22), .load1 .bool (.tmp 21), (some (16, true))⟩,
    ⟨(some 23), .eqB false (.tmp 19) (.tmp 22), (some (16, true))⟩,
    ⟨(some 24), .pick (.tmp 16) (.tmp 23) (.const (.bool false)), none⟩,
    ⟨(some 25), .mv (.tmp 24), none⟩,
    ⟨(some 26), .fieldA 7 (.tmp 1), (some (25, true))⟩,
    ⟨(some 27), .load1 (.int .i64) (.tmp 26), (some (25, true))⟩,
    ⟨(some 28), .callF 104 [(.tmp 27), (.const (.int .i64 65535))], (some (25, true))⟩,
    ⟨(some 29), .pick (.tmp 25) (.tmp 28) (.const (.bool false)), none⟩,
    ⟨(some 30), .mv (.tmp 29), none⟩,
    ⟨(some 31), .fieldA 8 (.tmp 1), (some (30, true))⟩,
    ⟨(some 32), .load1 (.int .i64) (.tmp 31), (some (30, true))⟩,
    ⟨(some 33), .callF 104 [(.tmp 32), (.const (.int .i64 65535))], (some (30, true))⟩,
    ⟨(some 34), .pick (.tmp 30) (.tmp 33) (.const (.bool false)), none⟩,
    ⟨(some 2), .mv (.tmp 34), none⟩]
def k43_2 : VC := .seq k43_1 .ret
def k43_3 : VC := .seq k43_0 k43_2
def fn43 : VFn := ⟨35, k43_3, [.tmp 2]⟩
def k104_0 : VC := .reg [⟨(some 4), .mv (.const (.bool false)), none⟩]
def k104_1 : VC := .reg [⟨(some 5), .mv (.tmp 0), none⟩,
    ⟨(some 6), .bin .geq (.tmp 5) (.const (.int .i64 0)), none⟩,
    ⟨(some 7), .mv (.tmp 6), none⟩,
    ⟨(some 8), .mv (.tmp 0), (some (7, true))⟩,
    ⟨(some 9), .mv (.tmp 1), (some (7, true))⟩,
    ⟨(some 10), .bin .leq (.tmp 8) (.tmp 9), (some (7, true))⟩,
    ⟨(some 11), .pick (.tmp 7) (.tmp 10) (.const (.bool false)), none⟩,
    ⟨(some 4), .mv (.tmp 11), none⟩]
def k104_2 : VC := .seq k104_1 .ret
def k104_3 : VC := .seq k104_0 k104_2
def fn104 : VFn := ⟨12, k104_3, [.tmp 4]⟩
def k44_0 : VC := .reg [⟨(some 4), .box (.tmp 0), none⟩,
    ⟨(some 8), .mv (.const (.string ⟨⟨[]⟩⟩)), none⟩,
    ⟨(some 9), .mv (.const (.int .i64 0)), none⟩]
def k44_1 : VC := .reg [⟨(some 12), .fieldA 0 (.tmp 4), none⟩,
    ⟨(some 13), .load1 (.int .i64) (.tmp 12), none⟩,
    ⟨(some 14), .bin .neq (.tmp 13) (.const (.int .i64 6)), none⟩]
def k44_2 : VC := .reg [⟨(some 8), .mv (.const (.string ⟨⟨[]⟩⟩)), none⟩,
    ⟨(some 9), .mv (.const (.int .i64 1)), none⟩]
def k44_3 : VC := .seq k44_2 .ret
def k44_4 : VC := .cond (.tmp 14) k44_3 .skip
def k44_5 : VC := .seq k44_1 k44_4
def k44_6 : VC := .reg [⟨(some 16), .fieldA 7 (.tmp 4), none⟩,
    ⟨(some 17), .load1 (.int .i64) (.tmp 16), none⟩,
    ⟨(some 18), .fieldA 8 (.tmp 4), none⟩,
    ⟨(some 19), .load1 (.int .i64) (.tmp 18), none⟩,
    ⟨(some 20), .mv (.tmp 1), none⟩,
    ⟨(some 21), .mv (.tmp 2), none⟩,
    ⟨(some 22), .build [(.int .i64 0), (.int .i64 0), (.int .u32 0), (.int .u32 0), (.int .i64 0), (.int .i64 0), (.int .i64 0), (.string ⟨⟨[]⟩⟩)] [(0, 1, (.tmp 17)), (1, 1, (.tmp 19)), (4, 1, (.tmp 20)), (5, 1, (.const (.int .i64 65535))), (7, 1, (.tmp 21))], none⟩,
    ⟨(some 23), .fieldA 1 (.tmp 4), none⟩,
    ⟨(some 24), .loadN [.bool, (.int .u64), (.int .u64)] (.tmp 23), none⟩,
    ⟨(some 25), .fieldA 4 (.tmp 4), none⟩,
    ⟨(some 26), .loadN [.bool, (.int .u64), (.int .u64)] (.tmp 25), none⟩,
    ⟨(some 27), .mv (.tmp 3), none⟩,
    ⟨(some 28), .callF 50 [(.tmp 22), (.tmp 24), (.tmp 26), (.tmp 27)], none⟩,
    ⟨(some 15), .mv (.tmp 28), none⟩,
    ⟨(some 29), .extract 0 (.tmp 15), none⟩,
    ⟨(some 30), .extract 1 (.tmp 15), none⟩,
    ⟨(some 10), .mv (.tmp 29), none⟩,
    ⟨(some 11), .mv (.tmp 30), none⟩]
def k44_7 : VC := .reg [⟨(some 31), .mv (.tmp 11), none⟩,
    ⟨(some 32), .bin .neq (.tmp 31) (.const (.int .i64 0)), none⟩]
def k44_8 : VC := .reg [⟨(some 33), .mv (.tmp 11), none⟩,
    ⟨(some 8), .mv (.const (.string ⟨⟨[]⟩⟩)), none⟩,
    ⟨(some 9), .mv (.tmp 33), none⟩]
def k44_9 : VC := .seq k44_8 .ret
def k44_10 : VC := .cond (.tmp 32) k44_9 .skip
def k44_11 : VC := .seq k44_7 k44_10
def k44_12 : VC := .reg [⟨(some 34), .loadN [(.int .i64), .bool, (.int .u64), (.int .u64), .bool, (.int .u64), (.int .u64), (.int .i64), (.int .i64)] (.tmp 4), none⟩,
    ⟨(some 35), .mv (.tmp 10), none⟩,
    ⟨(some 36), .callF 105 [(.tmp 34), (.tmp 35)], none⟩,
    ⟨(some 37), .extract 0 (.tmp 36), none⟩,
    ⟨(some 38), .extract 1 (.tmp 36), none⟩,
    ⟨(some 8), .mv (.tmp 37), none⟩,
    ⟨(some 9), .mv (.tmp 38), none⟩]
def k44_13 : VC := .seq k44_12 .ret
def k44_14 : VC := .seq k44_11 k44_13
def k44_15 : VC := .seq k44_6 k44_14
def k44_16 : VC := .seq k44_5 k44_15
def k44_17 : VC := .seq k44_0 k44_16
def fn44 : VFn := ⟨39, k44_17, [.tmp 8, .tmp 9]⟩
def k50_0 : VC := .reg [⟨(some 4), .box (.tmp 0), none⟩,
    ⟨(some 5), .box (.tmp 1), none⟩,
    ⟨(some 6), .box (.tmp 2), none⟩,
    ⟨(some 8), .mv (.const (.string ⟨⟨[]⟩⟩)), none⟩,
    ⟨(some 9), .mv (.const (.int .i64 0)), none⟩]
def k50_1 : VC := .reg [⟨(some 13), .fieldA 7 (.tmp 4), none⟩,
    ⟨(some 14), .load1 .str (.tmp 13), none⟩,
    ⟨(some 15), .lenS (.tmp 14), none⟩,
    ⟨(some 16), .bin .add (.const (.int .i64 20)) (.tmp 15), none⟩,
    ⟨(some 10), .mv (.tmp 16), none⟩]
def k50_2 : VC := .reg [⟨(some 17), .loadN [.bool, (.int .u64), (.int .u64)] (.tmp 5), none⟩,
    ⟨(some 18), .loadN [.bool, (.int .u64), (.int .u64)] (.tmp 6), none⟩,
    ⟨(some 19), .mv (.tmp 10), none⟩,
    ⟨(some 20), .mv (.tmp 3), none⟩,
    ⟨(some 21), .lenS (.tmp 20), none⟩,
    ⟨(some 22), .bin .add (.tmp 19) (.tmp 21), none⟩,
    ⟨(some 23), .callF 28 [(.tmp 17), (.tmp 18), (.const (.int .i64 6)), (.tmp 22)], none⟩,
    ⟨(some 11), .mv (.tmp 23), none⟩]
def k50_3 : VC := .reg [⟨(some 24), .loadN [(.int .i64), (.int .i64), (.int .u32), (.int .u32), (.int .i64), (.int .i64), (.int .i64), .str] (.tmp 4), none⟩,
    ⟨(some 25), .callF 108 [(.tmp 24)], none⟩,
    ⟨(some 26), .not (.tmp 25), none⟩,
    ⟨(some 27), .mv (.tmp 26), none⟩,
    ⟨(some 28), .mv (.tmp 11), (some (27, false))⟩,
    ⟨(some 29), .bin .eql (.tmp 28) (.const (.string ⟨⟨[]⟩⟩)), (some (27, false))⟩,
    ⟨(some 30), .pick (.tmp 27) (.const (.bool true)) (.tmp 29), none⟩]
def k50_4 : VC := .reg [⟨(some 8), .mv (.const (.string ⟨⟨[]⟩⟩)), none⟩,
    ⟨(some 9), .mv (.const (.int .i64 1)), none⟩]
def k50_5 : VC := .seq k50_4 .ret
def k50_6 : VC := .cond (.tmp 30) k50_5 .skip
def k50_7 : VC := .seq k50_3 k50_6
def k50_8 : VC := .reg [⟨(some 31), .mv (.tmp 3), none⟩,
    ⟨(some 32), .lenS (.tmp 31), none⟩,
    ⟨(some 33), .mv (.tmp 10), none⟩,
    ⟨(some 34), .bin .sub (.const (.int .i64 65535)) (.tmp 33), none⟩,
    ⟨(some 35), .bin .gtr (.tmp 32) (.tmp 34), none⟩]
def k50_9 : VC := .reg [⟨(some 8), .mv (.const (.string ⟨⟨[]⟩⟩)), none⟩,
    ⟨(some 9), .mv (.const (.int .i64 5)), none⟩]
def k50_10 : VC := .seq k50_9 .ret
def k50_11 : VC := .cond (.tmp 35) k50_10 .skip
def k50_12 : VC := .seq k50_8 k50_11
def k50_13 : VC := .regD [⟨(some 36), .fieldA 0 (.tmp 4), none⟩,
    ⟨(some 37), .load1 (.int .i64) (.tmp 36), none⟩,
    ⟨(some 38), .callF 109 [(.tmp 37), (.const (.int .i64 2))], none⟩,
    ⟨(some 39), .fieldA 1 (.tmp 4), none⟩,
    ⟨(some 40), .load1 (.int .i64) (.tmp 39), none⟩,
    ⟨(some 41), .callF 109 [(.tmp 40), (.const (.int .i64 2))], none⟩,
    ⟨(some 42), .bin .add (.tmp 38) (.tmp 41), none⟩,
    ⟨(some 43), .fieldA 2 (.tmp 4), none⟩,
    ⟨(some 44), .load1 (.int .u32) (.tmp 43), none⟩,
    ⟨(some 45), .conv .i64 (.tmp 44), none⟩,
    ⟨(some 46), .callF 109 [(.tmp 45), (.const (.int .i64 4))], none⟩,
    ⟨(some 47), .bin .add (.tmp 42) (.tmp 46), none⟩,
    ⟨(some 48), .fieldA 3 (.tmp 4), none⟩,
    ⟨(some 49), .load1 (.int .u32) (.tmp 48), none⟩,
    ⟨(some 50), .conv .i64 (.tmp 49), none⟩,
    ⟨(some 51), .callF 109 [(.tmp 50), (.const (.int .i64 4))], none⟩,
    ⟨(some 52), .bin .add (.tmp 47) (.tmp 51), none⟩,
    ⟨(some 53), .mv (.tmp 10), none⟩,
    ⟨(some 54), .bin .mul (.const (.int .i64 4)) (.tmp 53), none⟩,
    ⟨(some 55), .callF 109 [(.tmp 54), (.const (.int .i64 1))], none⟩,
    ⟨(some 56), .bin .add (.tmp 52) (.tmp 55), none⟩,
    ⟨(some 57), .fieldA 4 (.tmp 4), none⟩,
    ⟨(some 58), .load1 (.int .i64) (.tmp 57), none⟩,
    ⟨(some 59), .callF 109 [(.tmp 58), (.const (.int .i64 1))], none⟩,
    ⟨(some 60), .bin .add (.tmp 56) (.tmp 59), none⟩,
    ⟨(some 61), .fieldA 5 (.tmp 4), none⟩,
    ⟨(some 62), .load1 (.int .i64) (.tmp 61), none⟩,
    ⟨(some 63), .callF 109 [(.tmp 62), (.const (.int .i64 2))], none⟩,
    ⟨(some 64), .bin .add (.tmp 60) (.tmp 63), none⟩,
    ⟨(some 65), .callF 109 [(.const (.int .i64 0)), (.const (.int .i64 2))], none⟩,
    ⟨(some 66), .bin .add (.tmp 64) (.tmp 65), none⟩,
    ⟨(some 67), .fieldA 6 (.tmp 4), none⟩,
    ⟨(some 68), .load1 (.int .i64) (.tmp 67), none⟩,
    ⟨(some 69), .callF 109 [(.tmp 68), (.const (.int .i64 2))], none⟩,
    ⟨(some 70), .bin .add (.tmp 66) (.tmp 69), none⟩,
    ⟨(some 71), .fieldA 7 (.tmp 4), none⟩,
    ⟨(some 72), .load1 .str (.tmp 71), none⟩,
    ⟨(some 73), .bin .add (.tmp 70) (.tmp 72), none⟩,
    ⟨(some 74), .mv (.tmp 3), none⟩] [(2, 4), (2, 8), (2, 13), (2, 22), (2, 26), (2, 32), (2, 36), (5, 8), (5, 13), (5, 22), (5, 26), (5, 32), (5, 36), (10, 13), (10, 22), (10, 26), (10, 32), (10, 36), (15, 22), (15, 26), (15, 32), (15, 36), (19, 22), (19, 26), (19, 32), (19, 36), (23, 26), (23, 32), (23, 36), (27, 32), (27, 36), (29, 32), (29, 36), (33, 36)] [⟨(some 75), .bin .add (.tmp 73) (.tmp 74), none⟩,
    ⟨(some 12), .mv (.tmp 75), none⟩]
def k50_14 : VC := .reg [⟨(some 76), .mv (.tmp 12), none⟩,
    ⟨(some 77), .mv (.tmp 11), none⟩,
    ⟨(some 78), .mv (.tmp 12), none⟩,
    ⟨(some 79), .bin .add (.tmp 77) (.tmp 78), none⟩,
    ⟨(some 80), .callF 68 [(.tmp 79)], none⟩,
    ⟨(some 81), .conv .u64 (.tmp 80), none⟩,
    ⟨(some 82), .callF 69 [(.tmp 76), (.const (.int .i64 16)), (.const (.int .i64 2)), (.tmp 81)], none⟩,
    ⟨(some 8), .mv (.tmp 82), none⟩,
    ⟨(some 9), .mv (.const (.int .i64 0)), none⟩]
def k50_15 : VC := .seq k50_14 .ret
def k50_16 : VC := .seq k50_13 k50_15
def k50_17 : VC := .seq k50_12 k50_16
def k50_18 : VC := .seq k50_7 k50_17
def k50_19 : VC := .seq k50_2 k50_18
def k50_20 : VC := .seq k50_1 k50_19
def k50_21 : VC := .seq k50_0 k50_20
def fn50 : VFn := ⟨83, k50_21, [.tmp 8, .tmp 9]⟩
def k108_0 : VC := .reg [⟨(some 1), .box (.tmp 0), none⟩,
    ⟨(some 2), .mv (.const (.bool false)), none⟩]
def k108_1 : VC := .reg [⟨(some 3), .fieldA 0 (.tmp 1), none⟩,
    ⟨(some 4), .load1 (.int .i64) (.tmp 3), none⟩,
    ⟨(some 5), .callF 127 [(.tmp 4), (.const (.int .i64 65535))], none⟩,
    ⟨(some 6), .mv (.tmp 5), none⟩,
    ⟨(some 7), .fieldA 1 (.tmp 1), (some (6, true))⟩,
    ⟨(some 8), .load1 (.int .i64) (.tmp 7), (some (6, true))⟩,
    ⟨(some 9), .callF 127 [(.tmp 8), (.const (.int .i64 65535))], (some (6, true))⟩,
    ⟨(some 10), .pick (.tmp 6) (.tmp 9) (.const (.bool false)), none⟩,
    ⟨(some 11), .mv (.tmp 10), none⟩,
    ⟨(some 12), .fieldA 4 (.tmp 1), (some (11, true))⟩,
    ⟨(some 13), .load1 (.int .i64) (.tmp 12), (some (11, true))⟩,
    ⟨(some 14), .callF 127 [(.tmp 13), (.const (.int .i64 255))], (some (11, true))⟩,
    ⟨(some 15), .pick (.tmp 11) (.tmp 14) (.const (.bool false)), none⟩,
    ⟨(some 16), .mv (.tmp 15), none⟩,
    ⟨(some 17), .fieldA 5 (.tmp 1), (some (16, true))⟩,
    ⟨(some 18), .load1 (.int .i64) (.tmp 17), (some (16, true))⟩,
    ⟨(some 19), .callF 127 [(.tmp 18), (.const (.int .i64 65535))], (some (16, true))⟩,
    ⟨(some 20), .pick (.tmp 16) (.tmp 19) (.const (.bool false)), none⟩,
    ⟨(some 21), .mv (.tmp 20), none⟩,
    ⟨(some 22), .fieldA 6 (.tmp 1), (some (21, true))⟩,
    ⟨(some 23), .load1 (.int .i64) (.tmp 22), (some (21, true))⟩,
    ⟨(some 24), .callF 127 [(.tmp 23), (.const (.int .i64 65535))], (some (21, true))⟩,
    ⟨(some 25), .pick (.tmp 21) (.tmp 24) (.const (.bool false)), none⟩,
    ⟨(some 26), .mv (.tmp 25), none⟩,
    ⟨(some 27), .fieldA 7 (.tmp 1), (some (26, true))⟩,
    ⟨(some 28), .load1 .str (.tmp 27), (some (26, true))⟩,
    ⟨(some 29), .lenS (.tmp 28), (some (26, true))⟩,
    ⟨(some 30), .bin .leq (.tmp 29) (.const (.int .i64 40)), (some (26, true))⟩,
    ⟨(some 31), .pick (.tmp 26) (.tmp 30) (.const (.bool false)), none⟩,
    ⟨(some 32), .mv (.tmp 31), none⟩,
    ⟨(some 33), .fieldA 7 (.tmp 1), (some (32, true))⟩,
    ⟨(some 34), .load1 .str (.tmp 33), (some (32, true))⟩,
    ⟨(some 35), .lenS (.tmp 34), (some (32, true))⟩,
    ⟨(some 36), .bin .rem (.tmp 35) (.const (.int .i64 4)), (some (32, true))⟩,
    ⟨(some 37), .bin .eql (.tmp 36) (.const (.int .i64 0)), (some (32, true))⟩,
    ⟨(some 38), .pick (.tmp 32) (.tmp 37) (.const (.bool false)), none⟩,
    ⟨(some 2), .mv (.tmp 38), none⟩]
def k108_2 : VC := .seq k108_1 .ret
def k108_3 : VC := .seq k108_0 k108_2
def fn108 : VFn := ⟨39, k108_3, [.tmp 2]⟩
def k127_0 : VC := .reg [⟨(some 4), .mv (.const (.bool false)), none⟩]
def k127_1 : VC := .reg [⟨(some 5), .mv (.tmp 0), none⟩,
    ⟨(some 6), .bin .geq (.tmp 5) (.const (.int .i64 0)), none⟩,
    ⟨(some 7), .mv (.tmp 6), none⟩,
    ⟨(some 8), .mv (.tmp 0), (some (7, true))⟩,
    ⟨(some 9), .mv (.tmp 1), (some (7, true))⟩,
    ⟨(some 10), .bin .leq (.tmp 8) (.tmp 9), (some (7, true))⟩,
    ⟨(some 11), .pick (.tmp 7) (.tmp 10) (.const (.bool false)), none⟩,
    ⟨(some 4), .mv (.tmp 11), none⟩]
def k127_2 : VC := .seq k127_1 .ret
def k127_3 : VC := .seq k127_0 k127_2
def fn127 : VFn := ⟨12, k127_3, [.tmp 4]⟩
def k109_0 : VC := .reg [⟨(some 4), .mv (.const (.string ⟨⟨[]⟩⟩)), none⟩]
def k109_1 : VC := .reg [⟨(some 5), .mv (.tmp 0), none⟩,
    ⟨(some 6), .conv .u64 (.tmp 5), none⟩,
    ⟨(some 7), .mv (.tmp 1), none⟩,
    ⟨(some 8), .callF 67 [(.tmp 6), (.tmp 7)], none⟩,
    ⟨(some 4), .mv (.tmp 8), none⟩]
def k109_2 : VC := .seq k109_1 .ret
def k109_3 : VC := .seq k109_0 k109_2
def fn109 : VFn := ⟨9, k109_3, [.tmp 4]⟩
def k105_0 : VC := .reg [⟨(some 2), .box (.tmp 0), none⟩,
    ⟨(some 4), .mv (.const (.string ⟨⟨[]⟩⟩)), none⟩,
    ⟨(some 5), .mv (.const (.int .i64 0)), none⟩]
def k105_1 : VC := .reg [⟨(some 8), .fieldA 1 (.tmp 2), none⟩,
    ⟨(some 9), .fieldA 0 (.tmp 8), none⟩,
    ⟨(some 10), .load1 .bool (.tmp 9), none⟩,
    ⟨(some 11), .fieldA 4 (.tmp 2), none⟩,
    ⟨(some 12), .fieldA 0 (.tmp 11), none⟩,
    ⟨(some 13), .load1 .bool (.tmp 12), none⟩,
    ⟨(some 14), .eqB true (.tmp 10) (.tmp 13), none⟩,
    ⟨(some 15), .mv (.tmp 14), none⟩,
    ⟨(some 16), .fieldA 1 (.tmp 2), (some (15, false))⟩,
    ⟨(some 17), .loadN [.bool, (.int .u64), (.int .u64)] (.tmp 16), (some (15, false))⟩,
    ⟨(some 18), .callF 86 [(.tmp 17)], (some (15, false))⟩,
    ⟨(some 19), .not (.tmp 18), (some (15, false))⟩,
    ⟨(some 20), .pick (.tmp 15) (.const (.bool true)) (.tmp 19), none⟩,
    ⟨(some 21), .mv (.tmp 20), none⟩,
    ⟨(some 22), .fieldA 4 (.tmp 2), (some (21, false))⟩,
    ⟨(some 23), .loadN [.bool, (.int .u64), (.int .u64)] (.tmp 22), (some (21, false))⟩,
    ⟨(some 24), .callF 86 [(.tmp 23)], (some (21, false))⟩,
    ⟨(some 25), .not (.tmp 24), (some (21, false))⟩,
    ⟨(some 26), .pick (.tmp 21) (.const (.bool true)) (.tmp 25), none⟩,
    ⟨(some 27), .mv (.tmp 26), none⟩,
    ⟨(some 28), .fieldA 0 (.tmp 2), (some (27, false))⟩,
    ⟨(some 29), .load1 (.int .i64) (.tmp 28), (some (27, false))⟩,
    ⟨(some 30), .bin .neq (.tmp 29) (.const (.int .i64 6)), (some (27, false))⟩,
    ⟨(some 31), .mv (.tmp 30), (some (27, false))⟩,
    ⟨(some 32), .fieldA 0 (.tmp 2), (some (31, true))⟩,
    ⟨(some 33), .load1 (.int .i64) (.tmp 32), (some (31, true))⟩,
    ⟨(some 34), .bin .neq (.tmp 33) (.const (.int .i64 17)), (some (31, true))⟩,
    ⟨(some 35), .pick (.tmp 31) (.tmp 34) (.const (.bool false)), (some (27, false))⟩,
    ⟨(some 36), .pick (.tmp 27) (.const (.bool true)) (.tmp 35), none⟩]
def k105_2 : VC := .reg [⟨(some 4), .mv (.const (.string ⟨⟨[]⟩⟩)), none⟩,
    ⟨(some 5), .mv (.const (.int .i64 1)), none⟩]
def k105_3 : VC := .seq k105_2 .ret
def k105_4 : VC := .cond (.tmp 36) k105_3 .skip
def k105_5 : VC := .seq k105_1 k105_4
def k105_6 : VC := .reg [⟨(some 38), .fieldA 0 (.tmp 2), none⟩,
    ⟨(some 39), .load1 (.int .i64) (.tmp 38), none⟩,
    ⟨(some 40), .fieldA 1 (.tmp 2), none⟩,
    ⟨(some 41), .loadN [.bool, (.int .u64), (.int .u64)] (.tmp 40), none⟩,
    ⟨(some 42), .fieldA 4 (.tmp 2), none⟩,
    ⟨(some 43), .loadN [.bool, (.int .u64), (.int .u64)] (.tmp 42), none⟩,
    ⟨(some 44), .build [(.int .i64 0), (.int .i64 0), (.int .i64 0), (.int .i64 0), (.bool false), (.int .u64 0), (.int .u64 0), (.bool false), (.int .u64 0), (.int .u64 0)] [(2, 1, (.tmp 39)), (3, 1, (.const (.int .i64 64))), (4, 3, (.tmp 41)), (7, 3, (.tmp 43))], none⟩,
    ⟨(some 45), .mv (.tmp 1), none⟩,
    ⟨(some 46), .callF 99 [(.tmp 44), (.tmp 45)], none⟩,
    ⟨(some 37), .mv (.tmp 46), none⟩,
    ⟨(some 47), .extract 0 (.tmp 37), none⟩,
    ⟨(some 48), .extract 1 (.tmp 37), none⟩,
    ⟨(some 6), .mv (.tmp 47), none⟩,
    ⟨(some 7), .mv (.tmp 48), none⟩]
def k105_7 : VC := .reg [⟨(some 49), .fieldA 1 (.tmp 2), none⟩,
    ⟨(some 50), .fieldA 0 (.tmp 49), none⟩,
    ⟨(some 51), .load1 .bool (.tmp 50), none⟩,
    ⟨(some 52), .not (.tmp 51), none⟩]
def k105_8 : VC := .reg [⟨(some 54), .fieldA 0 (.tmp 2), none⟩,
    ⟨(some 55), .load1 (.int .i64) (.tmp 54), none⟩,
    ⟨(some 56), .fieldA 1 (.tmp 2), none⟩,
    ⟨(some 57), .loadN [.bool, (.int .u64), (.int .u64)] (.tmp 56), none⟩,
    ⟨(some 58), .fieldA 4 (.tmp 2), none⟩,
    ⟨(some 59), .loadN [.bool, (.int .u64), (.int .u64)] (.tmp 58), none⟩,
    ⟨(some 60), .build [(.int .i64 0), (.int .i64 0), (.bool false), (.int .i64 0), (.int .i64 0), (.bool false), (.int .u64 0), (.int .u64 0), (.bool false), (.int .u64 0), (.int .u64 0), (.string ⟨⟨[]⟩⟩)] [(2, 1, (.const (.bool true))), (3, 1, (.const (.int .i64 64))), (4, 1, (.tmp 55)), (5, 3, (.tmp 57)), (8, 3, (.tmp 59))], none⟩,
    ⟨(some 61), .mv (.tmp 1), none⟩,
    ⟨(some 62), .callF 23 [(.tmp 60), (.tmp 61)], none⟩,
    ⟨(some 53), .mv (.tmp 62), none⟩,
    ⟨(some 63), .extract 0 (.tmp 53), none⟩,
    ⟨(some 64), .extract 1 (.tmp 53), none⟩,
    ⟨(some 6), .mv (.tmp 63), none⟩,
    ⟨(some 7), .mv (.tmp 64), none⟩]
def k105_9 : VC := .cond (.tmp 52) k105_8 .skip
def k105_10 : VC := .seq k105_7 k105_9
def k105_11 : VC := .reg [⟨(some 65), .mv (.tmp 7), none⟩,
    ⟨(some 66), .bin .eql (.tmp 65) (.const (.int .i64 0)), none⟩,
    ⟨(some 67), .mv (.tmp 66), none⟩,
    ⟨(some 68), .mv (.tmp 6), (some (67, true))⟩,
    ⟨(some 69), .lenS (.tmp 68), (some (67, true))⟩,
    ⟨(some 70), .bin .gtr (.tmp 69) (.const (.int .i64 9000)), (some (67, true))⟩,
    ⟨(some 71), .pick (.tmp 67) (.tmp 70) (.const (.bool false)), none⟩]
def k105_12 : VC := .reg [⟨(some 4), .mv (.const (.string ⟨⟨[]⟩⟩)), none⟩,
    ⟨(some 5), .mv (.const (.int .i64 5)), none⟩]
def k105_13 : VC := .seq k105_12 .ret
def k105_14 : VC := .cond (.tmp 71) k105_13 .skip
def k105_15 : VC := .seq k105_11 k105_14
def k105_16 : VC := .reg [⟨(some 72), .mv (.tmp 6), none⟩,
    ⟨(some 73), .mv (.tmp 7), none⟩,
    ⟨(some 4), .mv (.tmp 72), none⟩,
    ⟨(some 5), .mv (.tmp 73), none⟩]
def k105_17 : VC := .seq k105_16 .ret
def k105_18 : VC := .seq k105_15 k105_17
def k105_19 : VC := .seq k105_10 k105_18
def k105_20 : VC := .seq k105_6 k105_19
def k105_21 : VC := .seq k105_5 k105_20
def k105_22 : VC := .seq k105_0 k105_21
def fn105 : VFn := ⟨74, k105_22, [.tmp 4, .tmp 5]⟩
def k45_0 : VC := .reg [⟨(some 2), .box (.tmp 0), none⟩,
    ⟨(some 4), .mv (.const (.string ⟨⟨[]⟩⟩)), none⟩,
    ⟨(some 5), .mv (.const (.int .i64 0)), none⟩]
def k45_1 : VC := .reg [⟨(some 8), .fieldA 0 (.tmp 2), none⟩,
    ⟨(some 9), .load1 (.int .i64) (.tmp 8), none⟩,
    ⟨(some 10), .bin .neq (.tmp 9) (.const (.int .i64 17)), none⟩]
def k45_2 : VC := .reg [⟨(some 4), .mv (.const (.string ⟨⟨[]⟩⟩)), none⟩,
    ⟨(some 5), .mv (.const (.int .i64 1)), none⟩]
def k45_3 : VC := .seq k45_2 .ret
def k45_4 : VC := .cond (.tmp 10) k45_3 .skip
def k45_5 : VC := .seq k45_1 k45_4
def k45_6 : VC := .reg [⟨(some 12), .fieldA 7 (.tmp 2), none⟩,
    ⟨(some 13), .load1 (.int .i64) (.tmp 12), none⟩,
    ⟨(some 14), .fieldA 8 (.tmp 2), none⟩,
    ⟨(some 15), .load1 (.int .i64) (.tmp 14), none⟩,
    ⟨(some 16), .build [(.int .i64 0), (.int .i64 0)] [(0, 1, (.tmp 13)), (1, 1, (.tmp 15))], none⟩,
    ⟨(some 17), .fieldA 1 (.tmp 2), none⟩,
    ⟨(some 18), .loadN [.bool, (.int .u64), (.int .u64)] (.tmp 17), none⟩,
    ⟨(some 19), .fieldA 4 (.tmp 2), none⟩,
    ⟨(some 20), .loadN [.bool, (.int .u64), (.int .u64)] (.tmp 19), none⟩,
    ⟨(some 21), .mv (.tmp 1), none⟩,
    ⟨(some 22), .callF 17 [(.tmp 16), (.tmp 18), (.tmp 20), (.tmp 21)], none⟩,
    ⟨(some 11), .mv (.tmp 22), none⟩,
    ⟨(some 23), .extract 0 (.tmp 11), none⟩,
    ⟨(some 24), .extract 1 (.tmp 11), none⟩,
    ⟨(some 6), .mv (.tmp 23), none⟩,
    ⟨(some 7), .mv (.tmp 24), none⟩]
def k45_7 : VC := .reg [⟨(some 25), .mv (.tmp 7), none⟩,
    ⟨(some 26), .bin .neq (.tmp 25) (.const (.int .i64 0)), none⟩]
def k45_8 : VC := .reg [⟨(some 27), .mv (.tmp 7), none⟩,
    ⟨(some 4), .mv (.const (.string ⟨⟨[]⟩⟩)), none⟩,
    ⟨(some 5), .mv (.tmp 27), none⟩]
def k45_9 : VC := .seq k45_8 .ret
def k45_10 : VC := .cond (.tmp 26) k45_9 .skip
def k45_11 : VC := .seq k45_7 k45_10
def k45_12 : VC := .reg [⟨(some 28), .loadN [(.int .i64), .bool, (.int .u64), (.int .u64), .bool, (.int .u64), (.int .u64), (.int .i64), (.int .i64)] (.tmp 2), none⟩,
    ⟨(some 29), .mv (.tmp 6), none⟩,
    ⟨(some 30), .callF 105 [(.tmp 28), (.tmp 29)], none⟩,
    ⟨(some 31), .extract 0 (.tmp 30), none⟩,
    ⟨(some 32), .extract 1 (.tmp 30), none⟩,
    ⟨(some 4), .mv (.tmp 31), none⟩,
    ⟨(some 5), .mv (.tmp 32), none⟩]
def k45_13 : VC := .seq k45_12 .ret
def k45_14 : VC := .seq k45_11 k45_13
def k45_15 : VC := .seq k45_6 k45_14
def k45_16 : VC := .seq k45_5 k45_15
def k45_17 : VC := .seq k45_0 k45_16
def fn45 : VFn := ⟨33, k45_17, [.tmp 4, .tmp 5]⟩
def k17_0 : VC := .reg [⟨(some 4), .box (.tmp 0), none⟩,
    ⟨(some 5), .box (.tmp 1), none⟩,
    ⟨(some 6), .box (.tmp 2), none⟩,
    ⟨(some 8), .mv (.const (.string ⟨⟨[]⟩⟩)), none⟩,
    ⟨(some 9), .mv (.const (.int .i64 0)), none⟩]
def k17_1 : VC := .reg [⟨(some 14), .mv (.tmp 3), none⟩,
    ⟨(some 15), .lenS (.tmp 14), none⟩,
    ⟨(some 16), .bin .add (.const (.int .i64 8)) (.tmp 15), none⟩,
    ⟨(some 10), .mv (.tmp 16), none⟩]
def k17_2 : VC := .reg [⟨(some 17), .loadN [.bool, (.int .u64), (.int .u64)] (.tmp 5), none⟩,
    ⟨(some 18), .loadN [.bool, (.int .u64), (.int .u64)] (.tmp 6), none⟩,
    ⟨(some 19), .mv (.tmp 10), none⟩,
    ⟨(some 20), .callF 28 [(.tmp 17), (.tmp 18), (.const (.int .i64 17)), (.tmp 19)], none⟩,
    ⟨(some 11), .mv (.tmp 20), none⟩]
def k17_3 : VC := .reg [⟨(some 21), .fieldA 0 (.tmp 4), none⟩,
    ⟨(some 22), .load1 (.int .i64) (.tmp 21), none⟩,
    ⟨(some 23), .callF 66 [(.tmp 22)], none⟩,
    ⟨(some 24), .not (.tmp 23), none⟩,
    ⟨(some 25), .mv (.tmp 24), none⟩,
    ⟨(some 26), .fieldA 1 (.tmp 4), (some (25, false))⟩,
    ⟨(some 27), .load1 (.int .i64) (.tmp 26), (some (25, false))⟩,
    ⟨(some 28), .callF 66 [(.tmp 27)], (some (25, false))⟩,
    ⟨(some 29), .not (.tmp 28), (some (25, false))⟩,
    ⟨(some 30), .pick (.tmp 25) (.const (.bool true)) (.tmp 29), none⟩,
    ⟨(some 31), .mv (.tmp 30), none⟩,
    ⟨(some 32), .mv (.tmp 11), (some (31, false))⟩,
    ⟨(some 33), .bin .eql (.tmp 32) (.const (.string ⟨⟨[]⟩⟩)), (some (31, false))⟩,
    ⟨(some 34), .pick (.tmp 31) (.const (.bool true)) (.tmp 33), none⟩]
def k17_4 : VC := .reg [⟨(some 8), .mv (.const (.string ⟨⟨[]⟩⟩)), none⟩,
    ⟨(some 9), .mv (.const (.int .i64 1)), none⟩]
def k17_5 : VC := .seq k17_4 .ret
def k17_6 : VC := .cond (.tmp 34) k17_5 .skip
def k17_7 : VC := .seq k17_3 k17_6
def k17_8 : VC := .reg [⟨(some 35), .mv (.tmp 10), none⟩,
    ⟨(some 36), .bin .gtr (.tmp 35) (.const (.int .i64 65535)), none⟩]
def k17_9 : VC := .reg [⟨(some 8), .mv (.const (.string ⟨⟨[]⟩⟩)), none⟩,
    ⟨(some 9), .mv (.const (.int .i64 5)), none⟩]
def k17_10 : VC := .seq k17_9 .ret
def k17_11 : VC := .cond (.tmp 36) k17_10 .skip
def k17_12 : VC := .seq k17_8 k17_11
def k17_13 : VC := .regD [⟨(some 37), .fieldA 0 (.tmp 4), none⟩,
    ⟨(some 38), .load1 (.int .i64) (.tmp 37), none⟩,
    ⟨(some 39), .conv .u64 (.tmp 38), none⟩,
    ⟨(some 40), .callF 67 [(.tmp 39), (.const (.int .i64 2))], none⟩,
    ⟨(some 41), .fieldA 1 (.tmp 4), none⟩,
    ⟨(some 42), .load1 (.int .i64) (.tmp 41), none⟩,
    ⟨(some 43), .conv .u64 (.tmp 42), none⟩,
    ⟨(some 44), .callF 67 [(.tmp 43), (.const (.int .i64 2))], none⟩,
    ⟨(some 45), .bin .add (.tmp 40) (.tmp 44), none⟩,
    ⟨(some 46), .mv (.tmp 10), none⟩,
    ⟨(some 47), .conv .u64 (.tmp 46), none⟩,
    ⟨(some 48), .callF 67 [(.tmp 47), (.const (.int .i64 2))], none⟩,
    ⟨(some 49), .bin .add (.tmp 45) (.tmp 48), none⟩,
    ⟨(some 50), .bin .add (.tmp 49) (.const (.string ⟨⟨[0, 0]⟩⟩)), none⟩,
    ⟨(some 51), .mv (.tmp 3), none⟩] [(3, 5)] [⟨(some 52), .bin .add (.tmp 50) (.tmp 51), none⟩,
    ⟨(some 12), .mv (.tmp 52), none⟩]
def k17_14 : VC := .reg [⟨(some 53), .mv (.tmp 11), none⟩,
    ⟨(some 54), .mv (.tmp 12), none⟩,
    ⟨(some 55), .bin .add (.tmp 53) (.tmp 54), none⟩,
    ⟨(some 56), .callF 68 [(.tmp 55)], none⟩,
    ⟨(some 13), .mv (.tmp 56), none⟩]
def k17_15 : VC := .reg [⟨(some 57), .mv (.tmp 13), none⟩,
    ⟨(some 58), .bin .eql (.tmp 57) (.const (.int .i64 0)), none⟩]
def k17_16 : VC := .reg [⟨(some 13), .mv (.const (.int .i64 65535)), none⟩]
def k17_17 : VC := .cond (.tmp 58) k17_16 .skip
def k17_18 : VC := .seq k17_15 k17_17
def k17_19 : VC := .reg [⟨(some 59), .mv (.tmp 12), none⟩,
    ⟨(some 60), .mv (.tmp 13), none⟩,
    ⟨(some 61), .conv .u64 (.tmp 60), none⟩,
    ⟨(some 62), .callF 69 [(.tmp 59), (.const (.int .i64 6)), (.const (.int .i64 2)), (.tmp 61)], none⟩,
    ⟨(some 8), .mv (.tmp 62), none⟩,
    ⟨(some 9), .mv (.const (.int .i64 0)), none⟩]
def k17_20 : VC := .seq k17_19 .ret
def k17_21 : VC := .seq k17_18 k17_20
def k17_22 : VC := .seq k17_14 k17_21
def k17_23 : VC := .seq k17_13 k17_22
def k17_24 : VC := .seq k17_12 k17_23
def k17_25 : VC := .seq k17_7 k17_24
def k17_26 : VC := .seq k17_2 k17_25
def k17_27 : VC := .seq k17_1 k17_26
def k17_28 : VC := .seq k17_0 k17_27
def fn17 : VFn := ⟨63, k17_28, [.tmp 8, .tmp 9]⟩
def k66_0 : VC := .reg [⟨(some 2), .mv (.const (.bool false)), none⟩]
def k66_1 : VC := .reg [⟨(some 3), .mv (.tmp 0), none⟩,
    ⟨(some 4), .bin .geq (.tmp 3) (.const (.int .i64 0)), none⟩,
    ⟨(some 5), .mv (.tmp 4), none⟩,
    ⟨(some 6), .mv (.tmp 0), (some (5, true))⟩,
    ⟨(some 7), .bin .leq (.tmp 6) (.const (.int .i64 65535)), (some (5, true))⟩,
    ⟨(some 8), .pick (.tmp 5) (.tmp 7) (.const (.bool false)), none⟩,
    ⟨(some 2), .mv (.tmp 8), none⟩]
def k66_2 : VC := .seq k66_1 .ret
def k66_3 : VC := .seq k66_0 k66_2
def fn66 : VFn := ⟨9, k66_3, [.tmp 2]⟩
theorem fn7_ok : (Try.prog.funcs[7]?).bind (compFn Try.prog) = some fn7 := by kernel_rfl
theorem fn30_ok : (Try.prog.funcs[30]?).bind (compFn Try.prog) = some fn30 := by kernel_rfl
theorem fn34_ok : (Try.prog.funcs[34]?).bind (compFn Try.prog) = some fn34 := by kernel_rfl
theorem fn87_ok : (Try.prog.funcs[87]?).bind (compFn Try.prog) = some fn87 := by kernel_rfl
theorem fn27_ok : (Try.prog.funcs[27]?).bind (compFn Try.prog) = some fn27 := by kernel_rfl
theorem fn85_ok : (Try.prog.funcs[85]?).bind (compFn Try.prog) = some fn85 := by kernel_rfl
theorem fn78_ok : (Try.prog.funcs[78]?).bind (compFn Try.prog) = some fn78 := by kernel_rfl
theorem fn62_ok : (Try.prog.funcs[62]?).bind (compFn Try.prog) = some fn62 := by kernel_rfl
theorem fn77_ok : (Try.prog.funcs[77]?).bind (compFn Try.prog) = some fn77 := by kernel_rfl
theorem fn61_ok : (Try.prog.funcs[61]?).bind (compFn Try.prog) = some fn61 := by kernel_rfl
theorem fn112_ok : (Try.prog.funcs[112]?).bind (compFn Try.prog) = some fn112 := by kernel_rfl
theorem fn63_ok : (Try.prog.funcs[63]?).bind (compFn Try.prog) = some fn63 := by kernel_rfl
theorem fn73_ok : (Try.prog.funcs[73]?).bind (compFn Try.prog) = some fn73 := by kernel_rfl
theorem fn113_ok : (Try.prog.funcs[113]?).bind (compFn Try.prog) = some fn113 := by kernel_rfl
theorem fn130_ok : (Try.prog.funcs[130]?).bind (compFn Try.prog) = some fn130 := by kernel_rfl
theorem fn133_ok : (Try.prog.funcs[133]?).bind (compFn Try.prog) = some fn133 := by kernel_rfl
theorem fn131_ok : (Try.prog.funcs[131]?).bind (compFn Try.prog) = some fn131 := by kernel_rfl
theorem fn70_ok : (Try.prog.funcs[70]?).bind (compFn Try.prog) = some fn70 := by kernel_rfl
theorem fn71_ok : (Try.prog.funcs[71]?).bind (compFn Try.prog) = some fn71 := by kernel_rfl
theorem fn83_ok : (Try.prog.funcs[83]?).bind (compFn Try.prog) = some fn83 := by kernel_rfl
theorem fn72_ok : (Try.prog.funcs[72]?).bind (compFn Try.prog) = some fn72 := by kernel_rfl
theorem fn101_ok : (Try.prog.funcs[101]?).bind (compFn Try.prog) = some fn101 := by kernel_rfl
theorem fn95_ok : (Try.prog.funcs[95]?).bind (compFn Try.prog) = some fn95 := by kernel_rfl
theorem fn89_ok : (Try.prog.funcs[89]?).bind (compFn Try.prog) = some fn89 := by kernel_rfl
theorem fn90_ok : (Try.prog.funcs[90]?).bind (compFn Try.prog) = some fn90 := by kernel_rfl
theorem fn122_ok : (Try.prog.funcs[122]?).bind (compFn Try.prog) = some fn122 := by kernel_rfl
theorem fn96_ok : (Try.prog.funcs[96]?).bind (compFn Try.prog) = some fn96 := by kernel_rfl
theorem fn31_ok : (Try.prog.funcs[31]?).bind (compFn Try.prog) = some fn31 := by kernel_rfl
theorem fn88_ok : (Try.prog.funcs[88]?).bind (compFn Try.prog) = some fn88 := by kernel_rfl
theorem fn121_ok : (Try.prog.funcs[121]?).bind (compFn Try.prog) = some fn121 := by kernel_rfl
theorem fn64_ok : (Try.prog.funcs[64]?).bind (compFn Try.prog) = some fn64 := by kernel_rfl
theorem fn65_ok : (Try.prog.funcs[65]?).bind (compFn Try.prog) = some fn65 := by kernel_rfl
theorem fn32_ok : (Try.prog.funcs[32]?).bind (compFn Try.prog) = some fn32 := by kernel_rfl
theorem fn33_ok : (Try.prog.funcs[33]?).bind (compFn Try.prog) = some fn33 := by kernel_rfl
theorem fn91_ok : (Try.prog.funcs[91]?).bind (compFn Try.prog) = some fn91 := by kernel_rfl
theorem fn28_ok : (Try.prog.funcs[28]?).bind (compFn Try.prog) = some fn28 := by kernel_rfl
theorem fn86_ok : (Try.prog.funcs[86]?).bind (compFn Try.prog) = some fn86 := by kernel_rfl
theorem fn81_ok : (Try.prog.funcs[81]?).bind (compFn Try.prog) = some fn81 := by kernel_rfl
theorem fn67_ok : (Try.prog.funcs[67]?).bind (compFn Try.prog) = some fn67 := by kernel_rfl
theorem fn80_ok : (Try.prog.funcs[80]?).bind (compFn Try.prog) = some fn80 := by kernel_rfl
theorem fn92_ok : (Try.prog.funcs[92]?).bind (compFn Try.prog) = some fn92 := by kernel_rfl
theorem fn93_ok : (Try.prog.funcs[93]?).bind (compFn Try.prog) = some fn93 := by kernel_rfl
theorem fn94_ok : (Try.prog.funcs[94]?).bind (compFn Try.prog) = some fn94 := by kernel_rfl
theorem fn68_ok : (Try.prog.funcs[68]?).bind (compFn Try.prog) = some fn68 := by kernel_rfl
theorem fn75_ok : (Try.prog.funcs[75]?).bind (compFn Try.prog) = some fn75 := by kernel_rfl
theorem fn116_ok : (Try.prog.funcs[116]?).bind (compFn Try.prog) = some fn116 := by kernel_rfl
theorem fn74_ok : (Try.prog.funcs[74]?).bind (compFn Try.prog) = some fn74 := by kernel_rfl
theorem fn114_ok : (Try.prog.funcs[114]?).bind (compFn Try.prog) = some fn114 := by kernel_rfl
theorem fn115_ok : (Try.prog.funcs[115]?).bind (compFn Try.prog) = some fn115 := by kernel_rfl
theorem fn69_ok : (Try.prog.funcs[69]?).bind (compFn Try.prog) = some fn69 := by kernel_rfl
theorem fn35_ok : (Try.prog.funcs[35]?).bind (compFn Try.prog) = some fn35 := by kernel_rfl
theorem fn97_ok : (Try.prog.funcs[97]?).bind (compFn Try.prog) = some fn97 := by kernel_rfl
theorem fn36_ok : (Try.prog.funcs[36]?).bind (compFn Try.prog) = some fn36 := by kernel_rfl
theorem fn98_ok : (Try.prog.funcs[98]?).bind (compFn Try.prog) = some fn98 := by kernel_rfl
theorem fn123_ok : (Try.prog.funcs[123]?).bind (compFn Try.prog) = some fn123 := by kernel_rfl
theorem fn21_ok : (Try.prog.funcs[21]?).bind (compFn Try.prog) = some fn21 := by kernel_rfl
theorem fn76_ok : (Try.prog.funcs[76]?).bind (compFn Try.prog) = some fn76 := by kernel_rfl
theorem fn117_ok : (Try.prog.funcs[117]?).bind (compFn Try.prog) = some fn117 := by kernel_rfl
theorem fn118_ok : (Try.prog.funcs[118]?).bind (compFn Try.prog) = some fn118 := by kernel_rfl
theorem fn37_ok : (Try.prog.funcs[37]?).bind (compFn Try.prog) = some fn37 := by kernel_rfl
theorem fn99_ok : (Try.prog.funcs[99]?).bind (compFn Try.prog) = some fn99 := by kernel_rfl
theorem fn124_ok : (Try.prog.funcs[124]?).bind (compFn Try.prog) = some fn124 := by kernel_rfl
theorem fn132_ok : (Try.prog.funcs[132]?).bind (compFn Try.prog) = some fn132 := by kernel_rfl
theorem fn125_ok : (Try.prog.funcs[125]?).bind (compFn Try.prog) = some fn125 := by kernel_rfl
theorem fn23_ok : (Try.prog.funcs[23]?).bind (compFn Try.prog) = some fn23 := by kernel_rfl
theorem fn79_ok : (Try.prog.funcs[79]?).bind (compFn Try.prog) = some fn79 := by kernel_rfl
theorem fn119_ok : (Try.prog.funcs[119]?).bind (compFn Try.prog) = some fn119 := by kernel_rfl
theorem fn120_ok : (Try.prog.funcs[120]?).bind (compFn Try.prog) = some fn120 := by kernel_rfl
theorem fn38_ok : (Try.prog.funcs[38]?).bind (compFn Try.prog) = some fn38 := by kernel_rfl
theorem fn8_ok : (Try.prog.funcs[8]?).bind (compFn Try.prog) = some fn8 := by kernel_rfl
theorem fn9_ok : (Try.prog.funcs[9]?).bind (compFn Try.prog) = some fn9 := by kernel_rfl
theorem fn39_ok : (Try.prog.funcs[39]?).bind (compFn Try.prog) = some fn39 := by kernel_rfl
theorem fn100_ok : (Try.prog.funcs[100]?).bind (compFn Try.prog) = some fn100 := by kernel_rfl
theorem fn102_ok : (Try.prog.funcs[102]?).bind (compFn Try.prog) = some fn102 := by kernel_rfl
theorem fn40_ok : (Try.prog.funcs[40]?).bind (compFn Try.prog) = some fn40 := by kernel_rfl
theorem fn84_ok : (Try.prog.funcs[84]?).bind (compFn Try.prog) = some fn84 := by kernel_rfl
theorem fn41_ok : (Try.prog.funcs[41]?).bind (compFn Try.prog) = some fn41 := by kernel_rfl
theorem fn103_ok : (Try.prog.funcs[103]?).bind (compFn Try.prog) = some fn103 := by kernel_rfl
theorem fn42_ok : (Try.prog.funcs[42]?).bind (compFn Try.prog) = some fn42 := by kernel_rfl
theorem fn46_ok : (Try.prog.funcs[46]?).bind (compFn Try.prog) = some fn46 := by kernel_rfl
theorem fn10_ok : (Try.prog.funcs[10]?).bind (compFn Try.prog) = some fn10 := by kernel_rfl
theorem fn43_ok : (Try.prog.funcs[43]?).bind (compFn Try.prog) = some fn43 := by kernel_rfl
theorem fn104_ok : (Try.prog.funcs[104]?).bind (compFn Try.prog) = some fn104 := by kernel_rfl
theorem fn44_ok : (Try.prog.funcs[44]?).bind (compFn Try.prog) = some fn44 := by kernel_rfl
theorem fn50_ok : (Try.prog.funcs[50]?).bind (compFn Try.prog) = some fn50 := by kernel_rfl
theorem fn108_ok : (Try.prog.funcs[108]?).bind (compFn Try.prog) = some fn108 := by kernel_rfl
theorem fn127_ok : (Try.prog.funcs[127]?).bind (compFn Try.prog) = some fn127 := by kernel_rfl
theorem fn109_ok : (Try.prog.funcs[109]?).bind (compFn Try.prog) = some fn109 := by kernel_rfl
theorem fn105_ok : (Try.prog.funcs[105]?).bind (compFn Try.prog) = some fn105 := by kernel_rfl
theorem fn45_ok : (Try.prog.funcs[45]?).bind (compFn Try.prog) = some fn45 := by kernel_rfl
theorem fn17_ok : (Try.prog.funcs[17]?).bind (compFn Try.prog) = some fn17 := by kernel_rfl
theorem fn66_ok : (Try.prog.funcs[66]?).bind (compFn Try.prog) = some fn66 := by kernel_rfl
def tab : List (Nat × VFn) := [(7, fn7), (30, fn30), (34, fn34), (87, fn87), (27, fn27), (85, fn85), (78, fn78), (62, fn62), (77, fn77), (61, fn61), (112, fn112), (63, fn63), (73, fn73), (113, fn113), (130, fn130), (133, fn133), (131, fn131), (70, fn70), (71, fn71), (83, fn83), (72, fn72), (101, fn101), (95, fn95), (89, fn89), (90, fn90), (122, fn122), (96, fn96), (31, fn31), (88, fn88), (121, fn121), (64, fn64), (65, fn65), (32, fn32), (33, fn33), (91, fn91), (28, fn28), (86, fn86), (81, fn81), (67, fn67), (80, fn80), (92, fn92), (93, fn93), (94, fn94), (68, fn68), (75, fn75), (116, fn116), (74, fn74), (114, fn114), (115, fn115), (69, fn69), (35, fn35), (97, fn97), (36, fn36), (98, fn98), (123, fn123), (21, fn21), (76, fn76), (117, fn117), (118, fn118), (37, fn37), (99, fn99), (124, fn124), (132, fn132), (125, fn125), (23, fn23), (79, fn79), (119, fn119), (120, fn120), (38, fn38), (8, fn8), (9, fn9), (39, fn39), (100, fn100), (102, fn102), (40, fn40), (84, fn84), (41, fn41), (103, fn103), (42, fn42), (46, fn46), (10, fn10), (43, fn43), (104, fn104), (44, fn44), (50, fn50), (108, fn108), (127, fn127), (109, fn109), (105, fn105), (45, fn45), (17, fn17), (66, fn66)]
theorem tab_ok : FnsOK Try.prog (aget tab) := FnsOK.of_tab ⟨fn7_ok, fn30_ok, fn34_ok, fn87_ok, fn27_ok, fn85_ok, fn78_ok, fn62_ok, fn77_ok, fn61_ok, fn112_ok, fn63_ok, fn73_ok, fn113_ok, fn130_ok, fn133_ok, fn131_ok, fn70_ok, fn71_ok, fn83_ok, fn72_ok, fn101_ok, fn95_ok, fn89_ok, fn90_ok, fn122_ok, fn96_ok, fn31_ok, fn88_ok, fn121_ok, fn64_ok, fn65_ok, fn32_ok, fn33_ok, fn91_ok, fn28_ok, fn86_ok, fn81_ok, fn67_ok, fn80_ok, fn92_ok, fn93_ok, fn94_ok, fn68_ok, fn75_ok, fn116_ok, fn74_ok, fn114_ok, fn115_ok, fn69_ok, fn35_ok, fn97_ok, fn36_ok, fn98_ok, fn123_ok, fn21_ok, fn76_ok, fn117_ok, fn118_ok, fn37_ok, fn99_ok, fn124_ok, fn132_ok, fn125_ok, fn23_ok, fn79_ok, fn119_ok, fn120_ok, fn38_ok, fn8_ok, fn9_ok, fn39_ok, fn100_ok, fn102_ok, fn40_ok, fn84_ok, fn41_ok, fn103_ok, fn42_ok, fn46_ok, fn10_ok, fn43_ok, fn104_ok, fn44_ok, fn50_ok, fn108_ok, fn127_ok, fn109_ok, fn105_ok, fn45_ok, fn17_ok, fn66_ok, trivial⟩
end Go.Vm.Code
namespace Go.Vm.Code
open Go Go.Vm Go.Proofs
set_option maxRecDepth 100000
set_option maxHeartbeats 4000000
set_option linter.unusedVariables false
@[ext] structure icmp_Message where
  Kind : Int
  Code : Int
  MTU : Int
  Quote : List UInt8
  deriving DecidableEq
@[ext] structure api_Addr where
  V6 : Bool
  Hi : Int
  Lo : Int
  deriving DecidableEq
@[ext] structure octet_Reader where
  s : List UInt8
  made : Bool
  bad : Bool
  deriving DecidableEq
@[ext] structure Arr2_Int where
  e0 : Int
  e1 : Int
  deriving DecidableEq
@[ext] structure Arr4_Arr2_Int where
  e0 : Arr2_Int
  e1 : Arr2_Int
  e2 : Arr2_Int
  e3 : Arr2_Int
  deriving DecidableEq
@[ext] structure runtime_errorAddressString where
  msg : List UInt8
  addr : Int
  deriving DecidableEq
@[ext] structure udp_Head where
  SPort : Int
  DPort : Int
  deriving DecidableEq
@[ext] structure ipsix_Head where
  Class : Int
  Label : Int
  Next : Int
  Hop : Int
  Src : api_Addr
  Dst : api_Addr
  deriving DecidableEq
@[ext] structure ipfour_Head where
  Class : Int
  Mark : Int
  Whole : Bool
  TTL : Int
  Proto : Int
  Src : api_Addr
  Dst : api_Addr
  Options : List UInt8
  deriving DecidableEq
@[ext] structure api_Tuple where
  Proto : Int
  Src : api_Addr
  Dst : api_Addr
  SPort : Int
  DPort : Int
  deriving DecidableEq
@[ext] structure tcp_Head where
  SPort : Int
  DPort : Int
  Seq : Int
  Ack : Int
  Flags : Int
  Window : Int
  Urgent : Int
  Options : List UInt8
  deriving DecidableEq
def cicmp_Message (x : icmp_Message) : List Value := [.int .i64 x.Kind, .int .i64 x.Code, .int .i64 x.MTU, .string ⟨⟨x.Quote⟩⟩]
theorem cicmp_Message_len (x : icmp_Message) : (cicmp_Message x).length = 4 := rfl
theorem cicmp_Message_flat (x : icmp_Message) : flatV.flatL (cicmp_Message x) = true := rfl
theorem cicmp_Message_one (x : icmp_Message) : (cicmp_Message x).all oneC = true := rfl
@[simp] theorem cicmp_Message_lens (xs : List icmp_Message) : (vT cicmp_Message xs).length = xs.length * 4 := vT_len cicmp_Message_len xs
@[simp] theorem cicmp_Message_take (xs : List icmp_Message) (n : Nat) : (vT cicmp_Message xs).take (n * 4) = vT cicmp_Message (xs.take n) := vT_take cicmp_Message_len xs n
@[simp] theorem cicmp_Message_drop (xs : List icmp_Message) (n : Nat) : (vT cicmp_Message xs).drop (n * 4) = vT cicmp_Message (xs.drop n) := vT_drop cicmp_Message_len xs n
def unicmp_Message : List Value → Option icmp_Message
  | [.int .i64 a1, .int .i64 a2, .int .i64 a3, .string ⟨⟨a4⟩⟩] => some (icmp_Message.mk a1 a2 a3 a4)
  | _ => none
theorem unicmp_Message_eq (cs : List Value) (x : icmp_Message) (h : unicmp_Message cs = some x) : cs = cicmp_Message x := by
  unfold unicmp_Message at h; split at h
  · cases h; rfl
  · cases h
def uvicmp_Message : Value → Option icmp_Message
  | .agg ⟨cs⟩ => unicmp_Message cs
  | _ => none
theorem uvicmp_Message_eq (v : Value) (x : icmp_Message) (h : uvicmp_Message v = some x) : v = .agg ⟨cicmp_Message x⟩ := by
  unfold uvicmp_Message at h; split at h
  · rw [unicmp_Message_eq _ _ h]
  · cases h
theorem uvicmp_Message_c (x : icmp_Message) : uvicmp_Message (.agg ⟨cicmp_Message x⟩) = some x := rfl
def capi_Addr (x : api_Addr) : List Value := [.bool x.V6, .int .u64 x.Hi, .int .u64 x.Lo]
theorem capi_Addr_len (x : api_Addr) : (capi_Addr x).length = 3 := rfl
theorem capi_Addr_flat (x : api_Addr) : flatV.flatL (capi_Addr x) = true := rfl
theorem capi_Addr_one (x : api_Addr) : (capi_Addr x).all oneC = true := rfl
@[simp] theorem capi_Addr_lens (xs : List api_Addr) : (vT capi_Addr xs).length = xs.length * 3 := vT_len capi_Addr_len xs
@[simp] theorem capi_Addr_take (xs : List api_Addr) (n : Nat) : (vT capi_Addr xs).take (n * 3) = vT capi_Addr (xs.take n) := vT_take capi_Addr_len xs n
@[simp] theorem capi_Addr_drop (xs : List api_Addr) (n : Nat) : (vT capi_Addr xs).drop (n * 3) = vT capi_Addr (xs.drop n) := vT_drop capi_Addr_len xs n
def unapi_Addr : List Value → Option api_Addr
  | [.bool a1, .int .u64 a2, .int .u64 a3] => some (api_Addr.mk a1 a2 a3)
  | _ => none
theorem unapi_Addr_eq (cs : List Value) (x : api_Addr) (h : unapi_Addr cs = some x) : cs = capi_Addr x := by
  unfold unapi_Addr at h; split at h
  · cases h; rfl
  · cases h
def uvapi_Addr : Value → Option api_Addr
  | .agg ⟨cs⟩ => unapi_Addr cs
  | _ => none
theorem uvapi_Addr_eq (v : Value) (x : api_Addr) (h : uvapi_Addr v = some x) : v = .agg ⟨capi_Addr x⟩ := by
  unfold uvapi_Addr at h; split at h
  · rw [unapi_Addr_eq _ _ h]
  · cases h
theorem uvapi_Addr_c (x : api_Addr) : uvapi_Addr (.agg ⟨capi_Addr x⟩) = some x := rfl
def coctet_Reader (x : octet_Reader) : List Value := [.string ⟨⟨x.s⟩⟩, .bool x.made, .bool x.bad]
theorem coctet_Reader_len (x : octet_Reader) : (coctet_Reader x).length = 3 := rfl
theorem coctet_Reader_flat (x : octet_Reader) : flatV.flatL (coctet_Reader x) = true := rfl
theorem coctet_Reader_one (x : octet_Reader) : (coctet_Reader x).all oneC = true := rfl
@[simp] theorem coctet_Reader_lens (xs : List octet_Reader) : (vT coctet_Reader xs).length = xs.length * 3 := vT_len coctet_Reader_len xs
@[simp] theorem coctet_Reader_take (xs : List octet_Reader) (n : Nat) : (vT coctet_Reader xs).take (n * 3) = vT coctet_Reader (xs.take n) := vT_take coctet_Reader_len xs n
@[simp] theorem coctet_Reader_drop (xs : List octet_Reader) (n : Nat) : (vT coctet_Reader xs).drop (n * 3) = vT coctet_Reader (xs.drop n) := vT_drop coctet_Reader_len xs n
def unoctet_Reader : List Value → Option octet_Reader
  | [.string ⟨⟨a1⟩⟩, .bool a2, .bool a3] => some (octet_Reader.mk a1 a2 a3)
  | _ => none
theorem unoctet_Reader_eq (cs : List Value) (x : octet_Reader) (h : unoctet_Reader cs = some x) : cs = coctet_Reader x := by
  unfold unoctet_Reader at h; split at h
  · cases h; rfl
  · cases h
theorem unoctet_Reader_c (x : octet_Reader) : unoctet_Reader (coctet_Reader x) = some x := rfl
def cArr2_Int (x : Arr2_Int) : List Value := [.int .i64 x.e0, .int .i64 x.e1]
theorem cArr2_Int_len (x : Arr2_Int) : (cArr2_Int x).length = 2 := rfl
theorem cArr2_Int_flat (x : Arr2_Int) : flatV.flatL (cArr2_Int x) = true := rfl
theorem cArr2_Int_one (x : Arr2_Int) : (cArr2_Int x).all oneC = true := rfl
@[simp] theorem cArr2_Int_lens (xs : List Arr2_Int) : (vT cArr2_Int xs).length = xs.length * 2 := vT_len cArr2_Int_len xs
@[simp] theorem cArr2_Int_take (xs : List Arr2_Int) (n : Nat) : (vT cArr2_Int xs).take (n * 2) = vT cArr2_Int (xs.take n) := vT_take cArr2_Int_len xs n
@[simp] theorem cArr2_Int_drop (xs : List Arr2_Int) (n : Nat) : (vT cArr2_Int xs).drop (n * 2) = vT cArr2_Int (xs.drop n) := vT_drop cArr2_Int_len xs n
def cArr4_Arr2_Int (x : Arr4_Arr2_Int) : List Value := [.int .i64 x.e0.e0, .int .i64 x.e0.e1, .int .i64 x.e1.e0, .int .i64 x.e1.e1, .int .i64 x.e2.e0, .int .i64 x.e2.e1, .int .i64 x.e3.e0, .int .i64 x.e3.e1]
theorem cArr4_Arr2_Int_len (x : Arr4_Arr2_Int) : (cArr4_Arr2_Int x).length = 8 := rfl
theorem cArr4_Arr2_Int_flat (x : Arr4_Arr2_Int) : flatV.flatL (cArr4_Arr2_Int x) = true := rfl
theorem cArr4_Arr2_Int_one (x : Arr4_Arr2_Int) : (cArr4_Arr2_Int x).all oneC = true := rfl
@[simp] theorem cArr4_Arr2_Int_lens (xs : List Arr4_Arr2_Int) : (vT cArr4_Arr2_Int xs).length = xs.length * 8 := vT_len cArr4_Arr2_Int_len xs
@[simp] theorem cArr4_Arr2_Int_take (xs : List Arr4_Arr2_Int) (n : Nat) : (vT cArr4_Arr2_Int xs).take (n * 8) = vT cArr4_Arr2_Int (xs.take n) := vT_take cArr4_Arr2_Int_len xs n
@[simp] theorem cArr4_Arr2_Int_drop (xs : List Arr4_Arr2_Int) (n : Nat) : (vT cArr4_Arr2_Int xs).drop (n * 8) = vT cArr4_Arr2_Int (xs.drop n) := vT_drop cArr4_Arr2_Int_len xs n
def cruntime_errorAddressString (x : runtime_errorAddressString) : List Value := [.string ⟨⟨x.msg⟩⟩, .int .u64 x.addr]
theorem cruntime_errorAddressString_len (x : runtime_errorAddressString) : (cruntime_errorAddressString x).length = 2 := rfl
theorem cruntime_errorAddressString_flat (x : runtime_errorAddressString) : flatV.flatL (cruntime_errorAddressString x) = true := rfl
theorem cruntime_errorAddressString_one (x : runtime_errorAddressString) : (cruntime_errorAddressString x).all oneC = true := rfl
@[simp] theorem cruntime_errorAddressString_lens (xs : List runtime_errorAddressString) : (vT cruntime_errorAddressString xs).length = xs.length * 2 := vT_len cruntime_errorAddressString_len xs
@[simp] theorem cruntime_errorAddressString_take (xs : List runtime_errorAddressString) (n : Nat) : (vT cruntime_errorAddressString xs).take (n * 2) = vT cruntime_errorAddressString (xs.take n) := vT_take cruntime_errorAddressString_len xs n
@[simp] theorem cruntime_errorAddressString_drop (xs : List runtime_errorAddressString) (n : Nat) : (vT cruntime_errorAddressString xs).drop (n * 2) = vT cruntime_errorAddressString (xs.drop n) := vT_drop cruntime_errorAddressString_len xs n
def cudp_Head (x : udp_Head) : List Value := [.int .i64 x.SPort, .int .i64 x.DPort]
theorem cudp_Head_len (x : udp_Head) : (cudp_Head x).length = 2 := rfl
theorem cudp_Head_flat (x : udp_Head) : flatV.flatL (cudp_Head x) = true := rfl
theorem cudp_Head_one (x : udp_Head) : (cudp_Head x).all oneC = true := rfl
@[simp] theorem cudp_Head_lens (xs : List udp_Head) : (vT cudp_Head xs).length = xs.length * 2 := vT_len cudp_Head_len xs
@[simp] theorem cudp_Head_take (xs : List udp_Head) (n : Nat) : (vT cudp_Head xs).take (n * 2) = vT cudp_Head (xs.take n) := vT_take cudp_Head_len xs n
@[simp] theorem cudp_Head_drop (xs : List udp_Head) (n : Nat) : (vT cudp_Head xs).drop (n * 2) = vT cudp_Head (xs.drop n) := vT_drop cudp_Head_len xs n
def unudp_Head : List Value → Option udp_Head
  | [.int .i64 a1, .int .i64 a2] => some (udp_Head.mk a1 a2)
  | _ => none
theorem unudp_Head_eq (cs : List Value) (x : udp_Head) (h : unudp_Head cs = some x) : cs = cudp_Head x := by
  unfold unudp_Head at h; split at h
  · cases h; rfl
  · cases h
def uvudp_Head : Value → Option udp_Head
  | .agg ⟨cs⟩ => unudp_Head cs
  | _ => none
theorem uvudp_Head_eq (v : Value) (x : udp_Head) (h : uvudp_Head v = some x) : v = .agg ⟨cudp_Head x⟩ := by
  unfold uvudp_Head at h; split at h
  · rw [unudp_Head_eq _ _ h]
  · cases h
theorem uvudp_Head_c (x : udp_Head) : uvudp_Head (.agg ⟨cudp_Head x⟩) = some x := rfl
def cipsix_Head (x : ipsix_Head) : List Value := [.int .i64 x.Class, .int .i64 x.Label, .int .i64 x.Next, .int .i64 x.Hop, .bool x.Src.V6, .int .u64 x.Src.Hi, .int .u64 x.Src.Lo, .bool x.Dst.V6, .int .u64 x.Dst.Hi, .int .u64 x.Dst.Lo]
theorem cipsix_Head_len (x : ipsix_Head) : (cipsix_Head x).length = 10 := rfl
theorem cipsix_Head_flat (x : ipsix_Head) : flatV.flatL (cipsix_Head x) = true := rfl
theorem cipsix_Head_one (x : ipsix_Head) : (cipsix_Head x).all oneC = true := rfl
@[simp] theorem cipsix_Head_lens (xs : List ipsix_Head) : (vT cipsix_Head xs).length = xs.length * 10 := vT_len cipsix_Head_len xs
@[simp] theorem cipsix_Head_take (xs : List ipsix_Head) (n : Nat) : (vT cipsix_Head xs).take (n * 10) = vT cipsix_Head (xs.take n) := vT_take cipsix_Head_len xs n
@[simp] theorem cipsix_Head_drop (xs : List ipsix_Head) (n : Nat) : (vT cipsix_Head xs).drop (n * 10) = vT cipsix_Head (xs.drop n) := vT_drop cipsix_Head_len xs n
def unipsix_Head : List Value → Option ipsix_Head
  | [.int .i64 a1, .int .i64 a2, .int .i64 a3, .int .i64 a4, .bool a5, .int .u64 a6, .int .u64 a7, .bool a8, .int .u64 a9, .int .u64 a10] => some (ipsix_Head.mk a1 a2 a3 a4 (api_Addr.mk a5 a6 a7) (api_Addr.mk a8 a9 a10))
  | _ => none
theorem unipsix_Head_eq (cs : List Value) (x : ipsix_Head) (h : unipsix_Head cs = some x) : cs = cipsix_Head x := by
  unfold unipsix_Head at h; split at h
  · cases h; rfl
  · cases h
def uvipsix_Head : Value → Option ipsix_Head
  | .agg ⟨cs⟩ => unipsix_Head cs
  | _ => none
theorem uvipsix_Head_eq (v : Value) (x : ipsix_Head) (h : uvipsix_Head v = some x) : v = .agg ⟨cipsix_Head x⟩ := by
  unfold uvipsix_Head at h; split at h
  · rw [unipsix_Head_eq _ _ h]
  · cases h
theorem uvipsix_Head_c (x : ipsix_Head) : uvipsix_Head (.agg ⟨cipsix_Head x⟩) = some x := rfl
def cipfour_Head (x : ipfour_Head) : List Value := [.int .i64 x.Class, .int .i64 x.Mark, .bool x.Whole, .int .i64 x.TTL, .int .i64 x.Proto, .bool x.Src.V6, .int .u64 x.Src.Hi, .int .u64 x.Src.Lo, .bool x.Dst.V6, .int .u64 x.Dst.Hi, .int .u64 x.Dst.Lo, .string ⟨⟨x.Options⟩⟩]
theorem cipfour_Head_len (x : ipfour_Head) : (cipfour_Head x).length = 12 := rfl
theorem cipfour_Head_flat (x : ipfour_Head) : flatV.flatL (cipfour_Head x) = true := rfl
theorem cipfour_Head_one (x : ipfour_Head) : (cipfour_Head x).all oneC = true := rfl
@[simp] theorem cipfour_Head_lens (xs : List ipfour_Head) : (vT cipfour_Head xs).length = xs.length * 12 := vT_len cipfour_Head_len xs
@[simp] theorem cipfour_Head_take (xs : List ipfour_Head) (n : Nat) : (vT cipfour_Head xs).take (n * 12) = vT cipfour_Head (xs.take n) := vT_take cipfour_Head_len xs n
@[simp] theorem cipfour_Head_drop (xs : List ipfour_Head) (n : Nat) : (vT cipfour_Head xs).drop (n * 12) = vT cipfour_Head (xs.drop n) := vT_drop cipfour_Head_len xs n
def unipfour_Head : List Value → Option ipfour_Head
  | [.int .i64 a1, .int .i64 a2, .bool a3, .int .i64 a4, .int .i64 a5, .bool a6, .int .u64 a7, .int .u64 a8, .bool a9, .int .u64 a10, .int .u64 a11, .string ⟨⟨a12⟩⟩] => some (ipfour_Head.mk a1 a2 a3 a4 a5 (api_Addr.mk a6 a7 a8) (api_Addr.mk a9 a10 a11) a12)
  | _ => none
theorem unipfour_Head_eq (cs : List Value) (x : ipfour_Head) (h : unipfour_Head cs = some x) : cs = cipfour_Head x := by
  unfold unipfour_Head at h; split at h
  · cases h; rfl
  · cases h
def uvipfour_Head : Value → Option ipfour_Head
  | .agg ⟨cs⟩ => unipfour_Head cs
  | _ => none
theorem uvipfour_Head_eq (v : Value) (x : ipfour_Head) (h : uvipfour_Head v = some x) : v = .agg ⟨cipfour_Head x⟩ := by
  unfold uvipfour_Head at h; split at h
  · rw [unipfour_Head_eq _ _ h]
  · cases h
theorem uvipfour_Head_c (x : ipfour_Head) : uvipfour_Head (.agg ⟨cipfour_Head x⟩) = some x := rfl
def capi_Tuple (x : api_Tuple) : List Value := [.int .i64 x.Proto, .bool x.Src.V6, .int .u64 x.Src.Hi, .int .u64 x.Src.Lo, .bool x.Dst.V6, .int .u64 x.Dst.Hi, .int .u64 x.Dst.Lo, .int .i64 x.SPort, .int .i64 x.DPort]
theorem capi_Tuple_len (x : api_Tuple) : (capi_Tuple x).length = 9 := rfl
theorem capi_Tuple_flat (x : api_Tuple) : flatV.flatL (capi_Tuple x) = true := rfl
theorem capi_Tuple_one (x : api_Tuple) : (capi_Tuple x).all oneC = true := rfl
@[simp] theorem capi_Tuple_lens (xs : List api_Tuple) : (vT capi_Tuple xs).length = xs.length * 9 := vT_len capi_Tuple_len xs
@[simp] theorem capi_Tuple_take (xs : List api_Tuple) (n : Nat) : (vT capi_Tuple xs).take (n * 9) = vT capi_Tuple (xs.take n) := vT_take capi_Tuple_len xs n
@[simp] theorem capi_Tuple_drop (xs : List api_Tuple) (n : Nat) : (vT capi_Tuple xs).drop (n * 9) = vT capi_Tuple (xs.drop n) := vT_drop capi_Tuple_len xs n
def unapi_Tuple : List Value → Option api_Tuple
  | [.int .i64 a1, .bool a2, .int .u64 a3, .int .u64 a4, .bool a5, .int .u64 a6, .int .u64 a7, .int .i64 a8, .int .i64 a9] => some (api_Tuple.mk a1 (api_Addr.mk a2 a3 a4) (api_Addr.mk a5 a6 a7) a8 a9)
  | _ => none
theorem unapi_Tuple_eq (cs : List Value) (x : api_Tuple) (h : unapi_Tuple cs = some x) : cs = capi_Tuple x := by
  unfold unapi_Tuple at h; split at h
  · cases h; rfl
  · cases h
def uvapi_Tuple : Value → Option api_Tuple
  | .agg ⟨cs⟩ => unapi_Tuple cs
  | _ => none
theorem uvapi_Tuple_eq (v : Value) (x : api_Tuple) (h : uvapi_Tuple v = some x) : v = .agg ⟨capi_Tuple x⟩ := by
  unfold uvapi_Tuple at h; split at h
  · rw [unapi_Tuple_eq _ _ h]
  · cases h
theorem uvapi_Tuple_c (x : api_Tuple) : uvapi_Tuple (.agg ⟨capi_Tuple x⟩) = some x := rfl
def ctcp_Head (x : tcp_Head) : List Value := [.int .i64 x.SPort, .int .i64 x.DPort, .int .u32 x.Seq, .int .u32 x.Ack, .int .i64 x.Flags, .int .i64 x.Window, .int .i64 x.Urgent, .string ⟨⟨x.Options⟩⟩]
theorem ctcp_Head_len (x : tcp_Head) : (ctcp_Head x).length = 8 := rfl
theorem ctcp_Head_flat (x : tcp_Head) : flatV.flatL (ctcp_Head x) = true := rfl
theorem ctcp_Head_one (x : tcp_Head) : (ctcp_Head x).all oneC = true := rfl
@[simp] theorem ctcp_Head_lens (xs : List tcp_Head) : (vT ctcp_Head xs).length = xs.length * 8 := vT_len ctcp_Head_len xs
@[simp] theorem ctcp_Head_take (xs : List tcp_Head) (n : Nat) : (vT ctcp_Head xs).take (n * 8) = vT ctcp_Head (xs.take n) := vT_take ctcp_Head_len xs n
@[simp] theorem ctcp_Head_drop (xs : List tcp_Head) (n : Nat) : (vT ctcp_Head xs).drop (n * 8) = vT ctcp_Head (xs.drop n) := vT_drop ctcp_Head_len xs n
def untcp_Head : List Value → Option tcp_Head
  | [.int .i64 a1, .int .i64 a2, .int .u32 a3, .int .u32 a4, .int .i64 a5, .int .i64 a6, .int .i64 a7, .string ⟨⟨a8⟩⟩] => some (tcp_Head.mk a1 a2 a3 a4 a5 a6 a7 a8)
  | _ => none
theorem untcp_Head_eq (cs : List Value) (x : tcp_Head) (h : untcp_Head cs = some x) : cs = ctcp_Head x := by
  unfold untcp_Head at h; split at h
  · cases h; rfl
  · cases h
def uvtcp_Head : Value → Option tcp_Head
  | .agg ⟨cs⟩ => untcp_Head cs
  | _ => none
theorem uvtcp_Head_eq (v : Value) (x : tcp_Head) (h : uvtcp_Head v = some x) : v = .agg ⟨ctcp_Head x⟩ := by
  unfold uvtcp_Head at h; split at h
  · rw [untcp_Head_eq _ _ h]
  · cases h
theorem uvtcp_Head_c (x : tcp_Head) : uvtcp_Head (.agg ⟨ctcp_Head x⟩) = some x := rfl
def check_fold_s1 (n1 : Int) : Option (Sum Int Int) :=
  cond (decide (n1 > 65535))
    (
    let t := wI .i64 ((andI .i64 n1 65535) + (n1.fdiv (2 ^ 16)))
    some (.inl t))
    (
    some (.inr (n1)))
def check_foldF (n : Int) : Option Int :=
  iter (fun st => check_fold_s1 st) FUEL n
def rx131 (x : Int) : SRes := ⟨.int .i64 x, [], []⟩
def r131 (g : Int → Option Int) : Dec := dV (asI .i64) fun (y0 : Int) => dEnd (ofG (g y0) rx131)
theorem r131_c {g : Int → Option Int} {y0 : Int} {x : Int} (hx : g y0 = some x) : r131 g [.int .i64 y0] [] = some (rx131 x) := (dV_eq (asI_c _)).trans (ofG_eq hx)
def s131 (g : Int → Option Int) : Summ := ⟨[.v], r131 g⟩
theorem r131_eq {g : Int → Option Int} {y0 : Int} {x : Int} (hx : g y0 = some x) : (s131 g).run [.int .i64 y0] [] = some (rx131 x) := r131_c hx
abbrev sums131 : List (Nat × Summ) := []
def head131_1 (n1 : Int) : VM :=
  ⟨⟨131, 11, [(0, .int .i64 n1)], [.code k131_6, .inLoop k131_6, .inBlock 0, .code k131_10], [], false, none⟩, [], [], 0⟩
theorem loop131_1 (hS : SumsOK Try.prog (aget (sums131))) (res : Int) : ∀ fuel (st : Int) (o : Int), iter (fun st => check_fold_s1 st) fuel st = some o → (o = res) →
    Leads Try.prog 131 0 (head131_1 st) (fun v H _ => Res 0 (rx131 res) v H) := by
  intro fuel st o h hc
  refine iter_leads (head := fun st => head131_1 st) (C := fun o => (o = res)) ?_ fuel st o h hc
  clear h hc o st fuel
  intro n1 o h hc
  replace h : check_fold_s1 n1 = some o := h
  show Leads Try.prog 131 0 (head131_1 n1) (fun v H _ => Res 0 (rx131 res) v H)
  unfold check_fold_s1 at h
  refine ev_ok tab_ok hS true 3000 ?_
  conv => whnf
  refine br.h2 h ?_ ?_ ?_
  · rfl
  · clear h; intro hb h; conv => whnf
    all_goals (cases h; cases hc; exact Res.z rfl rfl rfl)
  clear h; intro hb h; conv => whnf
  let t : Int := wI .i64 ((andI .i64 n1 65535) + (n1.fdiv (2 ^ 16)))
  cases h; simp only [Sum.elim_inl, head131_1] at hc
  refine Leads.re hc [] rfl ?_ ?_ <;> (repeat' first | exact trivial | refine ⟨⟨_, rfl, rfl⟩, ?_⟩ | refine ⟨⟨_, _, rfl, rfl, .rowF (vI_flat _ _) id⟩, ?_⟩ | refine ⟨⟨_, _, rfl, rfl, .rowF (vS_flat _) id⟩, ?_⟩ | refine ⟨⟨_, _, rfl, rfl, .rowF (vB_flat _) id⟩, ?_⟩ | refine ⟨⟨_, _, rfl, rfl, .rowF (vT_flat (by first | exact cicmp_Message_flat | exact capi_Addr_flat | exact coctet_Reader_flat | exact cArr2_Int_flat | exact cArr4_Arr2_Int_flat | exact cruntime_errorAddressString_flat | exact cudp_Head_flat | exact cipsix_Head_flat | exact cipfour_Head_flat | exact capi_Tuple_flat | exact ctcp_Head_flat) _) id⟩, ?_⟩ | refine ⟨⟨_, _, rfl, rfl, .tyF (vI_flat _ _)⟩, ?_⟩ | refine ⟨⟨_, _, rfl, rfl, .ty rfl⟩, ?_⟩ | refine ⟨⟨_, _, rfl, rfl, .cells rfl⟩, ?_⟩ | refine ⟨⟨_, _, rfl, rfl, .row rfl id⟩, ?_⟩ | refine ⟨⟨_, _, rfl, rfl, .cr rfl⟩, ?_⟩ | refine ⟨⟨_, _, rfl, rfl, .rc rfl⟩, ?_⟩ | refine ⟨⟨_, _, rfl, rfl, .marks⟩, ?_⟩ | refine ⟨⟨_, _, rfl, rfl, .siter _ _⟩, ?_⟩ | refine ⟨⟨_, _, rfl, rfl, .loop rfl rfl rfl rfl (by repeat' first | exact trivial | refine ⟨rfl, ?_⟩) rfl rfl rfl rfl⟩, ?_⟩)
theorem leads131 (hS : SumsOK Try.prog (aget (sums131))) (n : Int) (res : Int) (h : check_foldF n = some res) :
    Leads Try.prog 131 0 ⟨⟨131, 11, [(0, .int .i64 n)], [.code k131_12], [], false, none⟩, [], [], 0⟩ (fun v H _ => Res 0 (rx131 res) v H) := by
  unfold check_foldF at h
  refine ev_ok tab_ok hS true 3000 ?_
  conv => whnf
  have hl := loop131_1 hS res _ _ _ h rfl; simp only [head131_1] at hl
  refine Leads.re hl [] rfl ?_ ?_ <;> (repeat' first | exact trivial | refine ⟨⟨_, rfl, rfl⟩, ?_⟩ | refine ⟨⟨_, _, rfl, rfl, .rowF (vI_flat _ _) id⟩, ?_⟩ | refine ⟨⟨_, _, rfl, rfl, .rowF (vS_flat _) id⟩, ?_⟩ | refine ⟨⟨_, _, rfl, rfl, .rowF (vB_flat _) id⟩, ?_⟩ | refine ⟨⟨_, _, rfl, rfl, .rowF (vT_flat (by first | exact cicmp_Message_flat | exact capi_Addr_flat | exact coctet_Reader_flat | exact cArr2_Int_flat | exact cArr4_Arr2_Int_flat | exact cruntime_errorAddressString_flat | exact cudp_Head_flat | exact cipsix_Head_flat | exact cipfour_Head_flat | exact capi_Tuple_flat | exact ctcp_Head_flat) _) id⟩, ?_⟩ | refine ⟨⟨_, _, rfl, rfl, .tyF (vI_flat _ _)⟩, ?_⟩ | refine ⟨⟨_, _, rfl, rfl, .ty rfl⟩, ?_⟩ | refine ⟨⟨_, _, rfl, rfl, .cells rfl⟩, ?_⟩ | refine ⟨⟨_, _, rfl, rfl, .row rfl id⟩, ?_⟩ | refine ⟨⟨_, _, rfl, rfl, .cr rfl⟩, ?_⟩ | refine ⟨⟨_, _, rfl, rfl, .rc rfl⟩, ?_⟩ | refine ⟨⟨_, _, rfl, rfl, .marks⟩, ?_⟩ | refine ⟨⟨_, _, rfl, rfl, .siter _ _⟩, ?_⟩ | refine ⟨⟨_, _, rfl, rfl, .loop rfl rfl rfl rfl (by repeat' first | exact trivial | refine ⟨rfl, ?_⟩) rfl rfl rfl rfl⟩, ?_⟩)
theorem ok131 (hS : SumsOK Try.prog (aget (sums131))) : SumOK Try.prog 131 (s131 (check_foldF)) := by
  refine SumOK.of_leads tab_ok (fun ar os r ha hr => ?_) ⟨Try.f131, rfl, by decide, rfl⟩
  replace hr : r131 (check_foldF) ar (conts os) = some r := hr
  unfold r131 at hr
  generalize hc : conts os = C at hr
  replace hr := dV.elim hr; obtain ⟨v0, l1, y0, rfl, e0, hr⟩ := hr; obtain rfl := asI_eq _ _ _ e0
  replace hr := dFin hr; obtain ⟨rfl, rfl, x, h, rfl⟩ := hr
  obtain rfl := kinds_nil hc
  exact ⟨_, rfl, leads131 hS _ x h⟩
def check_fold : Int → Option Int := check_foldF
theorem lift131 : SumOK Try.prog 131 (s131 check_fold) := ok131 (SumsOK.of_tab trivial)
def check_Sum_s1 (check_fold : Int → Option Int) (s : List UInt8) (xat : Int) (n : Int) : Option (Sum (Int × Int) Int) :=
  cond (decide (xat < (s.length : Int)))
    (
    oreq (decide (0 ≤ xat)) <|
    (s[xat.toNat]?).bind fun (b : UInt8) =>
    let t := wI .i64 ((wI .i64 (b.toNat : Int)) * 2 ^ 8)
    let t1 := decide ((wI .i64 (xat + 1)) < (s.length : Int))
    cond (t1)
      (
      oreq (decide (0 ≤ (wI .i64 (xat + 1)))) <|
      (s[(wI .i64 (xat + 1)).toNat]?).bind fun (b1 : UInt8) =>
      let t2 := wI .i64 (n + (iorI .i64 t (wI .i64 (b1.toNat : Int))))
      (check_fold t2).bind fun f =>
      some (.inl (wI .i64 (xat + 2), f)))
      (
      (check_fold (wI .i64 (n + t))).bind fun f1 =>
      some (.inl (wI .i64 (xat + 2), f1))))
    (
    some (.inr (n)))
def check_SumF (check_fold : Int → Option Int) (s : List UInt8) : Option Int :=
  iter (fun st => check_Sum_s1 check_fold s st.1 st.2) FUEL (0, 0)
def rx113 (x : Int) : SRes := ⟨.int .i64 x, [], []⟩
def r113 (g : (List UInt8) → Option Int) : Dec := dV asS fun (y0 : List UInt8) => dEnd (ofG (g y0) rx113)
theorem r113_c {g : (List UInt8) → Option Int} {y0 : List UInt8} {x : Int} (hx : g y0 = some x) : r113 g [.string ⟨⟨y0⟩⟩] [] = some (rx113 x) := (dV_eq (asS_c)).trans (ofG_eq hx)
def s113 (g : (List UInt8) → Option Int) : Summ := ⟨[.v], r113 g⟩
theorem r113_eq {g : (List UInt8) → Option Int} {y0 : List UInt8} {x : Int} (hx : g y0 = some x) : (s113 g).run [.string ⟨⟨y0⟩⟩] [] = some (rx113 x) := r113_c hx
abbrev sums113 (check_fold : Int → Option Int) : List (Nat × Summ) := [(131, s131 check_fold)]
def head113_1 (s : List UInt8) (xat : Int) (n : Int) : VM :=
  ⟨⟨133, 32, [(0, .func (.yield 3) #[] #[]), (1, .pointer (some ⟨1, 0, none⟩)), (3, .int .i64 xat)], [.code k133_17, .inLoop k133_17, .inBlock 0], [], false, none⟩, [⟨113, 13, [(3, .pointer (some ⟨0, 0, none⟩))], [.inRangeFunc 3, .inBlock 0, .code k113_10], [2], false, none⟩], [(0, .cells [.int .i64 n]), (1, .cells [.string ⟨⟨s⟩⟩]), (2, .marks), (3, .loop ⟨.ready, none, 113, 13, [(3, .pointer (some ⟨0, 0, none⟩))], [7], k113_3, k113_5, 2⟩)], 4⟩
theorem loop113_1 (check_fold : Int → Option Int) (hS : SumsOK Try.prog (aget (sums113 check_fold))) (s : List UInt8) (res : Int) : ∀ fuel (st : Int × Int) (o : Int), iter (fun st => check_Sum_s1 check_fold s st.1 st.2) fuel st = some o → (o = res) →
    Leads Try.prog 113 0 (head113_1 s st.1 st.2) (fun v H _ => Res 0 (rx113 res) v H) := by
  intro fuel st o h hc
  refine iter_leads (head := fun st => head113_1 s st.1 st.2) (C := fun o => (o = res)) ?_ fuel st o h hc
  clear h hc o st fuel
  intro st o h hc
  obtain ⟨xat, n⟩ := st
  replace h : check_Sum_s1 check_fold s xat n = some o := h
  show Leads Try.prog 113 0 (head113_1 s xat n) (fun v H _ => Res 0 (rx113 res) v H)
  unfold check_Sum_s1 at h
  refine ev_ok tab_ok hS true 3000 ?_
  conv => whnf
  refine br.h2 h ?_ ?_ ?_
  · rfl
  · clear h; intro hb h; conv => whnf
    all_goals (cases h; cases hc; exact Res.z rfl rfl rfl)
  clear h; intro hb h; conv => whnf
  replace h := oreq.elim h; obtain ⟨hb, h⟩ := h
  first | (refine req.intro hb ?_; conv => whnf) | skip
  replace h := obind.elim h; obtain ⟨b, hy, h⟩ := h
  refine rdS.intro hy ?_
  conv => whnf
  let t : Int := wI .i64 ((wI .i64 (b.toNat : Int)) * 2 ^ 8)
  let t1 : Bool := decide ((wI .i64 (xat + 1)) < (s.length : Int))
  refine br.h2 h ?_ ?_ ?_
  · rfl
  · clear h; intro hb h; conv => whnf
    replace h := obind.elim h; obtain ⟨f1, hy, h⟩ := h
    refine sumK.q rfl rfl (r131_eq hy) rfl rfl rfl ?_
    conv => whnf
    cases h; simp only [Sum.elim_inl, head113_1] at hc
    refine Leads.re hc [(0, 0), (1, 1), (2, 2), (3, 3)] rfl ?_ ?_ (hu := by repeat' first | exact trivial | refine ⟨⟨rfl, rfl, rfl, rfl, rfl, ?_, rfl, rfl⟩, ?_⟩ | refine ⟨⟨_, rfl, rfl⟩, ?_⟩) <;> (repeat' first | exact trivial | refine ⟨⟨_, rfl, rfl⟩, ?_⟩ | refine ⟨⟨_, _, rfl, rfl, .rowF (vI_flat _ _) id⟩, ?_⟩ | refine ⟨⟨_, _, rfl, rfl, .rowF (vS_flat _) id⟩, ?_⟩ | refine ⟨⟨_, _, rfl, rfl, .rowF (vB_flat _) id⟩, ?_⟩ | refine ⟨⟨_, _, rfl, rfl, .rowF (vT_flat (by first | exact cicmp_Message_flat | exact capi_Addr_flat | exact coctet_Reader_flat | exact cArr2_Int_flat | exact cArr4_Arr2_Int_flat | exact cruntime_errorAddressString_flat | exact cudp_Head_flat | exact cipsix_Head_flat | exact cipfour_Head_flat | exact capi_Tuple_flat | exact ctcp_Head_flat) _) id⟩, ?_⟩ | refine ⟨⟨_, _, rfl, rfl, .tyF (vI_flat _ _)⟩, ?_⟩ | refine ⟨⟨_, _, rfl, rfl, .ty rfl⟩, ?_⟩ | refine ⟨⟨_, _, rfl, rfl, .cells rfl⟩, ?_⟩ | refine ⟨⟨_, _, rfl, rfl, .row rfl id⟩, ?_⟩ | refine ⟨⟨_, _, rfl, rfl, .cr rfl⟩, ?_⟩ | refine ⟨⟨_, _, rfl, rfl, .rc rfl⟩, ?_⟩ | refine ⟨⟨_, _, rfl, rfl, .marks⟩, ?_⟩ | refine ⟨⟨_, _, rfl, rfl, .siter _ _⟩, ?_⟩ | refine ⟨⟨_, _, rfl, rfl, .loop rfl rfl rfl rfl (by repeat' first | exact trivial | refine ⟨rfl, ?_⟩) rfl rfl rfl rfl⟩, ?_⟩)
  clear h; intro hb h; conv => whnf
  replace h := oreq.elim h; obtain ⟨hb, h⟩ := h
  first | (refine req.intro hb ?_; conv => whnf) | skip
  replace h := obind.elim h; obtain ⟨b1, hy, h⟩ := h
  refine rdS.intro hy ?_
  conv => whnf
  let t2 : Int := wI .i64 (n + (iorI .i64 t (wI .i64 (b1.toNat : Int))))
  replace h := obind.elim h; obtain ⟨f, hy, h⟩ := h
  refine sumK.q rfl rfl (r131_eq hy) rfl rfl rfl ?_
  conv => whnf
  cases h; simp only [Sum.elim_inl, head113_1] at hc
  refine Leads.re hc [(0, 0), (1, 1), (2, 2), (3, 3)] rfl ?_ ?_ (hu := by repeat' first | exact trivial | refine ⟨⟨rfl, rfl, rfl, rfl, rfl, ?_, rfl, rfl⟩, ?_⟩ | refine ⟨⟨_, rfl, rfl⟩, ?_⟩) <;> (repeat' first | exact trivial | refine ⟨⟨_, rfl, rfl⟩, ?_⟩ | refine ⟨⟨_, _, rfl, rfl, .rowF (vI_flat _ _) id⟩, ?_⟩ | refine ⟨⟨_, _, rfl, rfl, .rowF (vS_flat _) id⟩, ?_⟩ | refine ⟨⟨_, _, rfl, rfl, .rowF (vB_flat _) id⟩, ?_⟩ | refine ⟨⟨_, _, rfl, rfl, .rowF (vT_flat (by first | exact cicmp_Message_flat | exact capi_Addr_flat | exact coctet_Reader_flat | exact cArr2_Int_flat | exact cArr4_Arr2_Int_flat | exact cruntime_errorAddressString_flat | exact cudp_Head_flat | exact cipsix_Head_flat | exact cipfour_Head_flat | exact capi_Tuple_flat | exact ctcp_Head_flat) _) id⟩, ?_⟩ | refine ⟨⟨_, _, rfl, rfl, .tyF (vI_flat _ _)⟩, ?_⟩ | refine ⟨⟨_, _, rfl, rfl, .ty rfl⟩, ?_⟩ | refine ⟨⟨_, _, rfl, rfl, .cells rfl⟩, ?_⟩ | refine ⟨⟨_, _, rfl, rfl, .row rfl id⟩, ?_⟩ | refine ⟨⟨_, _, rfl, rfl, .cr rfl⟩, ?_⟩ | refine ⟨⟨_, _, rfl, rfl, .rc rfl⟩, ?_⟩ | refine ⟨⟨_, _, rfl, rfl, .marks⟩, ?_⟩ | refine ⟨⟨_, _, rfl, rfl, .siter _ _⟩, ?_⟩ | refine ⟨⟨_, _, rfl, rfl, .loop rfl rfl rfl rfl (by repeat' first | exact trivial | refine ⟨rfl, ?_⟩) rfl rfl rfl rfl⟩, ?_⟩)
theorem leads113 (check_fold : Int → Option Int) (hS : SumsOK Try.prog (aget (sums113 check_fold))) (s : List UInt8) (res : Int) (h : check_SumF check_fold s = some res) :
    Leads Try.prog 113 0 ⟨⟨113, 13, [(0, .string ⟨⟨s⟩⟩)], [.code k113_13], [], false, none⟩, [], [], 0⟩ (fun v H _ => Res 0 (rx113 res) v H) := by
  unfold check_SumF at h
  refine ev_ok tab_ok hS true 3000 ?_
  conv => whnf
  have hl := loop113_1 check_fold hS _ res _ _ _ h rfl; simp only [head113_1] at hl
  refine Leads.re hl [(0, 0), (1, 1), (2, 2), (3, 3)] rfl ?_ ?_ (hu := by repeat' first | exact trivial | refine ⟨⟨rfl, rfl, rfl, rfl, rfl, ?_, rfl, rfl⟩, ?_⟩ | refine ⟨⟨_, rfl, rfl⟩, ?_⟩) <;> (repeat' first | exact trivial | refine ⟨⟨_, rfl, rfl⟩, ?_⟩ | refine ⟨⟨_, _, rfl, rfl, .rowF (vI_flat _ _) id⟩, ?_⟩ | refine ⟨⟨_, _, rfl, rfl, .rowF (vS_flat _) id⟩, ?_⟩ | refine ⟨⟨_, _, rfl, rfl, .rowF (vB_flat _) id⟩, ?_⟩ | refine ⟨⟨_, _, rfl, rfl, .rowF (vT_flat (by first | exact cicmp_Message_flat | exact capi_Addr_flat | exact coctet_Reader_flat | exact cArr2_Int_flat | exact cArr4_Arr2_Int_flat | exact cruntime_errorAddressString_flat | exact cudp_Head_flat | exact cipsix_Head_flat | exact cipfour_Head_flat | exact capi_Tuple_flat | exact ctcp_Head_flat) _) id⟩, ?_⟩ | refine ⟨⟨_, _, rfl, rfl, .tyF (vI_flat _ _)⟩, ?_⟩ | refine ⟨⟨_, _, rfl, rfl, .ty rfl⟩, ?_⟩ | refine ⟨⟨_, _, rfl, rfl, .cells rfl⟩, ?_⟩ | refine ⟨⟨_, _, rfl, rfl, .row rfl id⟩, ?_⟩ | refine ⟨⟨_, _, rfl, rfl, .cr rfl⟩, ?_⟩ | refine ⟨⟨_, _, rfl, rfl, .rc rfl⟩, ?_⟩ | refine ⟨⟨_, _, rfl, rfl, .marks⟩, ?_⟩ | refine ⟨⟨_, _, rfl, rfl, .siter _ _⟩, ?_⟩ | refine ⟨⟨_, _, rfl, rfl, .loop rfl rfl rfl rfl (by repeat' first | exact trivial | refine ⟨rfl, ?_⟩) rfl rfl rfl rfl⟩, ?_⟩)
theorem ok113 (check_fold : Int → Option Int) (hS : SumsOK Try.prog (aget (sums113 check_fold))) : SumOK Try.prog 113 (s113 (check_SumF check_fold)) := by
  refine SumOK.of_leads tab_ok (fun ar os r ha hr => ?_) ⟨Try.f113, rfl, by decide, rfl⟩
  replace hr : r113 (check_SumF check_fold) ar (conts os) = some r := hr
  unfold r113 at hr
  generalize hc : conts os = C at hr
  replace hr := dV.elim hr; obtain ⟨v0, l1, y0, rfl, e0, hr⟩ := hr; obtain rfl := asS_eq _ _ e0
  replace hr := dFin hr; obtain ⟨rfl, rfl, x, h, rfl⟩ := hr
  obtain rfl := kinds_nil hc
  exact ⟨_, rfl, leads113 check_fold hS _ x h⟩
def check_Sum : (List UInt8) → Option Int := check_SumF check_fold
theorem lift113 : SumOK Try.prog 113 (s113 check_Sum) := ok113 check_fold (SumsOK.of_tab ⟨lift131, trivial⟩)
end Go.Vm.Code
namespace Go.Vm.Code
open Go Go.Vm
def wsum : List UInt8 → Nat
  | [] => 0
  | [b] => b.toNat * 256
  | b :: c :: l => b.toNat * 256 + c.toNat + wsum l
def norm (n : Nat) : Nat := if n = 0 then 0 else (n - 1) % 65535 + 1
theorem norm_eq {n r : Nat} (h1 : r ≤ 65535) (h2 : r % 65535 = n % 65535) (h3 : r = 0 ↔ n = 0) : norm n = r := by unfold norm; split <;> omega
theorem norm_le (n : Nat) : norm n ≤ 65535 := by unfold norm; split <;> omega
theorem norm_mod (n : Nat) : norm n % 65535 = n % 65535 := by unfold norm; split <;> omega
theorem norm_zero (n : Nat) : norm n = 0 ↔ n = 0 := by unfold norm; split <;> omega
theorem norm_same {n : Nat} (h : n ≤ 65535) : norm n = n := norm_eq h rfl Iff.rfl
theorem norm_add (a b : Nat) : norm (norm a + b) = norm (a + b) :=
  (norm_eq (norm_le _) (by have h1 := norm_mod a; have h2 := norm_mod (norm a + b); omega) (by have h1 := norm_zero a; have h2 := norm_zero (norm a + b); omega)).symm
theorem fold_eq {n : Int} (h0 : 0 ≤ n) (h1 : n < 2 ^ 62) : check_fold n = some ((norm n.toNat : Nat) : Int) := by
  unfold check_fold check_foldF
  refine iter_eq (fun n => ((norm n.toNat : Nat) : Int)) (fun n => 0 ≤ n ∧ n < 2 ^ 62) (fun n => n.toNat) ?_ FUEL _ ⟨h0, h1⟩ (by rw [FUEL_eq]; omega)
  intro s ⟨a, b⟩
  unfold check_fold_s1
  by_cases hs : s > 65535
  · refine .inr ⟨s % 65536 + s / 65536, ?_, ⟨by omega, by omega⟩, by omega, ?_⟩
    · rw [cond_p hs, andI64_mask (m := 65535) 16 (by decide) (by decide) a (by omega), fdivP, wI64 (by omega) (by omega)]; rfl
    · have : norm (s % 65536 + s / 65536).toNat = norm s.toNat :=
        (norm_eq (norm_le _) (by have := norm_mod (s % 65536 + s / 65536).toNat; omega) (by have := norm_zero (s % 65536 + s / 65536).toNat; omega)).symm
      rw [this]
  · refine .inl ?_
    rw [cond_n hs]
    have := norm_same (n := s.toNat) (by omega)
    simp only [this]
    rw [Int.toNat_of_nonneg a]
theorem wsum_two {s : List UInt8} {i : Nat} (h : i + 1 < s.length) : wsum (s.drop i) = s[i].toNat * 256 + s[i + 1].toNat + wsum (s.drop (i + 2)) := by
  rw [List.drop_eq_getElem_cons (by omega : i < s.length), List.drop_eq_getElem_cons h]; rfl
theorem wsum_one {s : List UInt8} {i : Nat} (h : i + 1 = s.length) : wsum (s.drop i) = s[i].toNat * 256 := by
  rw [List.drop_eq_getElem_cons (by omega : i < s.length), List.drop_eq_nil_of_le (by omega)]; rfl
theorem wsum_none {s : List UInt8} {i : Nat} (h : s.length ≤ i) : wsum (s.drop i) = 0 := by
  rw [List.drop_eq_nil_of_le h]; rfl
theorem sum_eq (s : List UInt8) (h : s.length < 2 ^ 61) : check_Sum s = some ((norm (wsum s) : Nat) : Int) := by
  unfold check_Sum check_SumF
  have key := iter_eq (step := fun (st : Int × Int) => check_Sum_s1 check_fold s st.1 st.2) (fun (st : Int × Int) => ((norm (st.2.toNat + wsum (s.drop st.1.toNat)) : Nat) : Int)) (fun (st : Int × Int) => 0 ≤ st.1 ∧ st.1 ≤ s.length + 1 ∧ 0 ≤ st.2 ∧ st.2 ≤ 65535) (fun (st : Int × Int) => (s.length + 2 - st.1).toNat) ?_ FUEL (0, 0) ⟨by simp, by simp; omega, by simp, by simp⟩ (by rw [FUEL_eq]; simp only; omega)
  · rw [key]; simp
  rintro ⟨p, n⟩ ⟨h1, h2, h3, h4⟩
  simp only at h1 h2 h3 h4 ⊢
  obtain ⟨i, rfl⟩ := Int.eq_ofNat_of_zero_le h1
  obtain ⟨m, rfl⟩ := Int.eq_ofNat_of_zero_le h3
  unfold check_Sum_s1
  by_cases hp : i < s.length
  · by_cases hq : i + 1 < s.length
    · have b1 := s[i].toNat_lt
      have b2 := s[i + 1].toNat_lt
      refine .inr ⟨(((i + 2 : Nat) : Int), ((norm (m + (s[i].toNat * 256 + s[i + 1].toNat)) : Nat) : Int)), ?_, ⟨by simp only; omega, by simp only; omega, by simp only; omega, by simp only; have := norm_le (m + (s[i].toNat * 256 + s[i + 1].toNat)); omega⟩, by simp only; omega, ?_⟩
      · simp (disch := omega) only [wI64, oreq_p, cond_p]
        have e : ((i : Int) + 1).toNat = i + 1 := by omega
        rw [e]
        simp (disch := omega) only [Int.toNat_natCast, List.getElem?_eq_getElem, Option.bind_some, iorI64_low, wI64, fold_eq]
        congr 3 <;> omega
      · simp only [Int.toNat_natCast]
        rw [norm_add, wsum_two hq, Nat.add_assoc]
    · have b1 := s[i].toNat_lt
      refine .inr ⟨(((i + 2 : Nat) : Int), ((norm (m + s[i].toNat * 256) : Nat) : Int)), ?_, ⟨by simp only; omega, by simp only; omega, by simp only; omega, by simp only; have := norm_le (m + s[i].toNat * 256); omega⟩, by simp only; omega, ?_⟩
      · simp (disch := omega) only [wI64, oreq_p, cond_p, cond_n, Int.toNat_natCast, List.getElem?_eq_getElem, Option.bind_some, fold_eq]
        congr 3 <;> omega
      · simp only [Int.toNat_natCast]
        rw [norm_add, wsum_none (i := i + 2) (by omega), Nat.add_zero, wsum_one (i := i) (by omega)]
  · refine .inl ?_
    simp (disch := omega) only [cond_n]
    simp only [Int.toNat_natCast]
    rw [wsum_none (by omega), Nat.add_zero, norm_same (by omega)]
theorem wsum_append : ∀ (a b : List UInt8), a.length % 2 = 0 → wsum (a ++ b) = wsum a + wsum b
  | [], b, _ => by simp [wsum]
  | [_], b, h => by simp at h
  | x :: y :: a, b, h => by
    have := wsum_append a b (by simp at h; omega)
    simp only [List.cons_append, wsum, this]; omega
end Go.Vm.Code
namespace Go.Vm
open Go
def be (n : Nat) : Nat → List UInt8
  | 0 => []
  | r + 1 => UInt8.ofNat (n / 256 ^ r) :: be n r
def valL (l : List UInt8) : Nat := l.foldl (fun n b => n * 256 + b.toNat) 0
@[simp] theorem be_len (n : Nat) : ∀ k, (be n k).length = k
  | 0 => rfl
  | k + 1 => by simp [be, be_len n k]
theorem be_snoc (n : Nat) : ∀ k, be n (k + 1) = be (n / 256) k ++ [UInt8.ofNat n]
  | 0 => by simp [be]
  | k + 1 => by
    rw [be, be_snoc n k, be, Nat.div_div_eq_div_mul, Nat.pow_succ, Nat.mul_comm 256]; rfl
theorem val_foldl (l : List UInt8) : ∀ n : Nat, l.foldl (fun n b => n * 256 + b.toNat) n = n * 256 ^ l.length + valL l := by
  induction l with
  | nil => intro n; simp [valL]
  | cons b l ih =>
    intro n
    rw [valL, List.foldl_cons, ih, List.foldl_cons, ih, List.length_cons, Nat.pow_succ]
    rw [Nat.zero_mul, Nat.zero_add, Nat.add_mul, Nat.mul_assoc, Nat.mul_comm (256 ^ _) 256, Nat.add_assoc]
@[simp] theorem val_nil : valL [] = 0 := rfl
theorem val_cons (b : UInt8) (l : List UInt8) : valL (b :: l) = b.toNat * 256 ^ l.length + valL l := by
  rw [valL, List.foldl_cons, val_foldl]; simp
theorem val_append (l m : List UInt8) : valL (l ++ m) = valL l * 256 ^ m.length + valL m := by
  rw [valL, List.foldl_append, val_foldl]; rfl
theorem val_snoc (l : List UInt8) (b : UInt8) : valL (l ++ [b]) = valL l * 256 + b.toNat := by
  rw [val_append]; simp [val_cons]
theorem val_lt : ∀ l : List UInt8, valL l < 256 ^ l.length
  | [] => by simp
  | b :: l => by
    have h := val_lt l
    have hb := b.toNat_lt
    rw [val_cons, List.length_cons, Nat.pow_succ]
    have : b.toNat * 256 ^ l.length + 256 ^ l.length ≤ 256 * 256 ^ l.length := by
      rw [← Nat.succ_mul]; exact Nat.mul_le_mul_right _ (by omega)
    rw [Nat.mul_comm (256 ^ l.length)]; omega
theorem val_be (n : Nat) : ∀ k, valL (be n k) = n % 256 ^ k
  | 0 => by simp [be, Nat.mod_one]
  | k + 1 => by
    have e : n % 256 ^ (k + 1) = n % 256 + 256 * (n / 256 % 256 ^ k) := by rw [Nat.pow_succ', Nat.mod_mul]
    rw [be_snoc, val_snoc, val_be (n / 256) k, UInt8.toNat_ofNat', e]
    generalize n / 256 % 256 ^ k = x
    omega
theorem val_be_lt {n k : Nat} (h : n < 256 ^ k) : valL (be n k) = n := by rw [val_be, Nat.mod_eq_of_lt h]
theorem val_take_lt {l : List UInt8} {k : Nat} (n : Nat) (h : 256 ^ k ≤ n) : valL (l.take k) < n := by
  have h1 := val_lt (l.take k)
  have h2 : (l.take k).length ≤ k := List.length_take_le _ _
  exact Nat.lt_of_lt_of_le h1 (Nat.le_trans (Nat.pow_le_pow_right (by decide) h2) h)
end Go.Vm
