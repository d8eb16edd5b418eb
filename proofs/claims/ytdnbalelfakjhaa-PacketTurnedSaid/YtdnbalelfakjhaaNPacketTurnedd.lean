import Derived.Test.YtdnbalelfakjhaaNPacketTurnedc
namespace Go.Vm.Code
open Go Go.Vm Go.Proofs
def k6_0 : VC := .reg [⟨(some 6), .box (.tmp 0), none⟩,
    ⟨(some 11), .box (.tmp 5), none⟩,
    ⟨(some 12), .mv (.const (.bool false)), none⟩]
def k6_1 : VC := .reg [⟨(some 29), .mv (.tmp 4), none⟩,
    ⟨(some 30), .fieldA 3 (.tmp 11), none⟩,
    ⟨(some 31), .load1 .str (.tmp 30), none⟩,
    ⟨(some 32), .fieldA 4 (.tmp 11), none⟩,
    ⟨(some 33), .load1 .str (.tmp 32), none⟩,
    ⟨(some 34), .fieldA 5 (.tmp 11), none⟩,
    ⟨(some 35), .load1 .str (.tmp 34), none⟩,
    ⟨(some 36), .buildSl 4 1 [(.string ⟨⟨[]⟩⟩), (.string ⟨⟨[]⟩⟩), (.string ⟨⟨[]⟩⟩), (.string ⟨⟨[]⟩⟩)] [(0, 1, (.tmp 29)), (1, 1, (.tmp 31)), (2, 1, (.tmp 33)), (3, 1, (.tmp 35))], none⟩,
    ⟨(some 37), .callF 7 [(.tmp 36), (.const (.int .i64 100))], none⟩,
    ⟨(some 38), .not (.tmp 37), none⟩]
def k6_2 : VC := .reg [⟨(some 39), .callF 13 [], none⟩,
    ⟨(some 12), .mv (.tmp 39), none⟩]
def k6_3 : VC := .seq k6_2 .ret
def k6_4 : VC := .cond (.tmp 38) k6_3 .skip
def k6_5 : VC := .seq k6_1 k6_4
def k6_6 : VC := .regD [⟨(some 41), .loadN [(.int .i64), .bool, (.int .u64), (.int .u64), .bool, (.int .u64), (.int .u64), (.int .i64), (.int .i64)] (.tmp 6), none⟩,
    ⟨(some 42), .mv (.tmp 1), none⟩,
    ⟨(some 43), .conv .i64 (.tmp 42), none⟩,
    ⟨(some 44), .mv (.tmp 2), none⟩,
    ⟨(some 45), .mv (.tmp 3), none⟩,
    ⟨(some 46), .callF 15 [(.tmp 44), (.tmp 45)], none⟩,
    ⟨(some 47), .mv (.tmp 4), none⟩,
    ⟨(some 48), .callF 14 [(.tmp 41), (.tmp 43), (.tmp 46), (.tmp 47)], none⟩,
    ⟨(some 40), .mv (.tmp 48), none⟩,
    ⟨(some 49), .extract 0 (.tmp 40), none⟩,
    ⟨(some 50), .extract 1 (.tmp 40), none⟩,
    ⟨(some 13), .mv (.tmp 49), none⟩] [(0, 5)] [⟨(some 14), .mv (.tmp 50), none⟩]
def k6_7 : VC := .reg [⟨(some 51), .mv (.tmp 14), none⟩,
    ⟨(some 52), .bin .eql (.tmp 51) (.const (.int .i64 0)), none⟩]
def k6_8 : VC := .reg [⟨(some 54), .mv (.tmp 13), none⟩,
    ⟨(some 55), .callF 16 [(.tmp 54)], none⟩,
    ⟨(some 53), .mv (.tmp 55), none⟩,
    ⟨(some 56), .extract 0 (.tmp 53), none⟩,
    ⟨(some 57), .extract 1 (.tmp 53), none⟩,
    ⟨(some 15), .alloc [(.int .i64 0), (.bool false), (.int .u64 0), (.int .u64 0), (.bool false), (.int .u64 0), (.int .u64 0), (.int .i64 0), (.int .i64 0), (.int .i64 0), (.bool false), (.int .u32 0), (.int .u32 0), (.bool false), (.string ⟨⟨[]⟩⟩), (.int .i64 0)], none⟩,
    ⟨none, .store 16 (.tmp 15) (.tmp 56), none⟩,
    ⟨(some 16), .mv (.tmp 57), none⟩]
def k6_9 : VC := .reg [⟨(some 59), .mv (.tmp 13), none⟩,
    ⟨(some 60), .callF 18 [(.tmp 59)], none⟩,
    ⟨(some 58), .mv (.tmp 60), none⟩,
    ⟨(some 61), .extract 0 (.tmp 58), none⟩,
    ⟨(some 62), .extract 1 (.tmp 58), none⟩,
    ⟨(some 63), .extract 2 (.tmp 58), none⟩,
    ⟨(some 17), .mv (.tmp 61), none⟩,
    ⟨(some 18), .mv (.tmp 62), none⟩,
    ⟨(some 19), .mv (.tmp 63), none⟩]
def k6_10 : VC := .reg [⟨(some 64), .mv (.tmp 16), none⟩,
    ⟨(some 65), .bin .neq (.tmp 64) (.const (.int .i64 0)), none⟩,
    ⟨(some 66), .mv (.tmp 65), none⟩,
    ⟨(some 67), .loadN [(.int .i64), .bool, (.int .u64), (.int .u64), .bool, (.int .u64), (.int .u64), (.int .i64), (.int .i64), (.int .i64), .bool, (.int .u32), (.int .u32), .bool, .str, (.int .i64)] (.tmp 15), (some (66, false))⟩,
    ⟨(some 68), .loadN [(.int .i64), .bool, (.int .u64), (.int .u64), .bool, (.int .u64), (.int .u64), (.int .i64), (.int .i64)] (.tmp 6), (some (66, false))⟩,
    ⟨(some 69), .mv (.tmp 1), (some (66, false))⟩,
    ⟨(some 70), .conv .i64 (.tmp 69), (some (66, false))⟩,
    ⟨(some 71), .mv (.tmp 2), (some (66, false))⟩,
    ⟨(some 72), .mv (.tmp 3), (some (66, false))⟩,
    ⟨(some 73), .mv (.tmp 13), (some (66, false))⟩,
    ⟨(some 74), .lenS (.tmp 73), (some (66, false))⟩,
    ⟨(some 75), .build [(.int .i64 0), (.bool false), (.int .u64 0), (.int .u64 0), (.bool false), (.int .u64 0), (.int .u64 0), (.int .i64 0), (.int .i64 0), (.int .i64 0), (.bool false), (.int .u32 0), (.int .u32 0), (.bool false), (.string ⟨⟨[]⟩⟩), (.int .i64 0)] [(0, 9, (.tmp 68)), (9, 1, (.tmp 70)), (10, 1, (.const (.bool true))), (11, 1, (.tmp 71)), (12, 1, (.tmp 72)), (15, 1, (.tmp 74))], (some (66, false))⟩,
    ⟨(some 76), .eqAgg true [(0, (.int .i64)), (1, .bool), (2, (.int .u64)), (3, (.int .u64)), (4, .bool), (5, (.int .u64)), (6, (.int .u64)), (7, (.int .i64)), (8, (.int .i64)), (9, (.int .i64)), (10, .bool), (11, (.int .u32)), (12, (.int .u32)), (13, .bool), (14, .str), (15, (.int .i64))] (.tmp 67) (.tmp 75), (some (66, false))⟩,
    ⟨(some 77), .pick (.tmp 66) (.const (.bool true)) (.tmp 76), none⟩,
    ⟨(some 78), .mv (.tmp 77), none⟩,
    ⟨(some 79), .mv (.tmp 19), (some (78, false))⟩,
    ⟨(some 80), .bin .neq (.tmp 79) (.const (.int .i64 0)), (some (78, false))⟩,
    ⟨(some 81), .pick (.tmp 78) (.const (.bool true)) (.tmp 80), none⟩,
    ⟨(some 82), .mv (.tmp 81), none⟩,
    ⟨(some 83), .mv (.tmp 18), (some (82, false))⟩,
    ⟨(some 84), .mv (.tmp 17), (some (82, false))⟩,
    ⟨(some 85), .bin .add (.tmp 84) (.const (.int .i64 32)), (some (82, false))⟩,
    ⟨(some 86), .bin .neq (.tmp 83) (.tmp 85), (some (82, false))⟩,
    ⟨(some 87), .pick (.tmp 82) (.const (.bool true)) (.tmp 86), none⟩,
    ⟨(some 88), .mv (.tmp 87), none⟩,
    ⟨(some 89), .mv (.tmp 18), (some (88, false))⟩,
    ⟨(some 90), .mv (.tmp 13), (some (88, false))⟩,
    ⟨(some 91), .lenS (.tmp 90), (some (88, false))⟩,
    ⟨(some 92), .bin .gtr (.tmp 89) (.tmp 91), (some (88, false))⟩,
    ⟨(some 93), .pick (.tmp 88) (.const (.bool true)) (.tmp 92), none⟩,
    ⟨(some 94), .mv (.tmp 93), none⟩,
    ⟨(some 95), .mv (.tmp 13), (some (94, false))⟩,
    ⟨(some 96), .mv (.tmp 18), (some (94, false))⟩,
    ⟨(some 97), .sliceS (.tmp 95) (some (.tmp 96)) none, (some (94, false))⟩,
    ⟨(some 98), .mv (.tmp 4), (some (94, false))⟩,
    ⟨(some 99), .bin .neq (.tmp 97) (.tmp 98), (some (94, false))⟩,
    ⟨(some 100), .pick (.tmp 94) (.const (.bool true)) (.tmp 99), none⟩]
def k6_11 : VC := .reg [⟨(some 12), .mv (.const (.bool false)), none⟩]
def k6_12 : VC := .seq k6_11 .ret
def k6_13 : VC := .cond (.tmp 100) k6_12 .skip
def k6_14 : VC := .seq k6_10 k6_13
def k6_15 : VC := .seq k6_9 k6_14
def k6_16 : VC := .seq k6_8 k6_15
def k6_17 : VC := .cond (.tmp 52) k6_16 .skip
def k6_18 : VC := .seq k6_7 k6_17
def k6_19 : VC := .seq k6_6 k6_18
def k6_20 : VC := .reg [⟨(some 102), .loadN [.bool, (.int .i64), (.int .u32), .str, .str, .str] (.tmp 11), none⟩,
    ⟨(some 103), .callF 19 [(.tmp 102)], none⟩,
    ⟨(some 101), .mv (.tmp 103), none⟩,
    ⟨(some 104), .extract 0 (.tmp 101), none⟩,
    ⟨(some 105), .extract 1 (.tmp 101), none⟩,
    ⟨(some 20), .mv (.tmp 104), none⟩,
    ⟨(some 21), .mv (.tmp 105), none⟩]
def k6_21 : VC := .reg [⟨(some 106), .mv (.tmp 21), none⟩,
    ⟨(some 107), .bin .neq (.tmp 106) (.const (.int .i64 0)), none⟩]
def k6_22 : VC := .reg [⟨(some 108), .mv (.tmp 4), none⟩,
    ⟨(some 20), .mv (.tmp 108), none⟩]
def k6_23 : VC := .cond (.tmp 107) k6_22 .skip
def k6_24 : VC := .seq k6_21 k6_23
def k6_25 : VC := .reg [⟨(some 110), .loadN [(.int .i64), .bool, (.int .u64), (.int .u64), .bool, (.int .u64), (.int .u64), (.int .i64), (.int .i64)] (.tmp 6), none⟩,
    ⟨(some 111), .mv (.tmp 20), none⟩,
    ⟨(some 112), .callF 17 [(.tmp 110), (.tmp 111)], none⟩,
    ⟨(some 109), .mv (.tmp 112), none⟩,
    ⟨(some 113), .extract 0 (.tmp 109), none⟩,
    ⟨(some 114), .extract 1 (.tmp 109), none⟩,
    ⟨(some 22), .mv (.tmp 113), none⟩,
    ⟨(some 23), .mv (.tmp 114), none⟩]
def k6_26 : VC := .reg [⟨(some 115), .mv (.tmp 23), none⟩,
    ⟨(some 116), .bin .neq (.tmp 115) (.const (.int .i64 0)), none⟩]
def k6_27 : VC := .reg [⟨(some 117), .mv (.tmp 22), none⟩,
    ⟨(some 118), .bin .eql (.tmp 117) (.const (.string ⟨⟨[]⟩⟩)), none⟩,
    ⟨(some 119), .mv (.tmp 118), none⟩,
    ⟨(some 120), .callF 13 [], (some (119, true))⟩,
    ⟨(some 121), .pick (.tmp 119) (.tmp 120) (.const (.bool false)), none⟩,
    ⟨(some 12), .mv (.tmp 121), none⟩]
def k6_28 : VC := .seq k6_27 .ret
def k6_29 : VC := .cond (.tmp 116) k6_28 .skip
def k6_30 : VC := .seq k6_26 k6_29
def k6_31 : VC := .reg [⟨(some 123), .mv (.tmp 22), none⟩,
    ⟨(some 124), .callF 16 [(.tmp 123)], none⟩,
    ⟨(some 122), .mv (.tmp 124), none⟩,
    ⟨(some 125), .extract 0 (.tmp 122), none⟩,
    ⟨(some 126), .extract 1 (.tmp 122), none⟩,
    ⟨(some 24), .alloc [(.int .i64 0), (.bool false), (.int .u64 0), (.int .u64 0), (.bool false), (.int .u64 0), (.int .u64 0), (.int .i64 0), (.int .i64 0), (.int .i64 0), (.bool false), (.int .u32 0), (.int .u32 0), (.bool false), (.string ⟨⟨[]⟩⟩), (.int .i64 0)], none⟩,
    ⟨none, .store 16 (.tmp 24) (.tmp 125), none⟩,
    ⟨(some 25), .mv (.tmp 126), none⟩]
def k6_32 : VC := .reg [⟨(some 128), .mv (.tmp 22), none⟩,
    ⟨(some 129), .callF 18 [(.tmp 128)], none⟩,
    ⟨(some 127), .mv (.tmp 129), none⟩,
    ⟨(some 130), .extract 0 (.tmp 127), none⟩,
    ⟨(some 131), .extract 1 (.tmp 127), none⟩,
    ⟨(some 132), .extract 2 (.tmp 127), none⟩,
    ⟨(some 26), .mv (.tmp 130), none⟩,
    ⟨(some 27), .mv (.tmp 131), none⟩,
    ⟨(some 28), .mv (.tmp 132), none⟩]
def k6_33 : VC := .reg [⟨(some 133), .mv (.tmp 25), none⟩,
    ⟨(some 134), .bin .neq (.tmp 133) (.const (.int .i64 0)), none⟩,
    ⟨(some 135), .mv (.tmp 134), none⟩,
    ⟨(some 136), .mv (.tmp 28), (some (135, false))⟩,
    ⟨(some 137), .bin .neq (.tmp 136) (.const (.int .i64 0)), (some (135, false))⟩,
    ⟨(some 138), .pick (.tmp 135) (.const (.bool true)) (.tmp 137), none⟩,
    ⟨(some 139), .mv (.tmp 138), none⟩,
    ⟨(some 140), .mv (.tmp 27), (some (139, false))⟩,
    ⟨(some 141), .mv (.tmp 26), (some (139, false))⟩,
    ⟨(some 142), .bin .add (.tmp 141) (.const (.int .i64 8)), (some (139, false))⟩,
    ⟨(some 143), .bin .neq (.tmp 140) (.tmp 142), (some (139, false))⟩,
    ⟨(some 144), .pick (.tmp 139) (.const (.bool true)) (.tmp 143), none⟩,
    ⟨(some 145), .mv (.tmp 144), none⟩,
    ⟨(some 146), .mv (.tmp 27), (some (145, false))⟩,
    ⟨(some 147), .mv (.tmp 22), (some (145, false))⟩,
    ⟨(some 148), .lenS (.tmp 147), (some (145, false))⟩,
    ⟨(some 149), .bin .gtr (.tmp 146) (.tmp 148), (some (145, false))⟩,
    ⟨(some 150), .pick (.tmp 145) (.const (.bool true)) (.tmp 149), none⟩,
    ⟨(some 151), .mv (.tmp 150), none⟩,
    ⟨(some 152), .mv (.tmp 22), (some (151, false))⟩,
    ⟨(some 153), .mv (.tmp 27), (some (151, false))⟩,
    ⟨(some 154), .sliceS (.tmp 152) (some (.tmp 153)) none, (some (151, false))⟩,
    ⟨(some 155), .mv (.tmp 20), (some (151, false))⟩,
    ⟨(some 156), .bin .neq (.tmp 154) (.tmp 155), (some (151, false))⟩,
    ⟨(some 157), .pick (.tmp 151) (.const (.bool true)) (.tmp 156), none⟩,
    ⟨(some 158), .mv (.tmp 157), none⟩,
    ⟨(some 159), .fieldA 0 (.tmp 24), (some (158, false))⟩,
    ⟨(some 160), .loadN [(.int .i64), .bool, (.int .u64), (.int .u64), .bool, (.int .u64), (.int .u64), (.int .i64), (.int .i64)] (.tmp 159), (some (158, false))⟩,
    ⟨(some 161), .loadN [(.int .i64), .bool, (.int .u64), (.int .u64), .bool, (.int .u64), (.int .u64), (.int .i64), (.int .i64)] (.tmp 6), (some (158, false))⟩,
    ⟨(some 162), .eqAgg true [(0, (.int .i64)), (1, .bool), (2, (.int .u64)), (3, (.int .u64)), (4, .bool), (5, (.int .u64)), (6, (.int .u64)), (7, (.int .i64)), (8, (.int .i64))] (.tmp 160) (.tmp 161), (some (158, false))⟩,
    ⟨(some 163), .pick (.tmp 158) (.const (.bool true)) (.tmp 162), none⟩,
    ⟨(some 164), .mv (.tmp 163), none⟩,
    ⟨(some 165), .fieldA 15 (.tmp 24), (some (164, false))⟩,
    ⟨(some 166), .load1 (.int .i64) (.tmp 165), (some (164, false))⟩,
    ⟨(some 167), .mv (.tmp 22), (some (164, false))⟩,
    ⟨(some 168), .lenS (.tmp 167), (some (164, false))⟩,
    ⟨(some 169), .bin .neq (.tmp 166) (.tmp 168), (some (164, false))⟩,
    ⟨(some 170), .pick (.tmp 164) (.const (.bool true)) (.tmp 169), none⟩,
    ⟨(some 171), .mv (.tmp 170), none⟩,
    ⟨(some 172), .fieldA 10 (.tmp 24), (some (171, false))⟩,
    ⟨(some 173), .load1 .bool (.tmp 172), (some (171, false))⟩,
    ⟨(some 174), .pick (.tmp 171) (.const (.bool true)) (.tmp 173), none⟩,
    ⟨(some 175), .mv (.tmp 174), none⟩,
    ⟨(some 176), .fieldA 9 (.tmp 24), (some (175, false))⟩,
    ⟨(some 177), .load1 (.int .i64) (.tmp 176), (some (175, false))⟩,
    ⟨(some 178), .bin .neq (.tmp 177) (.const (.int .i64 0)), (some (175, false))⟩,
    ⟨(some 179), .pick (.tmp 175) (.const (.bool true)) (.tmp 178), none⟩]
def k6_34 : VC := .reg [⟨(some 12), .mv (.const (.bool false)), none⟩]
def k6_35 : VC := .seq k6_34 .ret
def k6_36 : VC := .cond (.tmp 179) k6_35 .skip
def k6_37 : VC := .seq k6_33 k6_36
def k6_38 : VC := .reg [⟨(some 180), .mv (.tmp 21), none⟩,
    ⟨(some 181), .bin .neq (.tmp 180) (.const (.int .i64 0)), none⟩,
    ⟨(some 182), .mv (.tmp 181), none⟩,
    ⟨(some 183), .fieldA 13 (.tmp 24), (some (182, false))⟩,
    ⟨(some 184), .load1 .bool (.tmp 183), (some (182, false))⟩,
    ⟨(some 185), .fieldA 0 (.tmp 11), (some (182, false))⟩,
    ⟨(some 186), .load1 .bool (.tmp 185), (some (182, false))⟩,
    ⟨(some 187), .eqB false (.tmp 184) (.tmp 186), (some (182, false))⟩,
    ⟨(some 188), .mv (.tmp 187), (some (182, false))⟩,
    ⟨(some 189), .fieldA 14 (.tmp 24), (some (188, true))⟩,
    ⟨(some 190), .load1 .str (.tmp 189), (some (188, true))⟩,
    ⟨(some 191), .fieldA 3 (.tmp 11), (some (188, true))⟩,
    ⟨(some 192), .load1 .str (.tmp 191), (some (188, true))⟩,
    ⟨(some 193), .bin .eql (.tmp 190) (.tmp 192), (some (188, true))⟩,
    ⟨(some 194), .pick (.tmp 188) (.tmp 193) (.const (.bool false)), (some (182, false))⟩,
    ⟨(some 195), .pick (.tmp 182) (.const (.bool true)) (.tmp 194), none⟩,
    ⟨(some 196), .mv (.tmp 195), none⟩,
    ⟨(some 197), .callF 13 [], (some (196, true))⟩,
    ⟨(some 198), .pick (.tmp 196) (.tmp 197) (.const (.bool false)), none⟩,
    ⟨(some 12), .mv (.tmp 198), none⟩]
def k6_39 : VC := .seq k6_38 .ret
def k6_40 : VC := .seq k6_37 k6_39
def k6_41 : VC := .seq k6_32 k6_40
def k6_42 : VC := .seq k6_31 k6_41
def k6_43 : VC := .seq k6_30 k6_42
def k6_44 : VC := .seq k6_25 k6_43
def k6_45 : VC := .seq k6_24 k6_44
def k6_46 : VC := .seq k6_20 k6_45
def k6_47 : VC := .seq k6_19 k6_46
def k6_48 : VC := .seq k6_5 k6_47
def k6_49 : VC := .seq k6_0 k6_48
def fn6 : VFn := ⟨199, k6_49, [.tmp 12]⟩
def k7_0 : VC := .reg [⟨(some 4), .mv (.const (.bool false)), none⟩]
def k7_1 : VC := .reg [⟨(some 5), .mv (.const (.int .i64 0)), none⟩]
def k7_2 : VC := .reg [⟨(some 6), .mv (.tmp 5), none⟩,
    ⟨(some 7), .mv (.tmp 0), none⟩,
    ⟨(some 8), .lenL (.tmp 7), none⟩,
    ⟨(some 9), .bin .lss (.tmp 6) (.tmp 8), none⟩]
def k7_3 : VC := .cond (.tmp 9) .skip (.exit 0)
def k7_4 : VC := .seq k7_2 k7_3
def k7_5 : VC := .reg [⟨(some 12), .mv (.tmp 0), none⟩,
    ⟨(some 13), .mv (.tmp 5), none⟩,
    ⟨(some 14), .idxAL 1 (.tmp 12) (.tmp 13), none⟩,
    ⟨(some 15), .load1 .str (.tmp 14), none⟩,
    ⟨(some 16), .lenS (.tmp 15), none⟩,
    ⟨(some 17), .mv (.tmp 1), none⟩,
    ⟨(some 18), .bin .gtr (.tmp 16) (.tmp 17), none⟩]
def k7_6 : VC := .reg [⟨(some 4), .mv (.const (.bool false)), none⟩]
def k7_7 : VC := .seq k7_6 .ret
def k7_8 : VC := .cond (.tmp 18) k7_7 .skip
def k7_9 : VC := .seq k7_5 k7_8
def k7_10 : VC := .block 1 k7_9
def k7_11 : VC := .reg [⟨(some 10), .mv (.tmp 5), none⟩,
    ⟨(some 11), .bin .add (.tmp 10) (.const (.int .i64 1)), none⟩,
    ⟨(some 5), .mv (.tmp 11), none⟩]
def k7_12 : VC := .seq k7_10 k7_11
def k7_13 : VC := .seq k7_4 k7_12
def k7_14 : VC := .loop k7_13
def k7_15 : VC := .block 0 k7_14
def k7_16 : VC := .seq k7_1 k7_15
def k7_17 : VC := .reg [⟨(some 4), .mv (.const (.bool true)), none⟩]
def k7_18 : VC := .seq k7_17 .ret
def k7_19 : VC := .seq k7_16 k7_18
def k7_20 : VC := .seq k7_0 k7_19
def fn7 : VFn := ⟨19, k7_20, [.tmp 4]⟩
def k13_0 : VC := .reg [⟨(some 0), .mv (.const (.bool false)), none⟩]
def k13_1 : VC := .reg [⟨(some 9), .callF 16 [(.const (.string ⟨⟨[]⟩⟩))], none⟩,
    ⟨(some 8), .mv (.tmp 9), none⟩,
    ⟨(some 10), .extract 0 (.tmp 8), none⟩,
    ⟨(some 11), .extract 1 (.tmp 8), none⟩,
    ⟨(some 1), .alloc [(.int .i64 0), (.bool false), (.int .u64 0), (.int .u64 0), (.bool false), (.int .u64 0), (.int .u64 0), (.int .i64 0), (.int .i64 0), (.int .i64 0), (.bool false), (.int .u32 0), (.int .u32 0), (.bool false), (.string ⟨⟨[]⟩⟩), (.int .i64 0)], none⟩,
    ⟨none, .store 16 (.tmp 1) (.tmp 10), none⟩,
    ⟨(some 2), .mv (.tmp 11), none⟩]
def k13_2 : VC := .reg [⟨(some 12), .build [(.bool false), (.int .u64 0), (.int .u64 0)] [(2, 1, (.const (.int .u64 1)))], none⟩,
    ⟨(some 13), .build [(.bool false), (.int .u64 0), (.int .u64 0)] [(2, 1, (.const (.int .u64 2)))], none⟩,
    ⟨(some 14), .build [(.int .i64 0), (.bool false), (.int .u64 0), (.int .u64 0), (.bool false), (.int .u64 0), (.int .u64 0), (.int .i64 0), (.int .i64 0)] [(0, 1, (.const (.int .i64 6))), (1, 3, (.tmp 12)), (4, 3, (.tmp 13)), (7, 1, (.const (.int .i64 3))), (8, 1, (.const (.int .i64 4)))], none⟩,
    ⟨(some 3), .alloc [(.int .i64 0), (.bool false), (.int .u64 0), (.int .u64 0), (.bool false), (.int .u64 0), (.int .u64 0), (.int .i64 0), (.int .i64 0)], none⟩,
    ⟨none, .store 9 (.tmp 3) (.tmp 14), none⟩]
def k13_3 : VC := .reg [⟨(some 16), .loadN [(.int .i64), .bool, (.int .u64), (.int .u64), .bool, (.int .u64), (.int .u64), (.int .i64), (.int .i64)] (.tmp 3), none⟩,
    ⟨(some 17), .callF 14 [(.tmp 16), (.const (.int .i64 2)), (.const (.string ⟨⟨[]⟩⟩)), (.const (.string ⟨⟨[104, 105]⟩⟩))], none⟩,
    ⟨(some 15), .mv (.tmp 17), none⟩,
    ⟨(some 18), .extract 0 (.tmp 15), none⟩,
    ⟨(some 19), .extract 1 (.tmp 15), none⟩,
    ⟨(some 4), .mv (.tmp 18), none⟩,
    ⟨(some 5), .mv (.tmp 19), none⟩]
def k13_4 : VC := .reg [⟨(some 21), .mv (.tmp 4), none⟩,
    ⟨(some 22), .callF 16 [(.tmp 21)], none⟩,
    ⟨(some 20), .mv (.tmp 22), none⟩,
    ⟨(some 23), .extract 0 (.tmp 20), none⟩,
    ⟨(some 24), .extract 1 (.tmp 20), none⟩,
    ⟨(some 6), .alloc [(.int .i64 0), (.bool false), (.int .u64 0), (.int .u64 0), (.bool false), (.int .u64 0), (.int .u64 0), (.int .i64 0), (.int .i64 0), (.int .i64 0), (.bool false), (.int .u32 0), (.int .u32 0), (.bool false), (.string ⟨⟨[]⟩⟩), (.int .i64 0)], none⟩,
    ⟨none, .store 16 (.tmp 6) (.tmp 23), none⟩,
    ⟨(some 7), .mv (.tmp 24), none⟩]
def k13_5 : VC := .reg [⟨(some 25), .mv (.tmp 2), none⟩,
    ⟨(some 26), .bin .eql (.tmp 25) (.const (.int .i64 2)), none⟩,
    ⟨(some 27), .mv (.tmp 26), none⟩,
    ⟨(some 28), .mv (.tmp 5), (some (27, true))⟩,
    ⟨(some 29), .bin .eql (.tmp 28) (.const (.int .i64 0)), (some (27, true))⟩,
    ⟨(some 30), .pick (.tmp 27) (.tmp 29) (.const (.bool false)), none⟩,
    ⟨(some 31), .mv (.tmp 30), none⟩,
    ⟨(some 32), .mv (.tmp 4), (some (31, true))⟩,
    ⟨(some 33), .lenS (.tmp 32), (some (31, true))⟩,
    ⟨(some 34), .bin .eql (.tmp 33) (.const (.int .i64 42)), (some (31, true))⟩,
    ⟨(some 35), .pick (.tmp 31) (.tmp 34) (.const (.bool false)), none⟩,
    ⟨(some 36), .mv (.tmp 35), none⟩,
    ⟨(some 37), .mv (.tmp 7), (some (36, true))⟩,
    ⟨(some 38), .bin .eql (.tmp 37) (.const (.int .i64 0)), (some (36, true))⟩,
    ⟨(some 39), .pick (.tmp 36) (.tmp 38) (.const (.bool false)), none⟩,
    ⟨(some 40), .mv (.tmp 39), none⟩,
    ⟨(some 41), .fieldA 0 (.tmp 6), (some (40, true))⟩,
    ⟨(some 42), .loadN [(.int .i64), .bool, (.int .u64), (.int .u64), .bool, (.int .u64), (.int .u64), (.int .i64), (.int .i64)] (.tmp 41), (some (40, true))⟩,
    ⟨(some 43), .loadN [(.int .i64), .bool, (.int .u64), (.int .u64), .bool, (.int .u64), (.int .u64), (.int .i64), (.int .i64)] (.tmp 3), (some (40, true))⟩,
    ⟨(some 44), .eqAgg false [(0, (.int .i64)), (1, .bool), (2, (.int .u64)), (3, (.int .u64)), (4, .bool), (5, (.int .u64)), (6, (.int .u64)), (7, (.int .i64)), (8, (.int .i64))] (.tmp 42) (.tmp 43), (some (40, true))⟩,
    ⟨(some 45), .pick (.tmp 40) (.tmp 44) (.const (.bool false)), none⟩,
    ⟨(some 46), .mv (.tmp 45), none⟩,
    ⟨(some 47), .fieldA 9 (.tmp 6), (some (46, true))⟩,
    ⟨(some 48), .load1 (.int .i64) (.tmp 47), (some (46, true))⟩,
    ⟨(some 49), .bin .eql (.tmp 48) (.const (.int .i64 2)), (some (46, true))⟩,
    ⟨(some 50), .pick (.tmp 46) (.tmp 49) (.const (.bool false)), none⟩,
    ⟨(some 0), .mv (.tmp 50), none⟩]
def k13_6 : VC := .seq k13_5 .ret
def k13_7 : VC := .seq k13_4 k13_6
def k13_8 : VC := .seq k13_3 k13_7
def k13_9 : VC := .seq k13_2 k13_8
def k13_10 : VC := .seq k13_1 k13_9
def k13_11 : VC := .seq k13_0 k13_10
def fn13 : VFn := ⟨51, k13_11, [.tmp 0]⟩
def k16_0 : VC := .reg [⟨(some 2), .alloc [(.int .i64 0), (.bool false), (.int .u64 0), (.int .u64 0), (.bool false), (.int .u64 0), (.int .u64 0), (.int .i64 0), (.int .i64 0), (.int .i64 0), (.bool false), (.int .u32 0), (.int .u32 0), (.bool false), (.string ⟨⟨[]⟩⟩), (.int .i64 0)], none⟩,
    ⟨(some 3), .mv (.const (.int .i64 0)), none⟩]
def k16_1 : VC := .reg [⟨(some 9), .mv (.tmp 0), none⟩,
    ⟨(some 10), .callF 34 [(.tmp 9)], none⟩,
    ⟨(some 8), .mv (.tmp 10), none⟩,
    ⟨(some 11), .extract 0 (.tmp 8), none⟩,
    ⟨(some 12), .extract 1 (.tmp 8), none⟩,
    ⟨(some 13), .extract 2 (.tmp 8), none⟩,
    ⟨(some 14), .extract 3 (.tmp 8), none⟩,
    ⟨(some 4), .alloc [(.int .i64 0), (.bool false), (.int .u64 0), (.int .u64 0), (.bool false), (.int .u64 0), (.int .u64 0), (.int .i64 0), (.int .i64 0), (.int .i64 0), (.bool false), (.int .u32 0), (.int .u32 0), (.bool false), (.string ⟨⟨[]⟩⟩), (.int .i64 0)], none⟩,
    ⟨none, .store 16 (.tmp 4) (.tmp 11), none⟩,
    ⟨(some 5), .mv (.tmp 12), none⟩,
    ⟨(some 6), .mv (.tmp 13), none⟩,
    ⟨(some 7), .mv (.tmp 14), none⟩]
def k16_2 : VC := .reg [⟨(some 15), .loadN [(.int .i64), .bool, (.int .u64), (.int .u64), .bool, (.int .u64), (.int .u64), (.int .i64), (.int .i64), (.int .i64), .bool, (.int .u32), (.int .u32), .bool, .str, (.int .i64)] (.tmp 4), none⟩,
    ⟨(some 16), .mv (.tmp 7), none⟩,
    ⟨none, .store 16 (.tmp 2) (.tmp 15), none⟩,
    ⟨(some 3), .mv (.tmp 16), none⟩]
def k16_3 : VC := .seq k16_2 .ret
def k16_4 : VC := .seq k16_1 k16_3
def k16_5 : VC := .seq k16_0 k16_4
def fn16 : VFn := ⟨17, k16_5, [.cell 2 [(.int .i64), .bool, (.int .u64), (.int .u64), .bool, (.int .u64), (.int .u64), (.int .i64), (.int .i64), (.int .i64), .bool, (.int .u32), (.int .u32), .bool, .str, (.int .i64)] true, .tmp 3]⟩
def k34_0 : VC := .reg [⟨(some 2), .alloc [(.int .i64 0), (.bool false), (.int .u64 0), (.int .u64 0), (.bool false), (.int .u64 0), (.int .u64 0), (.int .i64 0), (.int .i64 0), (.int .i64 0), (.bool false), (.int .u32 0), (.int .u32 0), (.bool false), (.string ⟨⟨[]⟩⟩), (.int .i64 0)], none⟩,
    ⟨(some 3), .mv (.const (.int .i64 0)), none⟩,
    ⟨(some 4), .mv (.const (.int .i64 0)), none⟩,
    ⟨(some 5), .mv (.const (.int .i64 0)), none⟩]
def k34_1 : VC := .reg [⟨(some 11), .mv (.tmp 0), none⟩,
    ⟨(some 12), .lenS (.tmp 11), none⟩,
    ⟨(some 13), .bin .gtr (.tmp 12) (.const (.int .i64 9000)), none⟩,
    ⟨(some 10), .mv (.tmp 13), none⟩]
def k34_2 : VC := .reg [⟨(some 14), .build [(.int .i64 0), (.bool false), (.int .u64 0), (.int .u64 0), (.bool false), (.int .u64 0), (.int .u64 0), (.int .i64 0), (.int .i64 0), (.int .i64 0), (.bool false), (.int .u32 0), (.int .u32 0), (.bool false), (.string ⟨⟨[]⟩⟩), (.int .i64 0)] [], none⟩,
    ⟨none, .store 16 (.tmp 2) (.tmp 14), none⟩,
    ⟨(some 3), .mv (.const (.int .i64 0)), none⟩,
    ⟨(some 4), .mv (.const (.int .i64 0)), none⟩,
    ⟨(some 5), .mv (.const (.int .i64 5)), none⟩]
def k34_3 : VC := .seq k34_2 .ret
def k34_4 : VC := .reg [⟨(some 16), .mv (.tmp 0), none⟩,
    ⟨(some 17), .bin .eql (.tmp 16) (.const (.string ⟨⟨[]⟩⟩)), none⟩,
    ⟨(some 15), .mv (.tmp 17), none⟩]
def k34_5 : VC := .reg [⟨(some 18), .build [(.int .i64 0), (.bool false), (.int .u64 0), (.int .u64 0), (.bool false), (.int .u64 0), (.int .u64 0), (.int .i64 0), (.int .i64 0), (.int .i64 0), (.bool false), (.int .u32 0), (.int .u32 0), (.bool false), (.string ⟨⟨[]⟩⟩), (.int .i64 0)] [], none⟩,
    ⟨none, .store 16 (.tmp 2) (.tmp 18), none⟩,
    ⟨(some 3), .mv (.const (.int .i64 0)), none⟩,
    ⟨(some 4), .mv (.const (.int .i64 0)), none⟩,
    ⟨(some 5), .mv (.const (.int .i64 2)), none⟩]
def k34_6 : VC := .seq k34_5 .ret
def k34_7 : VC := .cond (.tmp 15) k34_6 .skip
def k34_8 : VC := .seq k34_4 k34_7
def k34_9 : VC := .cond (.tmp 10) k34_3 k34_8
def k34_10 : VC := .seq k34_1 k34_9
def k34_11 : VC := .block 0 k34_10
def k34_12 : VC := .reg [⟨(some 20), .mv (.tmp 0), none⟩,
    ⟨(some 21), .callF 53 [(.tmp 20)], none⟩,
    ⟨(some 19), .mv (.tmp 21), none⟩,
    ⟨(some 22), .extract 0 (.tmp 19), none⟩,
    ⟨(some 23), .extract 1 (.tmp 19), none⟩,
    ⟨(some 6), .alloc [(.bool false), (.int .u64 0), (.int .u64 0), (.bool false), (.int .u64 0), (.int .u64 0), (.int .i64 0), (.string ⟨⟨[]⟩⟩)], none⟩,
    ⟨none, .store 8 (.tmp 6) (.tmp 22), none⟩,
    ⟨(some 7), .mv (.tmp 23), none⟩]
def k34_13 : VC := .reg [⟨(some 24), .mv (.tmp 7), none⟩,
    ⟨(some 25), .bin .neq (.tmp 24) (.const (.int .i64 0)), none⟩]
def k34_14 : VC := .reg [⟨(some 26), .build [(.int .i64 0), (.bool false), (.int .u64 0), (.int .u64 0), (.bool false), (.int .u64 0), (.int .u64 0), (.int .i64 0), (.int .i64 0), (.int .i64 0), (.bool false), (.int .u32 0), (.int .u32 0), (.bool false), (.string ⟨⟨[]⟩⟩), (.int .i64 0)] [], none⟩,
    ⟨(some 27), .mv (.tmp 7), none⟩,
    ⟨none, .store 16 (.tmp 2) (.tmp 26), none⟩,
    ⟨(some 3), .mv (.const (.int .i64 0)), none⟩,
    ⟨(some 4), .mv (.const (.int .i64 0)), none⟩,
    ⟨(some 5), .mv (.tmp 27), none⟩]
def k34_15 : VC := .seq k34_14 .ret
def k34_16 : VC := .cond (.tmp 25) k34_15 .skip
def k34_17 : VC := .seq k34_13 k34_16
def k34_18 : VC := .reg [⟨(some 28), .mv (.tmp 0), none⟩,
    ⟨(some 29), .lenS (.tmp 28), none⟩,
    ⟨(some 30), .fieldA 6 (.tmp 6), none⟩,
    ⟨(some 31), .load1 (.int .i64) (.tmp 30), none⟩,
    ⟨(some 32), .fieldA 0 (.tmp 6), none⟩,
    ⟨(some 33), .loadN [.bool, (.int .u64), (.int .u64)] (.tmp 32), none⟩,
    ⟨(some 34), .fieldA 3 (.tmp 6), none⟩,
    ⟨(some 35), .loadN [.bool, (.int .u64), (.int .u64)] (.tmp 34), none⟩,
    ⟨(some 36), .build [(.int .i64 0), (.bool false), (.int .u64 0), (.int .u64 0), (.bool false), (.int .u64 0), (.int .u64 0), (.int .i64 0), (.int .i64 0)] [(0, 1, (.tmp 31)), (1, 3, (.tmp 33)), (4, 3, (.tmp 35))], none⟩,
    ⟨(some 37), .build [(.int .i64 0), (.bool false), (.int .u64 0), (.int .u64 0), (.bool false), (.int .u64 0), (.int .u64 0), (.int .i64 0), (.int .i64 0), (.int .i64 0), (.bool false), (.int .u32 0), (.int .u32 0), (.bool false), (.string ⟨⟨[]⟩⟩), (.int .i64 0)] [(15, 1, (.tmp 29)), (0, 9, (.tmp 36))], none⟩,
    ⟨(some 8), .alloc [(.int .i64 0), (.bool false), (.int .u64 0), (.int .u64 0), (.bool false), (.int .u64 0), (.int .u64 0), (.int .i64 0), (.int .i64 0), (.int .i64 0), (.bool false), (.int .u32 0), (.int .u32 0), (.bool false), (.string ⟨⟨[]⟩⟩), (.int .i64 0)], none⟩,
    ⟨none, .store 16 (.tmp 8) (.tmp 37), none⟩]
def k34_19 : VC := .reg [⟨(some 9), .mv (.const (.int .i64 0)), none⟩]
def k34_20 : VC := .reg [⟨(some 38), .fieldA 6 (.tmp 6), none⟩,
    ⟨(some 39), .load1 (.int .i64) (.tmp 38), none⟩]
def k34_21 : VC := .reg [⟨(some 41), .bin .eql (.tmp 39) (.const (.int .i64 6)), none⟩,
    ⟨(some 40), .mv (.tmp 41), none⟩]
def k34_22 : VC := .reg [⟨(some 43), .loadN [.bool, (.int .u64), (.int .u64), .bool, (.int .u64), (.int .u64), (.int .i64), .str] (.tmp 6), none⟩,
    ⟨(some 44), .callF 54 [(.tmp 43), (.tmp 8)], none⟩,
    ⟨(some 42), .mv (.tmp 44), none⟩,
    ⟨(some 45), .extract 0 (.tmp 42), none⟩,
    ⟨(some 46), .extract 1 (.tmp 42), none⟩,
    ⟨(some 9), .mv (.tmp 45), none⟩,
    ⟨(some 7), .mv (.tmp 46), none⟩]
def k34_23 : VC := .reg [⟨(some 48), .bin .eql (.tmp 39) (.const (.int .i64 17)), none⟩,
    ⟨(some 47), .mv (.tmp 48), none⟩]
def k34_24 : VC := .reg [⟨(some 50), .loadN [.bool, (.int .u64), (.int .u64), .bool, (.int .u64), (.int .u64), (.int .i64), .str] (.tmp 6), none⟩,
    ⟨(some 51), .callF 55 [(.tmp 50), (.tmp 8)], none⟩,
    ⟨(some 49), .mv (.tmp 51), none⟩,
    ⟨(some 52), .extract 0 (.tmp 49), none⟩,
    ⟨(some 53), .extract 1 (.tmp 49), none⟩,
    ⟨(some 9), .mv (.tmp 52), none⟩,
    ⟨(some 7), .mv (.tmp 53), none⟩]
def k34_25 : VC := .reg [⟨(some 7), .mv (.const (.int .i64 6)), none⟩]
def k34_26 : VC := .cond (.tmp 47) k34_24 k34_25
def k34_27 : VC := .seq k34_23 k34_26
def k34_28 : VC := .cond (.tmp 40) k34_22 k34_27
def k34_29 : VC := .seq k34_21 k34_28
def k34_30 : VC := .block 1 k34_29
def k34_31 : VC := .seq k34_20 k34_30
def k34_32 : VC := .reg [⟨(some 54), .mv (.tmp 7), none⟩,
    ⟨(some 55), .bin .neq (.tmp 54) (.const (.int .i64 0)), none⟩]
def k34_33 : VC := .reg [⟨(some 56), .build [(.int .i64 0), (.bool false), (.int .u64 0), (.int .u64 0), (.bool false), (.int .u64 0), (.int .u64 0), (.int .i64 0), (.int .i64 0), (.int .i64 0), (.bool false), (.int .u32 0), (.int .u32 0), (.bool false), (.string ⟨⟨[]⟩⟩), (.int .i64 0)] [], none⟩,
    ⟨(some 57), .mv (.tmp 7), none⟩,
    ⟨none, .store 16 (.tmp 2) (.tmp 56), none⟩,
    ⟨(some 3), .mv (.const (.int .i64 0)), none⟩,
    ⟨(some 4), .mv (.const (.int .i64 0)), none⟩,
    ⟨(some 5), .mv (.tmp 57), none⟩]
def k34_34 : VC := .seq k34_33 .ret
def k34_35 : VC := .cond (.tmp 55) k34_34 .skip
def k34_36 : VC := .seq k34_32 k34_35
def k34_37 : VC := .regD [⟨(some 58), .loadN [(.int .i64), .bool, (.int .u64), (.int .u64), .bool, (.int .u64), (.int .u64), (.int .i64), (.int .i64), (.int .i64), .bool, (.int .u32), (.int .u32), .bool, .str, (.int .i64)] (.tmp 8), none⟩,
    ⟨(some 59), .fieldA 7 (.tmp 6), none⟩,
    ⟨(some 60), .load1 .str (.tmp 59), none⟩,
    ⟨(some 61), .lenS (.tmp 60), none⟩,
    ⟨(some 62), .mv (.tmp 9), none⟩,
    ⟨none, .store 16 (.tmp 2) (.tmp 58), none⟩,
    ⟨(some 3), .mv (.tmp 61), none⟩] [(2, 5)] [⟨(some 4), .mv (.tmp 62), none⟩,
    ⟨(some 5), .mv (.const (.int .i64 0)), none⟩]
def k34_38 : VC := .seq k34_37 .ret
def k34_39 : VC := .seq k34_36 k34_38
def k34_40 : VC := .seq k34_31 k34_39
def k34_41 : VC := .seq k34_19 k34_40
def k34_42 : VC := .seq k34_18 k34_41
def k34_43 : VC := .seq k34_17 k34_42
def k34_44 : VC := .seq k34_12 k34_43
def k34_45 : VC := .seq k34_11 k34_44
def k34_46 : VC := .seq k34_0 k34_45
def fn34 : VFn := ⟨63, k34_46, [.cell 2 [(.int .i64), .bool, (.int .u64), (.int .u64), .bool, (.int .u64), (.int .u64), (.int .i64), (.int .i64), (.int .i64), .bool, (.int .u32), (.int .u32), .bool, .str, (.int .i64)] true, .tmp 3, .tmp 4, .tmp 5]⟩
def k53_0 : VC := .reg [⟨(some 2), .alloc [(.bool false), (.int .u64 0), (.int .u64 0), (.bool false), (.int .u64 0), (.int .u64 0), (.int .i64 0), (.string ⟨⟨[]⟩⟩)], none⟩,
    ⟨(some 3), .mv (.const (.int .i64 0)), none⟩]
def k53_1 : VC := .reg [⟨(some 10), .mv (.tmp 0), none⟩,
    ⟨(some 11), .callF 80 [(.tmp 10)], none⟩,
    ⟨(some 9), .mv (.tmp 11), none⟩,
    ⟨(some 12), .extract 0 (.tmp 9), none⟩,
    ⟨(some 13), .extract 1 (.tmp 9), none⟩,
    ⟨(some 14), .extract 2 (.tmp 9), none⟩,
    ⟨(some 4), .mv (.tmp 12), none⟩,
    ⟨(some 5), .mv (.tmp 13), none⟩,
    ⟨(some 6), .mv (.tmp 14), none⟩]
def k53_2 : VC := .reg [⟨(some 15), .mv (.tmp 6), none⟩,
    ⟨(some 16), .bin .neq (.tmp 15) (.const (.int .i64 0)), none⟩]
def k53_3 : VC := .reg [⟨(some 17), .build [(.bool false), (.int .u64 0), (.int .u64 0), (.bool false), (.int .u64 0), (.int .u64 0), (.int .i64 0), (.string ⟨⟨[]⟩⟩)] [], none⟩,
    ⟨(some 18), .mv (.tmp 6), none⟩,
    ⟨none, .store 8 (.tmp 2) (.tmp 17), none⟩,
    ⟨(some 3), .mv (.tmp 18), none⟩]
def k53_4 : VC := .seq k53_3 .ret
def k53_5 : VC := .cond (.tmp 16) k53_4 .skip
def k53_6 : VC := .seq k53_2 k53_5
def k53_7 : VC := .reg [⟨(some 19), .mv (.tmp 4), none⟩]
def k53_8 : VC := .reg [⟨(some 20), .tassert 92 (.agg ⟨[(.int .i64 0), (.int .i64 0), (.bool false), (.int .i64 0), (.int .i64 0), (.bool false), (.int .u64 0), (.int .u64 0), (.bool false), (.int .u64 0), (.int .u64 0), (.string ⟨⟨[]⟩⟩)]⟩) (.tmp 19), none⟩,
    ⟨(some 21), .extract 1 (.tmp 20), none⟩,
    ⟨(some 22), .extract 0 (.tmp 20), none⟩]
def k53_9 : VC := .reg [⟨(some 7), .alloc [(.int .i64 0), (.int .i64 0), (.bool false), (.int .i64 0), (.int .i64 0), (.bool false), (.int .u64 0), (.int .u64 0), (.bool false), (.int .u64 0), (.int .u64 0), (.string ⟨⟨[]⟩⟩)], none⟩,
    ⟨none, .store 12 (.tmp 7) (.tmp 22), none⟩]
def k53_10 : VC := .reg [⟨(some 23), .mv (.tmp 0), none⟩,
    ⟨(some 24), .lenS (.tmp 23), none⟩,
    ⟨(some 25), .fieldA 11 (.tmp 7), none⟩,
    ⟨(some 26), .load1 .str (.tmp 25), none⟩,
    ⟨(some 27), .lenS (.tmp 26), none⟩,
    ⟨(some 28), .bin .add (.const (.int .i64 20)) (.tmp 27), none⟩,
    ⟨(some 29), .mv (.tmp 5), none⟩,
    ⟨(some 30), .lenS (.tmp 29), none⟩,
    ⟨(some 31), .bin .add (.tmp 28) (.tmp 30), none⟩,
    ⟨(some 32), .bin .neq (.tmp 24) (.tmp 31), none⟩]
def k53_11 : VC := .reg [⟨(some 33), .build [(.bool false), (.int .u64 0), (.int .u64 0), (.bool false), (.int .u64 0), (.int .u64 0), (.int .i64 0), (.string ⟨⟨[]⟩⟩)] [], none⟩,
    ⟨none, .store 8 (.tmp 2) (.tmp 33), none⟩,
    ⟨(some 3), .mv (.const (.int .i64 5)), none⟩]
def k53_12 : VC := .seq k53_11 .ret
def k53_13 : VC := .cond (.tmp 32) k53_12 .skip
def k53_14 : VC := .seq k53_10 k53_13
def k53_15 : VC := .reg [⟨(some 34), .fieldA 5 (.tmp 7), none⟩,
    ⟨(some 35), .loadN [.bool, (.int .u64), (.int .u64)] (.tmp 34), none⟩,
    ⟨(some 36), .fieldA 8 (.tmp 7), none⟩,
    ⟨(some 37), .loadN [.bool, (.int .u64), (.int .u64)] (.tmp 36), none⟩,
    ⟨(some 38), .fieldA 4 (.tmp 7), none⟩,
    ⟨(some 39), .load1 (.int .i64) (.tmp 38), none⟩,
    ⟨(some 40), .mv (.tmp 5), none⟩,
    ⟨(some 41), .build [(.bool false), (.int .u64 0), (.int .u64 0), (.bool false), (.int .u64 0), (.int .u64 0), (.int .i64 0), (.string ⟨⟨[]⟩⟩)] [(0, 3, (.tmp 35)), (3, 3, (.tmp 37)), (6, 1, (.tmp 39)), (7, 1, (.tmp 40))], none⟩,
    ⟨none, .store 8 (.tmp 2) (.tmp 41), none⟩,
    ⟨(some 3), .mv (.const (.int .i64 0)), none⟩]
def k53_16 : VC := .seq k53_15 .ret
def k53_17 : VC := .seq k53_14 k53_16
def k53_18 : VC := .seq k53_9 k53_17
def k53_19 : VC := .reg [⟨(some 42), .tassert 89 (.agg ⟨[(.int .i64 0), (.int .i64 0), (.int .i64 0), (.int .i64 0), (.bool false), (.int .u64 0), (.int .u64 0), (.bool false), (.int .u64 0), (.int .u64 0)]⟩) (.tmp 19), none⟩,
    ⟨(some 43), .extract 1 (.tmp 42), none⟩,
    ⟨(some 44), .extract 0 (.tmp 42), none⟩]
def k53_20 : VC := .reg [⟨(some 8), .alloc [(.int .i64 0), (.int .i64 0), (.int .i64 0), (.int .i64 0), (.bool false), (.int .u64 0), (.int .u64 0), (.bool false), (.int .u64 0), (.int .u64 0)], none⟩,
    ⟨none, .store 10 (.tmp 8) (.tmp 44), none⟩]
def k53_21 : VC := .reg [⟨(some 45), .mv (.tmp 0), none⟩,
    ⟨(some 46), .lenS (.tmp 45), none⟩,
    ⟨(some 47), .mv (.tmp 5), none⟩,
    ⟨(some 48), .lenS (.tmp 47), none⟩,
    ⟨(some 49), .bin .add (.const (.int .i64 40)) (.tmp 48), none⟩,
    ⟨(some 50), .bin .neq (.tmp 46) (.tmp 49), none⟩]
def k53_22 : VC := .reg [⟨(some 51), .build [(.bool false), (.int .u64 0), (.int .u64 0), (.bool false), (.int .u64 0), (.int .u64 0), (.int .i64 0), (.string ⟨⟨[]⟩⟩)] [], none⟩,
    ⟨none, .store 8 (.tmp 2) (.tmp 51), none⟩,
    ⟨(some 3), .mv (.const (.int .i64 5)), none⟩]
def k53_23 : VC := .seq k53_22 .ret
def k53_24 : VC := .cond (.tmp 50) k53_23 .skip
def k53_25 : VC := .seq k53_21 k53_24
def k53_26 : VC := .reg [⟨(some 52), .fieldA 4 (.tmp 8), none⟩,
    ⟨(some 53), .loadN [.bool, (.int .u64), (.int .u64)] (.tmp 52), none⟩,
    ⟨(some 54), .fieldA 7 (.tmp 8), none⟩,
    ⟨(some 55), .loadN [.bool, (.int .u64), (.int .u64)] (.tmp 54), none⟩,
    ⟨(some 56), .fieldA 2 (.tmp 8), none⟩,
    ⟨(some 57), .load1 (.int .i64) (.tmp 56), none⟩,
    ⟨(some 58), .mv (.tmp 5), none⟩,
    ⟨(some 59), .build [(.bool false), (.int .u64 0), (.int .u64 0), (.bool false), (.int .u64 0), (.int .u64 0), (.int .i64 0), (.string ⟨⟨[]⟩⟩)] [(0, 3, (.tmp 53)), (3, 3, (.tmp 55)), (6, 1, (.tmp 57)), (7, 1, (.tmp 58))], none⟩,
    ⟨none, .store 8 (.tmp 2) (.tmp 59), none⟩,
    ⟨(some 3), .mv (.const (.int .i64 0)), none⟩]
def k53_27 : VC := .seq k53_26 .ret
def k53_28 : VC := .seq k53_25 k53_27
def k53_29 : VC := .seq k53_20 k53_28
def k53_30 : VC := .cond (.tmp 43) k53_29 .skip
def k53_31 : VC := .seq k53_19 k53_30
def k53_32 : VC := .cond (.tmp 21) k53_18 k53_31
def k53_33 : VC := .seq k53_8 k53_32
def k53_34 : VC := .block 0 k53_33
def k53_35 : VC := .seq k53_7 k53_34
def k53_36 : VC := .reg [⟨(some 60), .build [(.bool false), (.int .u64 0), (.int .u64 0), (.bool false), (.int .u64 0), (.int .u64 0), (.int .i64 0), (.string ⟨⟨[]⟩⟩)] [], none⟩,
    ⟨none, .store 8 (.tmp 2) (.tmp 60), none⟩,
    ⟨(some 3), .mv (.const (.int .i64 3)), none⟩]
def k53_37 : VC := .seq k53_36 .ret
def k53_38 : VC := .seq k53_35 k53_37
def k53_39 : VC := .seq k53_6 k53_38
def k53_40 : VC := .seq k53_1 k53_39
def k53_41 : VC := .seq k53_0 k53_40
def fn53 : VFn := ⟨61, k53_41, [.cell 2 [.bool, (.int .u64), (.int .u64), .bool, (.int .u64), (.int .u64), (.int .i64), .str] true, .tmp 3]⟩
def k80_0 : VC := .reg [⟨(some 2), .mv (.const .nilIface), none⟩,
    ⟨(some 3), .mv (.const (.string ⟨⟨[]⟩⟩)), none⟩,
    ⟨(some 4), .mv (.const (.int .i64 0)), none⟩]
def k80_1 : VC := .reg [⟨(some 11), .mv (.tmp 0), none⟩,
    ⟨(some 12), .idxS (.tmp 11) (.const (.int .i64 0)), none⟩,
    ⟨(some 13), .bin .shr (.tmp 12) (.const (.int .u64 4)), none⟩]
def k80_2 : VC := .reg [⟨(some 15), .bin .eql (.tmp 13) (.const (.int .u8 4)), none⟩,
    ⟨(some 14), .mv (.tmp 15), none⟩]
def k80_3 : VC := .reg [⟨(some 17), .mv (.tmp 0), none⟩,
    ⟨(some 18), .callF 99 [(.tmp 17)], none⟩,
    ⟨(some 16), .mv (.tmp 18), none⟩,
    ⟨(some 19), .extract 0 (.tmp 16), none⟩,
    ⟨(some 20), .extract 1 (.tmp 16), none⟩,
    ⟨(some 21), .extract 2 (.tmp 16), none⟩,
    ⟨(some 5), .alloc [(.int .i64 0), (.int .i64 0), (.bool false), (.int .i64 0), (.int .i64 0), (.bool false), (.int .u64 0), (.int .u64 0), (.bool false), (.int .u64 0), (.int .u64 0), (.string ⟨⟨[]⟩⟩)], none⟩,
    ⟨none, .store 12 (.tmp 5) (.tmp 19), none⟩,
    ⟨(some 6), .mv (.tmp 20), none⟩,
    ⟨(some 7), .mv (.tmp 21), none⟩]
def k80_4 : VC := .reg [⟨(some 22), .loadN [(.int .i64), (.int .i64), .bool, (.int .i64), (.int .i64), .bool, (.int .u64), (.int .u64), .bool, (.int .u64), (.int .u64), .str] (.tmp 5), none⟩,
    ⟨(some 23), .iface 92 (.tmp 22), none⟩,
    ⟨(some 24), .mv (.tmp 6), none⟩,
    ⟨(some 25), .mv (.tmp 7), none⟩,
    ⟨(some 2), .mv (.tmp 23), none⟩,
    ⟨(some 3), .mv (.tmp 24), none⟩,
    ⟨(some 4), .mv (.tmp 25), none⟩]
def k80_5 : VC := .seq k80_4 .ret
def k80_6 : VC := .seq k80_3 k80_5
def k80_7 : VC := .reg [⟨(some 27), .bin .eql (.tmp 13) (.const (.int .u8 6)), none⟩,
    ⟨(some 26), .mv (.tmp 27), none⟩]
def k80_8 : VC := .reg [⟨(some 29), .mv (.tmp 0), none⟩,
    ⟨(some 30), .callF 100 [(.tmp 29)], none⟩,
    ⟨(some 28), .mv (.tmp 30), none⟩,
    ⟨(some 31), .extract 0 (.tmp 28), none⟩,
    ⟨(some 32), .extract 1 (.tmp 28), none⟩,
    ⟨(some 33), .extract 2 (.tmp 28), none⟩,
    ⟨(some 8), .alloc [(.int .i64 0), (.int .i64 0), (.int .i64 0), (.int .i64 0), (.bool false), (.int .u64 0), (.int .u64 0), (.bool false), (.int .u64 0), (.int .u64 0)], none⟩,
    ⟨none, .store 10 (.tmp 8) (.tmp 31), none⟩,
    ⟨(some 9), .mv (.tmp 32), none⟩,
    ⟨(some 10), .mv (.tmp 33), none⟩]
def k80_9 : VC := .reg [⟨(some 34), .loadN [(.int .i64), (.int .i64), (.int .i64), (.int .i64), .bool, (.int .u64), (.int .u64), .bool, (.int .u64), (.int .u64)] (.tmp 8), none⟩,
    ⟨(some 35), .iface 89 (.tmp 34), none⟩,
    ⟨(some 36), .mv (.tmp 9), none⟩,
    ⟨(some 37), .mv (.tmp 10), none⟩,
    ⟨(some 2), .mv (.tmp 35), none⟩,
    ⟨(some 3), .mv (.tmp 36), none⟩,
    ⟨(some 4), .mv (.tmp 37), none⟩]
def k80_10 : VC := .seq k80_9 .ret
def k80_11 : VC := .seq k80_8 k80_10
def k80_12 : VC := .cond (.tmp 26) k80_11 .skip
def k80_13 : VC := .seq k80_7 k80_12
def k80_14 : VC := .cond (.tmp 14) k80_6 k80_13
def k80_15 : VC := .seq k80_2 k80_14
def k80_16 : VC := .block 0 k80_15
def k80_17 : VC := .seq k80_1 k80_16
def k80_18 : VC := .reg [⟨(some 2), .mv (.const .nilIface), none⟩,
    ⟨(some 3), .mv (.const (.string ⟨⟨[]⟩⟩)), none⟩,
    ⟨(some 4), .mv (.const (.int .i64 3)), none⟩]
def k80_19 : VC := .seq k80_18 .ret
def k80_20 : VC := .seq k80_17 k80_19
def k80_21 : VC := .seq k80_0 k80_20
def fn80 : VFn := ⟨38, k80_21, [.tmp 2, .tmp 3, .tmp 4]⟩
def k99_0 : VC := .reg [⟨(some 2), .alloc [(.int .i64 0), (.int .i64 0), (.bool false), (.int .i64 0), (.int .i64 0), (.bool false), (.int .u64 0), (.int .u64 0), (.bool false), (.int .u64 0), (.int .u64 0), (.string ⟨⟨[]⟩⟩)], none⟩,
    ⟨(some 3), .mv (.const (.string ⟨⟨[]⟩⟩)), none⟩,
    ⟨(some 4), .mv (.const (.int .i64 0)), none⟩]
def k99_1 : VC := .reg [⟨(some 11), .mv (.tmp 0), none⟩,
    ⟨(some 12), .lenS (.tmp 11), none⟩,
    ⟨(some 13), .bin .lss (.tmp 12) (.const (.int .i64 20)), none⟩]
def k99_2 : VC := .reg [⟨(some 14), .build [(.int .i64 0), (.int .i64 0), (.bool false), (.int .i64 0), (.int .i64 0), (.bool false), (.int .u64 0), (.int .u64 0), (.bool false), (.int .u64 0), (.int .u64 0), (.string ⟨⟨[]⟩⟩)] [], none⟩,
    ⟨none, .store 12 (.tmp 2) (.tmp 14), none⟩,
    ⟨(some 3), .mv (.const (.string ⟨⟨[]⟩⟩)), none⟩,
    ⟨(some 4), .mv (.const (.int .i64 2)), none⟩]
def k99_3 : VC := .seq k99_2 .ret
def k99_4 : VC := .cond (.tmp 13) k99_3 .skip
def k99_5 : VC := .seq k99_1 k99_4
def k99_6 : VC := .reg [⟨(some 15), .mv (.tmp 0), none⟩,
    ⟨(some 16), .callF 103 [(.tmp 15)], none⟩,
    ⟨(some 17), .build [(.pointer none)] [(0, 1, (.tmp 16))], none⟩,
    ⟨(some 5), .alloc [(.pointer none)], none⟩,
    ⟨none, .store 1 (.tmp 5) (.tmp 17), none⟩]
def k99_7 : VC := .reg [⟨(some 18), .fieldA 0 (.tmp 5), none⟩,
    ⟨(some 19), .load1 .oth (.tmp 18), none⟩,
    ⟨(some 20), .callF 104 [(.tmp 19), (.const (.int .i64 1))], none⟩,
    ⟨(some 6), .mv (.tmp 20), none⟩]
def k99_8 : VC := .reg [⟨(some 21), .fieldA 0 (.tmp 5), none⟩,
    ⟨(some 22), .load1 .oth (.tmp 21), none⟩,
    ⟨(some 23), .callF 104 [(.tmp 22), (.const (.int .i64 1))], none⟩,
    ⟨(some 24), .build [(.int .i64 0), (.int .i64 0), (.bool false), (.int .i64 0), (.int .i64 0), (.bool false), (.int .u64 0), (.int .u64 0), (.bool false), (.int .u64 0), (.int .u64 0), (.string ⟨⟨[]⟩⟩)] [(0, 1, (.tmp 23))], none⟩,
    ⟨(some 7), .alloc [(.int .i64 0), (.int .i64 0), (.bool false), (.int .i64 0), (.int .i64 0), (.bool false), (.int .u64 0), (.int .u64 0), (.bool false), (.int .u64 0), (.int .u64 0), (.string ⟨⟨[]⟩⟩)], none⟩,
    ⟨none, .store 12 (.tmp 7) (.tmp 24), none⟩]
def k99_9 : VC := .reg [⟨(some 25), .mv (.tmp 6), none⟩,
    ⟨(some 26), .bin .and (.tmp 25) (.const (.int .i64 15)), none⟩,
    ⟨(some 27), .bin .mul (.tmp 26) (.const (.int .i64 4)), none⟩,
    ⟨(some 28), .fieldA 0 (.tmp 5), none⟩,
    ⟨(some 29), .load1 .oth (.tmp 28), none⟩,
    ⟨(some 30), .callF 104 [(.tmp 29), (.const (.int .i64 2))], none⟩,
    ⟨(some 8), .mv (.tmp 27), none⟩,
    ⟨(some 9), .mv (.tmp 30), none⟩]
def k99_10 : VC := .reg [⟨(some 32), .mv (.tmp 6), none⟩,
    ⟨(some 33), .bin .shr (.tmp 32) (.const (.int .u64 4)), none⟩,
    ⟨(some 34), .bin .neq (.tmp 33) (.const (.int .i64 4)), none⟩,
    ⟨(some 35), .mv (.tmp 34), none⟩,
    ⟨(some 36), .mv (.tmp 8), (some (35, false))⟩,
    ⟨(some 37), .bin .lss (.tmp 36) (.const (.int .i64 20)), (some (35, false))⟩,
    ⟨(some 38), .pick (.tmp 35) (.const (.bool true)) (.tmp 37), none⟩,
    ⟨(some 39), .mv (.tmp 38), none⟩,
    ⟨(some 40), .mv (.tmp 9), (some (39, false))⟩,
    ⟨(some 41), .mv (.tmp 8), (some (39, false))⟩,
    ⟨(some 42), .bin .lss (.tmp 40) (.tmp 41), (some (39, false))⟩,
    ⟨(some 43), .pick (.tmp 39) (.const (.bool true)) (.tmp 42), none⟩,
    ⟨(some 31), .mv (.tmp 43), none⟩]
def k99_11 : VC := .reg [⟨(some 44), .build [(.int .i64 0), (.int .i64 0), (.bool false), (.int .i64 0), (.int .i64 0), (.bool false), (.int .u64 0), (.int .u64 0), (.bool false), (.int .u64 0), (.int .u64 0), (.string ⟨⟨[]⟩⟩)] [], none⟩,
    ⟨none, .store 12 (.tmp 2) (.tmp 44), none⟩,
    ⟨(some 3), .mv (.const (.string ⟨⟨[]⟩⟩)), none⟩,
    ⟨(some 4), .mv (.const (.int .i64 3)), none⟩]
def k99_12 : VC := .seq k99_11 .ret
def k99_13 : VC := .reg [⟨(some 46), .mv (.tmp 9), none⟩,
    ⟨(some 47), .mv (.tmp 0), none⟩,
    ⟨(some 48), .lenS (.tmp 47), none⟩,
    ⟨(some 49), .bin .gtr (.tmp 46) (.tmp 48), none⟩,
    ⟨(some 45), .mv (.tmp 49), none⟩]
def k99_14 : VC := .reg [⟨(some 50), .build [(.int .i64 0), (.int .i64 0), (.bool false), (.int .i64 0), (.int .i64 0), (.bool false), (.int .u64 0), (.int .u64 0), (.bool false), (.int .u64 0), (.int .u64 0), (.string ⟨⟨[]⟩⟩)] [], none⟩,
    ⟨none, .store 12 (.tmp 2) (.tmp 50), none⟩,
    ⟨(some 3), .mv (.const (.string ⟨⟨[]⟩⟩)), none⟩,
    ⟨(some 4), .mv (.const (.int .i64 2)), none⟩]
def k99_15 : VC := .seq k99_14 .ret
def k99_16 : VC := .reg [⟨(some 52), .mv (.tmp 0), none⟩,
    ⟨(some 53), .mv (.tmp 8), none⟩,
    ⟨(some 54), .sliceS (.tmp 52) none (some (.tmp 53)), none⟩,
    ⟨(some 55), .callF 101 [(.tmp 54)], none⟩,
    ⟨(some 56), .not (.tmp 55), none⟩,
    ⟨(some 51), .mv (.tmp 56), none⟩]
def k99_17 : VC := .reg [⟨(some 57), .build [(.int .i64 0), (.int .i64 0), (.bool false), (.int .i64 0), (.int .i64 0), (.bool false), (.int .u64 0), (.int .u64 0), (.bool false), (.int .u64 0), (.int .u64 0), (.string ⟨⟨[]⟩⟩)] [], none⟩,
    ⟨none, .store 12 (.tmp 2) (.tmp 57), none⟩,
    ⟨(some 3), .mv (.const (.string ⟨⟨[]⟩⟩)), none⟩,
    ⟨(some 4), .mv (.const (.int .i64 4)), none⟩]
def k99_18 : VC := .seq k99_17 .ret
def k99_19 : VC := .cond (.tmp 51) k99_18 .skip
def k99_20 : VC := .seq k99_16 k99_19
def k99_21 : VC := .cond (.tmp 45) k99_15 k99_20
def k99_22 : VC := .seq k99_13 k99_21
def k99_23 : VC := .cond (.tmp 31) k99_12 k99_22
def k99_24 : VC := .seq k99_10 k99_23
def k99_25 : VC := .block 0 k99_24
def k99_26 : VC := .reg [⟨(some 58), .fieldA 0 (.tmp 5), none⟩,
    ⟨(some 59), .load1 .oth (.tmp 58), none⟩,
    ⟨(some 60), .callF 104 [(.tmp 59), (.const (.int .i64 2))], none⟩,
    ⟨(some 61), .fieldA 1 (.tmp 7), none⟩,
    ⟨none, .store 1 (.tmp 61) (.tmp 60), none⟩]
def k99_27 : VC := .reg [⟨(some 62), .fieldA 0 (.tmp 5), none⟩,
    ⟨(some 63), .load1 .oth (.tmp 62), none⟩,
    ⟨(some 64), .callF 104 [(.tmp 63), (.const (.int .i64 2))], none⟩,
    ⟨(some 10), .mv (.tmp 64), none⟩]
def k99_28 : VC := .reg [⟨(some 65), .mv (.tmp 10), none⟩,
    ⟨(some 66), .bin .andNot (.tmp 65) (.const (.int .i64 16384)), none⟩,
    ⟨(some 67), .bin .neq (.tmp 66) (.const (.int .i64 0)), none⟩]
def k99_29 : VC := .reg [⟨(some 68), .build [(.int .i64 0), (.int .i64 0), (.bool false), (.int .i64 0), (.int .i64 0), (.bool false), (.int .u64 0), (.int .u64 0), (.bool false), (.int .u64 0), (.int .u64 0), (.string ⟨⟨[]⟩⟩)] [], none⟩,
    ⟨none, .store 12 (.tmp 2) (.tmp 68), none⟩,
    ⟨(some 3), .mv (.const (.string ⟨⟨[]⟩⟩)), none⟩,
    ⟨(some 4), .mv (.const (.int .i64 7)), none⟩]
def k99_30 : VC := .seq k99_29 .ret
def k99_31 : VC := .cond (.tmp 67) k99_30 .skip
def k99_32 : VC := .seq k99_28 k99_31
def k99_33 : VC := .reg [⟨(some 69), .mv (.tmp 10), none⟩,
    ⟨(some 70), .bin .neq (.tmp 69) (.const (.int .i64 0)), none⟩,
    ⟨(some 71), .fieldA 2 (.tmp 7), none⟩,
    ⟨none, .store 1 (.tmp 71) (.tmp 70), none⟩]
def k99_34 : VC := .regD [⟨(some 72), .fieldA 0 (.tmp 5), none⟩,
    ⟨(some 73), .load1 .oth (.tmp 72), none⟩,
    ⟨(some 74), .callF 104 [(.tmp 73), (.const (.int .i64 1))], none⟩,
    ⟨(some 75), .fieldA 0 (.tmp 5), none⟩,
    ⟨(some 76), .load1 .oth (.tmp 75), none⟩,
    ⟨(some 77), .callF 104 [(.tmp 76), (.const (.int .i64 1))], none⟩,
    ⟨(some 78), .fieldA 3 (.tmp 7), none⟩] [(2, 4)] [⟨none, .store 1 (.tmp 78) (.tmp 74), none⟩,
    ⟨(some 79), .fieldA 4 (.tmp 7), none⟩,
    ⟨none, .store 1 (.tmp 79) (.tmp 77), none⟩]
def k99_35 : VC := .reg [⟨(some 80), .fieldA 0 (.tmp 5), none⟩,
    ⟨(some 81), .load1 .oth (.tmp 80), none⟩,
    ⟨(some 82), .callF 104 [(.tmp 81), (.const (.int .i64 2))], none⟩]
def k99_36 : VC := .regD [⟨(some 83), .loadN [.oth] (.tmp 5), none⟩,
    ⟨(some 84), .callF 116 [(.tmp 83)], none⟩,
    ⟨(some 85), .loadN [.oth] (.tmp 5), none⟩,
    ⟨(some 86), .callF 116 [(.tmp 85)], none⟩,
    ⟨(some 87), .fieldA 5 (.tmp 7), none⟩] [(1, 2)] [⟨none, .store 3 (.tmp 87) (.tmp 84), none⟩,
    ⟨(some 88), .fieldA 8 (.tmp 7), none⟩,
    ⟨none, .store 3 (.tmp 88) (.tmp 86), none⟩]
def k99_37 : VC := .reg [⟨(some 89), .fieldA 0 (.tmp 5), none⟩,
    ⟨(some 90), .load1 .oth (.tmp 89), none⟩,
    ⟨(some 91), .mv (.tmp 8), none⟩,
    ⟨(some 92), .bin .sub (.tmp 91) (.const (.int .i64 20)), none⟩,
    ⟨(some 93), .callF 106 [(.tmp 90), (.tmp 92)], none⟩,
    ⟨(some 94), .fieldA 11 (.tmp 7), none⟩,
    ⟨none, .store 1 (.tmp 94) (.tmp 93), none⟩]
def k99_38 : VC := .regD [⟨(some 95), .loadN [(.int .i64), (.int .i64), .bool, (.int .i64), (.int .i64), .bool, (.int .u64), (.int .u64), .bool, (.int .u64), (.int .u64), .str] (.tmp 7), none⟩,
    ⟨(some 96), .fieldA 0 (.tmp 5), none⟩,
    ⟨(some 97), .load1 .oth (.tmp 96), none⟩,
    ⟨(some 98), .mv (.tmp 9), none⟩,
    ⟨(some 99), .mv (.tmp 8), none⟩,
    ⟨(some 100), .bin .sub (.tmp 98) (.tmp 99), none⟩,
    ⟨(some 101), .callF 106 [(.tmp 97), (.tmp 100)], none⟩] [(0, 6)] [⟨none, .store 12 (.tmp 2) (.tmp 95), none⟩,
    ⟨(some 3), .mv (.tmp 101), none⟩,
    ⟨(some 4), .mv (.const (.int .i64 0)), none⟩]
def k99_39 : VC := .seq k99_38 .ret
def k99_40 : VC := .seq k99_37 k99_39
def k99_41 : VC := .seq k99_36 k99_40
def k99_42 : VC := .seq k99_35 k99_41
def k99_43 : VC := .seq k99_34 k99_42
def k99_44 : VC := .seq k99_33 k99_43
def k99_45 : VC := .seq k99_32 k99_44
def k99_46 : VC := .seq k99_27 k99_45
def k99_47 : VC := .seq k99_26 k99_46
def k99_48 : VC := .seq k99_25 k99_47
def k99_49 : VC := .seq k99_9 k99_48
def k99_50 : VC := .seq k99_8 k99_49
def k99_51 : VC := .seq k99_7 k99_50
def k99_52 : VC := .seq k99_6 k99_51
def k99_53 : VC := .seq k99_5 k99_52
def k99_54 : VC := .seq k99_0 k99_53
def fn99 : VFn := ⟨102, k99_54, [.cell 2 [(.int .i64), (.int .i64), .bool, (.int .i64), (.int .i64), .bool, (.int .u64), (.int .u64), .bool, (.int .u64), (.int .u64), .str] true, .tmp 3, .tmp 4]⟩
def k103_0 : VC := .reg [⟨(some 2), .mv (.const (.pointer none)), none⟩]
def k103_1 : VC := .reg [⟨(some 3), .mv (.tmp 0), none⟩,
    ⟨(some 4), .build [(.string ⟨⟨[]⟩⟩), (.bool false), (.bool false)] [(0, 1, (.tmp 3)), (1, 1, (.const (.bool true)))], none⟩,
    ⟨(some 5), .box (.tmp 4), none⟩,
    ⟨(some 2), .mv (.tmp 5), none⟩]
def k103_2 : VC := .seq k103_1 .ret
def k103_3 : VC := .seq k103_0 k103_2
def fn103 : VFn := ⟨6, k103_3, [.tmp 2]⟩
def k104_0 : VC := .reg [⟨(some 4), .mv (.const (.int .i64 0)), none⟩]
def k104_1 : VC := .reg [⟨(some 7), .mv (.tmp 1), none⟩,
    ⟨(some 8), .bin .lss (.tmp 7) (.const (.int .i64 1)), none⟩,
    ⟨(some 9), .mv (.tmp 8), none⟩,
    ⟨(some 10), .mv (.tmp 1), (some (9, false))⟩,
    ⟨(some 11), .bin .gtr (.tmp 10) (.const (.int .i64 7)), (some (9, false))⟩,
    ⟨(some 12), .pick (.tmp 9) (.const (.bool true)) (.tmp 11), none⟩]
def k104_2 : VC := .reg [⟨(some 1), .mv (.const (.int .i64 (-1))), none⟩]
def k104_3 : VC := .cond (.tmp 12) k104_2 .skip
def k104_4 : VC := .seq k104_1 k104_3
def k104_5 : VC := .reg [⟨(some 14), .mv (.tmp 0), none⟩,
    ⟨(some 15), .mv (.tmp 1), none⟩,
    ⟨(some 16), .callF 106 [(.tmp 14), (.tmp 15)], none⟩,
    ⟨(some 17), .mv (.tmp 1), none⟩,
    ⟨(some 18), .callF 25 [(.tmp 16), (.const (.int .i64 0)), (.tmp 17)], none⟩,
    ⟨(some 13), .mv (.tmp 18), none⟩,
    ⟨(some 19), .extract 0 (.tmp 13), none⟩,
    ⟨(some 20), .extract 1 (.tmp 13), none⟩,
    ⟨(some 5), .mv (.tmp 19), none⟩,
    ⟨(some 6), .mv (.tmp 20), none⟩]
def k104_6 : VC := .reg [⟨(some 21), .mv (.tmp 5), none⟩,
    ⟨(some 22), .conv .i64 (.tmp 21), none⟩,
    ⟨(some 4), .mv (.tmp 22), none⟩]
def k104_7 : VC := .seq k104_6 .ret
def k104_8 : VC := .seq k104_5 k104_7
def k104_9 : VC := .seq k104_4 k104_8
def k104_10 : VC := .seq k104_0 k104_9
def fn104 : VFn := ⟨23, k104_10, [.tmp 4]⟩
def k106_0 : VC := .reg [⟨(some 4), .mv (.const (.string ⟨⟨[]⟩⟩)), none⟩]
def k106_1 : VC := .reg [⟨(some 6), .mv (.tmp 0), none⟩,
    ⟨(some 7), .callF 105 [(.tmp 6)], none⟩]
def k106_2 : VC := .reg [⟨(some 4), .mv (.const (.string ⟨⟨[]⟩⟩)), none⟩]
def k106_3 : VC := .seq k106_2 .ret
def k106_4 : VC := .cond (.tmp 7) k106_3 .skip
def k106_5 : VC := .seq k106_1 k106_4
def k106_6 : VC := .reg [⟨(some 8), .mv (.tmp 1), none⟩,
    ⟨(some 9), .bin .lss (.tmp 8) (.const (.int .i64 0)), none⟩,
    ⟨(some 10), .mv (.tmp 9), none⟩,
    ⟨(some 11), .mv (.tmp 1), (some (10, false))⟩,
    ⟨(some 12), .mv (.tmp 0), (some (10, false))⟩,
    ⟨(some 13), .nilCheck (.tmp 12), (some (10, false))⟩,
    ⟨(some 14), .fieldA 0 (.tmp 13), (some (10, false))⟩,
    ⟨(some 15), .load1 .str (.tmp 14), (some (10, false))⟩,
    ⟨(some 16), .lenS (.tmp 15), (some (10, false))⟩,
    ⟨(some 17), .bin .gtr (.tmp 11) (.tmp 16), (some (10, false))⟩,
    ⟨(some 18), .pick (.tmp 10) (.const (.bool true)) (.tmp 17), none⟩]
def k106_7 : VC := .reg [⟨(some 19), .mv (.tmp 0), none⟩,
    ⟨(some 20), .nilCheck (.tmp 19), none⟩,
    ⟨(some 21), .fieldA 2 (.tmp 20), none⟩,
    ⟨none, .store 1 (.tmp 21) (.const (.bool true)), none⟩]
def k106_8 : VC := .reg [⟨(some 4), .mv (.const (.string ⟨⟨[]⟩⟩)), none⟩]
def k106_9 : VC := .seq k106_8 .ret
def k106_10 : VC := .seq k106_7 k106_9
def k106_11 : VC := .cond (.tmp 18) k106_10 .skip
def k106_12 : VC := .seq k106_6 k106_11
def k106_13 : VC := .reg [⟨(some 22), .mv (.tmp 0), none⟩,
    ⟨(some 23), .nilCheck (.tmp 22), none⟩,
    ⟨(some 24), .fieldA 0 (.tmp 23), none⟩,
    ⟨(some 25), .load1 .str (.tmp 24), none⟩,
    ⟨(some 26), .mv (.tmp 1), none⟩,
    ⟨(some 27), .sliceS (.tmp 25) none (some (.tmp 26)), none⟩,
    ⟨(some 5), .mv (.tmp 27), none⟩]
def k106_14 : VC := .reg [⟨(some 28), .mv (.tmp 0), none⟩,
    ⟨(some 29), .mv (.tmp 0), none⟩,
    ⟨(some 30), .nilCheck (.tmp 29), none⟩,
    ⟨(some 31), .fieldA 0 (.tmp 30), none⟩,
    ⟨(some 32), .load1 .str (.tmp 31), none⟩,
    ⟨(some 33), .mv (.tmp 1), none⟩,
    ⟨(some 34), .sliceS (.tmp 32) (some (.tmp 33)) none, none⟩,
    ⟨(some 35), .nilCheck (.tmp 28), none⟩,
    ⟨(some 36), .fieldA 0 (.tmp 35), none⟩,
    ⟨none, .store 1 (.tmp 36) (.tmp 34), none⟩]
def k106_15 : VC := .reg [⟨(some 37), .mv (.tmp 5), none⟩,
    ⟨(some 4), .mv (.tmp 37), none⟩]
def k106_16 : VC := .seq k106_15 .ret
def k106_17 : VC := .seq k106_14 k106_16
def k106_18 : VC := .seq k106_13 k106_17
def k106_19 : VC := .seq k106_12 k106_18
def k106_20 : VC := .seq k106_5 k106_19
def k106_21 : VC := .seq k106_0 k106_20
def fn106 : VFn := ⟨38, k106_21, [.tmp 4]⟩
def k105_0 : VC := .reg [⟨(some 2), .mv (.const (.bool false)), none⟩]
def k105_1 : VC := .reg [⟨(some 3), .mv (.tmp 0), none⟩,
    ⟨(some 4), .isNil 0 false (.tmp 3), none⟩,
    ⟨(some 5), .mv (.tmp 4), none⟩,
    ⟨(some 6), .mv (.tmp 0), (some (5, false))⟩,
    ⟨(some 7), .nilCheck (.tmp 6), (some (5, false))⟩,
    ⟨(some 8), .fieldA 1 (.tmp 7), (some (5, false))⟩,
    ⟨(some 9), .load1 .bool (.tmp 8), (some (5, false))⟩,
    ⟨(some 10), .not (.tmp 9), (some (5, false))⟩,
    ⟨(some 11), .pick (.tmp 5) (.const (.bool true)) (.tmp 10), none⟩,
    ⟨(some 12), .mv (.tmp 11), none⟩,
    ⟨(some 13), .mv (.tmp 0), (some (12, false))⟩,
    ⟨(some 14), .nilCheck (.tmp 13), (some (12, false))⟩,
    ⟨(some 15), .fieldA 2 (.tmp 14), (some (12, false))⟩,
    ⟨(some 16), .load1 .bool (.tmp 15), (some (12, false))⟩,
    ⟨(some 17), .pick (.tmp 12) (.const (.bool true)) (.tmp 16), none⟩,
    ⟨(some 2), .mv (.tmp 17), none⟩]
def k105_2 : VC := .seq k105_1 .ret
def k105_3 : VC := .seq k105_0 k105_2
def fn105 : VFn := ⟨18, k105_3, [.tmp 2]⟩
def k25_0 : VC := .reg [⟨(some 6), .mv (.const (.int .u64 0)), none⟩,
    ⟨(some 7), .mv (.const (.bool false)), none⟩]
def k25_1 : VC := .reg [⟨(some 11), .mv (.tmp 2), none⟩,
    ⟨(some 12), .bin .lss (.tmp 11) (.const (.int .i64 1)), none⟩,
    ⟨(some 13), .mv (.tmp 12), none⟩,
    ⟨(some 14), .mv (.tmp 2), (some (13, false))⟩,
    ⟨(some 15), .bin .gtr (.tmp 14) (.const (.int .i64 8)), (some (13, false))⟩,
    ⟨(some 16), .pick (.tmp 13) (.const (.bool true)) (.tmp 15), none⟩,
    ⟨(some 17), .mv (.tmp 16), none⟩,
    ⟨(some 18), .mv (.tmp 1), (some (17, false))⟩,
    ⟨(some 19), .bin .lss (.tmp 18) (.const (.int .i64 0)), (some (17, false))⟩,
    ⟨(some 20), .pick (.tmp 17) (.const (.bool true)) (.tmp 19), none⟩,
    ⟨(some 21), .mv (.tmp 20), none⟩,
    ⟨(some 22), .mv (.tmp 0), (some (21, false))⟩,
    ⟨(some 23), .lenS (.tmp 22), (some (21, false))⟩,
    ⟨(some 24), .mv (.tmp 2), (some (21, false))⟩,
    ⟨(some 25), .bin .sub (.tmp 23) (.tmp 24), (some (21, false))⟩,
    ⟨(some 26), .mv (.tmp 1), (some (21, false))⟩,
    ⟨(some 27), .bin .lss (.tmp 25) (.tmp 26), (some (21, false))⟩,
    ⟨(some 28), .pick (.tmp 21) (.const (.bool true)) (.tmp 27), none⟩]
def k25_2 : VC := .reg [⟨(some 6), .mv (.const (.int .u64 0)), none⟩,
    ⟨(some 7), .mv (.const (.bool false)), none⟩]
def k25_3 : VC := .seq k25_2 .ret
def k25_4 : VC := .cond (.tmp 28) k25_3 .skip
def k25_5 : VC := .seq k25_1 k25_4
def k25_6 : VC := .reg [⟨(some 8), .mv (.const (.int .u64 0)), none⟩]
def k25_7 : VC := .reg [⟨(some 29), .mv (.tmp 0), none⟩,
    ⟨(some 30), .mv (.tmp 1), none⟩,
    ⟨(some 31), .mv (.tmp 1), none⟩,
    ⟨(some 32), .mv (.tmp 2), none⟩,
    ⟨(some 33), .bin .add (.tmp 31) (.tmp 32), none⟩,
    ⟨(some 34), .sliceS (.tmp 29) (some (.tmp 30)) (some (.tmp 33)), none⟩,
    ⟨(some 35), .s2b (.tmp 34), none⟩,
    ⟨(some 36), .lenL (.tmp 35), none⟩,
    ⟨(some 37), .mv (.const (.int .i64 0)), none⟩]
def k25_8 : VC := .reg [⟨(some 38), .bin .lss (.tmp 37) (.tmp 36), none⟩]
def k25_9 : VC := .cond (.tmp 38) .skip (.exit 0)
def k25_10 : VC := .reg [⟨(some 39), .idxAL 1 (.tmp 35) (.tmp 37), none⟩,
    ⟨(some 40), .load1 (.int .u8) (.tmp 39), none⟩,
    ⟨(some 10), .mv (.tmp 40), none⟩]
def k25_11 : VC := .reg [⟨(some 41), .mv (.tmp 8), none⟩,
    ⟨(some 42), .bin .shl (.tmp 41) (.const (.int .u64 8)), none⟩,
    ⟨(some 43), .mv (.tmp 10), none⟩,
    ⟨(some 44), .conv .u64 (.tmp 43), none⟩,
    ⟨(some 45), .bin .or (.tmp 42) (.tmp 44), none⟩,
    ⟨(some 8), .mv (.tmp 45), none⟩]
def k25_12 : VC := .seq k25_10 k25_11
def k25_13 : VC := .block 1 k25_12
def k25_14 : VC := .reg [⟨(some 46), .bin .add (.tmp 37) (.const (.int .i64 1)), none⟩,
    ⟨(some 37), .mv (.tmp 46), none⟩]
def k25_15 : VC := .seq k25_13 k25_14
def k25_16 : VC := .seq k25_9 k25_15
def k25_17 : VC := .seq k25_8 k25_16
def k25_18 : VC := .loop k25_17
def k25_19 : VC := .block 0 k25_18
def k25_20 : VC := .seq k25_7 k25_19
def k25_21 : VC := .reg [⟨(some 47), .mv (.tmp 8), none⟩,
    ⟨(some 6), .mv (.tmp 47), none⟩,
    ⟨(some 7), .mv (.const (.bool true)), none⟩]
def k25_22 : VC := .seq k25_21 .ret
def k25_23 : VC := .seq k25_20 k25_22
def k25_24 : VC := .seq k25_6 k25_23
def k25_25 : VC := .seq k25_5 k25_24
def k25_26 : VC := .seq k25_0 k25_25
def fn25 : VFn := ⟨48, k25_26, [.tmp 6, .tmp 7]⟩
def k101_0 : VC := .reg [⟨(some 2), .mv (.const (.bool false)), none⟩]
def k101_1 : VC := .reg [⟨(some 3), .mv (.tmp 0), none⟩,
    ⟨(some 4), .callF 77 [(.tmp 3)], none⟩,
    ⟨(some 5), .bin .eql (.tmp 4) (.const (.int .i64 65535)), none⟩,
    ⟨(some 2), .mv (.tmp 5), none⟩]
def k101_2 : VC := .seq k101_1 .ret
def k101_3 : VC := .seq k101_0 k101_2
def fn101 : VFn := ⟨6, k101_3, [.tmp 2]⟩
def k77_0 : VC := .reg [⟨(some 2), .mv (.const (.int .i64 0)), none⟩]
def k77_1 : VC := .reg [⟨(some 3), .alloc [(.int .i64 0)], none⟩,
    ⟨none, .store 1 (.tmp 3) (.const (.int .i64 0)), none⟩]
def k77_2 : VC := .reg [⟨(some 5), .mv (.tmp 0), none⟩,
    ⟨(some 6), .callF 42 [(.tmp 5)], none⟩]
def k77_3 : VC := .reg [⟨(some 4), .mv (.tmp 7), none⟩]
def k77_4 : VC := .reg [⟨(some 8), .load1 (.int .i64) (.tmp 3), none⟩,
    ⟨(some 9), .mv (.tmp 4), none⟩,
    ⟨(some 10), .bin .add (.tmp 8) (.tmp 9), none⟩,
    ⟨(some 11), .callF 73 [(.tmp 10)], none⟩,
    ⟨none, .store 1 (.tmp 3) (.tmp 11), none⟩]
def k77_5 : VC := .block 1 k77_4
def k77_6 : VC := .rangeF (.tmp 6) [7] k77_3 k77_5
def k77_7 : VC := .block 0 k77_6
def k77_8 : VC := .seq k77_2 k77_7
def k77_9 : VC := .reg [⟨(some 12), .load1 (.int .i64) (.tmp 3), none⟩,
    ⟨(some 2), .mv (.tmp 12), none⟩]
def k77_10 : VC := .seq k77_9 .ret
def k77_11 : VC := .seq k77_8 k77_10
def k77_12 : VC := .seq k77_1 k77_11
def k77_13 : VC := .seq k77_0 k77_12
def fn77 : VFn := ⟨13, k77_13, [.tmp 2]⟩
def k42_0 : VC := .reg [⟨(some 1), .box (.tmp 0), none⟩,
    ⟨(some 2), .mv (.const .nilFunc), none⟩]
def k42_1 : VC := .reg [⟨(some 3), .mkFunc 71 [] [(.tmp 1)], none⟩,
    ⟨(some 2), .mv (.tmp 3), none⟩]
def k42_2 : VC := .seq k42_1 .ret
def k42_3 : VC := .seq k42_0 k42_2
def fn42 : VFn := ⟨4, k42_3, [.tmp 2]⟩
def k71_0 : VC := .reg [⟨(some 3), .mv (.const (.int .i64 0)), none⟩]
def k71_1 : VC := .reg [⟨(some 5), .mv (.tmp 3), none⟩,
    ⟨(some 6), .load1 .str (.tmp 1), none⟩,
    ⟨(some 7), .lenS (.tmp 6), none⟩,
    ⟨(some 8), .bin .lss (.tmp 5) (.tmp 7), none⟩]
def k71_2 : VC := .cond (.tmp 8) .skip (.exit 0)
def k71_3 : VC := .seq k71_1 k71_2
def k71_4 : VC := .reg [⟨(some 11), .load1 .str (.tmp 1), none⟩,
    ⟨(some 12), .mv (.tmp 3), none⟩,
    ⟨(some 13), .idxS (.tmp 11) (.tmp 12), none⟩,
    ⟨(some 14), .conv .i64 (.tmp 13), none⟩,
    ⟨(some 15), .bin .shl (.tmp 14) (.const (.int .u64 8)), none⟩,
    ⟨(some 4), .mv (.tmp 15), none⟩]
def k71_5 : VC := .reg [⟨(some 16), .mv (.tmp 3), none⟩,
    ⟨(some 17), .bin .add (.tmp 16) (.const (.int .i64 1)), none⟩,
    ⟨(some 18), .load1 .str (.tmp 1), none⟩,
    ⟨(some 19), .lenS (.tmp 18), none⟩,
    ⟨(some 20), .bin .lss (.tmp 17) (.tmp 19), none⟩]
def k71_6 : VC := .reg [⟨(some 21), .mv (.tmp 4), none⟩,
    ⟨(some 22), .load1 .str (.tmp 1), none⟩,
    ⟨(some 23), .mv (.tmp 3), none⟩,
    ⟨(some 24), .bin .add (.tmp 23) (.const (.int .i64 1)), none⟩,
    ⟨(some 25), .idxS (.tmp 22) (.tmp 24), none⟩,
    ⟨(some 26), .conv .i64 (.tmp 25), none⟩,
    ⟨(some 27), .bin .or (.tmp 21) (.tmp 26), none⟩,
    ⟨(some 4), .mv (.tmp 27), none⟩]
def k71_7 : VC := .cond (.tmp 20) k71_6 .skip
def k71_8 : VC := .seq k71_5 k71_7
def k71_9 : VC := .reg [⟨(some 28), .mv (.tmp 0), none⟩,
    ⟨(some 29), .mv (.tmp 4), none⟩,
    ⟨(some 30), .callV (.tmp 28) [(.tmp 29)], none⟩,
    ⟨(some 31), .not (.tmp 30), none⟩]
def k71_10 : VC := .cond (.tmp 31) .ret .skip
def k71_11 : VC := .seq k71_9 k71_10
def k71_12 : VC := .seq k71_8 k71_11
def k71_13 : VC := .seq k71_4 k71_12
def k71_14 : VC := .block 1 k71_13
def k71_15 : VC := .reg [⟨(some 9), .mv (.tmp 3), none⟩,
    ⟨(some 10), .bin .add (.tmp 9) (.const (.int .i64 2)), none⟩,
    ⟨(some 3), .mv (.tmp 10), none⟩]
def k71_16 : VC := .seq k71_14 k71_15
def k71_17 : VC := .seq k71_3 k71_16
def k71_18 : VC := .loop k71_17
def k71_19 : VC := .block 0 k71_18
def k71_20 : VC := .seq k71_0 k71_19
def fn71 : VFn := ⟨32, k71_20, []⟩
def k73_0 : VC := .reg [⟨(some 2), .mv (.const (.int .i64 0)), none⟩]
def k73_1 : VC := .reg [⟨(some 3), .mv (.tmp 0), none⟩,
    ⟨(some 4), .bin .gtr (.tmp 3) (.const (.int .i64 65535)), none⟩]
def k73_2 : VC := .cond (.tmp 4) .skip (.exit 0)
def k73_3 : VC := .seq k73_1 k73_2
def k73_4 : VC := .reg [⟨(some 5), .mv (.tmp 0), none⟩,
    ⟨(some 6), .bin .and (.tmp 5) (.const (.int .i64 65535)), none⟩,
    ⟨(some 7), .mv (.tmp 0), none⟩,
    ⟨(some 8), .bin .shr (.tmp 7) (.const (.int .u64 16)), none⟩,
    ⟨(some 9), .bin .add (.tmp 6) (.tmp 8), none⟩,
    ⟨(some 0), .mv (.tmp 9), none⟩]
def k73_5 : VC := .block 1 k73_4
def k73_6 : VC := .seq k73_3 k73_5
def k73_7 : VC := .loop k73_6
def k73_8 : VC := .block 0 k73_7
def k73_9 : VC := .reg [⟨(some 10), .mv (.tmp 0), none⟩,
    ⟨(some 2), .mv (.tmp 10), none⟩]
def k73_10 : VC := .seq k73_9 .ret
def k73_11 : VC := .seq k73_8 k73_10
def k73_12 : VC := .seq k73_0 k73_11
def fn73 : VFn := ⟨11, k73_12, [.tmp 2]⟩
def k116_0 : VC := .reg [⟨(some 1), .box (.tmp 0), none⟩,
    ⟨(some 2), .alloc [(.bool false), (.int .u64 0), (.int .u64 0)], none⟩]
def k116_1 : VC := .reg [⟨(some 6), .fieldA 0 (.tmp 1), none⟩,
    ⟨(some 7), .load1 .oth (.tmp 6), none⟩,
    ⟨(some 8), .callF 106 [(.tmp 7), (.const (.int .i64 4))], none⟩,
    ⟨(some 9), .callF 117 [(.tmp 8)], none⟩,
    ⟨(some 5), .mv (.tmp 9), none⟩,
    ⟨(some 10), .extract 0 (.tmp 5), none⟩,
    ⟨(some 11), .extract 1 (.tmp 5), none⟩,
    ⟨(some 3), .alloc [(.bool false), (.int .u64 0), (.int .u64 0)], none⟩,
    ⟨none, .store 3 (.tmp 3) (.tmp 10), none⟩,
    ⟨(some 4), .mv (.tmp 11), none⟩]
def k116_2 : VC := .reg [⟨(some 12), .loadN [.bool, (.int .u64), (.int .u64)] (.tmp 3), none⟩,
    ⟨none, .store 3 (.tmp 2) (.tmp 12), none⟩]
def k116_3 : VC := .seq k116_2 .ret
def k116_4 : VC := .seq k116_1 k116_3
def k116_5 : VC := .seq k116_0 k116_4
def fn116 : VFn := ⟨13, k116_5, [.cell 2 [.bool, (.int .u64), (.int .u64)] true]⟩
def k117_0 : VC := .reg [⟨(some 2), .alloc [(.bool false), (.int .u64 0), (.int .u64 0)], none⟩,
    ⟨(some 3), .mv (.const (.bool false)), none⟩]
def k117_1 : VC := .reg [⟨(some 7), .mv (.tmp 0), none⟩,
    ⟨(some 8), .lenS (.tmp 7), none⟩]
def k117_2 : VC := .reg [⟨(some 10), .bin .eql (.tmp 8) (.const (.int .i64 4)), none⟩,
    ⟨(some 9), .mv (.tmp 10), none⟩]
def k117_3 : VC := .reg [⟨(some 12), .mv (.tmp 0), none⟩,
    ⟨(some 13), .callF 25 [(.tmp 12), (.const (.int .i64 0)), (.const (.int .i64 4))], none⟩,
    ⟨(some 11), .mv (.tmp 13), none⟩,
    ⟨(some 14), .extract 0 (.tmp 11), none⟩,
    ⟨(some 15), .extract 1 (.tmp 11), none⟩,
    ⟨(some 4), .mv (.tmp 14), none⟩,
    ⟨(some 5), .mv (.tmp 15), none⟩]
def k117_4 : VC := .reg [⟨(some 16), .mv (.tmp 4), none⟩,
    ⟨(some 17), .build [(.bool false), (.int .u64 0), (.int .u64 0)] [(2, 1, (.tmp 16))], none⟩,
    ⟨none, .store 3 (.tmp 2) (.tmp 17), none⟩,
    ⟨(some 3), .mv (.const (.bool true)), none⟩]
def k117_5 : VC := .seq k117_4 .ret
def k117_6 : VC := .seq k117_3 k117_5
def k117_7 : VC := .reg [⟨(some 19), .bin .eql (.tmp 8) (.const (.int .i64 16)), none⟩,
    ⟨(some 18), .mv (.tmp 19), none⟩]
def k117_8 : VC := .reg [⟨(some 20), .build [(.bool false), (.int .u64 0), (.int .u64 0)] [(0, 1, (.const (.bool true)))], none⟩,
    ⟨(some 6), .alloc [(.bool false), (.int .u64 0), (.int .u64 0)], none⟩,
    ⟨none, .store 3 (.tmp 6) (.tmp 20), none⟩]
def k117_9 : VC := .reg [⟨(some 22), .mv (.tmp 0), none⟩,
    ⟨(some 23), .callF 25 [(.tmp 22), (.const (.int .i64 0)), (.const (.int .i64 8))], none⟩,
    ⟨(some 21), .mv (.tmp 23), none⟩,
    ⟨(some 24), .extract 0 (.tmp 21), none⟩,
    ⟨(some 25), .extract 1 (.tmp 21), none⟩,
    ⟨(some 26), .fieldA 1 (.tmp 6), none⟩,
    ⟨none, .store 1 (.tmp 26) (.tmp 24), none⟩]
def k117_10 : VC := .reg [⟨(some 28), .mv (.tmp 0), none⟩,
    ⟨(some 29), .callF 25 [(.tmp 28), (.const (.int .i64 8)), (.const (.int .i64 8))], none⟩,
    ⟨(some 27), .mv (.tmp 29), none⟩,
    ⟨(some 30), .extract 0 (.tmp 27), none⟩,
    ⟨(some 31), .extract 1 (.tmp 27), none⟩,
    ⟨(some 32), .fieldA 2 (.tmp 6), none⟩,
    ⟨none, .store 1 (.tmp 32) (.tmp 30), none⟩]
def k117_11 : VC := .reg [⟨(some 33), .loadN [.bool, (.int .u64), (.int .u64)] (.tmp 6), none⟩,
    ⟨none, .store 3 (.tmp 2) (.tmp 33), none⟩,
    ⟨(some 3), .mv (.const (.bool true)), none⟩]
def k117_12 : VC := .seq k117_11 .ret
def k117_13 : VC := .seq k117_10 k117_12
def k117_14 : VC := .seq k117_9 k117_13
def k117_15 : VC := .seq k117_8 k117_14
def k117_16 : VC := .cond (.tmp 18) k117_15 .skip
def k117_17 : VC := .seq k117_7 k117_16
def k117_18 : VC := .cond (.tmp 9) k117_6 k117_17
def k117_19 : VC := .seq k117_2 k117_18
def k117_20 : VC := .block 0 k117_19
def k117_21 : VC := .seq k117_1 k117_20
def k117_22 : VC := .reg [⟨(some 34), .build [(.bool false), (.int .u64 0), (.int .u64 0)] [], none⟩,
    ⟨none, .store 3 (.tmp 2) (.tmp 34), none⟩,
    ⟨(some 3), .mv (.const (.bool false)), none⟩]
def k117_23 : VC := .seq k117_22 .ret
def k117_24 : VC := .seq k117_21 k117_23
def k117_25 : VC := .seq k117_0 k117_24
def fn117 : VFn := ⟨35, k117_25, [.cell 2 [.bool, (.int .u64), (.int .u64)] true, .tmp 3]⟩
def k100_0 : VC := .reg [⟨(some 2), .alloc [(.int .i64 0), (.int .i64 0), (.int .i64 0), (.int .i64 0), (.bool false), (.int .u64 0), (.int .u64 0), (.bool false), (.int .u64 0), (.int .u64 0)], none⟩,
    ⟨(some 3), .mv (.const (.string ⟨⟨[]⟩⟩)), none⟩,
    ⟨(some 4), .mv (.const (.int .i64 0)), none⟩]
def k100_1 : VC := .reg [⟨(some 12), .mv (.tmp 0), none⟩,
    ⟨(some 13), .callF 103 [(.tmp 12)], none⟩,
    ⟨(some 5), .mv (.tmp 13), none⟩]
def k100_2 : VC := .reg [⟨(some 14), .mv (.tmp 5), none⟩,
    ⟨(some 15), .callF 104 [(.tmp 14), (.const (.int .i64 4))], none⟩,
    ⟨(some 16), .mv (.tmp 5), none⟩,
    ⟨(some 17), .callF 104 [(.tmp 16), (.const (.int .i64 2))], none⟩,
    ⟨(some 6), .mv (.tmp 15), none⟩,
    ⟨(some 7), .mv (.tmp 17), none⟩]
def k100_3 : VC := .reg [⟨(some 18), .mv (.tmp 6), none⟩,
    ⟨(some 19), .bin .shr (.tmp 18) (.const (.int .u64 20)), none⟩,
    ⟨(some 20), .bin .and (.tmp 19) (.const (.int .i64 255)), none⟩,
    ⟨(some 21), .mv (.tmp 6), none⟩,
    ⟨(some 22), .bin .and (.tmp 21) (.const (.int .i64 1048575)), none⟩,
    ⟨(some 23), .mv (.tmp 5), none⟩,
    ⟨(some 24), .callF 104 [(.tmp 23), (.const (.int .i64 1))], none⟩,
    ⟨(some 25), .mv (.tmp 5), none⟩,
    ⟨(some 26), .callF 104 [(.tmp 25), (.const (.int .i64 1))], none⟩,
    ⟨(some 27), .build [(.int .i64 0), (.int .i64 0), (.int .i64 0), (.int .i64 0), (.bool false), (.int .u64 0), (.int .u64 0), (.bool false), (.int .u64 0), (.int .u64 0)] [(0, 1, (.tmp 20)), (1, 1, (.tmp 22)), (2, 1, (.tmp 24)), (3, 1, (.tmp 26))], none⟩,
    ⟨(some 8), .alloc [(.int .i64 0), (.int .i64 0), (.int .i64 0), (.int .i64 0), (.bool false), (.int .u64 0), (.int .u64 0), (.bool false), (.int .u64 0), (.int .u64 0)], none⟩,
    ⟨none, .store 10 (.tmp 8) (.tmp 27), none⟩]
def k100_4 : VC := .reg [⟨(some 28), .mv (.tmp 5), none⟩,
    ⟨(some 29), .callF 106 [(.tmp 28), (.const (.int .i64 16))], none⟩,
    ⟨(some 30), .mv (.tmp 5), none⟩,
    ⟨(some 31), .callF 106 [(.tmp 30), (.const (.int .i64 16))], none⟩,
    ⟨(some 9), .mv (.tmp 29), none⟩,
    ⟨(some 10), .mv (.tmp 31), none⟩]
def k100_5 : VC := .reg [⟨(some 32), .mv (.tmp 5), none⟩,
    ⟨(some 33), .callF 105 [(.tmp 32)], none⟩]
def k100_6 : VC := .reg [⟨(some 34), .build [(.int .i64 0), (.int .i64 0), (.int .i64 0), (.int .i64 0), (.bool false), (.int .u64 0), (.int .u64 0), (.bool false), (.int .u64 0), (.int .u64 0)] [], none⟩,
    ⟨none, .store 10 (.tmp 2) (.tmp 34), none⟩,
    ⟨(some 3), .mv (.const (.string ⟨⟨[]⟩⟩)), none⟩,
    ⟨(some 4), .mv (.const (.int .i64 2)), none⟩]
def k100_7 : VC := .seq k100_6 .ret
def k100_8 : VC := .cond (.tmp 33) k100_7 .skip
def k100_9 : VC := .seq k100_5 k100_8
def k100_10 : VC := .reg [⟨(some 35), .mv (.tmp 6), none⟩,
    ⟨(some 36), .bin .shr (.tmp 35) (.const (.int .u64 28)), none⟩,
    ⟨(some 37), .bin .neq (.tmp 36) (.const (.int .i64 6)), none⟩]
def k100_11 : VC := .reg [⟨(some 38), .build [(.int .i64 0), (.int .i64 0), (.int .i64 0), (.int .i64 0), (.bool false), (.int .u64 0), (.int .u64 0), (.bool false), (.int .u64 0), (.int .u64 0)] [], none⟩,
    ⟨none, .store 10 (.tmp 2) (.tmp 38), none⟩,
    ⟨(some 3), .mv (.const (.string ⟨⟨[]⟩⟩)), none⟩,
    ⟨(some 4), .mv (.const (.int .i64 3)), none⟩]
def k100_12 : VC := .seq k100_11 .ret
def k100_13 : VC := .cond (.tmp 37) k100_12 .skip
def k100_14 : VC := .seq k100_10 k100_13
def k100_15 : VC := .reg [⟨(some 40), .mv (.tmp 9), none⟩,
    ⟨(some 41), .callF 117 [(.tmp 40)], none⟩,
    ⟨(some 39), .mv (.tmp 41), none⟩,
    ⟨(some 42), .extract 0 (.tmp 39), none⟩,
    ⟨(some 43), .extract 1 (.tmp 39), none⟩,
    ⟨(some 44), .fieldA 4 (.tmp 8), none⟩,
    ⟨none, .store 3 (.tmp 44) (.tmp 42), none⟩]
def k100_16 : VC := .reg [⟨(some 46), .mv (.tmp 10), none⟩,
    ⟨(some 47), .callF 117 [(.tmp 46)], none⟩,
    ⟨(some 45), .mv (.tmp 47), none⟩,
    ⟨(some 48), .extract 0 (.tmp 45), none⟩,
    ⟨(some 49), .extract 1 (.tmp 45), none⟩,
    ⟨(some 50), .fieldA 7 (.tmp 8), none⟩,
    ⟨none, .store 3 (.tmp 50) (.tmp 48), none⟩]
def k100_17 : VC := .reg [⟨(some 51), .mv (.tmp 5), none⟩,
    ⟨(some 52), .mv (.tmp 7), none⟩,
    ⟨(some 53), .callF 106 [(.tmp 51), (.tmp 52)], none⟩,
    ⟨(some 11), .mv (.tmp 53), none⟩]
def k100_18 : VC := .reg [⟨(some 54), .mv (.tmp 5), none⟩,
    ⟨(some 55), .callF 105 [(.tmp 54)], none⟩]
def k100_19 : VC := .reg [⟨(some 56), .build [(.int .i64 0), (.int .i64 0), (.int .i64 0), (.int .i64 0), (.bool false), (.int .u64 0), (.int .u64 0), (.bool false), (.int .u64 0), (.int .u64 0)] [], none⟩,
    ⟨none, .store 10 (.tmp 2) (.tmp 56), none⟩,
    ⟨(some 3), .mv (.const (.string ⟨⟨[]⟩⟩)), none⟩,
    ⟨(some 4), .mv (.const (.int .i64 2)), none⟩]
def k100_20 : VC := .seq k100_19 .ret
def k100_21 : VC := .cond (.tmp 55) k100_20 .skip
def k100_22 : VC := .seq k100_18 k100_21
def k100_23 : VC := .reg [⟨(some 57), .loadN [(.int .i64), (.int .i64), (.int .i64), (.int .i64), .bool, (.int .u64), (.int .u64), .bool, (.int .u64), (.int .u64)] (.tmp 8), none⟩,
    ⟨(some 58), .mv (.tmp 11), none⟩,
    ⟨none, .store 10 (.tmp 2) (.tmp 57), none⟩,
    ⟨(some 3), .mv (.tmp 58), none⟩,
    ⟨(some 4), .mv (.const (.int .i64 0)), none⟩]
def k100_24 : VC := .seq k100_23 .ret
def k100_25 : VC := .seq k100_22 k100_24
def k100_26 : VC := .seq k100_17 k100_25
def k100_27 : VC := .seq k100_16 k100_26
def k100_28 : VC := .seq k100_15 k100_27
def k100_29 : VC := .seq k100_14 k100_28
def k100_30 : VC := .seq k100_9 k100_29
def k100_31 : VC := .seq k100_4 k100_30
def k100_32 : VC := .seq k100_3 k100_31
def k100_33 : VC := .seq k100_2 k100_32
def k100_34 : VC := .seq k100_1 k100_33
def k100_35 : VC := .seq k100_0 k100_34
def fn100 : VFn := ⟨59, k100_35, [.cell 2 [(.int .i64), (.int .i64), (.int .i64), (.int .i64), .bool, (.int .u64), (.int .u64), .bool, (.int .u64), (.int .u64)] true, .tmp 3, .tmp 4]⟩
def k54_0 : VC := .reg [⟨(some 2), .box (.tmp 0), none⟩,
    ⟨(some 4), .mv (.const (.int .i64 0)), none⟩,
    ⟨(some 5), .mv (.const (.int .i64 0)), none⟩]
def k54_1 : VC := .reg [⟨(some 13), .fieldA 7 (.tmp 2), none⟩,
    ⟨(some 14), .load1 .str (.tmp 13), none⟩,
    ⟨(some 15), .fieldA 0 (.tmp 2), none⟩,
    ⟨(some 16), .loadN [.bool, (.int .u64), (.int .u64)] (.tmp 15), none⟩,
    ⟨(some 17), .fieldA 3 (.tmp 2), none⟩,
    ⟨(some 18), .loadN [.bool, (.int .u64), (.int .u64)] (.tmp 17), none⟩,
    ⟨(some 19), .callF 81 [(.tmp 14), (.tmp 16), (.tmp 18)], none⟩,
    ⟨(some 12), .mv (.tmp 19), none⟩,
    ⟨(some 20), .extract 0 (.tmp 12), none⟩,
    ⟨(some 21), .extract 1 (.tmp 12), none⟩,
    ⟨(some 22), .extract 2 (.tmp 12), none⟩,
    ⟨(some 6), .alloc [(.int .i64 0), (.int .i64 0), (.int .u32 0), (.int .u32 0), (.int .i64 0), (.int .i64 0), (.int .i64 0), (.string ⟨⟨[]⟩⟩)], none⟩,
    ⟨none, .store 8 (.tmp 6) (.tmp 20), none⟩,
    ⟨(some 7), .mv (.tmp 21), none⟩,
    ⟨(some 8), .mv (.tmp 22), none⟩]
def k54_2 : VC := .reg [⟨(some 23), .mv (.tmp 8), none⟩,
    ⟨(some 24), .bin .neq (.tmp 23) (.const (.int .i64 0)), none⟩]
def k54_3 : VC := .reg [⟨(some 25), .mv (.tmp 8), none⟩,
    ⟨(some 4), .mv (.const (.int .i64 0)), none⟩,
    ⟨(some 5), .mv (.tmp 25), none⟩]
def k54_4 : VC := .seq k54_3 .ret
def k54_5 : VC := .cond (.tmp 24) k54_4 .skip
def k54_6 : VC := .seq k54_2 k54_5
def k54_7 : VC := .regD [⟨(some 26), .mv (.tmp 1), none⟩,
    ⟨(some 27), .mv (.tmp 1), none⟩,
    ⟨(some 28), .mv (.tmp 1), none⟩,
    ⟨(some 29), .fieldA 0 (.tmp 6), none⟩,
    ⟨(some 30), .load1 (.int .i64) (.tmp 29), none⟩,
    ⟨(some 31), .fieldA 1 (.tmp 6), none⟩,
    ⟨(some 32), .load1 (.int .i64) (.tmp 31), none⟩,
    ⟨(some 33), .fieldA 4 (.tmp 6), none⟩,
    ⟨(some 34), .load1 (.int .i64) (.tmp 33), none⟩,
    ⟨(some 35), .nilCheck (.tmp 26), none⟩,
    ⟨(some 36), .fieldA 0 (.tmp 35), none⟩,
    ⟨(some 37), .fieldA 7 (.tmp 36), none⟩,
    ⟨none, .store 1 (.tmp 37) (.tmp 30), none⟩,
    ⟨(some 38), .nilCheck (.tmp 27), none⟩,
    ⟨(some 39), .fieldA 0 (.tmp 38), none⟩,
    ⟨(some 40), .fieldA 8 (.tmp 39), none⟩,
    ⟨none, .store 1 (.tmp 40) (.tmp 32), none⟩] [(6, 12), (8, 12), (8, 16)] [⟨(some 41), .nilCheck (.tmp 28), none⟩,
    ⟨(some 42), .fieldA 9 (.tmp 41), none⟩,
    ⟨none, .store 1 (.tmp 42) (.tmp 34), none⟩]
def k54_8 : VC := .reg [⟨(some 44), .fieldA 7 (.tmp 6), none⟩,
    ⟨(some 45), .load1 .str (.tmp 44), none⟩,
    ⟨(some 46), .callF 64 [(.tmp 45)], none⟩,
    ⟨(some 43), .mv (.tmp 46), none⟩,
    ⟨(some 47), .extract 0 (.tmp 43), none⟩,
    ⟨(some 48), .extract 1 (.tmp 43), none⟩,
    ⟨(some 49), .extract 2 (.tmp 43), none⟩,
    ⟨(some 9), .mv (.tmp 47), none⟩,
    ⟨(some 10), .mv (.tmp 48), none⟩,
    ⟨(some 11), .mv (.tmp 49), none⟩]
def k54_9 : VC := .reg [⟨(some 50), .mv (.tmp 11), none⟩,
    ⟨(some 51), .bin .geq (.tmp 50) (.const (.int .i64 0)), none⟩]
def k54_10 : VC := .reg [⟨(some 52), .mv (.tmp 1), none⟩,
    ⟨(some 53), .mv (.tmp 1), none⟩,
    ⟨(some 54), .mv (.tmp 1), none⟩,
    ⟨(some 55), .mv (.tmp 9), none⟩,
    ⟨(some 56), .mv (.tmp 10), none⟩,
    ⟨(some 57), .nilCheck (.tmp 52), none⟩,
    ⟨(some 58), .fieldA 10 (.tmp 57), none⟩,
    ⟨none, .store 1 (.tmp 58) (.const (.bool true)), none⟩,
    ⟨(some 59), .nilCheck (.tmp 53), none⟩,
    ⟨(some 60), .fieldA 11 (.tmp 59), none⟩,
    ⟨none, .store 1 (.tmp 60) (.tmp 55), none⟩,
    ⟨(some 61), .nilCheck (.tmp 54), none⟩,
    ⟨(some 62), .fieldA 12 (.tmp 61), none⟩,
    ⟨none, .store 1 (.tmp 62) (.tmp 56), none⟩]
def k54_11 : VC := .cond (.tmp 51) k54_10 .skip
def k54_12 : VC := .seq k54_9 k54_11
def k54_13 : VC := .seq k54_8 k54_12
def k54_14 : VC := .reg [⟨(some 63), .mv (.tmp 7), none⟩,
    ⟨(some 64), .lenS (.tmp 63), none⟩,
    ⟨(some 4), .mv (.tmp 64), none⟩,
    ⟨(some 5), .mv (.const (.int .i64 0)), none⟩]
def k54_15 : VC := .seq k54_14 .ret
def k54_16 : VC := .seq k54_13 k54_15
def k54_17 : VC := .seq k54_7 k54_16
def k54_18 : VC := .seq k54_6 k54_17
def k54_19 : VC := .seq k54_1 k54_18
def k54_20 : VC := .seq k54_0 k54_19
def fn54 : VFn := ⟨65, k54_20, [.tmp 4, .tmp 5]⟩
def k81_0 : VC := .reg [⟨(some 4), .box (.tmp 1), none⟩,
    ⟨(some 5), .box (.tmp 2), none⟩,
    ⟨(some 6), .alloc [(.int .i64 0), (.int .i64 0), (.int .u32 0), (.int .u32 0), (.int .i64 0), (.int .i64 0), (.int .i64 0), (.string ⟨⟨[]⟩⟩)], none⟩,
    ⟨(some 7), .mv (.const (.string ⟨⟨[]⟩⟩)), none⟩,
    ⟨(some 8), .mv (.const (.int .i64 0)), none⟩]
def k81_1 : VC := .reg [⟨(some 16), .mv (.tmp 0), none⟩,
    ⟨(some 17), .lenS (.tmp 16), none⟩,
    ⟨(some 18), .bin .lss (.tmp 17) (.const (.int .i64 20)), none⟩]
def k81_2 : VC := .reg [⟨(some 19), .build [(.int .i64 0), (.int .i64 0), (.int .u32 0), (.int .u32 0), (.int .i64 0), (.int .i64 0), (.int .i64 0), (.string ⟨⟨[]⟩⟩)] [], none⟩,
    ⟨none, .store 8 (.tmp 6) (.tmp 19), none⟩,
    ⟨(some 7), .mv (.const (.string ⟨⟨[]⟩⟩)), none⟩,
    ⟨(some 8), .mv (.const (.int .i64 2)), none⟩]
def k81_3 : VC := .seq k81_2 .ret
def k81_4 : VC := .cond (.tmp 18) k81_3 .skip
def k81_5 : VC := .seq k81_1 k81_4
def k81_6 : VC := .regD [⟨(some 20), .mv (.tmp 0), none⟩,
    ⟨(some 21), .idxS (.tmp 20) (.const (.int .i64 12)), none⟩,
    ⟨(some 22), .bin .shr (.tmp 21) (.const (.int .u64 4)), none⟩,
    ⟨(some 23), .conv .i64 (.tmp 22), none⟩,
    ⟨(some 24), .mv (.tmp 0), none⟩,
    ⟨(some 25), .idxS (.tmp 24) (.const (.int .i64 12)), none⟩,
    ⟨(some 26), .bin .and (.tmp 25) (.const (.int .u8 15)), none⟩,
    ⟨(some 9), .mv (.tmp 23), none⟩] [] [⟨(some 10), .mv (.tmp 26), none⟩]
def k81_7 : VC := .reg [⟨(some 27), .mv (.tmp 9), none⟩,
    ⟨(some 28), .bin .mul (.const (.int .i64 4)) (.tmp 27), none⟩,
    ⟨(some 11), .mv (.tmp 28), none⟩]
def k81_8 : VC := .reg [⟨(some 30), .mv (.tmp 11), none⟩,
    ⟨(some 31), .bin .lss (.tmp 30) (.const (.int .i64 20)), none⟩,
    ⟨(some 32), .mv (.tmp 31), none⟩,
    ⟨(some 33), .mv (.tmp 10), (some (32, false))⟩,
    ⟨(some 34), .bin .neq (.tmp 33) (.const (.int .u8 0)), (some (32, false))⟩,
    ⟨(some 35), .pick (.tmp 32) (.const (.bool true)) (.tmp 34), none⟩,
    ⟨(some 29), .mv (.tmp 35), none⟩]
def k81_9 : VC := .reg [⟨(some 36), .build [(.int .i64 0), (.int .i64 0), (.int .u32 0), (.int .u32 0), (.int .i64 0), (.int .i64 0), (.int .i64 0), (.string ⟨⟨[]⟩⟩)] [], none⟩,
    ⟨none, .store 8 (.tmp 6) (.tmp 36), none⟩,
    ⟨(some 7), .mv (.const (.string ⟨⟨[]⟩⟩)), none⟩,
    ⟨(some 8), .mv (.const (.int .i64 3)), none⟩]
def k81_10 : VC := .seq k81_9 .ret
def k81_11 : VC := .reg [⟨(some 38), .mv (.tmp 11), none⟩,
    ⟨(some 39), .mv (.tmp 0), none⟩,
    ⟨(some 40), .lenS (.tmp 39), none⟩,
    ⟨(some 41), .bin .gtr (.tmp 38) (.tmp 40), none⟩,
    ⟨(some 37), .mv (.tmp 41), none⟩]
def k81_12 : VC := .reg [⟨(some 42), .build [(.int .i64 0), (.int .i64 0), (.int .u32 0), (.int .u32 0), (.int .i64 0), (.int .i64 0), (.int .i64 0), (.string ⟨⟨[]⟩⟩)] [], none⟩,
    ⟨none, .store 8 (.tmp 6) (.tmp 42), none⟩,
    ⟨(some 7), .mv (.const (.string ⟨⟨[]⟩⟩)), none⟩,
    ⟨(some 8), .mv (.const (.int .i64 2)), none⟩]
def k81_13 : VC := .seq k81_12 .ret
def k81_14 : VC := .cond (.tmp 37) k81_13 .skip
def k81_15 : VC := .seq k81_11 k81_14
def k81_16 : VC := .cond (.tmp 29) k81_10 k81_15
def k81_17 : VC := .seq k81_8 k81_16
def k81_18 : VC := .block 0 k81_17
def k81_19 : VC := .reg [⟨(some 43), .loadN [.bool, (.int .u64), (.int .u64)] (.tmp 4), none⟩,
    ⟨(some 44), .loadN [.bool, (.int .u64), (.int .u64)] (.tmp 5), none⟩,
    ⟨(some 45), .mv (.tmp 0), none⟩,
    ⟨(some 46), .lenS (.tmp 45), none⟩,
    ⟨(some 47), .callF 46 [(.tmp 43), (.tmp 44), (.const (.int .i64 6)), (.tmp 46)], none⟩,
    ⟨(some 12), .mv (.tmp 47), none⟩]
def k81_20 : VC := .reg [⟨(some 49), .mv (.tmp 12), none⟩,
    ⟨(some 50), .bin .eql (.tmp 49) (.const (.string ⟨⟨[]⟩⟩)), none⟩,
    ⟨(some 48), .mv (.tmp 50), none⟩]
def k81_21 : VC := .reg [⟨(some 51), .build [(.int .i64 0), (.int .i64 0), (.int .u32 0), (.int .u32 0), (.int .i64 0), (.int .i64 0), (.int .i64 0), (.string ⟨⟨[]⟩⟩)] [], none⟩,
    ⟨none, .store 8 (.tmp 6) (.tmp 51), none⟩,
    ⟨(some 7), .mv (.const (.string ⟨⟨[]⟩⟩)), none⟩,
    ⟨(some 8), .mv (.const (.int .i64 1)), none⟩]
def k81_22 : VC := .seq k81_21 .ret
def k81_23 : VC := .reg [⟨(some 53), .mv (.tmp 12), none⟩,
    ⟨(some 54), .mv (.tmp 0), none⟩,
    ⟨(some 55), .bin .add (.tmp 53) (.tmp 54), none⟩,
    ⟨(some 56), .callF 101 [(.tmp 55)], none⟩,
    ⟨(some 57), .not (.tmp 56), none⟩,
    ⟨(some 52), .mv (.tmp 57), none⟩]
def k81_24 : VC := .reg [⟨(some 58), .build [(.int .i64 0), (.int .i64 0), (.int .u32 0), (.int .u32 0), (.int .i64 0), (.int .i64 0), (.int .i64 0), (.string ⟨⟨[]⟩⟩)] [], none⟩,
    ⟨none, .store 8 (.tmp 6) (.tmp 58), none⟩,
    ⟨(some 7), .mv (.const (.string ⟨⟨[]⟩⟩)), none⟩,
    ⟨(some 8), .mv (.const (.int .i64 4)), none⟩]
def k81_25 : VC := .seq k81_24 .ret
def k81_26 : VC := .cond (.tmp 52) k81_25 .skip
def k81_27 : VC := .seq k81_23 k81_26
def k81_28 : VC := .cond (.tmp 48) k81_22 k81_27
def k81_29 : VC := .seq k81_20 k81_28
def k81_30 : VC := .block 1 k81_29
def k81_31 : VC := .reg [⟨(some 59), .mv (.tmp 0), none⟩,
    ⟨(some 60), .mv (.tmp 11), none⟩,
    ⟨(some 61), .callF 102 [(.tmp 59), (.tmp 60)], none⟩,
    ⟨(some 13), .alloc [(.int .i64 0), (.int .i64 0), (.int .u32 0), (.int .u32 0), (.int .i64 0), (.int .i64 0), (.int .i64 0), (.string ⟨⟨[]⟩⟩)], none⟩,
    ⟨none, .store 8 (.tmp 13) (.tmp 61), none⟩]
def k81_32 : VC := .reg [⟨(some 63), .fieldA 7 (.tmp 13), none⟩,
    ⟨(some 64), .load1 .str (.tmp 63), none⟩,
    ⟨(some 65), .callF 91 [(.tmp 64)], none⟩,
    ⟨(some 62), .mv (.tmp 65), none⟩,
    ⟨(some 66), .extract 0 (.tmp 62), none⟩,
    ⟨(some 67), .extract 1 (.tmp 62), none⟩,
    ⟨(some 14), .mv (.tmp 66), none⟩,
    ⟨(some 15), .mv (.tmp 67), none⟩]
def k81_33 : VC := .reg [⟨(some 68), .mv (.tmp 15), none⟩,
    ⟨(some 69), .bin .neq (.tmp 68) (.const (.int .i64 0)), none⟩]
def k81_34 : VC := .reg [⟨(some 70), .build [(.int .i64 0), (.int .i64 0), (.int .u32 0), (.int .u32 0), (.int .i64 0), (.int .i64 0), (.int .i64 0), (.string ⟨⟨[]⟩⟩)] [], none⟩,
    ⟨(some 71), .mv (.tmp 15), none⟩,
    ⟨none, .store 8 (.tmp 6) (.tmp 70), none⟩,
    ⟨(some 7), .mv (.const (.string ⟨⟨[]⟩⟩)), none⟩,
    ⟨(some 8), .mv (.tmp 71), none⟩]
def k81_35 : VC := .seq k81_34 .ret
def k81_36 : VC := .cond (.tmp 69) k81_35 .skip
def k81_37 : VC := .seq k81_33 k81_36
def k81_38 : VC := .seq k81_32 k81_37
def k81_39 : VC := .regD [⟨(some 72), .loadN [(.int .i64), (.int .i64), (.int .u32), (.int .u32), (.int .i64), (.int .i64), (.int .i64), .str] (.tmp 13), none⟩,
    ⟨(some 73), .mv (.tmp 0), none⟩,
    ⟨(some 74), .mv (.tmp 11), none⟩,
    ⟨(some 75), .sliceS (.tmp 73) (some (.tmp 74)) none, none⟩,
    ⟨none, .store 8 (.tmp 6) (.tmp 72), none⟩] [] [⟨(some 7), .mv (.tmp 75), none⟩,
    ⟨(some 8), .mv (.const (.int .i64 0)), none⟩]
def k81_40 : VC := .seq k81_39 .ret
def k81_41 : VC := .seq k81_38 k81_40
def k81_42 : VC := .seq k81_31 k81_41
def k81_43 : VC := .seq k81_30 k81_42
def k81_44 : VC := .seq k81_19 k81_43
def k81_45 : VC := .seq k81_18 k81_44
def k81_46 : VC := .seq k81_7 k81_45
def k81_47 : VC := .seq k81_6 k81_46
def k81_48 : VC := .seq k81_5 k81_47
def k81_49 : VC := .seq k81_0 k81_48
def fn81 : VFn := ⟨76, k81_49, [.cell 6 [(.int .i64), (.int .i64), (.int .u32), (.int .u32), (.int .i64), (.int .i64), (.int .i64), .str] true, .tmp 7, .tmp 8]⟩
def k46_0 : VC := .reg [⟨(some 4), .box (.tmp 0), none⟩,
    ⟨(some 5), .box (.tmp 1), none⟩,
    ⟨(some 8), .mv (.const (.string ⟨⟨[]⟩⟩)), none⟩]
def k46_1 : VC := .reg [⟨(some 10), .loadN [.bool, (.int .u64), (.int .u64)] (.tmp 4), none⟩,
    ⟨(some 11), .callF 50 [(.tmp 10)], none⟩,
    ⟨(some 12), .not (.tmp 11), none⟩,
    ⟨(some 13), .mv (.tmp 12), none⟩,
    ⟨(some 14), .loadN [.bool, (.int .u64), (.int .u64)] (.tmp 5), (some (13, false))⟩,
    ⟨(some 15), .callF 50 [(.tmp 14)], (some (13, false))⟩,
    ⟨(some 16), .not (.tmp 15), (some (13, false))⟩,
    ⟨(some 17), .pick (.tmp 13) (.const (.bool true)) (.tmp 16), none⟩,
    ⟨(some 18), .mv (.tmp 17), none⟩,
    ⟨(some 19), .fieldA 0 (.tmp 4), (some (18, false))⟩,
    ⟨(some 20), .load1 .bool (.tmp 19), (some (18, false))⟩,
    ⟨(some 21), .fieldA 0 (.tmp 5), (some (18, false))⟩,
    ⟨(some 22), .load1 .bool (.tmp 21), (some (18, false))⟩,
    ⟨(some 23), .eqB true (.tmp 20) (.tmp 22), (some (18, false))⟩,
    ⟨(some 24), .pick (.tmp 18) (.const (.bool true)) (.tmp 23), none⟩]
def k46_2 : VC := .reg [⟨(some 8), .mv (.const (.string ⟨⟨[]⟩⟩)), none⟩]
def k46_3 : VC := .seq k46_2 .ret
def k46_4 : VC := .cond (.tmp 24) k46_3 .skip
def k46_5 : VC := .seq k46_1 k46_4
def k46_6 : VC := .regD [⟨(some 25), .loadN [.bool, (.int .u64), (.int .u64)] (.tmp 4), none⟩,
    ⟨(some 26), .callF 74 [(.tmp 25)], none⟩,
    ⟨(some 27), .loadN [.bool, (.int .u64), (.int .u64)] (.tmp 5), none⟩] [(1, 2)] [⟨(some 28), .callF 74 [(.tmp 27)], none⟩,
    ⟨(some 29), .bin .add (.tmp 26) (.tmp 28), none⟩,
    ⟨(some 9), .mv (.tmp 29), none⟩]
def k46_7 : VC := .reg [⟨(some 30), .fieldA 0 (.tmp 4), none⟩,
    ⟨(some 31), .load1 .bool (.tmp 30), none⟩]
def k46_8 : VC := .reg [⟨(some 32), .mv (.tmp 9), none⟩,
    ⟨(some 33), .mv (.tmp 3), none⟩,
    ⟨(some 34), .mv (.tmp 2), none⟩,
    ⟨(some 35), .buildSl 6 1 [(.int .i64 0), (.int .i64 0), (.int .i64 0), (.int .i64 0), (.int .i64 0), (.int .i64 0)] [(0, 1, (.tmp 33)), (1, 1, (.const (.int .i64 4))), (2, 1, (.const (.int .i64 0))), (3, 1, (.const (.int .i64 3))), (4, 1, (.tmp 34)), (5, 1, (.const (.int .i64 1)))], none⟩,
    ⟨(some 36), .callF 75 [(.tmp 35)], none⟩,
    ⟨(some 37), .bin .add (.tmp 32) (.tmp 36), none⟩,
    ⟨(some 8), .mv (.tmp 37), none⟩]
def k46_9 : VC := .seq k46_8 .ret
def k46_10 : VC := .cond (.tmp 31) k46_9 .skip
def k46_11 : VC := .seq k46_7 k46_10
def k46_12 : VC := .reg [⟨(some 38), .mv (.tmp 9), none⟩,
    ⟨(some 39), .mv (.tmp 2), none⟩,
    ⟨(some 40), .mv (.tmp 3), none⟩,
    ⟨(some 41), .buildSl 6 1 [(.int .i64 0), (.int .i64 0), (.int .i64 0), (.int .i64 0), (.int .i64 0), (.int .i64 0)] [(0, 1, (.const (.int .i64 0))), (1, 1, (.const (.int .i64 1))), (2, 1, (.tmp 39)), (3, 1, (.const (.int .i64 1))), (4, 1, (.tmp 40)), (5, 1, (.const (.int .i64 2)))], none⟩,
    ⟨(some 42), .callF 75 [(.tmp 41)], none⟩,
    ⟨(some 43), .bin .add (.tmp 38) (.tmp 42), none⟩,
    ⟨(some 8), .mv (.tmp 43), none⟩]
def k46_13 : VC := .seq k46_12 .ret
def k46_14 : VC := .seq k46_11 k46_13
def k46_15 : VC := .seq k46_6 k46_14
def k46_16 : VC := .seq k46_5 k46_15
def k46_17 : VC := .seq k46_0 k46_16
def fn46 : VFn := ⟨44, k46_17, [.tmp 8]⟩
def k50_0 : VC := .reg [⟨(some 1), .box (.tmp 0), none⟩,
    ⟨(some 2), .mv (.const (.bool false)), none⟩]
def k50_1 : VC := .reg [⟨(some 3), .fieldA 0 (.tmp 1), none⟩,
    ⟨(some 4), .load1 .bool (.tmp 3), none⟩,
    ⟨(some 5), .mv (.tmp 4), none⟩,
    ⟨(some 6), .fieldA 1 (.tmp 1), (some (5, false))⟩,
    ⟨(some 7), .load1 (.int .u64) (.tmp 6), (some (5, false))⟩,
    ⟨(some 8), .bin .eql (.tmp 7) (.const (.int .u64 0)), (some (5, false))⟩,
    ⟨(some 9), .mv (.tmp 8), (some (5, false))⟩,
    ⟨(some 10), .fieldA 2 (.tmp 1), (some (9, true))⟩,
    ⟨(some 11), .load1 (.int .u64) (.tmp 10), (some (9, true))⟩,
    ⟨(some 12), .bin .lss (.tmp 11) (.const (.int .u64 4294967296)), (some (9, true))⟩,
    ⟨(some 13), .pick (.tmp 9) (.tmp 12) (.const (.bool false)), (some (5, false))⟩,
    ⟨(some 14), .pick (.tmp 5) (.const (.bool true)) (.tmp 13), none⟩,
    ⟨(some 2), .mv (.tmp 14), none⟩]
def k50_2 : VC := .seq k50_1 .ret
def k50_3 : VC := .seq k50_0 k50_2
def fn50 : VFn := ⟨15, k50_3, [.tmp 2]⟩
def k74_0 : VC := .reg [⟨(some 1), .box (.tmp 0), none⟩,
    ⟨(some 2), .mv (.const (.string ⟨⟨[]⟩⟩)), none⟩]
def k74_1 : VC := .reg [⟨(some 4), .loadN [.bool, (.int .u64), (.int .u64)] (.tmp 1), none⟩,
    ⟨(some 5), .callF 50 [(.tmp 4)], none⟩,
    ⟨(some 6), .not (.tmp 5), none⟩,
    ⟨(some 3), .mv (.tmp 6), none⟩]
def k74_2 : VC := .reg [⟨(some 2), .mv (.const (.string ⟨⟨[]⟩⟩)), none⟩]
def k74_3 : VC := .seq k74_2 .ret
def k74_4 : VC := .reg [⟨(some 8), .fieldA 0 (.tmp 1), none⟩,
    ⟨(some 9), .load1 .bool (.tmp 8), none⟩,
    ⟨(some 7), .mv (.tmp 9), none⟩]
def k74_5 : VC := .regD [⟨(some 10), .fieldA 1 (.tmp 1), none⟩,
    ⟨(some 11), .load1 (.int .u64) (.tmp 10), none⟩,
    ⟨(some 12), .callF 44 [(.tmp 11), (.const (.int .i64 8))], none⟩,
    ⟨(some 13), .fieldA 2 (.tmp 1), none⟩,
    ⟨(some 14), .load1 (.int .u64) (.tmp 13), none⟩] [(2, 4)] [⟨(some 15), .callF 44 [(.tmp 14), (.const (.int .i64 8))], none⟩,
    ⟨(some 16), .bin .add (.tmp 12) (.tmp 15), none⟩,
    ⟨(some 2), .mv (.tmp 16), none⟩]
def k74_6 : VC := .seq k74_5 .ret
def k74_7 : VC := .cond (.tmp 7) k74_6 .skip
def k74_8 : VC := .seq k74_4 k74_7
def k74_9 : VC := .cond (.tmp 3) k74_3 k74_8
def k74_10 : VC := .seq k74_1 k74_9
def k74_11 : VC := .block 0 k74_10
def k74_12 : VC := .reg [⟨(some 17), .fieldA 2 (.tmp 1), none⟩,
    ⟨(some 18), .load1 (.int .u64) (.tmp 17), none⟩,
    ⟨(some 19), .callF 44 [(.tmp 18), (.const (.int .i64 4))], none⟩,
    ⟨(some 2), .mv (.tmp 19), none⟩]
def k74_13 : VC := .seq k74_12 .ret
def k74_14 : VC := .seq k74_11 k74_13
def k74_15 : VC := .seq k74_0 k74_14
def fn74 : VFn := ⟨20, k74_15, [.tmp 2]⟩
def k44_0 : VC := .reg [⟨(some 4), .mv (.const (.string ⟨⟨[]⟩⟩)), none⟩]
def k44_1 : VC := .reg [⟨(some 7), .mv (.tmp 1), none⟩,
    ⟨(some 8), .bin .lss (.tmp 7) (.const (.int .i64 1)), none⟩,
    ⟨(some 9), .mv (.tmp 8), none⟩,
    ⟨(some 10), .mv (.tmp 1), (some (9, false))⟩,
    ⟨(some 11), .bin .gtr (.tmp 10) (.const (.int .i64 8)), (some (9, false))⟩,
    ⟨(some 12), .pick (.tmp 9) (.const (.bool true)) (.tmp 11), none⟩]
def k44_2 : VC := .reg [⟨(some 4), .mv (.const (.string ⟨⟨[]⟩⟩)), none⟩]
def k44_3 : VC := .seq k44_2 .ret
def k44_4 : VC := .cond (.tmp 12) k44_3 .skip
def k44_5 : VC := .seq k44_1 k44_4
def k44_6 : VC := .reg [⟨(some 13), .mv (.tmp 1), none⟩,
    ⟨(some 14), .mkSl 1 1 [(.int .u8 0)] (.tmp 13) (.tmp 13), none⟩,
    ⟨(some 5), .mv (.tmp 14), none⟩]
def k44_7 : VC := .reg [⟨(some 15), .mv (.tmp 5), none⟩,
    ⟨(some 16), .lenL (.tmp 15), none⟩,
    ⟨(some 17), .mv (.const (.int .i64 0)), none⟩]
def k44_8 : VC := .reg [⟨(some 18), .bin .lss (.tmp 17) (.tmp 16), none⟩]
def k44_9 : VC := .cond (.tmp 18) .skip (.exit 0)
def k44_10 : VC := .reg [⟨(some 19), .mv (.tmp 17), none⟩,
    ⟨(some 6), .mv (.tmp 19), none⟩]
def k44_11 : VC := .reg [⟨(some 20), .mv (.tmp 5), none⟩,
    ⟨(some 21), .mv (.tmp 6), none⟩,
    ⟨(some 22), .mv (.tmp 0), none⟩,
    ⟨(some 23), .mv (.tmp 1), none⟩,
    ⟨(some 24), .bin .sub (.tmp 23) (.const (.int .i64 1)), none⟩,
    ⟨(some 25), .mv (.tmp 6), none⟩,
    ⟨(some 26), .bin .sub (.tmp 24) (.tmp 25), none⟩,
    ⟨(some 27), .bin .mul (.const (.int .i64 8)) (.tmp 26), none⟩,
    ⟨(some 28), .bin .shr (.tmp 22) (.tmp 27), none⟩,
    ⟨(some 29), .conv .u8 (.tmp 28), none⟩,
    ⟨(some 30), .idxAL 1 (.tmp 20) (.tmp 21), none⟩,
    ⟨none, .store 1 (.tmp 30) (.tmp 29), none⟩]
def k44_12 : VC := .seq k44_10 k44_11
def k44_13 : VC := .block 1 k44_12
def k44_14 : VC := .reg [⟨(some 31), .bin .add (.tmp 17) (.const (.int .i64 1)), none⟩,
    ⟨(some 17), .mv (.tmp 31), none⟩]
def k44_15 : VC := .seq k44_13 k44_14
def k44_16 : VC := .seq k44_9 k44_15
def k44_17 : VC := .seq k44_8 k44_16
def k44_18 : VC := .loop k44_17
def k44_19 : VC := .block 0 k44_18
def k44_20 : VC := .seq k44_7 k44_19
def k44_21 : VC := .reg [⟨(some 32), .mv (.tmp 5), none⟩,
    ⟨(some 33), .b2s (.tmp 32), none⟩,
    ⟨(some 4), .mv (.tmp 33), none⟩]
def k44_22 : VC := .seq k44_21 .ret
def k44_23 : VC := .seq k44_20 k44_22
def k44_24 : VC := .seq k44_6 k44_23
def k44_25 : VC := .seq k44_5 k44_24
def k44_26 : VC := .seq k44_0 k44_25
def fn44 : VFn := ⟨34, k44_26, [.tmp 4]⟩
def k75_0 : VC := .reg [⟨(some 2), .mv (.const (.string ⟨⟨[]⟩⟩)), none⟩]
def k75_1 : VC := .reg [⟨(some 3), .allocB 103 5, none⟩]
def k75_2 : VC := .reg [⟨(some 4), .mv (.const (.int .i64 0)), none⟩]
def k75_3 : VC := .reg [⟨(some 5), .mv (.tmp 4), none⟩,
    ⟨(some 6), .bin .add (.tmp 5) (.const (.int .i64 1)), none⟩,
    ⟨(some 7), .mv (.tmp 0), none⟩,
    ⟨(some 8), .lenL (.tmp 7), none⟩,
    ⟨(some 9), .bin .lss (.tmp 6) (.tmp 8), none⟩]
def k75_4 : VC := .cond (.tmp 9) .skip (.exit 0)
def k75_5 : VC := .seq k75_3 k75_4
def k75_6 : VC := .regD [⟨(some 12), .mv (.tmp 0), none⟩,
    ⟨(some 13), .mv (.tmp 4), none⟩,
    ⟨(some 14), .idxAL 1 (.tmp 12) (.tmp 13), none⟩,
    ⟨(some 15), .load1 (.int .i64) (.tmp 14), none⟩,
    ⟨(some 16), .conv .u64 (.tmp 15), none⟩,
    ⟨(some 17), .mv (.tmp 0), none⟩,
    ⟨(some 18), .mv (.tmp 4), none⟩,
    ⟨(some 19), .bin .add (.tmp 18) (.const (.int .i64 1)), none⟩,
    ⟨(some 20), .idxAL 1 (.tmp 17) (.tmp 19), none⟩,
    ⟨(some 21), .load1 (.int .i64) (.tmp 20), none⟩] [] [⟨(some 22), .callF 44 [(.tmp 16), (.tmp 21)], none⟩,
    ⟨(some 23), .callF 57 [(.tmp 3), (.tmp 22)], none⟩]
def k75_7 : VC := .block 1 k75_6
def k75_8 : VC := .reg [⟨(some 10), .mv (.tmp 4), none⟩,
    ⟨(some 11), .bin .add (.tmp 10) (.const (.int .i64 2)), none⟩,
    ⟨(some 4), .mv (.tmp 11), none⟩]
def k75_9 : VC := .seq k75_7 k75_8
def k75_10 : VC := .seq k75_5 k75_9
def k75_11 : VC := .loop k75_10
def k75_12 : VC := .block 0 k75_11
def k75_13 : VC := .seq k75_2 k75_12
def k75_14 : VC := .reg [⟨(some 24), .callF 58 [(.tmp 3)], none⟩,
    ⟨(some 2), .mv (.tmp 24), none⟩]
def k75_15 : VC := .seq k75_14 .ret
def k75_16 : VC := .seq k75_13 k75_15
def k75_17 : VC := .seq k75_1 k75_16
def k75_18 : VC := .seq k75_0 k75_17
def fn75 : VFn := ⟨25, k75_18, [.tmp 2]⟩
def k57_0 : VC := .reg [⟨(some 4), .mv (.const (.int .i64 0)), none⟩,
    ⟨(some 5), .mv (.const .nilIface), none⟩]
def k57_1 : VC := .reg [⟨(some 6), .mv (.tmp 0), none⟩,
    ⟨(some 7), .callF 84 [(.tmp 6)], none⟩]
def k57_2 : VC := .reg [⟨(some 8), .mv (.tmp 0), none⟩,
    ⟨(some 9), .mv (.tmp 0), none⟩,
    ⟨(some 10), .nilCheck (.tmp 9), none⟩,
    ⟨(some 11), .fieldA 1 (.tmp 10), none⟩,
    ⟨(some 12), .load1 .oth (.tmp 11), none⟩,
    ⟨(some 13), .mv (.tmp 1), none⟩,
    ⟨(some 14), .app 5 1 1 (.tmp 12) (.tmp 13), none⟩,
    ⟨(some 15), .nilCheck (.tmp 8), none⟩,
    ⟨(some 16), .fieldA 1 (.tmp 15), none⟩,
    ⟨none, .store 1 (.tmp 16) (.tmp 14), none⟩]
def k57_3 : VC := .reg [⟨(some 17), .mv (.tmp 1), none⟩,
    ⟨(some 18), .lenS (.tmp 17), none⟩,
    ⟨(some 4), .mv (.tmp 18), none⟩,
    ⟨(some 5), .mv (.const .nilIface), none⟩]
def k57_4 : VC := .seq k57_3 .ret
def k57_5 : VC := .seq k57_2 k57_4
def k57_6 : VC := .seq k57_1 k57_5
def k57_7 : VC := .seq k57_0 k57_6
def fn57 : VFn := ⟨19, k57_7, [.tmp 4, .tmp 5]⟩
def k84_0 : VC := .reg [⟨(some 2), .mv (.tmp 0), none⟩,
    ⟨(some 3), .nilCheck (.tmp 2), none⟩,
    ⟨(some 4), .fieldA 0 (.tmp 3), none⟩,
    ⟨(some 5), .load1 .oth (.tmp 4), none⟩,
    ⟨(some 6), .isNil 0 false (.tmp 5), none⟩]
def k84_1 : VC := .reg [⟨(some 7), .mv (.tmp 0), none⟩,
    ⟨(some 8), .mv (.tmp 0), none⟩,
    ⟨(some 9), .toU (.tmp 8), none⟩,
    ⟨(some 10), .mv (.tmp 9), none⟩,
    ⟨(some 11), .ofU 103 2 (.tmp 10), none⟩,
    ⟨(some 12), .nilCheck (.tmp 7), none⟩,
    ⟨(some 13), .fieldA 0 (.tmp 12), none⟩,
    ⟨none, .store 1 (.tmp 13) (.tmp 11), none⟩]
def k84_2 : VC := .reg [⟨(some 14), .mv (.tmp 0), none⟩,
    ⟨(some 15), .nilCheck (.tmp 14), none⟩,
    ⟨(some 16), .fieldA 0 (.tmp 15), none⟩,
    ⟨(some 17), .load1 .oth (.tmp 16), none⟩,
    ⟨(some 18), .mv (.tmp 0), none⟩,
    ⟨(some 19), .eqP true (.tmp 17) (.tmp 18), none⟩]
def k84_3 : VC := .cond (.tmp 19) .stuck .skip
def k84_4 : VC := .seq k84_2 k84_3
def k84_5 : VC := .cond (.tmp 6) k84_1 k84_4
def k84_6 : VC := .seq k84_0 k84_5
def fn84 : VFn := ⟨20, k84_6, []⟩
def k58_0 : VC := .reg [⟨(some 2), .mv (.const (.string ⟨⟨[]⟩⟩)), none⟩]
def k58_1 : VC := .regD [⟨(some 3), .mv (.tmp 0), none⟩,
    ⟨(some 4), .nilCheck (.tmp 3), none⟩,
    ⟨(some 5), .fieldA 1 (.tmp 4), none⟩,
    ⟨(some 6), .load1 .oth (.tmp 5), none⟩,
    ⟨(some 7), .sdata (.tmp 6), none⟩,
    ⟨(some 8), .mv (.tmp 0), none⟩,
    ⟨(some 9), .nilCheck (.tmp 8), none⟩,
    ⟨(some 10), .fieldA 1 (.tmp 9), none⟩,
    ⟨(some 11), .load1 .oth (.tmp 10), none⟩,
    ⟨(some 12), .lenL (.tmp 11), none⟩] [] [⟨(some 13), .ustr 5 (.tmp 7) (.tmp 12), none⟩,
    ⟨(some 2), .mv (.tmp 13), none⟩]
def k58_2 : VC := .seq k58_1 .ret
def k58_3 : VC := .seq k58_0 k58_2
def fn58 : VFn := ⟨14, k58_3, [.tmp 2]⟩
def k102_0 : VC := .reg [⟨(some 4), .alloc [(.int .i64 0), (.int .i64 0), (.int .u32 0), (.int .u32 0), (.int .i64 0), (.int .i64 0), (.int .i64 0), (.string ⟨⟨[]⟩⟩)], none⟩]
def k102_1 : VC := .reg [⟨(some 7), .mv (.tmp 0), none⟩,
    ⟨(some 8), .callF 103 [(.tmp 7)], none⟩,
    ⟨(some 5), .mv (.tmp 8), none⟩]
def k102_2 : VC := .reg [⟨(some 9), .mv (.tmp 5), none⟩,
    ⟨(some 10), .callF 104 [(.tmp 9), (.const (.int .i64 2))], none⟩,
    ⟨(some 11), .mv (.tmp 5), none⟩,
    ⟨(some 12), .callF 104 [(.tmp 11), (.const (.int .i64 2))], none⟩,
    ⟨(some 13), .mv (.tmp 5), none⟩,
    ⟨(some 14), .callF 104 [(.tmp 13), (.const (.int .i64 4))], none⟩,
    ⟨(some 15), .conv .u32 (.tmp 14), none⟩,
    ⟨(some 16), .mv (.tmp 5), none⟩,
    ⟨(some 17), .callF 104 [(.tmp 16), (.const (.int .i64 4))], none⟩,
    ⟨(some 18), .conv .u32 (.tmp 17), none⟩,
    ⟨(some 19), .build [(.int .i64 0), (.int .i64 0), (.int .u32 0), (.int .u32 0), (.int .i64 0), (.int .i64 0), (.int .i64 0), (.string ⟨⟨[]⟩⟩)] [(0, 1, (.tmp 10)), (1, 1, (.tmp 12)), (2, 1, (.tmp 15)), (3, 1, (.tmp 18))], none⟩,
    ⟨(some 6), .alloc [(.int .i64 0), (.int .i64 0), (.int .u32 0), (.int .u32 0), (.int .i64 0), (.int .i64 0), (.int .i64 0), (.string ⟨⟨[]⟩⟩)], none⟩,
    ⟨none, .store 8 (.tmp 6) (.tmp 19), none⟩]
def k102_3 : VC := .reg [⟨(some 20), .mv (.tmp 5), none⟩,
    ⟨(some 21), .callF 104 [(.tmp 20), (.const (.int .i64 2))], none⟩,
    ⟨(some 22), .bin .and (.tmp 21) (.const (.int .i64 255)), none⟩,
    ⟨(some 23), .fieldA 4 (.tmp 6), none⟩,
    ⟨none, .store 1 (.tmp 23) (.tmp 22), none⟩]
def k102_4 : VC := .reg [⟨(some 24), .mv (.tmp 5), none⟩,
    ⟨(some 25), .callF 104 [(.tmp 24), (.const (.int .i64 2))], none⟩,
    ⟨(some 26), .fieldA 5 (.tmp 6), none⟩,
    ⟨none, .store 1 (.tmp 26) (.tmp 25), none⟩]
def k102_5 : VC := .reg [⟨(some 27), .mv (.tmp 5), none⟩,
    ⟨(some 28), .callF 104 [(.tmp 27), (.const (.int .i64 2))], none⟩]
def k102_6 : VC := .reg [⟨(some 29), .mv (.tmp 5), none⟩,
    ⟨(some 30), .callF 104 [(.tmp 29), (.const (.int .i64 2))], none⟩,
    ⟨(some 31), .fieldA 6 (.tmp 6), none⟩,
    ⟨none, .store 1 (.tmp 31) (.tmp 30), none⟩]
def k102_7 : VC := .reg [⟨(some 32), .mv (.tmp 5), none⟩,
    ⟨(some 33), .mv (.tmp 1), none⟩,
    ⟨(some 34), .bin .sub (.tmp 33) (.const (.int .i64 20)), none⟩,
    ⟨(some 35), .callF 106 [(.tmp 32), (.tmp 34)], none⟩,
    ⟨(some 36), .fieldA 7 (.tmp 6), none⟩,
    ⟨none, .store 1 (.tmp 36) (.tmp 35), none⟩]
def k102_8 : VC := .reg [⟨(some 37), .loadN [(.int .i64), (.int .i64), (.int .u32), (.int .u32), (.int .i64), (.int .i64), (.int .i64), .str] (.tmp 6), none⟩,
    ⟨none, .store 8 (.tmp 4) (.tmp 37), none⟩]
def k102_9 : VC := .seq k102_8 .ret
def k102_10 : VC := .seq k102_7 k102_9
def k102_11 : VC := .seq k102_6 k102_10
def k102_12 : VC := .seq k102_5 k102_11
def k102_13 : VC := .seq k102_4 k102_12
def k102_14 : VC := .seq k102_3 k102_13
def k102_15 : VC := .seq k102_2 k102_14
def k102_16 : VC := .seq k102_1 k102_15
def k102_17 : VC := .seq k102_0 k102_16
def fn102 : VFn := ⟨38, k102_17, [.cell 4 [(.int .i64), (.int .i64), (.int .u32), (.int .u32), (.int .i64), (.int .i64), (.int .i64), .str] true]⟩
def k91_0 : VC := .reg [⟨(some 2), .alloc [(.slice none 0 0)], none⟩,
    ⟨(some 3), .alloc [(.int .i64 0)], none⟩]
def k91_1 : VC := .reg [⟨(some 4), .alloc [(.slice none 0 0)], none⟩]
def k91_2 : VC := .reg [⟨(some 6), .mv (.tmp 0), none⟩,
    ⟨(some 7), .callF 92 [(.tmp 6)], none⟩]
def k91_3 : VC := .reg [⟨(some 5), .alloc [(.int .i64 0), (.string ⟨⟨[]⟩⟩), (.int .i64 0)], none⟩,
    ⟨none, .store 3 (.tmp 5) (.tmp 8), none⟩]
def k91_4 : VC := .reg [⟨(some 9), .fieldA 2 (.tmp 5), none⟩,
    ⟨(some 10), .load1 (.int .i64) (.tmp 9), none⟩,
    ⟨(some 11), .bin .lss (.tmp 10) (.const (.int .i64 0)), none⟩]
def k91_5 : VC := .reg [⟨none, .store 1 (.tmp 2) (.const (.slice none 0 0)), none⟩,
    ⟨none, .store 1 (.tmp 3) (.const (.int .i64 3)), none⟩]
def k91_6 : VC := .seq k91_5 .ret
def k91_7 : VC := .cond (.tmp 11) k91_6 .skip
def k91_8 : VC := .seq k91_4 k91_7
def k91_9 : VC := .reg [⟨(some 12), .load1 .oth (.tmp 4), none⟩,
    ⟨(some 13), .fieldA 0 (.tmp 5), none⟩,
    ⟨(some 14), .loadN [(.int .i64), .str] (.tmp 13), none⟩,
    ⟨(some 15), .buildSl 1 2 [(.int .i64 0), (.string ⟨⟨[]⟩⟩)] [(0, 2, (.tmp 14))], none⟩,
    ⟨(some 16), .app 153 2 24 (.tmp 12) (.tmp 15), none⟩,
    ⟨none, .store 1 (.tmp 4) (.tmp 16), none⟩]
def k91_10 : VC := .seq k91_8 k91_9
def k91_11 : VC := .block 1 k91_10
def k91_12 : VC := .rangeF (.tmp 7) [8] k91_3 k91_11
def k91_13 : VC := .block 0 k91_12
def k91_14 : VC := .seq k91_2 k91_13
def k91_15 : VC := .reg [⟨(some 17), .load1 .oth (.tmp 4), none⟩,
    ⟨none, .store 1 (.tmp 2) (.tmp 17), none⟩,
    ⟨none, .store 1 (.tmp 3) (.const (.int .i64 0)), none⟩]
def k91_16 : VC := .seq k91_15 .ret
def k91_17 : VC := .seq k91_14 k91_16
def k91_18 : VC := .seq k91_1 k91_17
def k91_19 : VC := .seq k91_0 k91_18
def fn91 : VFn := ⟨18, k91_19, [.cell 2 [.oth] false, .cell 3 [(.int .i64)] false]⟩
def k92_0 : VC := .reg [⟨(some 1), .box (.tmp 0), none⟩,
    ⟨(some 2), .mv (.const .nilFunc), none⟩]
def k92_1 : VC := .reg [⟨(some 3), .mkFunc 114 [] [(.tmp 1)], none⟩,
    ⟨(some 2), .mv (.tmp 3), none⟩]
def k92_2 : VC := .seq k92_1 .ret
def k92_3 : VC := .seq k92_0 k92_2
def fn92 : VFn := ⟨4, k92_3, [.tmp 2]⟩
def k114_0 : VC := .reg [⟨(some 3), .mv (.const (.int .i64 0)), none⟩]
def k114_1 : VC := .reg [⟨(some 5), .mv (.tmp 3), none⟩,
    ⟨(some 6), .load1 .str (.tmp 1), none⟩,
    ⟨(some 7), .lenS (.tmp 6), none⟩,
    ⟨(some 8), .bin .lss (.tmp 5) (.tmp 7), none⟩]
def k114_2 : VC := .cond (.tmp 8) .skip (.exit 0)
def k114_3 : VC := .seq k114_1 k114_2
def k114_4 : VC := .reg [⟨(some 9), .load1 .str (.tmp 1), none⟩,
    ⟨(some 10), .mv (.tmp 3), none⟩,
    ⟨(some 11), .idxS (.tmp 9) (.tmp 10), none⟩]
def k114_5 : VC := .reg [⟨(some 13), .bin .eql (.tmp 11) (.const (.int .u8 0)), none⟩,
    ⟨(some 12), .mv (.tmp 13), none⟩]
def k114_6 : VC := .reg [⟨(some 15), .bin .eql (.tmp 11) (.const (.int .u8 1)), none⟩,
    ⟨(some 14), .mv (.tmp 15), none⟩]
def k114_7 : VC := .reg [⟨(some 16), .mv (.tmp 3), none⟩,
    ⟨(some 17), .bin .add (.tmp 16) (.const (.int .i64 1)), none⟩,
    ⟨(some 3), .mv (.tmp 17), none⟩]
def k114_8 : VC := .seq k114_7 (.exit 1)
def k114_9 : VC := .cond (.tmp 14) k114_8 .skip
def k114_10 : VC := .seq k114_6 k114_9
def k114_11 : VC := .cond (.tmp 12) .ret k114_10
def k114_12 : VC := .seq k114_5 k114_11
def k114_13 : VC := .block 2 k114_12
def k114_14 : VC := .seq k114_4 k114_13
def k114_15 : VC := .reg [⟨(some 4), .mv (.const (.int .i64 0)), none⟩]
def k114_16 : VC := .reg [⟨(some 18), .mv (.tmp 3), none⟩,
    ⟨(some 19), .bin .add (.tmp 18) (.const (.int .i64 1)), none⟩,
    ⟨(some 20), .load1 .str (.tmp 1), none⟩,
    ⟨(some 21), .lenS (.tmp 20), none⟩,
    ⟨(some 22), .bin .lss (.tmp 19) (.tmp 21), none⟩]
def k114_17 : VC := .reg [⟨(some 23), .load1 .str (.tmp 1), none⟩,
    ⟨(some 24), .mv (.tmp 3), none⟩,
    ⟨(some 25), .bin .add (.tmp 24) (.const (.int .i64 1)), none⟩,
    ⟨(some 26), .idxS (.tmp 23) (.tmp 25), none⟩,
    ⟨(some 27), .conv .i64 (.tmp 26), none⟩,
    ⟨(some 4), .mv (.tmp 27), none⟩]
def k114_18 : VC := .cond (.tmp 22) k114_17 .skip
def k114_19 : VC := .seq k114_16 k114_18
def k114_20 : VC := .reg [⟨(some 28), .mv (.tmp 4), none⟩,
    ⟨(some 29), .bin .lss (.tmp 28) (.const (.int .i64 2)), none⟩,
    ⟨(some 30), .mv (.tmp 29), none⟩,
    ⟨(some 31), .mv (.tmp 4), (some (30, false))⟩,
    ⟨(some 32), .load1 .str (.tmp 1), (some (30, false))⟩,
    ⟨(some 33), .lenS (.tmp 32), (some (30, false))⟩,
    ⟨(some 34), .mv (.tmp 3), (some (30, false))⟩,
    ⟨(some 35), .bin .sub (.tmp 33) (.tmp 34), (some (30, false))⟩,
    ⟨(some 36), .bin .gtr (.tmp 31) (.tmp 35), (some (30, false))⟩,
    ⟨(some 37), .pick (.tmp 30) (.const (.bool true)) (.tmp 36), none⟩]
def k114_21 : VC := .reg [⟨(some 38), .mv (.tmp 0), none⟩,
    ⟨(some 39), .build [(.int .i64 0), (.string ⟨⟨[]⟩⟩), (.int .i64 0)] [(2, 1, (.const (.int .i64 (-1))))], none⟩,
    ⟨(some 40), .callV (.tmp 38) [(.tmp 39)], none⟩]
def k114_22 : VC := .seq k114_21 .ret
def k114_23 : VC := .cond (.tmp 37) k114_22 .skip
def k114_24 : VC := .seq k114_20 k114_23
def k114_25 : VC := .regD [⟨(some 41), .mv (.tmp 0), none⟩,
    ⟨(some 42), .load1 .str (.tmp 1), none⟩,
    ⟨(some 43), .mv (.tmp 3), none⟩,
    ⟨(some 44), .idxS (.tmp 42) (.tmp 43), none⟩,
    ⟨(some 45), .conv .i64 (.tmp 44), none⟩,
    ⟨(some 46), .load1 .str (.tmp 1), none⟩,
    ⟨(some 47), .mv (.tmp 3), none⟩,
    ⟨(some 48), .bin .add (.tmp 47) (.const (.int .i64 2)), none⟩,
    ⟨(some 49), .mv (.tmp 3), none⟩,
    ⟨(some 50), .mv (.tmp 4), none⟩,
    ⟨(some 51), .bin .add (.tmp 49) (.tmp 50), none⟩,
    ⟨(some 52), .sliceS (.tmp 46) (some (.tmp 48)) (some (.tmp 51)), none⟩,
    ⟨(some 53), .build [(.int .i64 0), (.string ⟨⟨[]⟩⟩)] [(0, 1, (.tmp 45)), (1, 1, (.tmp 52))], none⟩,
    ⟨(some 54), .mv (.tmp 3), none⟩,
    ⟨(some 55), .bin .add (.tmp 54) (.const (.int .i64 2)), none⟩,
    ⟨(some 56), .build [(.int .i64 0), (.string ⟨⟨[]⟩⟩), (.int .i64 0)] [(0, 2, (.tmp 53)), (2, 1, (.tmp 55))], none⟩] [] [⟨(some 57), .callV (.tmp 41) [(.tmp 56)], none⟩,
    ⟨(some 58), .not (.tmp 57), none⟩]
def k114_26 : VC := .cond (.tmp 58) .ret .skip
def k114_27 : VC := .seq k114_25 k114_26
def k114_28 : VC := .reg [⟨(some 59), .mv (.tmp 3), none⟩,
    ⟨(some 60), .mv (.tmp 4), none⟩,
    ⟨(some 61), .bin .add (.tmp 59) (.tmp 60), none⟩,
    ⟨(some 3), .mv (.tmp 61), none⟩]
def k114_29 : VC := .seq k114_27 k114_28
def k114_30 : VC := .seq k114_24 k114_29
def k114_31 : VC := .seq k114_19 k114_30
def k114_32 : VC := .seq k114_15 k114_31
def k114_33 : VC := .seq k114_14 k114_32
def k114_34 : VC := .block 1 k114_33
def k114_35 : VC := .seq k114_3 k114_34
def k114_36 : VC := .loop k114_35
def k114_37 : VC := .block 0 k114_36
def k114_38 : VC := .seq k114_0 k114_37
def fn114 : VFn := ⟨62, k114_38, []⟩
def k64_0 : VC := .reg [⟨(some 2), .alloc [(.int .u32 0)], none⟩,
    ⟨(some 3), .alloc [(.int .u32 0)], none⟩,
    ⟨(some 4), .alloc [(.int .i64 0)], none⟩]
def k64_1 : VC := .reg [⟨(some 11), .mv (.tmp 0), none⟩,
    ⟨(some 12), .callF 91 [(.tmp 11)], none⟩,
    ⟨(some 10), .mv (.tmp 12), none⟩,
    ⟨(some 13), .extract 0 (.tmp 10), none⟩,
    ⟨(some 14), .extract 1 (.tmp 10), none⟩,
    ⟨(some 5), .mv (.tmp 13), none⟩,
    ⟨(some 6), .mv (.tmp 14), none⟩]
def k64_2 : VC := .reg [⟨(some 15), .mv (.tmp 6), none⟩,
    ⟨(some 16), .bin .neq (.tmp 15) (.const (.int .i64 0)), none⟩]
def k64_3 : VC := .reg [⟨none, .store 1 (.tmp 2) (.const (.int .u32 0)), none⟩,
    ⟨none, .store 1 (.tmp 3) (.const (.int .u32 0)), none⟩,
    ⟨none, .store 1 (.tmp 4) (.const (.int .i64 (-1))), none⟩]
def k64_4 : VC := .seq k64_3 .ret
def k64_5 : VC := .cond (.tmp 16) k64_4 .skip
def k64_6 : VC := .seq k64_2 k64_5
def k64_7 : VC := .seq k64_1 k64_6
def k64_8 : VC := .reg [⟨(some 17), .mv (.tmp 0), none⟩,
    ⟨(some 18), .callF 92 [(.tmp 17)], none⟩]
def k64_9 : VC := .reg [⟨(some 7), .alloc [(.int .i64 0), (.string ⟨⟨[]⟩⟩), (.int .i64 0)], none⟩,
    ⟨none, .store 3 (.tmp 7) (.tmp 19), none⟩]
def k64_10 : VC := .reg [⟨(some 20), .fieldA 0 (.tmp 7), none⟩,
    ⟨(some 21), .fieldA 0 (.tmp 20), none⟩,
    ⟨(some 22), .load1 (.int .i64) (.tmp 21), none⟩,
    ⟨(some 23), .bin .neq (.tmp 22) (.const (.int .i64 8)), none⟩]
def k64_11 : VC := .cond (.tmp 23) (.exit 1) .skip
def k64_12 : VC := .seq k64_10 k64_11
def k64_13 : VC := .reg [⟨(some 25), .fieldA 0 (.tmp 7), none⟩,
    ⟨(some 26), .fieldA 1 (.tmp 25), none⟩,
    ⟨(some 27), .load1 .str (.tmp 26), none⟩,
    ⟨(some 28), .callF 25 [(.tmp 27), (.const (.int .i64 0)), (.const (.int .i64 8))], none⟩,
    ⟨(some 24), .mv (.tmp 28), none⟩,
    ⟨(some 29), .extract 0 (.tmp 24), none⟩,
    ⟨(some 30), .extract 1 (.tmp 24), none⟩,
    ⟨(some 8), .mv (.tmp 29), none⟩,
    ⟨(some 9), .mv (.tmp 30), none⟩]
def k64_14 : VC := .reg [⟨(some 31), .mv (.tmp 9), none⟩,
    ⟨(some 32), .mv (.tmp 31), none⟩,
    ⟨(some 33), .fieldA 0 (.tmp 7), (some (32, true))⟩,
    ⟨(some 34), .fieldA 1 (.tmp 33), (some (32, true))⟩,
    ⟨(some 35), .load1 .str (.tmp 34), (some (32, true))⟩,
    ⟨(some 36), .lenS (.tmp 35), (some (32, true))⟩,
    ⟨(some 37), .bin .eql (.tmp 36) (.const (.int .i64 8)), (some (32, true))⟩,
    ⟨(some 38), .pick (.tmp 32) (.tmp 37) (.const (.bool false)), none⟩]
def k64_15 : VC := .regD [⟨(some 39), .mv (.tmp 8), none⟩,
    ⟨(some 40), .bin .shr (.tmp 39) (.const (.int .u64 32)), none⟩,
    ⟨(some 41), .conv .u32 (.tmp 40), none⟩,
    ⟨(some 42), .mv (.tmp 8), none⟩,
    ⟨(some 43), .conv .u32 (.tmp 42), none⟩,
    ⟨(some 44), .fieldA 2 (.tmp 7), none⟩,
    ⟨(some 45), .load1 (.int .i64) (.tmp 44), none⟩,
    ⟨none, .store 1 (.tmp 2) (.tmp 41), none⟩,
    ⟨none, .store 1 (.tmp 3) (.tmp 43), none⟩] [(6, 7), (6, 8)] [⟨none, .store 1 (.tmp 4) (.tmp 45), none⟩]
def k64_16 : VC := .seq k64_15 .ret
def k64_17 : VC := .cond (.tmp 38) k64_16 .skip
def k64_18 : VC := .seq k64_14 k64_17
def k64_19 : VC := .seq k64_13 k64_18
def k64_20 : VC := .seq k64_19 (.exit 0)
def k64_21 : VC := .seq k64_12 k64_20
def k64_22 : VC := .block 1 k64_21
def k64_23 : VC := .rangeF (.tmp 18) [19] k64_9 k64_22
def k64_24 : VC := .block 0 k64_23
def k64_25 : VC := .seq k64_8 k64_24
def k64_26 : VC := .reg [⟨none, .store 1 (.tmp 2) (.const (.int .u32 0)), none⟩,
    ⟨none, .store 1 (.tmp 3) (.const (.int .u32 0)), none⟩,
    ⟨none, .store 1 (.tmp 4) (.const (.int .i64 (-1))), none⟩]
def k64_27 : VC := .seq k64_26 .ret
def k64_28 : VC := .seq k64_25 k64_27
def k64_29 : VC := .seq k64_7 k64_28
def k64_30 : VC := .seq k64_0 k64_29
def fn64 : VFn := ⟨46, k64_30, [.cell 2 [(.int .u32)] false, .cell 3 [(.int .u32)] false, .cell 4 [(.int .i64)] false]⟩
def k55_0 : VC := .reg [⟨(some 2), .box (.tmp 0), none⟩,
    ⟨(some 4), .mv (.const (.int .i64 0)), none⟩,
    ⟨(some 5), .mv (.const (.int .i64 0)), none⟩]
def k55_1 : VC := .reg [⟨(some 12), .fieldA 7 (.tmp 2), none⟩,
    ⟨(some 13), .load1 .str (.tmp 12), none⟩,
    ⟨(some 14), .fieldA 0 (.tmp 2), none⟩,
    ⟨(some 15), .loadN [.bool, (.int .u64), (.int .u64)] (.tmp 14), none⟩,
    ⟨(some 16), .fieldA 3 (.tmp 2), none⟩,
    ⟨(some 17), .loadN [.bool, (.int .u64), (.int .u64)] (.tmp 16), none⟩,
    ⟨(some 18), .callF 82 [(.tmp 13), (.tmp 15), (.tmp 17)], none⟩,
    ⟨(some 11), .mv (.tmp 18), none⟩,
    ⟨(some 19), .extract 0 (.tmp 11), none⟩,
    ⟨(some 20), .extract 1 (.tmp 11), none⟩,
    ⟨(some 21), .extract 2 (.tmp 11), none⟩,
    ⟨(some 6), .alloc [(.int .i64 0), (.int .i64 0)], none⟩,
    ⟨none, .store 2 (.tmp 6) (.tmp 19), none⟩,
    ⟨(some 7), .mv (.tmp 20), none⟩,
    ⟨(some 8), .mv (.tmp 21), none⟩]
def k55_2 : VC := .reg [⟨(some 23), .mv (.tmp 8), none⟩,
    ⟨(some 24), .bin .neq (.tmp 23) (.const (.int .i64 0)), none⟩,
    ⟨(some 22), .mv (.tmp 24), none⟩]
def k55_3 : VC := .reg [⟨(some 25), .mv (.tmp 8), none⟩,
    ⟨(some 4), .mv (.const (.int .i64 0)), none⟩,
    ⟨(some 5), .mv (.tmp 25), none⟩]
def k55_4 : VC := .seq k55_3 .ret
def k55_5 : VC := .reg [⟨(some 27), .mv (.tmp 7), none⟩,
    ⟨(some 28), .lenS (.tmp 27), none⟩,
    ⟨(some 29), .fieldA 7 (.tmp 2), none⟩,
    ⟨(some 30), .load1 .str (.tmp 29), none⟩,
    ⟨(some 31), .lenS (.tmp 30), none⟩,
    ⟨(some 32), .bin .sub (.tmp 31) (.const (.int .i64 8)), none⟩,
    ⟨(some 33), .bin .neq (.tmp 28) (.tmp 32), none⟩,
    ⟨(some 26), .mv (.tmp 33), none⟩]
def k55_6 : VC := .reg [⟨(some 4), .mv (.const (.int .i64 0)), none⟩,
    ⟨(some 5), .mv (.const (.int .i64 5)), none⟩]
def k55_7 : VC := .seq k55_6 .ret
def k55_8 : VC := .cond (.tmp 26) k55_7 .skip
def k55_9 : VC := .seq k55_5 k55_8
def k55_10 : VC := .cond (.tmp 22) k55_4 k55_9
def k55_11 : VC := .seq k55_2 k55_10
def k55_12 : VC := .block 0 k55_11
def k55_13 : VC := .regD [⟨(some 34), .mv (.tmp 1), none⟩,
    ⟨(some 35), .mv (.tmp 1), none⟩,
    ⟨(some 36), .fieldA 0 (.tmp 6), none⟩,
    ⟨(some 37), .load1 (.int .i64) (.tmp 36), none⟩,
    ⟨(some 38), .fieldA 1 (.tmp 6), none⟩,
    ⟨(some 39), .load1 (.int .i64) (.tmp 38), none⟩,
    ⟨(some 40), .nilCheck (.tmp 34), none⟩,
    ⟨(some 41), .fieldA 0 (.tmp 40), none⟩,
    ⟨(some 42), .fieldA 7 (.tmp 41), none⟩,
    ⟨none, .store 1 (.tmp 42) (.tmp 37), none⟩] [(5, 9)] [⟨(some 43), .nilCheck (.tmp 35), none⟩,
    ⟨(some 44), .fieldA 0 (.tmp 43), none⟩,
    ⟨(some 45), .fieldA 8 (.tmp 44), none⟩,
    ⟨none, .store 1 (.tmp 45) (.tmp 39), none⟩]
def k55_14 : VC := .reg [⟨(some 47), .mv (.tmp 7), none⟩,
    ⟨(some 48), .callF 83 [(.tmp 47)], none⟩,
    ⟨(some 46), .mv (.tmp 48), none⟩,
    ⟨(some 49), .extract 0 (.tmp 46), none⟩,
    ⟨(some 50), .extract 1 (.tmp 46), none⟩,
    ⟨(some 9), .alloc [(.bool false), (.int .i64 0), (.int .u32 0), (.string ⟨⟨[]⟩⟩), (.string ⟨⟨[]⟩⟩), (.string ⟨⟨[]⟩⟩)], none⟩,
    ⟨none, .store 6 (.tmp 9) (.tmp 49), none⟩,
    ⟨(some 10), .mv (.tmp 50), none⟩]
def k55_15 : VC := .reg [⟨(some 51), .mv (.tmp 10), none⟩,
    ⟨(some 52), .bin .eql (.tmp 51) (.const (.int .i64 0)), none⟩]
def k55_16 : VC := .regD [⟨(some 53), .mv (.tmp 1), none⟩,
    ⟨(some 54), .mv (.tmp 1), none⟩,
    ⟨(some 55), .fieldA 0 (.tmp 9), none⟩,
    ⟨(some 56), .load1 .bool (.tmp 55), none⟩,
    ⟨(some 57), .fieldA 3 (.tmp 9), none⟩,
    ⟨(some 58), .load1 .str (.tmp 57), none⟩,
    ⟨(some 59), .nilCheck (.tmp 53), none⟩,
    ⟨(some 60), .fieldA 13 (.tmp 59), none⟩,
    ⟨none, .store 1 (.tmp 60) (.tmp 56), none⟩] [(5, 8)] [⟨(some 61), .nilCheck (.tmp 54), none⟩,
    ⟨(some 62), .fieldA 14 (.tmp 61), none⟩,
    ⟨none, .store 1 (.tmp 62) (.tmp 58), none⟩]
def k55_17 : VC := .cond (.tmp 52) k55_16 .skip
def k55_18 : VC := .seq k55_15 k55_17
def k55_19 : VC := .seq k55_14 k55_18
def k55_20 : VC := .reg [⟨(some 63), .mv (.tmp 7), none⟩,
    ⟨(some 64), .lenS (.tmp 63), none⟩,
    ⟨(some 4), .mv (.tmp 64), none⟩,
    ⟨(some 5), .mv (.const (.int .i64 0)), none⟩]
def k55_21 : VC := .seq k55_20 .ret
def k55_22 : VC := .seq k55_19 k55_21
def k55_23 : VC := .seq k55_13 k55_22
def k55_24 : VC := .seq k55_12 k55_23
def k55_25 : VC := .seq k55_1 k55_24
def k55_26 : VC := .seq k55_0 k55_25
def fn55 : VFn := ⟨65, k55_26, [.tmp 4, .tmp 5]⟩
def k82_0 : VC := .reg [⟨(some 4), .box (.tmp 1), none⟩,
    ⟨(some 5), .box (.tmp 2), none⟩,
    ⟨(some 6), .alloc [(.int .i64 0), (.int .i64 0)], none⟩,
    ⟨(some 7), .mv (.const (.string ⟨⟨[]⟩⟩)), none⟩,
    ⟨(some 8), .mv (.const (.int .i64 0)), none⟩]
def k82_1 : VC := .reg [⟨(some 14), .mv (.tmp 0), none⟩,
    ⟨(some 15), .callF 103 [(.tmp 14)], none⟩,
    ⟨(some 9), .mv (.tmp 15), none⟩]
def k82_2 : VC := .reg [⟨(some 16), .mv (.tmp 9), none⟩,
    ⟨(some 17), .callF 104 [(.tmp 16), (.const (.int .i64 2))], none⟩,
    ⟨(some 18), .mv (.tmp 9), none⟩,
    ⟨(some 19), .callF 104 [(.tmp 18), (.const (.int .i64 2))], none⟩,
    ⟨(some 20), .build [(.int .i64 0), (.int .i64 0)] [(0, 1, (.tmp 17)), (1, 1, (.tmp 19))], none⟩,
    ⟨(some 10), .alloc [(.int .i64 0), (.int .i64 0)], none⟩,
    ⟨none, .store 2 (.tmp 10) (.tmp 20), none⟩]
def k82_3 : VC := .reg [⟨(some 21), .mv (.tmp 9), none⟩,
    ⟨(some 22), .callF 104 [(.tmp 21), (.const (.int .i64 2))], none⟩,
    ⟨(some 23), .mv (.tmp 9), none⟩,
    ⟨(some 24), .callF 104 [(.tmp 23), (.const (.int .i64 2))], none⟩,
    ⟨(some 11), .mv (.tmp 22), none⟩,
    ⟨(some 12), .mv (.tmp 24), none⟩]
def k82_4 : VC := .reg [⟨(some 26), .mv (.tmp 9), none⟩,
    ⟨(some 27), .callF 105 [(.tmp 26)], none⟩,
    ⟨(some 25), .mv (.tmp 27), none⟩]
def k82_5 : VC := .reg [⟨(some 28), .build [(.int .i64 0), (.int .i64 0)] [], none⟩,
    ⟨none, .store 2 (.tmp 6) (.tmp 28), none⟩,
    ⟨(some 7), .mv (.const (.string ⟨⟨[]⟩⟩)), none⟩,
    ⟨(some 8), .mv (.const (.int .i64 2)), none⟩]
def k82_6 : VC := .seq k82_5 .ret
def k82_7 : VC := .reg [⟨(some 30), .mv (.tmp 11), none⟩,
    ⟨(some 31), .bin .lss (.tmp 30) (.const (.int .i64 8)), none⟩,
    ⟨(some 29), .mv (.tmp 31), none⟩]
def k82_8 : VC := .reg [⟨(some 32), .build [(.int .i64 0), (.int .i64 0)] [], none⟩,
    ⟨none, .store 2 (.tmp 6) (.tmp 32), none⟩,
    ⟨(some 7), .mv (.const (.string ⟨⟨[]⟩⟩)), none⟩,
    ⟨(some 8), .mv (.const (.int .i64 3)), none⟩]
def k82_9 : VC := .seq k82_8 .ret
def k82_10 : VC := .reg [⟨(some 34), .mv (.tmp 11), none⟩,
    ⟨(some 35), .mv (.tmp 0), none⟩,
    ⟨(some 36), .lenS (.tmp 35), none⟩,
    ⟨(some 37), .bin .gtr (.tmp 34) (.tmp 36), none⟩,
    ⟨(some 33), .mv (.tmp 37), none⟩]
def k82_11 : VC := .reg [⟨(some 38), .build [(.int .i64 0), (.int .i64 0)] [], none⟩,
    ⟨none, .store 2 (.tmp 6) (.tmp 38), none⟩,
    ⟨(some 7), .mv (.const (.string ⟨⟨[]⟩⟩)), none⟩,
    ⟨(some 8), .mv (.const (.int .i64 2)), none⟩]
def k82_12 : VC := .seq k82_11 .ret
def k82_13 : VC := .cond (.tmp 33) k82_12 .skip
def k82_14 : VC := .seq k82_10 k82_13
def k82_15 : VC := .cond (.tmp 29) k82_9 k82_14
def k82_16 : VC := .seq k82_7 k82_15
def k82_17 : VC := .cond (.tmp 25) k82_6 k82_16
def k82_18 : VC := .seq k82_4 k82_17
def k82_19 : VC := .block 0 k82_18
def k82_20 : VC := .reg [⟨(some 39), .loadN [.bool, (.int .u64), (.int .u64)] (.tmp 4), none⟩,
    ⟨(some 40), .loadN [.bool, (.int .u64), (.int .u64)] (.tmp 5), none⟩,
    ⟨(some 41), .mv (.tmp 11), none⟩,
    ⟨(some 42), .callF 46 [(.tmp 39), (.tmp 40), (.const (.int .i64 17)), (.tmp 41)], none⟩,
    ⟨(some 13), .mv (.tmp 42), none⟩]
def k82_21 : VC := .reg [⟨(some 44), .mv (.tmp 13), none⟩,
    ⟨(some 45), .bin .eql (.tmp 44) (.const (.string ⟨⟨[]⟩⟩)), none⟩,
    ⟨(some 43), .mv (.tmp 45), none⟩]
def k82_22 : VC := .reg [⟨(some 46), .build [(.int .i64 0), (.int .i64 0)] [], none⟩,
    ⟨none, .store 2 (.tmp 6) (.tmp 46), none⟩,
    ⟨(some 7), .mv (.const (.string ⟨⟨[]⟩⟩)), none⟩,
    ⟨(some 8), .mv (.const (.int .i64 1)), none⟩]
def k82_23 : VC := .seq k82_22 .ret
def k82_24 : VC := .reg [⟨(some 48), .mv (.tmp 12), none⟩,
    ⟨(some 49), .bin .eql (.tmp 48) (.const (.int .i64 0)), none⟩,
    ⟨(some 50), .mv (.tmp 49), none⟩,
    ⟨(some 51), .fieldA 0 (.tmp 4), (some (50, true))⟩,
    ⟨(some 52), .load1 .bool (.tmp 51), (some (50, true))⟩,
    ⟨(some 53), .pick (.tmp 50) (.tmp 52) (.const (.bool false)), none⟩,
    ⟨(some 47), .mv (.tmp 53), none⟩]
def k82_25 : VC := .reg [⟨(some 54), .mv (.tmp 12), none⟩,
    ⟨(some 55), .bin .neq (.tmp 54) (.const (.int .i64 0)), none⟩,
    ⟨(some 56), .mv (.tmp 55), none⟩,
    ⟨(some 57), .mv (.tmp 13), (some (56, true))⟩,
    ⟨(some 58), .mv (.tmp 0), (some (56, true))⟩,
    ⟨(some 59), .mv (.tmp 11), (some (56, true))⟩,
    ⟨(some 60), .sliceS (.tmp 58) none (some (.tmp 59)), (some (56, true))⟩,
    ⟨(some 61), .bin .add (.tmp 57) (.tmp 60), (some (56, true))⟩,
    ⟨(some 62), .callF 101 [(.tmp 61)], (some (56, true))⟩,
    ⟨(some 63), .not (.tmp 62), (some (56, true))⟩,
    ⟨(some 64), .pick (.tmp 56) (.tmp 63) (.const (.bool false)), none⟩,
    ⟨(some 47), .mv (.tmp 64), none⟩]
def k82_26 : VC := .cond (.tmp 47) .skip k82_25
def k82_27 : VC := .seq k82_24 k82_26
def k82_28 : VC := .reg [⟨(some 65), .build [(.int .i64 0), (.int .i64 0)] [], none⟩,
    ⟨none, .store 2 (.tmp 6) (.tmp 65), none⟩,
    ⟨(some 7), .mv (.const (.string ⟨⟨[]⟩⟩)), none⟩,
    ⟨(some 8), .mv (.const (.int .i64 4)), none⟩]
def k82_29 : VC := .seq k82_28 .ret
def k82_30 : VC := .cond (.tmp 47) k82_29 .skip
def k82_31 : VC := .seq k82_27 k82_30
def k82_32 : VC := .cond (.tmp 43) k82_23 k82_31
def k82_33 : VC := .seq k82_21 k82_32
def k82_34 : VC := .block 1 k82_33
def k82_35 : VC := .regD [⟨(some 66), .loadN [(.int .i64), (.int .i64)] (.tmp 10), none⟩,
    ⟨(some 67), .mv (.tmp 0), none⟩,
    ⟨(some 68), .mv (.tmp 11), none⟩,
    ⟨(some 69), .sliceS (.tmp 67) (some (.const (.int .i64 8))) (some (.tmp 68)), none⟩,
    ⟨none, .store 2 (.tmp 6) (.tmp 66), none⟩] [] [⟨(some 7), .mv (.tmp 69), none⟩,
    ⟨(some 8), .mv (.const (.int .i64 0)), none⟩]
def k82_36 : VC := .seq k82_35 .ret
def k82_37 : VC := .seq k82_34 k82_36
def k82_38 : VC := .seq k82_20 k82_37
def k82_39 : VC := .seq k82_19 k82_38
def k82_40 : VC := .seq k82_3 k82_39
def k82_41 : VC := .seq k82_2 k82_40
def k82_42 : VC := .seq k82_1 k82_41
def k82_43 : VC := .seq k82_0 k82_42
def fn82 : VFn := ⟨70, k82_43, [.cell 6 [(.int .i64), (.int .i64)] true, .tmp 7, .tmp 8]⟩
def k83_0 : VC := .reg [⟨(some 2), .alloc [(.bool false), (.int .i64 0), (.int .u32 0), (.string ⟨⟨[]⟩⟩), (.string ⟨⟨[]⟩⟩), (.string ⟨⟨[]⟩⟩)], none⟩,
    ⟨(some 3), .mv (.const (.int .i64 0)), none⟩]
def k83_1 : VC := .reg [⟨(some 9), .mv (.tmp 0), none⟩,
    ⟨(some 10), .callF 103 [(.tmp 9)], none⟩,
    ⟨(some 4), .mv (.tmp 10), none⟩]
def k83_2 : VC := .reg [⟨(some 11), .mv (.tmp 4), none⟩,
    ⟨(some 12), .callF 104 [(.tmp 11), (.const (.int .i64 1))], none⟩,
    ⟨(some 5), .mv (.tmp 12), none⟩]
def k83_3 : VC := .reg [⟨(some 14), .mv (.tmp 4), none⟩,
    ⟨(some 15), .callF 105 [(.tmp 14)], none⟩,
    ⟨(some 13), .mv (.tmp 15), none⟩]
def k83_4 : VC := .reg [⟨(some 16), .build [(.bool false), (.int .i64 0), (.int .u32 0), (.string ⟨⟨[]⟩⟩), (.string ⟨⟨[]⟩⟩), (.string ⟨⟨[]⟩⟩)] [], none⟩,
    ⟨none, .store 6 (.tmp 2) (.tmp 16), none⟩,
    ⟨(some 3), .mv (.const (.int .i64 2)), none⟩]
def k83_5 : VC := .seq k83_4 .ret
def k83_6 : VC := .reg [⟨(some 18), .mv (.tmp 5), none⟩,
    ⟨(some 19), .bin .and (.tmp 18) (.const (.int .i64 64)), none⟩,
    ⟨(some 20), .bin .eql (.tmp 19) (.const (.int .i64 0)), none⟩,
    ⟨(some 17), .mv (.tmp 20), none⟩]
def k83_7 : VC := .reg [⟨(some 21), .build [(.bool false), (.int .i64 0), (.int .u32 0), (.string ⟨⟨[]⟩⟩), (.string ⟨⟨[]⟩⟩), (.string ⟨⟨[]⟩⟩)] [], none⟩,
    ⟨none, .store 6 (.tmp 2) (.tmp 21), none⟩,
    ⟨(some 3), .mv (.const (.int .i64 3)), none⟩]
def k83_8 : VC := .seq k83_7 .ret
def k83_9 : VC := .cond (.tmp 17) k83_8 .skip
def k83_10 : VC := .seq k83_6 k83_9
def k83_11 : VC := .cond (.tmp 13) k83_5 k83_10
def k83_12 : VC := .seq k83_3 k83_11
def k83_13 : VC := .block 0 k83_12
def k83_14 : VC := .reg [⟨(some 22), .mv (.tmp 5), none⟩,
    ⟨(some 23), .bin .and (.tmp 22) (.const (.int .i64 128)), none⟩,
    ⟨(some 24), .bin .neq (.tmp 23) (.const (.int .i64 0)), none⟩,
    ⟨(some 25), .mv (.tmp 5), none⟩,
    ⟨(some 26), .bin .and (.tmp 25) (.const (.int .i64 63)), none⟩,
    ⟨(some 27), .build [(.bool false), (.int .i64 0), (.int .u32 0), (.string ⟨⟨[]⟩⟩), (.string ⟨⟨[]⟩⟩), (.string ⟨⟨[]⟩⟩)] [(0, 1, (.tmp 24)), (1, 1, (.tmp 26))], none⟩,
    ⟨(some 6), .alloc [(.bool false), (.int .i64 0), (.int .u32 0), (.string ⟨⟨[]⟩⟩), (.string ⟨⟨[]⟩⟩), (.string ⟨⟨[]⟩⟩)], none⟩,
    ⟨none, .store 6 (.tmp 6) (.tmp 27), none⟩]
def k83_15 : VC := .reg [⟨(some 28), .fieldA 0 (.tmp 6), none⟩,
    ⟨(some 29), .load1 .bool (.tmp 28), none⟩,
    ⟨(some 30), .not (.tmp 29), none⟩]
def k83_16 : VC := .reg [⟨(some 31), .mv (.tmp 4), none⟩,
    ⟨(some 32), .mkFunc 106 [(.tmp 31)] [], none⟩,
    ⟨(some 7), .mv (.tmp 32), none⟩]
def k83_17 : VC := .reg [⟨(some 33), .mv (.tmp 7), none⟩,
    ⟨(some 34), .callV (.tmp 33) [(.const (.int .i64 8))], none⟩,
    ⟨(some 35), .fieldA 3 (.tmp 6), none⟩,
    ⟨none, .store 1 (.tmp 35) (.tmp 34), none⟩]
def k83_18 : VC := .reg [⟨(some 36), .mv (.tmp 4), none⟩,
    ⟨(some 37), .callF 105 [(.tmp 36)], none⟩]
def k83_19 : VC := .reg [⟨(some 38), .build [(.bool false), (.int .i64 0), (.int .u32 0), (.string ⟨⟨[]⟩⟩), (.string ⟨⟨[]⟩⟩), (.string ⟨⟨[]⟩⟩)] [], none⟩,
    ⟨none, .store 6 (.tmp 2) (.tmp 38), none⟩,
    ⟨(some 3), .mv (.const (.int .i64 2)), none⟩]
def k83_20 : VC := .seq k83_19 .ret
def k83_21 : VC := .cond (.tmp 37) k83_20 .skip
def k83_22 : VC := .seq k83_18 k83_21
def k83_23 : VC := .seq k83_17 k83_22
def k83_24 : VC := .reg [⟨(some 39), .mv (.tmp 4), none⟩,
    ⟨(some 40), .callF 107 [(.tmp 39)], none⟩,
    ⟨(some 41), .fieldA 5 (.tmp 6), none⟩,
    ⟨none, .store 1 (.tmp 41) (.tmp 40), none⟩]
def k83_25 : VC := .reg [⟨(some 42), .loadN [.bool, (.int .i64), (.int .u32), .str, .str, .str] (.tmp 6), none⟩,
    ⟨none, .store 6 (.tmp 2) (.tmp 42), none⟩,
    ⟨(some 3), .mv (.const (.int .i64 0)), none⟩]
def k83_26 : VC := .seq k83_25 .ret
def k83_27 : VC := .seq k83_24 k83_26
def k83_28 : VC := .seq k83_23 k83_27
def k83_29 : VC := .seq k83_16 k83_28
def k83_30 : VC := .cond (.tmp 30) k83_29 .skip
def k83_31 : VC := .seq k83_15 k83_30
def k83_32 : VC := .reg [⟨(some 43), .mv (.tmp 4), none⟩,
    ⟨(some 44), .callF 104 [(.tmp 43), (.const (.int .i64 4))], none⟩,
    ⟨(some 45), .conv .u32 (.tmp 44), none⟩,
    ⟨(some 46), .fieldA 2 (.tmp 6), none⟩,
    ⟨none, .store 1 (.tmp 46) (.tmp 45), none⟩]
def k83_33 : VC := .reg [⟨(some 47), .mv (.tmp 4), none⟩,
    ⟨(some 48), .fieldA 3 (.tmp 6), none⟩,
    ⟨(some 49), .fieldA 4 (.tmp 6), none⟩,
    ⟨(some 50), .buildSl 2 1 [(.pointer none), (.pointer none)] [(0, 1, (.tmp 48)), (1, 1, (.tmp 49))], none⟩,
    ⟨(some 51), .callF 108 [(.func 109), (.tmp 47), (.tmp 50)], none⟩,
    ⟨(some 8), .mv (.tmp 51), none⟩]
def k83_34 : VC := .reg [⟨(some 52), .mv (.tmp 8), none⟩,
    ⟨(some 53), .bin .neq (.tmp 52) (.const (.int .i64 0)), none⟩]
def k83_35 : VC := .reg [⟨(some 54), .build [(.bool false), (.int .i64 0), (.int .u32 0), (.string ⟨⟨[]⟩⟩), (.string ⟨⟨[]⟩⟩), (.string ⟨⟨[]⟩⟩)] [], none⟩,
    ⟨(some 55), .mv (.tmp 8), none⟩,
    ⟨none, .store 6 (.tmp 2) (.tmp 54), none⟩,
    ⟨(some 3), .mv (.tmp 55), none⟩]
def k83_36 : VC := .seq k83_35 .ret
def k83_37 : VC := .cond (.tmp 53) k83_36 .skip
def k83_38 : VC := .seq k83_34 k83_37
def k83_39 : VC := .seq k83_33 k83_38
def k83_40 : VC := .reg [⟨(some 56), .mv (.tmp 4), none⟩,
    ⟨(some 57), .callF 107 [(.tmp 56)], none⟩,
    ⟨(some 58), .fieldA 5 (.tmp 6), none⟩,
    ⟨none, .store 1 (.tmp 58) (.tmp 57), none⟩]
def k83_41 : VC := .reg [⟨(some 59), .loadN [.bool, (.int .i64), (.int .u32), .str, .str, .str] (.tmp 6), none⟩,
    ⟨none, .store 6 (.tmp 2) (.tmp 59), none⟩,
    ⟨(some 3), .mv (.const (.int .i64 0)), none⟩]
def k83_42 : VC := .seq k83_41 .ret
def k83_43 : VC := .seq k83_40 k83_42
def k83_44 : VC := .seq k83_39 k83_43
def k83_45 : VC := .seq k83_32 k83_44
def k83_46 : VC := .seq k83_31 k83_45
def k83_47 : VC := .seq k83_14 k83_46
def k83_48 : VC := .seq k83_13 k83_47
def k83_49 : VC := .seq k83_2 k83_48
def k83_50 : VC := .seq k83_1 k83_49
def k83_51 : VC := .seq k83_0 k83_50
def fn83 : VFn := ⟨60, k83_51, [.cell 2 [.bool, (.int .i64), (.int .u32), .str, .str, .str] true, .tmp 3]⟩
def k107_0 : VC := .reg [⟨(some 2), .mv (.const (.string ⟨⟨[]⟩⟩)), none⟩]
def k107_1 : VC := .reg [⟨(some 3), .mv (.tmp 0), none⟩,
    ⟨(some 4), .callF 105 [(.tmp 3)], none⟩]
def k107_2 : VC := .reg [⟨(some 2), .mv (.const (.string ⟨⟨[]⟩⟩)), none⟩]
def k107_3 : VC := .seq k107_2 .ret
def k107_4 : VC := .cond (.tmp 4) k107_3 .skip
def k107_5 : VC := .seq k107_1 k107_4
def k107_6 : VC := .reg [⟨(some 5), .mv (.tmp 0), none⟩,
    ⟨(some 6), .mv (.tmp 0), none⟩,
    ⟨(some 7), .nilCheck (.tmp 6), none⟩,
    ⟨(some 8), .fieldA 0 (.tmp 7), none⟩,
    ⟨(some 9), .load1 .str (.tmp 8), none⟩,
    ⟨(some 10), .lenS (.tmp 9), none⟩,
    ⟨(some 11), .callF 106 [(.tmp 5), (.tmp 10)], none⟩,
    ⟨(some 2), .mv (.tmp 11), none⟩]
def k107_7 : VC := .seq k107_6 .ret
def k107_8 : VC := .seq k107_5 k107_7
def k107_9 : VC := .seq k107_0 k107_8
def fn107 : VFn := ⟨12, k107_9, [.tmp 2]⟩
def k108_0 : VC := .reg [⟨(some 6), .mv (.const (.int .i64 0)), none⟩]
def k108_1 : VC := .reg [⟨(some 11), .mv (.tmp 2), none⟩,
    ⟨(some 12), .lenL (.tmp 11), none⟩,
    ⟨(some 13), .mv (.const (.int .i64 0)), none⟩]
def k108_2 : VC := .reg [⟨(some 14), .bin .lss (.tmp 13) (.tmp 12), none⟩]
def k108_3 : VC := .cond (.tmp 14) .skip (.exit 0)
def k108_4 : VC := .reg [⟨(some 15), .idxAL 1 (.tmp 11) (.tmp 13), none⟩,
    ⟨(some 16), .load1 .oth (.tmp 15), none⟩,
    ⟨(some 8), .mv (.tmp 16), none⟩]
def k108_5 : VC := .reg [⟨(some 18), .mv (.tmp 0), none⟩,
    ⟨(some 19), .mv (.tmp 1), none⟩,
    ⟨(some 20), .callV (.tmp 18) [(.tmp 19)], none⟩,
    ⟨(some 17), .mv (.tmp 20), none⟩,
    ⟨(some 21), .extract 0 (.tmp 17), none⟩,
    ⟨(some 22), .extract 1 (.tmp 17), none⟩,
    ⟨(some 9), .mv (.tmp 21), none⟩,
    ⟨(some 10), .mv (.tmp 22), none⟩]
def k108_6 : VC := .reg [⟨(some 23), .mv (.tmp 10), none⟩,
    ⟨(some 24), .bin .neq (.tmp 23) (.const (.int .i64 0)), none⟩]
def k108_7 : VC := .reg [⟨(some 25), .mv (.tmp 10), none⟩,
    ⟨(some 6), .mv (.tmp 25), none⟩]
def k108_8 : VC := .seq k108_7 .ret
def k108_9 : VC := .cond (.tmp 24) k108_8 .skip
def k108_10 : VC := .seq k108_6 k108_9
def k108_11 : VC := .reg [⟨(some 26), .mv (.tmp 8), none⟩,
    ⟨(some 27), .mv (.tmp 9), none⟩,
    ⟨(some 28), .nilCheck (.tmp 26), none⟩,
    ⟨none, .store 1 (.tmp 28) (.tmp 27), none⟩]
def k108_12 : VC := .seq k108_10 k108_11
def k108_13 : VC := .seq k108_5 k108_12
def k108_14 : VC := .seq k108_4 k108_13
def k108_15 : VC := .block 1 k108_14
def k108_16 : VC := .reg [⟨(some 29), .bin .add (.tmp 13) (.const (.int .i64 1)), none⟩,
    ⟨(some 13), .mv (.tmp 29), none⟩]
def k108_17 : VC := .seq k108_15 k108_16
def k108_18 : VC := .seq k108_3 k108_17
def k108_19 : VC := .seq k108_2 k108_18
def k108_20 : VC := .loop k108_19
def k108_21 : VC := .block 0 k108_20
def k108_22 : VC := .seq k108_1 k108_21
def k108_23 : VC := .reg [⟨(some 6), .mv (.const (.int .i64 0)), none⟩]
def k108_24 : VC := .seq k108_23 .ret
def k108_25 : VC := .seq k108_22 k108_24
def k108_26 : VC := .seq k108_0 k108_25
def fn108 : VFn := ⟨30, k108_26, [.tmp 6]⟩
def k109_0 : VC := .reg [⟨(some 2), .mv (.const (.string ⟨⟨[]⟩⟩)), none⟩,
    ⟨(some 3), .mv (.const (.int .i64 0)), none⟩]
def k109_1 : VC := .reg [⟨(some 6), .mv (.tmp 0), none⟩,
    ⟨(some 7), .callF 104 [(.tmp 6), (.const (.int .i64 1))], none⟩,
    ⟨(some 4), .mv (.tmp 7), none⟩]
def k109_2 : VC := .reg [⟨(some 8), .mv (.tmp 0), none⟩,
    ⟨(some 9), .callF 105 [(.tmp 8)], none⟩,
    ⟨(some 10), .not (.tmp 9), none⟩,
    ⟨(some 11), .mv (.tmp 10), none⟩,
    ⟨(some 12), .mv (.tmp 4), (some (11, true))⟩,
    ⟨(some 13), .bin .gtr (.tmp 12) (.const (.int .i64 20)), (some (11, true))⟩,
    ⟨(some 14), .pick (.tmp 11) (.tmp 13) (.const (.bool false)), none⟩]
def k109_3 : VC := .reg [⟨(some 2), .mv (.const (.string ⟨⟨[]⟩⟩)), none⟩,
    ⟨(some 3), .mv (.const (.int .i64 3)), none⟩]
def k109_4 : VC := .seq k109_3 .ret
def k109_5 : VC := .cond (.tmp 14) k109_4 .skip
def k109_6 : VC := .seq k109_2 k109_5
def k109_7 : VC := .reg [⟨(some 15), .mv (.tmp 0), none⟩,
    ⟨(some 16), .mv (.tmp 4), none⟩,
    ⟨(some 17), .callF 106 [(.tmp 15), (.tmp 16)], none⟩,
    ⟨(some 5), .mv (.tmp 17), none⟩]
def k109_8 : VC := .reg [⟨(some 18), .mv (.tmp 0), none⟩,
    ⟨(some 19), .callF 105 [(.tmp 18)], none⟩]
def k109_9 : VC := .reg [⟨(some 2), .mv (.const (.string ⟨⟨[]⟩⟩)), none⟩,
    ⟨(some 3), .mv (.const (.int .i64 2)), none⟩]
def k109_10 : VC := .seq k109_9 .ret
def k109_11 : VC := .cond (.tmp 19) k109_10 .skip
def k109_12 : VC := .seq k109_8 k109_11
def k109_13 : VC := .reg [⟨(some 20), .mv (.tmp 5), none⟩,
    ⟨(some 2), .mv (.tmp 20), none⟩,
    ⟨(some 3), .mv (.const (.int .i64 0)), none⟩]
def k109_14 : VC := .seq k109_13 .ret
def k109_15 : VC := .seq k109_12 k109_14
def k109_16 : VC := .seq k109_7 k109_15
def k109_17 : VC := .seq k109_6 k109_16
def k109_18 : VC := .seq k109_1 k109_17
def k109_19 : VC := .seq k109_0 k109_18
def fn109 : VFn := ⟨21, k109_19, [.tmp 2, .tmp 3]⟩
def k14_0 : VC := .reg [⟨(some 4), .box (.tmp 0), none⟩,
    ⟨(some 8), .mv (.const (.string ⟨⟨[]⟩⟩)), none⟩,
    ⟨(some 9), .mv (.const (.int .i64 0)), none⟩]
def k14_1 : VC := .reg [⟨(some 13), .fieldA 0 (.tmp 4), none⟩,
    ⟨(some 14), .load1 (.int .i64) (.tmp 13), none⟩,
    ⟨(some 15), .bin .neq (.tmp 14) (.const (.int .i64 6)), none⟩]
def k14_2 : VC := .reg [⟨(some 8), .mv (.const (.string ⟨⟨[]⟩⟩)), none⟩,
    ⟨(some 9), .mv (.const (.int .i64 1)), none⟩]
def k14_3 : VC := .seq k14_2 .ret
def k14_4 : VC := .cond (.tmp 15) k14_3 .skip
def k14_5 : VC := .seq k14_1 k14_4
def k14_6 : VC := .reg [⟨(some 16), .fieldA 7 (.tmp 4), none⟩,
    ⟨(some 17), .load1 (.int .i64) (.tmp 16), none⟩,
    ⟨(some 18), .fieldA 8 (.tmp 4), none⟩,
    ⟨(some 19), .load1 (.int .i64) (.tmp 18), none⟩,
    ⟨(some 20), .mv (.tmp 1), none⟩,
    ⟨(some 21), .mv (.tmp 2), none⟩,
    ⟨(some 22), .build [(.int .i64 0), (.int .i64 0), (.int .u32 0), (.int .u32 0), (.int .i64 0), (.int .i64 0), (.int .i64 0), (.string ⟨⟨[]⟩⟩)] [(0, 1, (.tmp 17)), (1, 1, (.tmp 19)), (4, 1, (.tmp 20)), (5, 1, (.const (.int .i64 65535))), (7, 1, (.tmp 21))], none⟩,
    ⟨(some 10), .alloc [(.int .i64 0), (.int .i64 0), (.int .u32 0), (.int .u32 0), (.int .i64 0), (.int .i64 0), (.int .i64 0), (.string ⟨⟨[]⟩⟩)], none⟩,
    ⟨none, .store 8 (.tmp 10) (.tmp 22), none⟩]
def k14_7 : VC := .reg [⟨(some 24), .loadN [(.int .i64), (.int .i64), (.int .u32), (.int .u32), (.int .i64), (.int .i64), (.int .i64), .str] (.tmp 10), none⟩,
    ⟨(some 25), .fieldA 1 (.tmp 4), none⟩,
    ⟨(some 26), .loadN [.bool, (.int .u64), (.int .u64)] (.tmp 25), none⟩,
    ⟨(some 27), .fieldA 4 (.tmp 4), none⟩,
    ⟨(some 28), .loadN [.bool, (.int .u64), (.int .u64)] (.tmp 27), none⟩,
    ⟨(some 29), .mv (.tmp 3), none⟩,
    ⟨(some 30), .callF 31 [(.tmp 24), (.tmp 26), (.tmp 28), (.tmp 29)], none⟩,
    ⟨(some 23), .mv (.tmp 30), none⟩,
    ⟨(some 31), .extract 0 (.tmp 23), none⟩,
    ⟨(some 32), .extract 1 (.tmp 23), none⟩,
    ⟨(some 11), .mv (.tmp 31), none⟩,
    ⟨(some 12), .mv (.tmp 32), none⟩]
def k14_8 : VC := .reg [⟨(some 33), .mv (.tmp 12), none⟩,
    ⟨(some 34), .bin .neq (.tmp 33) (.const (.int .i64 0)), none⟩]
def k14_9 : VC := .reg [⟨(some 35), .mv (.tmp 12), none⟩,
    ⟨(some 8), .mv (.const (.string ⟨⟨[]⟩⟩)), none⟩,
    ⟨(some 9), .mv (.tmp 35), none⟩]
def k14_10 : VC := .seq k14_9 .ret
def k14_11 : VC := .cond (.tmp 34) k14_10 .skip
def k14_12 : VC := .seq k14_8 k14_11
def k14_13 : VC := .reg [⟨(some 36), .loadN [(.int .i64), .bool, (.int .u64), (.int .u64), .bool, (.int .u64), (.int .u64), (.int .i64), (.int .i64)] (.tmp 4), none⟩,
    ⟨(some 37), .mv (.tmp 11), none⟩,
    ⟨(some 38), .callF 32 [(.tmp 36), (.tmp 37)], none⟩,
    ⟨(some 39), .extract 0 (.tmp 38), none⟩,
    ⟨(some 40), .extract 1 (.tmp 38), none⟩,
    ⟨(some 8), .mv (.tmp 39), none⟩,
    ⟨(some 9), .mv (.tmp 40), none⟩]
def k14_14 : VC := .seq k14_13 .ret
def k14_15 : VC := .seq k14_12 k14_14
def k14_16 : VC := .seq k14_7 k14_15
def k14_17 : VC := .seq k14_6 k14_16
def k14_18 : VC := .seq k14_5 k14_17
def k14_19 : VC := .seq k14_0 k14_18
def fn14 : VFn := ⟨41, k14_19, [.tmp 8, .tmp 9]⟩
def k31_0 : VC := .reg [⟨(some 4), .box (.tmp 0), none⟩,
    ⟨(some 5), .box (.tmp 1), none⟩,
    ⟨(some 6), .box (.tmp 2), none⟩,
    ⟨(some 8), .mv (.const (.string ⟨⟨[]⟩⟩)), none⟩,
    ⟨(some 9), .mv (.const (.int .i64 0)), none⟩]
def k31_1 : VC := .reg [⟨(some 13), .fieldA 7 (.tmp 4), none⟩,
    ⟨(some 14), .load1 .str (.tmp 13), none⟩,
    ⟨(some 15), .lenS (.tmp 14), none⟩,
    ⟨(some 16), .bin .add (.const (.int .i64 20)) (.tmp 15), none⟩,
    ⟨(some 10), .mv (.tmp 16), none⟩]
def k31_2 : VC := .reg [⟨(some 17), .loadN [.bool, (.int .u64), (.int .u64)] (.tmp 5), none⟩,
    ⟨(some 18), .loadN [.bool, (.int .u64), (.int .u64)] (.tmp 6), none⟩,
    ⟨(some 19), .mv (.tmp 10), none⟩,
    ⟨(some 20), .mv (.tmp 3), none⟩,
    ⟨(some 21), .lenS (.tmp 20), none⟩,
    ⟨(some 22), .bin .add (.tmp 19) (.tmp 21), none⟩,
    ⟨(some 23), .callF 46 [(.tmp 17), (.tmp 18), (.const (.int .i64 6)), (.tmp 22)], none⟩,
    ⟨(some 11), .mv (.tmp 23), none⟩]
def k31_3 : VC := .reg [⟨(some 25), .loadN [(.int .i64), (.int .i64), (.int .u32), (.int .u32), (.int .i64), (.int .i64), (.int .i64), .str] (.tmp 4), none⟩,
    ⟨(some 26), .callF 47 [(.tmp 25)], none⟩,
    ⟨(some 27), .not (.tmp 26), none⟩,
    ⟨(some 28), .mv (.tmp 27), none⟩,
    ⟨(some 29), .mv (.tmp 11), (some (28, false))⟩,
    ⟨(some 30), .bin .eql (.tmp 29) (.const (.string ⟨⟨[]⟩⟩)), (some (28, false))⟩,
    ⟨(some 31), .pick (.tmp 28) (.const (.bool true)) (.tmp 30), none⟩,
    ⟨(some 24), .mv (.tmp 31), none⟩]
def k31_4 : VC := .reg [⟨(some 8), .mv (.const (.string ⟨⟨[]⟩⟩)), none⟩,
    ⟨(some 9), .mv (.const (.int .i64 1)), none⟩]
def k31_5 : VC := .seq k31_4 .ret
def k31_6 : VC := .reg [⟨(some 33), .mv (.tmp 3), none⟩,
    ⟨(some 34), .lenS (.tmp 33), none⟩,
    ⟨(some 35), .mv (.tmp 10), none⟩,
    ⟨(some 36), .bin .sub (.const (.int .i64 65535)) (.tmp 35), none⟩,
    ⟨(some 37), .bin .gtr (.tmp 34) (.tmp 36), none⟩,
    ⟨(some 32), .mv (.tmp 37), none⟩]
def k31_7 : VC := .reg [⟨(some 8), .mv (.const (.string ⟨⟨[]⟩⟩)), none⟩,
    ⟨(some 9), .mv (.const (.int .i64 5)), none⟩]
def k31_8 : VC := .seq k31_7 .ret
def k31_9 : VC := .cond (.tmp 32) k31_8 .skip
def k31_10 : VC := .seq k31_6 k31_9
def k31_11 : VC := .cond (.tmp 24) k31_5 k31_10
def k31_12 : VC := .seq k31_3 k31_11
def k31_13 : VC := .block 0 k31_12
def k31_14 : VC := .reg [⟨(some 38), .loadN [(.int .i64), (.int .i64), (.int .u32), (.int .u32), (.int .i64), (.int .i64), (.int .i64), .str] (.tmp 4), none⟩,
    ⟨(some 39), .callF 48 [(.tmp 38)], none⟩,
    ⟨(some 40), .mv (.tmp 3), none⟩,
    ⟨(some 41), .bin .add (.tmp 39) (.tmp 40), none⟩,
    ⟨(some 12), .mv (.tmp 41), none⟩]
def k31_15 : VC := .reg [⟨(some 42), .mv (.tmp 12), none⟩,
    ⟨(some 43), .mv (.tmp 11), none⟩,
    ⟨(some 44), .mv (.tmp 12), none⟩,
    ⟨(some 45), .bin .add (.tmp 43) (.tmp 44), none⟩,
    ⟨(some 46), .callF 49 [(.tmp 45)], none⟩,
    ⟨(some 47), .conv .u64 (.tmp 46), none⟩,
    ⟨(some 48), .callF 28 [(.tmp 42), (.const (.int .i64 16)), (.const (.int .i64 2)), (.tmp 47)], none⟩,
    ⟨(some 8), .mv (.tmp 48), none⟩,
    ⟨(some 9), .mv (.const (.int .i64 0)), none⟩]
def k31_16 : VC := .seq k31_15 .ret
def k31_17 : VC := .seq k31_14 k31_16
def k31_18 : VC := .seq k31_13 k31_17
def k31_19 : VC := .seq k31_2 k31_18
def k31_20 : VC := .seq k31_1 k31_19
def k31_21 : VC := .seq k31_0 k31_20
def fn31 : VFn := ⟨49, k31_21, [.tmp 8, .tmp 9]⟩
def k47_0 : VC := .reg [⟨(some 1), .box (.tmp 0), none⟩,
    ⟨(some 2), .mv (.const (.bool false)), none⟩]
def k47_1 : VC := .reg [⟨(some 3), .fieldA 0 (.tmp 1), none⟩,
    ⟨(some 4), .load1 (.int .i64) (.tmp 3), none⟩,
    ⟨(some 5), .fieldA 1 (.tmp 1), none⟩,
    ⟨(some 6), .load1 (.int .i64) (.tmp 5), none⟩,
    ⟨(some 7), .fieldA 5 (.tmp 1), none⟩,
    ⟨(some 8), .load1 (.int .i64) (.tmp 7), none⟩,
    ⟨(some 9), .fieldA 6 (.tmp 1), none⟩,
    ⟨(some 10), .load1 (.int .i64) (.tmp 9), none⟩,
    ⟨(some 11), .buildSl 4 1 [(.int .i64 0), (.int .i64 0), (.int .i64 0), (.int .i64 0)] [(0, 1, (.tmp 4)), (1, 1, (.tmp 6)), (2, 1, (.tmp 8)), (3, 1, (.tmp 10))], none⟩,
    ⟨(some 12), .callF 76 [(.const (.int .i64 65535)), (.tmp 11)], none⟩,
    ⟨(some 13), .mv (.tmp 12), none⟩,
    ⟨(some 14), .fieldA 4 (.tmp 1), (some (13, true))⟩,
    ⟨(some 15), .load1 (.int .i64) (.tmp 14), (some (13, true))⟩,
    ⟨(some 16), .buildSl 1 1 [(.int .i64 0)] [(0, 1, (.tmp 15))], (some (13, true))⟩,
    ⟨(some 17), .callF 76 [(.const (.int .i64 255)), (.tmp 16)], (some (13, true))⟩,
    ⟨(some 18), .pick (.tmp 13) (.tmp 17) (.const (.bool false)), none⟩,
    ⟨(some 19), .mv (.tmp 18), none⟩,
    ⟨(some 20), .fieldA 7 (.tmp 1), (some (19, true))⟩,
    ⟨(some 21), .load1 .str (.tmp 20), (some (19, true))⟩,
    ⟨(some 22), .lenS (.tmp 21), (some (19, true))⟩,
    ⟨(some 23), .bin .rem (.tmp 22) (.const (.int .i64 4)), (some (19, true))⟩,
    ⟨(some 24), .bin .eql (.tmp 23) (.const (.int .i64 0)), (some (19, true))⟩,
    ⟨(some 25), .pick (.tmp 19) (.tmp 24) (.const (.bool false)), none⟩,
    ⟨(some 26), .mv (.tmp 25), none⟩,
    ⟨(some 27), .fieldA 7 (.tmp 1), (some (26, true))⟩,
    ⟨(some 28), .load1 .str (.tmp 27), (some (26, true))⟩,
    ⟨(some 29), .lenS (.tmp 28), (some (26, true))⟩,
    ⟨(some 30), .bin .leq (.tmp 29) (.const (.int .i64 40)), (some (26, true))⟩,
    ⟨(some 31), .pick (.tmp 26) (.tmp 30) (.const (.bool false)), none⟩,
    ⟨(some 2), .mv (.tmp 31), none⟩]
def k47_2 : VC := .seq k47_1 .ret
def k47_3 : VC := .seq k47_0 k47_2
def fn47 : VFn := ⟨32, k47_3, [.tmp 2]⟩
def k76_0 : VC := .reg [⟨(some 4), .mv (.const (.bool false)), none⟩]
def k76_1 : VC := .reg [⟨(some 7), .mv (.tmp 1), none⟩,
    ⟨(some 8), .lenL (.tmp 7), none⟩,
    ⟨(some 9), .mv (.const (.int .i64 0)), none⟩]
def k76_2 : VC := .reg [⟨(some 10), .bin .lss (.tmp 9) (.tmp 8), none⟩]
def k76_3 : VC := .cond (.tmp 10) .skip (.exit 0)
def k76_4 : VC := .reg [⟨(some 11), .idxAL 1 (.tmp 7) (.tmp 9), none⟩,
    ⟨(some 12), .load1 (.int .i64) (.tmp 11), none⟩,
    ⟨(some 6), .mv (.tmp 12), none⟩]
def k76_5 : VC := .reg [⟨(some 13), .mv (.tmp 6), none⟩,
    ⟨(some 14), .bin .lss (.tmp 13) (.const (.int .i64 0)), none⟩,
    ⟨(some 15), .mv (.tmp 14), none⟩,
    ⟨(some 16), .mv (.tmp 6), (some (15, false))⟩,
    ⟨(some 17), .mv (.tmp 0), (some (15, false))⟩,
    ⟨(some 18), .bin .gtr (.tmp 16) (.tmp 17), (some (15, false))⟩,
    ⟨(some 19), .pick (.tmp 15) (.const (.bool true)) (.tmp 18), none⟩]
def k76_6 : VC := .reg [⟨(some 4), .mv (.const (.bool false)), none⟩]
def k76_7 : VC := .seq k76_6 .ret
def k76_8 : VC := .cond (.tmp 19) k76_7 .skip
def k76_9 : VC := .seq k76_5 k76_8
def k76_10 : VC := .seq k76_4 k76_9
def k76_11 : VC := .block 1 k76_10
def k76_12 : VC := .reg [⟨(some 20), .bin .add (.tmp 9) (.const (.int .i64 1)), none⟩,
    ⟨(some 9), .mv (.tmp 20), none⟩]
def k76_13 : VC := .seq k76_11 k76_12
def k76_14 : VC := .seq k76_3 k76_13
def k76_15 : VC := .seq k76_2 k76_14
def k76_16 : VC := .loop k76_15
def k76_17 : VC := .block 0 k76_16
def k76_18 : VC := .seq k76_1 k76_17
def k76_19 : VC := .reg [⟨(some 4), .mv (.const (.bool true)), none⟩]
def k76_20 : VC := .seq k76_19 .ret
def k76_21 : VC := .seq k76_18 k76_20
def k76_22 : VC := .seq k76_0 k76_21
def fn76 : VFn := ⟨21, k76_22, [.tmp 4]⟩
def k48_0 : VC := .reg [⟨(some 1), .box (.tmp 0), none⟩,
    ⟨(some 2), .mv (.const (.string ⟨⟨[]⟩⟩)), none⟩]
def k48_1 : VC := .reg [⟨(some 7), .fieldA 7 (.tmp 1), none⟩,
    ⟨(some 8), .load1 .str (.tmp 7), none⟩,
    ⟨(some 9), .lenS (.tmp 8), none⟩,
    ⟨(some 10), .bin .add (.const (.int .i64 20)) (.tmp 9), none⟩,
    ⟨(some 11), .conv .u64 (.tmp 10), none⟩,
    ⟨(some 12), .bin .quo (.tmp 11) (.const (.int .u64 4)), none⟩,
    ⟨(some 3), .mv (.tmp 12), none⟩]
def k48_2 : VC := .reg [⟨(some 13), .fieldA 0 (.tmp 1), none⟩,
    ⟨(some 14), .load1 (.int .i64) (.tmp 13), none⟩,
    ⟨(some 15), .conv .u64 (.tmp 14), none⟩,
    ⟨(some 16), .bin .shl (.tmp 15) (.const (.int .u64 16)), none⟩,
    ⟨(some 17), .fieldA 1 (.tmp 1), none⟩,
    ⟨(some 18), .load1 (.int .i64) (.tmp 17), none⟩,
    ⟨(some 19), .conv .u64 (.tmp 18), none⟩,
    ⟨(some 20), .bin .or (.tmp 16) (.tmp 19), none⟩,
    ⟨(some 21), .callF 44 [(.tmp 20), (.const (.int .i64 4))], none⟩,
    ⟨(some 4), .mv (.tmp 21), none⟩]
def k48_3 : VC := .reg [⟨(some 22), .fieldA 2 (.tmp 1), none⟩,
    ⟨(some 23), .load1 (.int .u32) (.tmp 22), none⟩,
    ⟨(some 24), .conv .u64 (.tmp 23), none⟩,
    ⟨(some 25), .bin .shl (.tmp 24) (.const (.int .u64 32)), none⟩,
    ⟨(some 26), .fieldA 3 (.tmp 1), none⟩,
    ⟨(some 27), .load1 (.int .u32) (.tmp 26), none⟩,
    ⟨(some 28), .conv .u64 (.tmp 27), none⟩,
    ⟨(some 29), .bin .or (.tmp 25) (.tmp 28), none⟩,
    ⟨(some 30), .callF 44 [(.tmp 29), (.const (.int .i64 8))], none⟩,
    ⟨(some 5), .mv (.tmp 30), none⟩]
def k48_4 : VC := .regD [⟨(some 31), .mv (.tmp 3), none⟩,
    ⟨(some 32), .bin .shl (.tmp 31) (.const (.int .u64 12)), none⟩,
    ⟨(some 33), .fieldA 4 (.tmp 1), none⟩,
    ⟨(some 34), .load1 (.int .i64) (.tmp 33), none⟩,
    ⟨(some 35), .conv .u64 (.tmp 34), none⟩,
    ⟨(some 36), .bin .or (.tmp 32) (.tmp 35), none⟩,
    ⟨(some 37), .callF 44 [(.tmp 36), (.const (.int .i64 2))], none⟩,
    ⟨(some 38), .fieldA 5 (.tmp 1), none⟩,
    ⟨(some 39), .load1 (.int .i64) (.tmp 38), none⟩,
    ⟨(some 40), .conv .u64 (.tmp 39), none⟩] [(6, 8)] [⟨(some 41), .callF 44 [(.tmp 40), (.const (.int .i64 2))], none⟩,
    ⟨(some 42), .bin .add (.tmp 37) (.tmp 41), none⟩,
    ⟨(some 6), .mv (.tmp 42), none⟩]
def k48_5 : VC := .regD [⟨(some 43), .mv (.tmp 4), none⟩,
    ⟨(some 44), .mv (.tmp 5), none⟩,
    ⟨(some 45), .bin .add (.tmp 43) (.tmp 44), none⟩,
    ⟨(some 46), .mv (.tmp 6), none⟩,
    ⟨(some 47), .bin .add (.tmp 45) (.tmp 46), none⟩,
    ⟨(some 48), .fieldA 6 (.tmp 1), none⟩,
    ⟨(some 49), .load1 (.int .i64) (.tmp 48), none⟩,
    ⟨(some 50), .conv .u64 (.tmp 49), none⟩,
    ⟨(some 51), .callF 44 [(.tmp 50), (.const (.int .i64 4))], none⟩,
    ⟨(some 52), .bin .add (.tmp 47) (.tmp 51), none⟩,
    ⟨(some 53), .fieldA 7 (.tmp 1), none⟩,
    ⟨(some 54), .load1 .str (.tmp 53), none⟩] [(8, 11)] [⟨(some 55), .bin .add (.tmp 52) (.tmp 54), none⟩,
    ⟨(some 2), .mv (.tmp 55), none⟩]
def k48_6 : VC := .seq k48_5 .ret
def k48_7 : VC := .seq k48_4 k48_6
def k48_8 : VC := .seq k48_3 k48_7
def k48_9 : VC := .seq k48_2 k48_8
def k48_10 : VC := .seq k48_1 k48_9
def k48_11 : VC := .seq k48_0 k48_10
def fn48 : VFn := ⟨56, k48_11, [.tmp 2]⟩
def k49_0 : VC := .reg [⟨(some 2), .mv (.const (.int .i64 0)), none⟩]
def k49_1 : VC := .reg [⟨(some 3), .mv (.tmp 0), none⟩,
    ⟨(some 4), .callF 77 [(.tmp 3)], none⟩,
    ⟨(some 5), .bin .sub (.const (.int .i64 65535)) (.tmp 4), none⟩,
    ⟨(some 2), .mv (.tmp 5), none⟩]
def k49_2 : VC := .seq k49_1 .ret
def k49_3 : VC := .seq k49_0 k49_2
def fn49 : VFn := ⟨6, k49_3, [.tmp 2]⟩
def k28_0 : VC := .reg [⟨(some 8), .mv (.const (.string ⟨⟨[]⟩⟩)), none⟩]
def k28_1 : VC := .reg [⟨(some 10), .mv (.tmp 3), none⟩,
    ⟨(some 11), .mv (.tmp 2), none⟩,
    ⟨(some 12), .callF 44 [(.tmp 10), (.tmp 11)], none⟩,
    ⟨(some 9), .mv (.tmp 12), none⟩]
def k28_2 : VC := .reg [⟨(some 13), .mv (.tmp 9), none⟩,
    ⟨(some 14), .bin .eql (.tmp 13) (.const (.string ⟨⟨[]⟩⟩)), none⟩,
    ⟨(some 15), .mv (.tmp 14), none⟩,
    ⟨(some 16), .mv (.tmp 1), (some (15, false))⟩,
    ⟨(some 17), .bin .lss (.tmp 16) (.const (.int .i64 0)), (some (15, false))⟩,
    ⟨(some 18), .pick (.tmp 15) (.const (.bool true)) (.tmp 17), none⟩,
    ⟨(some 19), .mv (.tmp 18), none⟩,
    ⟨(some 20), .mv (.tmp 0), (some (19, false))⟩,
    ⟨(some 21), .lenS (.tmp 20), (some (19, false))⟩,
    ⟨(some 22), .mv (.tmp 2), (some (19, false))⟩,
    ⟨(some 23), .bin .sub (.tmp 21) (.tmp 22), (some (19, false))⟩,
    ⟨(some 24), .mv (.tmp 1), (some (19, false))⟩,
    ⟨(some 25), .bin .lss (.tmp 23) (.tmp 24), (some (19, false))⟩,
    ⟨(some 26), .pick (.tmp 19) (.const (.bool true)) (.tmp 25), none⟩]
def k28_3 : VC := .reg [⟨(some 27), .mv (.tmp 0), none⟩,
    ⟨(some 8), .mv (.tmp 27), none⟩]
def k28_4 : VC := .seq k28_3 .ret
def k28_5 : VC := .cond (.tmp 26) k28_4 .skip
def k28_6 : VC := .seq k28_2 k28_5
def k28_7 : VC := .regD [⟨(some 28), .mv (.tmp 0), none⟩,
    ⟨(some 29), .mv (.tmp 1), none⟩,
    ⟨(some 30), .sliceS (.tmp 28) none (some (.tmp 29)), none⟩,
    ⟨(some 31), .mv (.tmp 9), none⟩,
    ⟨(some 32), .bin .add (.tmp 30) (.tmp 31), none⟩,
    ⟨(some 33), .mv (.tmp 0), none⟩,
    ⟨(some 34), .mv (.tmp 1), none⟩,
    ⟨(some 35), .mv (.tmp 2), none⟩,
    ⟨(some 36), .bin .add (.tmp 34) (.tmp 35), none⟩,
    ⟨(some 37), .sliceS (.tmp 33) (some (.tmp 36)) none, none⟩] [] [⟨(some 38), .bin .add (.tmp 32) (.tmp 37), none⟩,
    ⟨(some 8), .mv (.tmp 38), none⟩]
def k28_8 : VC := .seq k28_7 .ret
def k28_9 : VC := .seq k28_6 k28_8
def k28_10 : VC := .seq k28_1 k28_9
def k28_11 : VC := .seq k28_0 k28_10
def fn28 : VFn := ⟨39, k28_11, [.tmp 8]⟩
def k32_0 : VC := .reg [⟨(some 2), .box (.tmp 0), none⟩,
    ⟨(some 4), .mv (.const (.string ⟨⟨[]⟩⟩)), none⟩,
    ⟨(some 5), .mv (.const (.int .i64 0)), none⟩]
def k32_1 : VC := .reg [⟨(some 9), .fieldA 0 (.tmp 2), none⟩,
    ⟨(some 10), .load1 (.int .i64) (.tmp 9), none⟩,
    ⟨(some 11), .bin .eql (.tmp 10) (.const (.int .i64 6)), none⟩,
    ⟨(some 12), .mv (.tmp 11), none⟩,
    ⟨(some 13), .fieldA 0 (.tmp 2), (some (12, false))⟩,
    ⟨(some 14), .load1 (.int .i64) (.tmp 13), (some (12, false))⟩,
    ⟨(some 15), .bin .eql (.tmp 14) (.const (.int .i64 17)), (some (12, false))⟩,
    ⟨(some 16), .pick (.tmp 12) (.const (.bool true)) (.tmp 15), none⟩,
    ⟨(some 6), .mv (.tmp 16), none⟩]
def k32_2 : VC := .reg [⟨(some 17), .mv (.tmp 6), none⟩,
    ⟨(some 18), .not (.tmp 17), none⟩,
    ⟨(some 19), .mv (.tmp 18), none⟩,
    ⟨(some 20), .fieldA 1 (.tmp 2), (some (19, false))⟩,
    ⟨(some 21), .fieldA 0 (.tmp 20), (some (19, false))⟩,
    ⟨(some 22), .load1 .bool (.tmp 21), (some (19, false))⟩,
    ⟨(some 23), .fieldA 4 (.tmp 2), (some (19, false))⟩,
    ⟨(some 24), .fieldA 0 (.tmp 23), (some (19, false))⟩,
    ⟨(some 25), .load1 .bool (.tmp 24), (some (19, false))⟩,
    ⟨(some 26), .eqB true (.tmp 22) (.tmp 25), (some (19, false))⟩,
    ⟨(some 27), .pick (.tmp 19) (.const (.bool true)) (.tmp 26), none⟩,
    ⟨(some 28), .mv (.tmp 27), none⟩,
    ⟨(some 29), .fieldA 1 (.tmp 2), (some (28, false))⟩,
    ⟨(some 30), .loadN [.bool, (.int .u64), (.int .u64)] (.tmp 29), (some (28, false))⟩,
    ⟨(some 31), .callF 50 [(.tmp 30)], (some (28, false))⟩,
    ⟨(some 32), .not (.tmp 31), (some (28, false))⟩,
    ⟨(some 33), .pick (.tmp 28) (.const (.bool true)) (.tmp 32), none⟩,
    ⟨(some 34), .mv (.tmp 33), none⟩,
    ⟨(some 35), .fieldA 4 (.tmp 2), (some (34, false))⟩,
    ⟨(some 36), .loadN [.bool, (.int .u64), (.int .u64)] (.tmp 35), (some (34, false))⟩,
    ⟨(some 37), .callF 50 [(.tmp 36)], (some (34, false))⟩,
    ⟨(some 38), .not (.tmp 37), (some (34, false))⟩,
    ⟨(some 39), .pick (.tmp 34) (.const (.bool true)) (.tmp 38), none⟩]
def k32_3 : VC := .reg [⟨(some 4), .mv (.const (.string ⟨⟨[]⟩⟩)), none⟩,
    ⟨(some 5), .mv (.const (.int .i64 1)), none⟩]
def k32_4 : VC := .seq k32_3 .ret
def k32_5 : VC := .cond (.tmp 39) k32_4 .skip
def k32_6 : VC := .seq k32_2 k32_5
def k32_7 : VC := .reg [⟨(some 7), .mv (.const (.string ⟨⟨[]⟩⟩)), none⟩]
def k32_8 : VC := .reg [⟨(some 8), .mv (.const (.int .i64 0)), none⟩]
def k32_9 : VC := .reg [⟨(some 40), .fieldA 1 (.tmp 2), none⟩,
    ⟨(some 41), .fieldA 0 (.tmp 40), none⟩,
    ⟨(some 42), .load1 .bool (.tmp 41), none⟩]
def k32_10 : VC := .reg [⟨(some 44), .fieldA 0 (.tmp 2), none⟩,
    ⟨(some 45), .load1 (.int .i64) (.tmp 44), none⟩,
    ⟨(some 46), .fieldA 1 (.tmp 2), none⟩,
    ⟨(some 47), .loadN [.bool, (.int .u64), (.int .u64)] (.tmp 46), none⟩,
    ⟨(some 48), .fieldA 4 (.tmp 2), none⟩,
    ⟨(some 49), .loadN [.bool, (.int .u64), (.int .u64)] (.tmp 48), none⟩,
    ⟨(some 50), .build [(.int .i64 0), (.int .i64 0), (.int .i64 0), (.int .i64 0), (.bool false), (.int .u64 0), (.int .u64 0), (.bool false), (.int .u64 0), (.int .u64 0)] [(2, 1, (.tmp 45)), (3, 1, (.const (.int .i64 64))), (4, 3, (.tmp 47)), (7, 3, (.tmp 49))], none⟩,
    ⟨(some 51), .mv (.tmp 1), none⟩,
    ⟨(some 52), .callF 51 [(.tmp 50), (.tmp 51)], none⟩,
    ⟨(some 43), .mv (.tmp 52), none⟩,
    ⟨(some 53), .extract 0 (.tmp 43), none⟩,
    ⟨(some 54), .extract 1 (.tmp 43), none⟩,
    ⟨(some 7), .mv (.tmp 53), none⟩,
    ⟨(some 8), .mv (.tmp 54), none⟩]
def k32_11 : VC := .reg [⟨(some 56), .fieldA 0 (.tmp 2), none⟩,
    ⟨(some 57), .load1 (.int .i64) (.tmp 56), none⟩,
    ⟨(some 58), .fieldA 1 (.tmp 2), none⟩,
    ⟨(some 59), .loadN [.bool, (.int .u64), (.int .u64)] (.tmp 58), none⟩,
    ⟨(some 60), .fieldA 4 (.tmp 2), none⟩,
    ⟨(some 61), .loadN [.bool, (.int .u64), (.int .u64)] (.tmp 60), none⟩,
    ⟨(some 62), .build [(.int .i64 0), (.int .i64 0), (.bool false), (.int .i64 0), (.int .i64 0), (.bool false), (.int .u64 0), (.int .u64 0), (.bool false), (.int .u64 0), (.int .u64 0), (.string ⟨⟨[]⟩⟩)] [(2, 1, (.const (.bool true))), (3, 1, (.const (.int .i64 64))), (4, 1, (.tmp 57)), (5, 3, (.tmp 59)), (8, 3, (.tmp 61))], none⟩,
    ⟨(some 63), .mv (.tmp 1), none⟩,
    ⟨(some 64), .callF 52 [(.tmp 62), (.tmp 63)], none⟩,
    ⟨(some 55), .mv (.tmp 64), none⟩,
    ⟨(some 65), .extract 0 (.tmp 55), none⟩,
    ⟨(some 66), .extract 1 (.tmp 55), none⟩,
    ⟨(some 7), .mv (.tmp 65), none⟩,
    ⟨(some 8), .mv (.tmp 66), none⟩]
def k32_12 : VC := .cond (.tmp 42) k32_10 k32_11
def k32_13 : VC := .seq k32_9 k32_12
def k32_14 : VC := .reg [⟨(some 67), .mv (.tmp 8), none⟩,
    ⟨(some 68), .bin .eql (.tmp 67) (.const (.int .i64 0)), none⟩,
    ⟨(some 69), .mv (.tmp 68), none⟩,
    ⟨(some 70), .mv (.tmp 7), (some (69, true))⟩,
    ⟨(some 71), .lenS (.tmp 70), (some (69, true))⟩,
    ⟨(some 72), .bin .gtr (.tmp 71) (.const (.int .i64 9000)), (some (69, true))⟩,
    ⟨(some 73), .pick (.tmp 69) (.tmp 72) (.const (.bool false)), none⟩]
def k32_15 : VC := .reg [⟨(some 4), .mv (.const (.string ⟨⟨[]⟩⟩)), none⟩,
    ⟨(some 5), .mv (.const (.int .i64 5)), none⟩]
def k32_16 : VC := .seq k32_15 .ret
def k32_17 : VC := .cond (.tmp 73) k32_16 .skip
def k32_18 : VC := .seq k32_14 k32_17
def k32_19 : VC := .reg [⟨(some 74), .mv (.tmp 7), none⟩,
    ⟨(some 75), .mv (.tmp 8), none⟩,
    ⟨(some 4), .mv (.tmp 74), none⟩,
    ⟨(some 5), .mv (.tmp 75), none⟩]
def k32_20 : VC := .seq k32_19 .ret
def k32_21 : VC := .seq k32_18 k32_20
def k32_22 : VC := .seq k32_13 k32_21
def k32_23 : VC := .seq k32_8 k32_22
def k32_24 : VC := .seq k32_7 k32_23
def k32_25 : VC := .seq k32_6 k32_24
def k32_26 : VC := .seq k32_1 k32_25
def k32_27 : VC := .seq k32_0 k32_26
def fn32 : VFn := ⟨76, k32_27, [.tmp 4, .tmp 5]⟩
def k51_0 : VC := .reg [⟨(some 2), .box (.tmp 0), none⟩,
    ⟨(some 4), .mv (.const (.string ⟨⟨[]⟩⟩)), none⟩,
    ⟨(some 5), .mv (.const (.int .i64 0)), none⟩]
def k51_1 : VC := .reg [⟨(some 9), .loadN [(.int .i64), (.int .i64), (.int .i64), (.int .i64), .bool, (.int .u64), (.int .u64), .bool, (.int .u64), (.int .u64)] (.tmp 2), none⟩,
    ⟨(some 10), .callF 78 [(.tmp 9)], none⟩,
    ⟨(some 11), .not (.tmp 10), none⟩,
    ⟨(some 8), .mv (.tmp 11), none⟩]
def k51_2 : VC := .reg [⟨(some 4), .mv (.const (.string ⟨⟨[]⟩⟩)), none⟩,
    ⟨(some 5), .mv (.const (.int .i64 1)), none⟩]
def k51_3 : VC := .seq k51_2 .ret
def k51_4 : VC := .reg [⟨(some 13), .mv (.tmp 1), none⟩,
    ⟨(some 14), .lenS (.tmp 13), none⟩,
    ⟨(some 15), .bin .gtr (.tmp 14) (.const (.int .i64 65535)), none⟩,
    ⟨(some 12), .mv (.tmp 15), none⟩]
def k51_5 : VC := .reg [⟨(some 4), .mv (.const (.string ⟨⟨[]⟩⟩)), none⟩,
    ⟨(some 5), .mv (.const (.int .i64 5)), none⟩]
def k51_6 : VC := .seq k51_5 .ret
def k51_7 : VC := .cond (.tmp 12) k51_6 .skip
def k51_8 : VC := .seq k51_4 k51_7
def k51_9 : VC := .cond (.tmp 8) k51_3 k51_8
def k51_10 : VC := .seq k51_1 k51_9
def k51_11 : VC := .block 0 k51_10
def k51_12 : VC := .reg [⟨(some 16), .fieldA 0 (.tmp 2), none⟩,
    ⟨(some 17), .load1 (.int .i64) (.tmp 16), none⟩,
    ⟨(some 18), .conv .u64 (.tmp 17), none⟩,
    ⟨(some 19), .bin .shl (.tmp 18) (.const (.int .u64 20)), none⟩,
    ⟨(some 20), .bin .or (.const (.int .u64 1610612736)) (.tmp 19), none⟩,
    ⟨(some 21), .fieldA 1 (.tmp 2), none⟩,
    ⟨(some 22), .load1 (.int .i64) (.tmp 21), none⟩,
    ⟨(some 23), .conv .u64 (.tmp 22), none⟩,
    ⟨(some 24), .bin .or (.tmp 20) (.tmp 23), none⟩,
    ⟨(some 25), .callF 44 [(.tmp 24), (.const (.int .i64 4))], none⟩,
    ⟨(some 6), .mv (.tmp 25), none⟩]
def k51_13 : VC := .reg [⟨(some 26), .mv (.tmp 1), none⟩,
    ⟨(some 27), .lenS (.tmp 26), none⟩,
    ⟨(some 28), .conv .u64 (.tmp 27), none⟩,
    ⟨(some 29), .bin .shl (.tmp 28) (.const (.int .u64 16)), none⟩,
    ⟨(some 30), .fieldA 2 (.tmp 2), none⟩,
    ⟨(some 31), .load1 (.int .i64) (.tmp 30), none⟩,
    ⟨(some 32), .conv .u64 (.tmp 31), none⟩,
    ⟨(some 33), .bin .shl (.tmp 32) (.const (.int .u64 8)), none⟩,
    ⟨(some 34), .bin .or (.tmp 29) (.tmp 33), none⟩,
    ⟨(some 35), .fieldA 3 (.tmp 2), none⟩,
    ⟨(some 36), .load1 (.int .i64) (.tmp 35), none⟩,
    ⟨(some 37), .conv .u64 (.tmp 36), none⟩,
    ⟨(some 38), .bin .or (.tmp 34) (.tmp 37), none⟩,
    ⟨(some 39), .callF 44 [(.tmp 38), (.const (.int .i64 4))], none⟩,
    ⟨(some 7), .mv (.tmp 39), none⟩]
def k51_14 : VC := .regD [⟨(some 40), .mv (.tmp 6), none⟩,
    ⟨(some 41), .mv (.tmp 7), none⟩,
    ⟨(some 42), .bin .add (.tmp 40) (.tmp 41), none⟩,
    ⟨(some 43), .fieldA 4 (.tmp 2), none⟩,
    ⟨(some 44), .loadN [.bool, (.int .u64), (.int .u64)] (.tmp 43), none⟩,
    ⟨(some 45), .callF 74 [(.tmp 44)], none⟩,
    ⟨(some 46), .bin .add (.tmp 42) (.tmp 45), none⟩,
    ⟨(some 47), .fieldA 7 (.tmp 2), none⟩,
    ⟨(some 48), .loadN [.bool, (.int .u64), (.int .u64)] (.tmp 47), none⟩,
    ⟨(some 49), .callF 74 [(.tmp 48)], none⟩,
    ⟨(some 50), .bin .add (.tmp 46) (.tmp 49), none⟩,
    ⟨(some 51), .mv (.tmp 1), none⟩] [(5, 8)] [⟨(some 52), .bin .add (.tmp 50) (.tmp 51), none⟩,
    ⟨(some 4), .mv (.tmp 52), none⟩,
    ⟨(some 5), .mv (.const (.int .i64 0)), none⟩]
def k51_15 : VC := .seq k51_14 .ret
def k51_16 : VC := .seq k51_13 k51_15
def k51_17 : VC := .seq k51_12 k51_16
def k51_18 : VC := .seq k51_11 k51_17
def k51_19 : VC := .seq k51_0 k51_18
def fn51 : VFn := ⟨53, k51_19, [.tmp 4, .tmp 5]⟩
def k78_0 : VC := .reg [⟨(some 1), .box (.tmp 0), none⟩,
    ⟨(some 2), .mv (.const (.bool false)), none⟩]
def k78_1 : VC := .reg [⟨(some 5), .fieldA 0 (.tmp 1), none⟩,
    ⟨(some 6), .load1 (.int .i64) (.tmp 5), none⟩,
    ⟨(some 7), .build [(.int .i64 0), (.int .i64 0)] [(0, 1, (.tmp 6)), (1, 1, (.const (.int .i64 255)))], none⟩,
    ⟨(some 8), .fieldA 1 (.tmp 1), none⟩,
    ⟨(some 9), .load1 (.int .i64) (.tmp 8), none⟩,
    ⟨(some 10), .build [(.int .i64 0), (.int .i64 0)] [(0, 1, (.tmp 9)), (1, 1, (.const (.int .i64 1048575)))], none⟩,
    ⟨(some 11), .fieldA 2 (.tmp 1), none⟩,
    ⟨(some 12), .load1 (.int .i64) (.tmp 11), none⟩,
    ⟨(some 13), .build [(.int .i64 0), (.int .i64 0)] [(0, 1, (.tmp 12)), (1, 1, (.const (.int .i64 255)))], none⟩,
    ⟨(some 14), .fieldA 3 (.tmp 1), none⟩,
    ⟨(some 15), .load1 (.int .i64) (.tmp 14), none⟩,
    ⟨(some 16), .build [(.int .i64 0), (.int .i64 0)] [(0, 1, (.tmp 15)), (1, 1, (.const (.int .i64 255)))], none⟩,
    ⟨(some 17), .buildSl 4 2 [(.int .i64 0), (.int .i64 0), (.int .i64 0), (.int .i64 0), (.int .i64 0), (.int .i64 0), (.int .i64 0), (.int .i64 0)] [(0, 2, (.tmp 7)), (2, 2, (.tmp 10)), (4, 2, (.tmp 13)), (6, 2, (.tmp 16))], none⟩,
    ⟨(some 18), .lenL (.tmp 17), none⟩,
    ⟨(some 19), .mv (.const (.int .i64 0)), none⟩]
def k78_2 : VC := .reg [⟨(some 20), .bin .lss (.tmp 19) (.tmp 18), none⟩]
def k78_3 : VC := .cond (.tmp 20) .skip (.exit 0)
def k78_4 : VC := .reg [⟨(some 21), .idxAL 2 (.tmp 17) (.tmp 19), none⟩,
    ⟨(some 22), .loadN [(.int .i64), (.int .i64)] (.tmp 21), none⟩,
    ⟨(some 4), .alloc [(.int .i64 0), (.int .i64 0)], none⟩,
    ⟨none, .store 2 (.tmp 4) (.tmp 22), none⟩]
def k78_5 : VC := .reg [⟨(some 23), .idxAA 2 1 (.tmp 4) (.const (.int .i64 0)), none⟩,
    ⟨(some 24), .load1 (.int .i64) (.tmp 23), none⟩,
    ⟨(some 25), .bin .lss (.tmp 24) (.const (.int .i64 0)), none⟩,
    ⟨(some 26), .mv (.tmp 25), none⟩,
    ⟨(some 27), .idxAA 2 1 (.tmp 4) (.const (.int .i64 0)), (some (26, false))⟩,
    ⟨(some 28), .load1 (.int .i64) (.tmp 27), (some (26, false))⟩,
    ⟨(some 29), .idxAA 2 1 (.tmp 4) (.const (.int .i64 1)), (some (26, false))⟩,
    ⟨(some 30), .load1 (.int .i64) (.tmp 29), (some (26, false))⟩,
    ⟨(some 31), .bin .gtr (.tmp 28) (.tmp 30), (some (26, false))⟩,
    ⟨(some 32), .pick (.tmp 26) (.const (.bool true)) (.tmp 31), none⟩]
def k78_6 : VC := .reg [⟨(some 2), .mv (.const (.bool false)), none⟩]
def k78_7 : VC := .seq k78_6 .ret
def k78_8 : VC := .cond (.tmp 32) k78_7 .skip
def k78_9 : VC := .seq k78_5 k78_8
def k78_10 : VC := .seq k78_4 k78_9
def k78_11 : VC := .block 1 k78_10
def k78_12 : VC := .reg [⟨(some 33), .bin .add (.tmp 19) (.const (.int .i64 1)), none⟩,
    ⟨(some 19), .mv (.tmp 33), none⟩]
def k78_13 : VC := .seq k78_11 k78_12
def k78_14 : VC := .seq k78_3 k78_13
def k78_15 : VC := .seq k78_2 k78_14
def k78_16 : VC := .loop k78_15
def k78_17 : VC := .block 0 k78_16
def k78_18 : VC := .seq k78_1 k78_17
def k78_19 : VC := .reg [⟨(some 34), .fieldA 4 (.tmp 1), none⟩,
    ⟨(some 35), .fieldA 0 (.tmp 34), none⟩,
    ⟨(some 36), .load1 .bool (.tmp 35), none⟩,
    ⟨(some 37), .mv (.tmp 36), none⟩,
    ⟨(some 38), .fieldA 7 (.tmp 1), (some (37, true))⟩,
    ⟨(some 39), .fieldA 0 (.tmp 38), (some (37, true))⟩,
    ⟨(some 40), .load1 .bool (.tmp 39), (some (37, true))⟩,
    ⟨(some 41), .pick (.tmp 37) (.tmp 40) (.const (.bool false)), none⟩,
    ⟨(some 2), .mv (.tmp 41), none⟩]
def k78_20 : VC := .seq k78_19 .ret
def k78_21 : VC := .seq k78_18 k78_20
def k78_22 : VC := .seq k78_0 k78_21
def fn78 : VFn := ⟨42, k78_22, [.tmp 2]⟩
def k52_0 : VC := .reg [⟨(some 2), .box (.tmp 0), none⟩,
    ⟨(some 4), .mv (.const (.string ⟨⟨[]⟩⟩)), none⟩,
    ⟨(some 5), .mv (.const (.int .i64 0)), none⟩]
def k52_1 : VC := .reg [⟨(some 9), .fieldA 11 (.tmp 2), none⟩,
    ⟨(some 10), .load1 .str (.tmp 9), none⟩,
    ⟨(some 11), .lenS (.tmp 10), none⟩,
    ⟨(some 12), .bin .add (.const (.int .i64 20)) (.tmp 11), none⟩,
    ⟨(some 6), .mv (.tmp 12), none⟩]
def k52_2 : VC := .reg [⟨(some 14), .loadN [(.int .i64), (.int .i64), .bool, (.int .i64), (.int .i64), .bool, (.int .u64), (.int .u64), .bool, (.int .u64), (.int .u64), .str] (.tmp 2), none⟩,
    ⟨(some 15), .callF 79 [(.tmp 14)], none⟩,
    ⟨(some 16), .not (.tmp 15), none⟩,
    ⟨(some 13), .mv (.tmp 16), none⟩]
def k52_3 : VC := .reg [⟨(some 4), .mv (.const (.string ⟨⟨[]⟩⟩)), none⟩,
    ⟨(some 5), .mv (.const (.int .i64 1)), none⟩]
def k52_4 : VC := .seq k52_3 .ret
def k52_5 : VC := .reg [⟨(some 18), .mv (.tmp 1), none⟩,
    ⟨(some 19), .lenS (.tmp 18), none⟩,
    ⟨(some 20), .mv (.tmp 6), none⟩,
    ⟨(some 21), .bin .sub (.const (.int .i64 65535)) (.tmp 20), none⟩,
    ⟨(some 22), .bin .gtr (.tmp 19) (.tmp 21), none⟩,
    ⟨(some 17), .mv (.tmp 22), none⟩]
def k52_6 : VC := .reg [⟨(some 4), .mv (.const (.string ⟨⟨[]⟩⟩)), none⟩,
    ⟨(some 5), .mv (.const (.int .i64 5)), none⟩]
def k52_7 : VC := .seq k52_6 .ret
def k52_8 : VC := .cond (.tmp 17) k52_7 .skip
def k52_9 : VC := .seq k52_5 k52_8
def k52_10 : VC := .cond (.tmp 13) k52_4 k52_9
def k52_11 : VC := .seq k52_2 k52_10
def k52_12 : VC := .block 0 k52_11
def k52_13 : VC := .reg [⟨(some 7), .mv (.const (.int .i64 0)), none⟩]
def k52_14 : VC := .reg [⟨(some 23), .fieldA 2 (.tmp 2), none⟩,
    ⟨(some 24), .load1 .bool (.tmp 23), none⟩]
def k52_15 : VC := .reg [⟨(some 7), .mv (.const (.int .i64 64)), none⟩]
def k52_16 : VC := .cond (.tmp 24) k52_15 .skip
def k52_17 : VC := .seq k52_14 k52_16
def k52_18 : VC := .reg [⟨(some 25), .mv (.tmp 6), none⟩,
    ⟨(some 26), .bin .quo (.tmp 25) (.const (.int .i64 4)), none⟩,
    ⟨(some 27), .bin .or (.const (.int .i64 64)) (.tmp 26), none⟩,
    ⟨(some 28), .fieldA 0 (.tmp 2), none⟩,
    ⟨(some 29), .load1 (.int .i64) (.tmp 28), none⟩,
    ⟨(some 30), .mv (.tmp 6), none⟩,
    ⟨(some 31), .mv (.tmp 1), none⟩,
    ⟨(some 32), .lenS (.tmp 31), none⟩,
    ⟨(some 33), .bin .add (.tmp 30) (.tmp 32), none⟩,
    ⟨(some 34), .fieldA 1 (.tmp 2), none⟩,
    ⟨(some 35), .load1 (.int .i64) (.tmp 34), none⟩,
    ⟨(some 36), .mv (.tmp 7), none⟩,
    ⟨(some 37), .fieldA 3 (.tmp 2), none⟩,
    ⟨(some 38), .load1 (.int .i64) (.tmp 37), none⟩,
    ⟨(some 39), .fieldA 4 (.tmp 2), none⟩,
    ⟨(some 40), .load1 (.int .i64) (.tmp 39), none⟩,
    ⟨(some 41), .buildSl 18 1 [(.int .i64 0), (.int .i64 0), (.int .i64 0), (.int .i64 0), (.int .i64 0), (.int .i64 0), (.int .i64 0), (.int .i64 0), (.int .i64 0), (.int .i64 0), (.int .i64 0), (.int .i64 0), (.int .i64 0), (.int .i64 0), (.int .i64 0), (.int .i64 0), (.int .i64 0), (.int .i64 0)] [(0, 1, (.tmp 27)), (1, 1, (.const (.int .i64 1))), (2, 1, (.tmp 29)), (3, 1, (.const (.int .i64 1))), (4, 1, (.tmp 33)), (5, 1, (.const (.int .i64 2))), (6, 1, (.tmp 35)), (7, 1, (.const (.int .i64 2))), (8, 1, (.tmp 36)), (9, 1, (.const (.int .i64 1))), (10, 1, (.const (.int .i64 0))), (11, 1, (.const (.int .i64 1))), (12, 1, (.tmp 38)), (13, 1, (.const (.int .i64 1))), (14, 1, (.tmp 40)), (15, 1, (.const (.int .i64 1))), (16, 1, (.const (.int .i64 0))), (17, 1, (.const (.int .i64 2)))], none⟩,
    ⟨(some 42), .callF 75 [(.tmp 41)], none⟩,
    ⟨(some 8), .mv (.tmp 42), none⟩]
def k52_19 : VC := .regD [⟨(some 43), .mv (.tmp 8), none⟩,
    ⟨(some 44), .fieldA 5 (.tmp 2), none⟩,
    ⟨(some 45), .loadN [.bool, (.int .u64), (.int .u64)] (.tmp 44), none⟩,
    ⟨(some 46), .callF 74 [(.tmp 45)], none⟩,
    ⟨(some 47), .fieldA 8 (.tmp 2), none⟩,
    ⟨(some 48), .loadN [.bool, (.int .u64), (.int .u64)] (.tmp 47), none⟩,
    ⟨(some 49), .callF 74 [(.tmp 48)], none⟩,
    ⟨(some 50), .bin .add (.tmp 46) (.tmp 49), none⟩,
    ⟨(some 51), .fieldA 11 (.tmp 2), none⟩,
    ⟨(some 52), .load1 .str (.tmp 51), none⟩,
    ⟨(some 53), .bin .add (.tmp 50) (.tmp 52), none⟩] [(3, 5), (3, 9), (6, 9)] [⟨(some 54), .bin .add (.tmp 43) (.tmp 53), none⟩,
    ⟨(some 8), .mv (.tmp 54), none⟩]
def k52_20 : VC := .reg [⟨(some 55), .mv (.tmp 8), none⟩,
    ⟨(some 56), .mv (.tmp 8), none⟩,
    ⟨(some 57), .callF 49 [(.tmp 56)], none⟩,
    ⟨(some 58), .conv .u64 (.tmp 57), none⟩,
    ⟨(some 59), .callF 28 [(.tmp 55), (.const (.int .i64 10)), (.const (.int .i64 2)), (.tmp 58)], none⟩,
    ⟨(some 60), .mv (.tmp 1), none⟩,
    ⟨(some 61), .bin .add (.tmp 59) (.tmp 60), none⟩,
    ⟨(some 4), .mv (.tmp 61), none⟩,
    ⟨(some 5), .mv (.const (.int .i64 0)), none⟩]
def k52_21 : VC := .seq k52_20 .ret
def k52_22 : VC := .seq k52_19 k52_21
def k52_23 : VC := .seq k52_18 k52_22
def k52_24 : VC := .seq k52_17 k52_23
def k52_25 : VC := .seq k52_13 k52_24
def k52_26 : VC := .seq k52_12 k52_25
def k52_27 : VC := .seq k52_1 k52_26
def k52_28 : VC := .seq k52_0 k52_27
def fn52 : VFn := ⟨62, k52_28, [.tmp 4, .tmp 5]⟩
def k79_0 : VC := .reg [⟨(some 1), .box (.tmp 0), none⟩,
    ⟨(some 2), .mv (.const (.bool false)), none⟩]
def k79_1 : VC := .reg [⟨(some 3), .fieldA 0 (.tmp 1), none⟩,
    ⟨(some 4), .load1 (.int .i64) (.tmp 3), none⟩,
    ⟨(some 5), .callF 97 [(.tmp 4), (.const (.int .i64 255))], none⟩,
    ⟨(some 6), .not (.tmp 5), none⟩,
    ⟨(some 7), .mv (.tmp 6), none⟩,
    ⟨(some 8), .fieldA 1 (.tmp 1), (some (7, false))⟩,
    ⟨(some 9), .load1 (.int .i64) (.tmp 8), (some (7, false))⟩,
    ⟨(some 10), .callF 97 [(.tmp 9), (.const (.int .i64 65535))], (some (7, false))⟩,
    ⟨(some 11), .not (.tmp 10), (some (7, false))⟩,
    ⟨(some 12), .pick (.tmp 7) (.const (.bool true)) (.tmp 11), none⟩,
    ⟨(some 13), .mv (.tmp 12), none⟩,
    ⟨(some 14), .fieldA 3 (.tmp 1), (some (13, false))⟩,
    ⟨(some 15), .load1 (.int .i64) (.tmp 14), (some (13, false))⟩,
    ⟨(some 16), .callF 97 [(.tmp 15), (.const (.int .i64 255))], (some (13, false))⟩,
    ⟨(some 17), .not (.tmp 16), (some (13, false))⟩,
    ⟨(some 18), .pick (.tmp 13) (.const (.bool true)) (.tmp 17), none⟩,
    ⟨(some 19), .mv (.tmp 18), none⟩,
    ⟨(some 20), .fieldA 4 (.tmp 1), (some (19, false))⟩,
    ⟨(some 21), .load1 (.int .i64) (.tmp 20), (some (19, false))⟩,
    ⟨(some 22), .callF 97 [(.tmp 21), (.const (.int .i64 255))], (some (19, false))⟩,
    ⟨(some 23), .not (.tmp 22), (some (19, false))⟩,
    ⟨(some 24), .pick (.tmp 19) (.const (.bool true)) (.tmp 23), none⟩]
def k79_2 : VC := .reg [⟨(some 2), .mv (.const (.bool false)), none⟩]
def k79_3 : VC := .seq k79_2 .ret
def k79_4 : VC := .cond (.tmp 24) k79_3 .skip
def k79_5 : VC := .seq k79_1 k79_4
def k79_6 : VC := .reg [⟨(some 25), .fieldA 5 (.tmp 1), none⟩,
    ⟨(some 26), .loadN [.bool, (.int .u64), (.int .u64)] (.tmp 25), none⟩,
    ⟨(some 27), .callF 98 [(.tmp 26)], none⟩,
    ⟨(some 28), .mv (.tmp 27), none⟩,
    ⟨(some 29), .fieldA 8 (.tmp 1), (some (28, true))⟩,
    ⟨(some 30), .loadN [.bool, (.int .u64), (.int .u64)] (.tmp 29), (some (28, true))⟩,
    ⟨(some 31), .callF 98 [(.tmp 30)], (some (28, true))⟩,
    ⟨(some 32), .pick (.tmp 28) (.tmp 31) (.const (.bool false)), none⟩,
    ⟨(some 33), .mv (.tmp 32), none⟩,
    ⟨(some 34), .fieldA 11 (.tmp 1), (some (33, true))⟩,
    ⟨(some 35), .load1 .str (.tmp 34), (some (33, true))⟩,
    ⟨(some 36), .lenS (.tmp 35), (some (33, true))⟩,
    ⟨(some 37), .bin .rem (.tmp 36) (.const (.int .i64 4)), (some (33, true))⟩,
    ⟨(some 38), .bin .eql (.tmp 37) (.const (.int .i64 0)), (some (33, true))⟩,
    ⟨(some 39), .pick (.tmp 33) (.tmp 38) (.const (.bool false)), none⟩,
    ⟨(some 40), .mv (.tmp 39), none⟩,
    ⟨(some 41), .fieldA 11 (.tmp 1), (some (40, true))⟩,
    ⟨(some 42), .load1 .str (.tmp 41), (some (40, true))⟩,
    ⟨(some 43), .lenS (.tmp 42), (some (40, true))⟩,
    ⟨(some 44), .bin .leq (.tmp 43) (.const (.int .i64 40)), (some (40, true))⟩,
    ⟨(some 45), .pick (.tmp 40) (.tmp 44) (.const (.bool false)), none⟩,
    ⟨(some 2), .mv (.tmp 45), none⟩]
def k79_7 : VC := .seq k79_6 .ret
def k79_8 : VC := .seq k79_5 k79_7
def k79_9 : VC := .seq k79_0 k79_8
def fn79 : VFn := ⟨46, k79_9, [.tmp 2]⟩
def k97_0 : VC := .reg [⟨(some 4), .mv (.const (.bool false)), none⟩]
def k97_1 : VC := .reg [⟨(some 5), .mv (.tmp 0), none⟩,
    ⟨(some 6), .bin .leq (.const (.int .i64 0)) (.tmp 5), none⟩,
    ⟨(some 7), .mv (.tmp 6), none⟩,
    ⟨(some 8), .mv (.tmp 0), (some (7, true))⟩,
    ⟨(some 9), .mv (.tmp 1), (some (7, true))⟩,
    ⟨(some 10), .bin .leq (.tmp 8) (.tmp 9), (some (7, true))⟩,
    ⟨(some 11), .pick (.tmp 7) (.tmp 10) (.const (.bool false)), none⟩,
    ⟨(some 4), .mv (.tmp 11), none⟩]
def k97_2 : VC := .seq k97_1 .ret
def k97_3 : VC := .seq k97_0 k97_2
def fn97 : VFn := ⟨12, k97_3, [.tmp 4]⟩
def k98_0 : VC := .reg [⟨(some 1), .box (.tmp 0), none⟩,
    ⟨(some 2), .mv (.const (.bool false)), none⟩]
def k98_1 : VC := .reg [⟨(some 3), .fieldA 0 (.tmp 1), none⟩,
    ⟨(some 4), .load1 .bool (.tmp 3), none⟩,
    ⟨(some 5), .not (.tmp 4), none⟩,
    ⟨(some 6), .mv (.tmp 5), none⟩,
    ⟨(some 7), .loadN [.bool, (.int .u64), (.int .u64)] (.tmp 1), (some (6, true))⟩,
    ⟨(some 8), .callF 50 [(.tmp 7)], (some (6, true))⟩,
    ⟨(some 9), .pick (.tmp 6) (.tmp 8) (.const (.bool false)), none⟩,
    ⟨(some 2), .mv (.tmp 9), none⟩]
def k98_2 : VC := .seq k98_1 .ret
def k98_3 : VC := .seq k98_0 k98_2
def fn98 : VFn := ⟨10, k98_3, [.tmp 2]⟩
def k15_0 : VC := .reg [⟨(some 4), .mv (.const (.string ⟨⟨[]⟩⟩)), none⟩]
def k15_1 : VC := .reg [⟨(some 5), .mv (.tmp 0), none⟩,
    ⟨(some 6), .conv .i64 (.tmp 5), none⟩,
    ⟨(some 7), .callF 33 [(.tmp 6), (.const (.int .i64 4))], none⟩,
    ⟨(some 8), .bin .add (.const (.string ⟨⟨[1, 1, 8, 10]⟩⟩)) (.tmp 7), none⟩,
    ⟨(some 9), .mv (.tmp 1), none⟩,
    ⟨(some 10), .conv .i64 (.tmp 9), none⟩,
    ⟨(some 11), .callF 33 [(.tmp 10), (.const (.int .i64 4))], none⟩,
    ⟨(some 12), .bin .add (.tmp 8) (.tmp 11), none⟩,
    ⟨(some 4), .mv (.tmp 12), none⟩]
def k15_2 : VC := .seq k15_1 .ret
def k15_3 : VC := .seq k15_0 k15_2
def fn15 : VFn := ⟨13, k15_3, [.tmp 4]⟩
def k33_0 : VC := .reg [⟨(some 4), .mv (.const (.string ⟨⟨[]⟩⟩)), none⟩]
def k33_1 : VC := .reg [⟨(some 5), .mv (.tmp 0), none⟩,
    ⟨(some 6), .conv .u64 (.tmp 5), none⟩,
    ⟨(some 7), .mv (.tmp 1), none⟩,
    ⟨(some 8), .callF 24 [(.tmp 6), (.tmp 7)], none⟩,
    ⟨(some 4), .mv (.tmp 8), none⟩]
def k33_2 : VC := .seq k33_1 .ret
def k33_3 : VC := .seq k33_0 k33_2
def fn33 : VFn := ⟨9, k33_3, [.tmp 4]⟩
def k24_0 : VC := .reg [⟨(some 4), .mv (.const (.string ⟨⟨[]⟩⟩)), none⟩]
def k24_1 : VC := .reg [⟨(some 5), .mv (.const (.string ⟨⟨[]⟩⟩)), none⟩]
def k24_2 : VC := .reg [⟨(some 6), .mv (.const (.int .i64 0)), none⟩]
def k24_3 : VC := .reg [⟨(some 7), .mv (.tmp 6), none⟩,
    ⟨(some 8), .mv (.tmp 1), none⟩,
    ⟨(some 9), .bin .lss (.tmp 7) (.tmp 8), none⟩,
    ⟨(some 10), .mv (.tmp 9), none⟩,
    ⟨(some 11), .mv (.tmp 1), (some (10, true))⟩,
    ⟨(some 12), .bin .leq (.tmp 11) (.const (.int .i64 8)), (some (10, true))⟩,
    ⟨(some 13), .pick (.tmp 10) (.tmp 12) (.const (.bool false)), none⟩]
def k24_4 : VC := .cond (.tmp 13) .skip (.exit 0)
def k24_5 : VC := .seq k24_3 k24_4
def k24_6 : VC := .reg [⟨(some 16), .mv (.tmp 0), none⟩,
    ⟨(some 17), .bin .rem (.tmp 16) (.const (.int .u64 256)), none⟩,
    ⟨(some 18), .conv .u8 (.tmp 17), none⟩,
    ⟨(some 19), .buildSl 1 1 [(.int .u8 0)] [(0, 1, (.tmp 18))], none⟩,
    ⟨(some 20), .b2s (.tmp 19), none⟩,
    ⟨(some 21), .mv (.tmp 5), none⟩,
    ⟨(some 22), .bin .add (.tmp 20) (.tmp 21), none⟩,
    ⟨(some 5), .mv (.tmp 22), none⟩]
def k24_7 : VC := .reg [⟨(some 23), .mv (.tmp 0), none⟩,
    ⟨(some 24), .bin .quo (.tmp 23) (.const (.int .u64 256)), none⟩,
    ⟨(some 0), .mv (.tmp 24), none⟩]
def k24_8 : VC := .seq k24_6 k24_7
def k24_9 : VC := .block 1 k24_8
def k24_10 : VC := .reg [⟨(some 14), .mv (.tmp 6), none⟩,
    ⟨(some 15), .bin .add (.tmp 14) (.const (.int .i64 1)), none⟩,
    ⟨(some 6), .mv (.tmp 15), none⟩]
def k24_11 : VC := .seq k24_9 k24_10
def k24_12 : VC := .seq k24_5 k24_11
def k24_13 : VC := .loop k24_12
def k24_14 : VC := .block 0 k24_13
def k24_15 : VC := .seq k24_2 k24_14
def k24_16 : VC := .reg [⟨(some 25), .mv (.tmp 5), none⟩,
    ⟨(some 4), .mv (.tmp 25), none⟩]
def k24_17 : VC := .seq k24_16 .ret
def k24_18 : VC := .seq k24_15 k24_17
def k24_19 : VC := .seq k24_1 k24_18
def k24_20 : VC := .seq k24_0 k24_19
def fn24 : VFn := ⟨26, k24_20, [.tmp 4]⟩
def k18_0 : VC := .reg [⟨(some 2), .mv (.const (.int .i64 0)), none⟩,
    ⟨(some 3), .mv (.const (.int .i64 0)), none⟩,
    ⟨(some 4), .mv (.const (.int .i64 0)), none⟩]
def k18_1 : VC := .reg [⟨(some 10), .mv (.tmp 0), none⟩,
    ⟨(some 11), .callF 34 [(.tmp 10)], none⟩,
    ⟨(some 9), .mv (.tmp 11), none⟩,
    ⟨(some 12), .extract 0 (.tmp 9), none⟩,
    ⟨(some 13), .extract 1 (.tmp 9), none⟩,
    ⟨(some 14), .extract 2 (.tmp 9), none⟩,
    ⟨(some 15), .extract 3 (.tmp 9), none⟩,
    ⟨(some 5), .alloc [(.int .i64 0), (.bool false), (.int .u64 0), (.int .u64 0), (.bool false), (.int .u64 0), (.int .u64 0), (.int .i64 0), (.int .i64 0), (.int .i64 0), (.bool false), (.int .u32 0), (.int .u32 0), (.bool false), (.string ⟨⟨[]⟩⟩), (.int .i64 0)], none⟩,
    ⟨none, .store 16 (.tmp 5) (.tmp 12), none⟩,
    ⟨(some 6), .mv (.tmp 13), none⟩,
    ⟨(some 7), .mv (.tmp 14), none⟩,
    ⟨(some 8), .mv (.tmp 15), none⟩]
def k18_2 : VC := .reg [⟨(some 16), .mv (.tmp 8), none⟩,
    ⟨(some 17), .bin .neq (.tmp 16) (.const (.int .i64 0)), none⟩]
def k18_3 : VC := .reg [⟨(some 18), .mv (.tmp 8), none⟩,
    ⟨(some 2), .mv (.const (.int .i64 0)), none⟩,
    ⟨(some 3), .mv (.const (.int .i64 0)), none⟩,
    ⟨(some 4), .mv (.tmp 18), none⟩]
def k18_4 : VC := .seq k18_3 .ret
def k18_5 : VC := .cond (.tmp 17) k18_4 .skip
def k18_6 : VC := .seq k18_2 k18_5
def k18_7 : VC := .reg [⟨(some 19), .mv (.tmp 0), none⟩,
    ⟨(some 20), .lenS (.tmp 19), none⟩,
    ⟨(some 21), .mv (.tmp 6), none⟩,
    ⟨(some 22), .bin .sub (.tmp 20) (.tmp 21), none⟩,
    ⟨(some 23), .mv (.tmp 0), none⟩,
    ⟨(some 24), .lenS (.tmp 23), none⟩,
    ⟨(some 25), .mv (.tmp 7), none⟩,
    ⟨(some 26), .bin .sub (.tmp 24) (.tmp 25), none⟩,
    ⟨(some 2), .mv (.tmp 22), none⟩,
    ⟨(some 3), .mv (.tmp 26), none⟩,
    ⟨(some 4), .mv (.const (.int .i64 0)), none⟩]
def k18_8 : VC := .seq k18_7 .ret
def k18_9 : VC := .seq k18_6 k18_8
def k18_10 : VC := .seq k18_1 k18_9
def k18_11 : VC := .seq k18_0 k18_10
def fn18 : VFn := ⟨27, k18_11, [.tmp 2, .tmp 3, .tmp 4]⟩
def k19_0 : VC := .reg [⟨(some 1), .box (.tmp 0), none⟩,
    ⟨(some 2), .mv (.const (.string ⟨⟨[]⟩⟩)), none⟩,
    ⟨(some 3), .mv (.const (.int .i64 0)), none⟩]
def k19_1 : VC := .reg [⟨(some 4), .fieldA 1 (.tmp 1), none⟩,
    ⟨(some 5), .load1 (.int .i64) (.tmp 4), none⟩,
    ⟨(some 6), .bin .lss (.tmp 5) (.const (.int .i64 0)), none⟩,
    ⟨(some 7), .mv (.tmp 6), none⟩,
    ⟨(some 8), .fieldA 1 (.tmp 1), (some (7, false))⟩,
    ⟨(some 9), .load1 (.int .i64) (.tmp 8), (some (7, false))⟩,
    ⟨(some 10), .bin .gtr (.tmp 9) (.const (.int .i64 63)), (some (7, false))⟩,
    ⟨(some 11), .pick (.tmp 7) (.const (.bool true)) (.tmp 10), none⟩]
def k19_2 : VC := .reg [⟨(some 2), .mv (.const (.string ⟨⟨[]⟩⟩)), none⟩,
    ⟨(some 3), .mv (.const (.int .i64 1)), none⟩]
def k19_3 : VC := .seq k19_2 .ret
def k19_4 : VC := .cond (.tmp 11) k19_3 .skip
def k19_5 : VC := .seq k19_1 k19_4
def k19_6 : VC := .reg [⟨(some 12), .fieldA 0 (.tmp 1), none⟩,
    ⟨(some 13), .load1 .bool (.tmp 12), none⟩]
def k19_7 : VC := .reg [⟨(some 14), .fieldA 3 (.tmp 1), none⟩,
    ⟨(some 15), .load1 .str (.tmp 14), none⟩,
    ⟨(some 16), .lenS (.tmp 15), none⟩,
    ⟨(some 17), .bin .gtr (.tmp 16) (.const (.int .i64 20)), none⟩,
    ⟨(some 18), .mv (.tmp 17), none⟩,
    ⟨(some 19), .fieldA 4 (.tmp 1), (some (18, false))⟩,
    ⟨(some 20), .load1 .str (.tmp 19), (some (18, false))⟩,
    ⟨(some 21), .lenS (.tmp 20), (some (18, false))⟩,
    ⟨(some 22), .bin .gtr (.tmp 21) (.const (.int .i64 20)), (some (18, false))⟩,
    ⟨(some 23), .pick (.tmp 18) (.const (.bool true)) (.tmp 22), none⟩]
def k19_8 : VC := .reg [⟨(some 2), .mv (.const (.string ⟨⟨[]⟩⟩)), none⟩,
    ⟨(some 3), .mv (.const (.int .i64 1)), none⟩]
def k19_9 : VC := .seq k19_8 .ret
def k19_10 : VC := .cond (.tmp 23) k19_9 .skip
def k19_11 : VC := .seq k19_7 k19_10
def k19_12 : VC := .regD [⟨(some 24), .fieldA 1 (.tmp 1), none⟩,
    ⟨(some 25), .load1 (.int .i64) (.tmp 24), none⟩,
    ⟨(some 26), .bin .add (.const (.int .i64 192)) (.tmp 25), none⟩,
    ⟨(some 27), .conv .u64 (.tmp 26), none⟩,
    ⟨(some 28), .callF 24 [(.tmp 27), (.const (.int .i64 1))], none⟩,
    ⟨(some 29), .fieldA 2 (.tmp 1), none⟩,
    ⟨(some 30), .load1 (.int .u32) (.tmp 29), none⟩,
    ⟨(some 31), .conv .u64 (.tmp 30), none⟩,
    ⟨(some 32), .callF 24 [(.tmp 31), (.const (.int .i64 4))], none⟩,
    ⟨(some 33), .bin .add (.tmp 28) (.tmp 32), none⟩,
    ⟨(some 34), .fieldA 3 (.tmp 1), none⟩,
    ⟨(some 35), .load1 .str (.tmp 34), none⟩,
    ⟨(some 36), .lenS (.tmp 35), none⟩,
    ⟨(some 37), .conv .u64 (.tmp 36), none⟩,
    ⟨(some 38), .callF 24 [(.tmp 37), (.const (.int .i64 1))], none⟩,
    ⟨(some 39), .bin .add (.tmp 33) (.tmp 38), none⟩,
    ⟨(some 40), .fieldA 3 (.tmp 1), none⟩,
    ⟨(some 41), .load1 .str (.tmp 40), none⟩,
    ⟨(some 42), .bin .add (.tmp 39) (.tmp 41), none⟩,
    ⟨(some 43), .fieldA 4 (.tmp 1), none⟩,
    ⟨(some 44), .load1 .str (.tmp 43), none⟩,
    ⟨(some 45), .lenS (.tmp 44), none⟩,
    ⟨(some 46), .conv .u64 (.tmp 45), none⟩,
    ⟨(some 47), .callF 24 [(.tmp 46), (.const (.int .i64 1))], none⟩,
    ⟨(some 48), .bin .add (.tmp 42) (.tmp 47), none⟩,
    ⟨(some 49), .fieldA 4 (.tmp 1), none⟩,
    ⟨(some 50), .load1 .str (.tmp 49), none⟩,
    ⟨(some 51), .bin .add (.tmp 48) (.tmp 50), none⟩,
    ⟨(some 52), .fieldA 5 (.tmp 1), none⟩,
    ⟨(some 53), .load1 .str (.tmp 52), none⟩] [(4, 6), (4, 11), (4, 17), (4, 20), (4, 26), (4, 29), (8, 11), (8, 17), (8, 20), (8, 26), (8, 29), (14, 17), (14, 20), (14, 26), (14, 29), (17, 23), (23, 26), (23, 29)] [⟨(some 54), .bin .add (.tmp 51) (.tmp 53), none⟩,
    ⟨(some 2), .mv (.tmp 54), none⟩,
    ⟨(some 3), .mv (.const (.int .i64 0)), none⟩]
def k19_13 : VC := .seq k19_12 .ret
def k19_14 : VC := .seq k19_11 k19_13
def k19_15 : VC := .cond (.tmp 13) k19_14 .skip
def k19_16 : VC := .seq k19_6 k19_15
def k19_17 : VC := .reg [⟨(some 55), .fieldA 3 (.tmp 1), none⟩,
    ⟨(some 56), .load1 .str (.tmp 55), none⟩,
    ⟨(some 57), .lenS (.tmp 56), none⟩,
    ⟨(some 58), .bin .neq (.tmp 57) (.const (.int .i64 8)), none⟩,
    ⟨(some 59), .mv (.tmp 58), none⟩,
    ⟨(some 60), .fieldA 4 (.tmp 1), (some (59, false))⟩,
    ⟨(some 61), .load1 .str (.tmp 60), (some (59, false))⟩,
    ⟨(some 62), .bin .neq (.tmp 61) (.const (.string ⟨⟨[]⟩⟩)), (some (59, false))⟩,
    ⟨(some 63), .pick (.tmp 59) (.const (.bool true)) (.tmp 62), none⟩,
    ⟨(some 64), .mv (.tmp 63), none⟩,
    ⟨(some 65), .fieldA 2 (.tmp 1), (some (64, false))⟩,
    ⟨(some 66), .load1 (.int .u32) (.tmp 65), (some (64, false))⟩,
    ⟨(some 67), .bin .neq (.tmp 66) (.const (.int .u32 0)), (some (64, false))⟩,
    ⟨(some 68), .pick (.tmp 64) (.const (.bool true)) (.tmp 67), none⟩]
def k19_18 : VC := .reg [⟨(some 2), .mv (.const (.string ⟨⟨[]⟩⟩)), none⟩,
    ⟨(some 3), .mv (.const (.int .i64 1)), none⟩]
def k19_19 : VC := .seq k19_18 .ret
def k19_20 : VC := .cond (.tmp 68) k19_19 .skip
def k19_21 : VC := .seq k19_17 k19_20
def k19_22 : VC := .regD [⟨(some 69), .fieldA 1 (.tmp 1), none⟩,
    ⟨(some 70), .load1 (.int .i64) (.tmp 69), none⟩,
    ⟨(some 71), .bin .add (.const (.int .i64 64)) (.tmp 70), none⟩,
    ⟨(some 72), .conv .u64 (.tmp 71), none⟩,
    ⟨(some 73), .callF 24 [(.tmp 72), (.const (.int .i64 1))], none⟩,
    ⟨(some 74), .fieldA 3 (.tmp 1), none⟩,
    ⟨(some 75), .load1 .str (.tmp 74), none⟩,
    ⟨(some 76), .bin .add (.tmp 73) (.tmp 75), none⟩,
    ⟨(some 77), .fieldA 5 (.tmp 1), none⟩,
    ⟨(some 78), .load1 .str (.tmp 77), none⟩] [(4, 6), (4, 9)] [⟨(some 79), .bin .add (.tmp 76) (.tmp 78), none⟩,
    ⟨(some 2), .mv (.tmp 79), none⟩,
    ⟨(some 3), .mv (.const (.int .i64 0)), none⟩]
def k19_23 : VC := .seq k19_22 .ret
def k19_24 : VC := .seq k19_21 k19_23
def k19_25 : VC := .seq k19_16 k19_24
def k19_26 : VC := .seq k19_5 k19_25
def k19_27 : VC := .seq k19_0 k19_26
def fn19 : VFn := ⟨80, k19_27, [.tmp 2, .tmp 3]⟩
def k17_0 : VC := .reg [⟨(some 2), .box (.tmp 0), none⟩,
    ⟨(some 4), .mv (.const (.string ⟨⟨[]⟩⟩)), none⟩,
    ⟨(some 5), .mv (.const (.int .i64 0)), none⟩]
def k17_1 : VC := .reg [⟨(some 8), .fieldA 0 (.tmp 2), none⟩,
    ⟨(some 9), .load1 (.int .i64) (.tmp 8), none⟩,
    ⟨(some 10), .bin .neq (.tmp 9) (.const (.int .i64 17)), none⟩]
def k17_2 : VC := .reg [⟨(some 4), .mv (.const (.string ⟨⟨[]⟩⟩)), none⟩,
    ⟨(some 5), .mv (.const (.int .i64 1)), none⟩]
def k17_3 : VC := .seq k17_2 .ret
def k17_4 : VC := .cond (.tmp 10) k17_3 .skip
def k17_5 : VC := .seq k17_1 k17_4
def k17_6 : VC := .reg [⟨(some 12), .fieldA 7 (.tmp 2), none⟩,
    ⟨(some 13), .load1 (.int .i64) (.tmp 12), none⟩,
    ⟨(some 14), .fieldA 8 (.tmp 2), none⟩,
    ⟨(some 15), .load1 (.int .i64) (.tmp 14), none⟩,
    ⟨(some 16), .build [(.int .i64 0), (.int .i64 0)] [(0, 1, (.tmp 13)), (1, 1, (.tmp 15))], none⟩,
    ⟨(some 17), .fieldA 1 (.tmp 2), none⟩,
    ⟨(some 18), .loadN [.bool, (.int .u64), (.int .u64)] (.tmp 17), none⟩,
    ⟨(some 19), .fieldA 4 (.tmp 2), none⟩,
    ⟨(some 20), .loadN [.bool, (.int .u64), (.int .u64)] (.tmp 19), none⟩,
    ⟨(some 21), .mv (.tmp 1), none⟩,
    ⟨(some 22), .callF 35 [(.tmp 16), (.tmp 18), (.tmp 20), (.tmp 21)], none⟩,
    ⟨(some 11), .mv (.tmp 22), none⟩,
    ⟨(some 23), .extract 0 (.tmp 11), none⟩,
    ⟨(some 24), .extract 1 (.tmp 11), none⟩,
    ⟨(some 6), .mv (.tmp 23), none⟩,
    ⟨(some 7), .mv (.tmp 24), none⟩]
def k17_7 : VC := .reg [⟨(some 25), .mv (.tmp 7), none⟩,
    ⟨(some 26), .bin .neq (.tmp 25) (.const (.int .i64 0)), none⟩]
def k17_8 : VC := .reg [⟨(some 27), .mv (.tmp 7), none⟩,
    ⟨(some 4), .mv (.const (.string ⟨⟨[]⟩⟩)), none⟩,
    ⟨(some 5), .mv (.tmp 27), none⟩]
def k17_9 : VC := .seq k17_8 .ret
def k17_10 : VC := .cond (.tmp 26) k17_9 .skip
def k17_11 : VC := .seq k17_7 k17_10
def k17_12 : VC := .reg [⟨(some 28), .loadN [(.int .i64), .bool, (.int .u64), (.int .u64), .bool, (.int .u64), (.int .u64), (.int .i64), (.int .i64)] (.tmp 2), none⟩,
    ⟨(some 29), .mv (.tmp 6), none⟩,
    ⟨(some 30), .callF 32 [(.tmp 28), (.tmp 29)], none⟩,
    ⟨(some 31), .extract 0 (.tmp 30), none⟩,
    ⟨(some 32), .extract 1 (.tmp 30), none⟩,
    ⟨(some 4), .mv (.tmp 31), none⟩,
    ⟨(some 5), .mv (.tmp 32), none⟩]
def k17_13 : VC := .seq k17_12 .ret
def k17_14 : VC := .seq k17_11 k17_13
def k17_15 : VC := .seq k17_6 k17_14
def k17_16 : VC := .seq k17_5 k17_15
def k17_17 : VC := .seq k17_0 k17_16
def fn17 : VFn := ⟨33, k17_17, [.tmp 4, .tmp 5]⟩
def k35_0 : VC := .reg [⟨(some 4), .box (.tmp 0), none⟩,
    ⟨(some 5), .box (.tmp 1), none⟩,
    ⟨(some 6), .box (.tmp 2), none⟩,
    ⟨(some 8), .mv (.const (.string ⟨⟨[]⟩⟩)), none⟩,
    ⟨(some 9), .mv (.const (.int .i64 0)), none⟩]
def k35_1 : VC := .reg [⟨(some 17), .mv (.tmp 3), none⟩,
    ⟨(some 18), .lenS (.tmp 17), none⟩,
    ⟨(some 19), .bin .add (.const (.int .i64 8)) (.tmp 18), none⟩,
    ⟨(some 10), .mv (.tmp 19), none⟩]
def k35_2 : VC := .reg [⟨(some 20), .loadN [.bool, (.int .u64), (.int .u64)] (.tmp 5), none⟩,
    ⟨(some 21), .loadN [.bool, (.int .u64), (.int .u64)] (.tmp 6), none⟩,
    ⟨(some 22), .mv (.tmp 10), none⟩,
    ⟨(some 23), .callF 46 [(.tmp 20), (.tmp 21), (.const (.int .i64 17)), (.tmp 22)], none⟩,
    ⟨(some 11), .mv (.tmp 23), none⟩]
def k35_3 : VC := .reg [⟨(some 25), .fieldA 0 (.tmp 4), none⟩,
    ⟨(some 26), .load1 (.int .i64) (.tmp 25), none⟩,
    ⟨(some 27), .callF 56 [(.tmp 26)], none⟩,
    ⟨(some 28), .not (.tmp 27), none⟩,
    ⟨(some 29), .mv (.tmp 28), none⟩,
    ⟨(some 30), .fieldA 1 (.tmp 4), (some (29, false))⟩,
    ⟨(some 31), .load1 (.int .i64) (.tmp 30), (some (29, false))⟩,
    ⟨(some 32), .callF 56 [(.tmp 31)], (some (29, false))⟩,
    ⟨(some 33), .not (.tmp 32), (some (29, false))⟩,
    ⟨(some 34), .pick (.tmp 29) (.const (.bool true)) (.tmp 33), none⟩,
    ⟨(some 35), .mv (.tmp 34), none⟩,
    ⟨(some 36), .mv (.tmp 11), (some (35, false))⟩,
    ⟨(some 37), .bin .eql (.tmp 36) (.const (.string ⟨⟨[]⟩⟩)), (some (35, false))⟩,
    ⟨(some 38), .pick (.tmp 35) (.const (.bool true)) (.tmp 37), none⟩,
    ⟨(some 24), .mv (.tmp 38), none⟩]
def k35_4 : VC := .reg [⟨(some 8), .mv (.const (.string ⟨⟨[]⟩⟩)), none⟩,
    ⟨(some 9), .mv (.const (.int .i64 1)), none⟩]
def k35_5 : VC := .seq k35_4 .ret
def k35_6 : VC := .reg [⟨(some 40), .mv (.tmp 10), none⟩,
    ⟨(some 41), .bin .gtr (.tmp 40) (.const (.int .i64 65535)), none⟩,
    ⟨(some 39), .mv (.tmp 41), none⟩]
def k35_7 : VC := .reg [⟨(some 8), .mv (.const (.string ⟨⟨[]⟩⟩)), none⟩,
    ⟨(some 9), .mv (.const (.int .i64 5)), none⟩]
def k35_8 : VC := .seq k35_7 .ret
def k35_9 : VC := .cond (.tmp 39) k35_8 .skip
def k35_10 : VC := .seq k35_6 k35_9
def k35_11 : VC := .cond (.tmp 24) k35_5 k35_10
def k35_12 : VC := .seq k35_3 k35_11
def k35_13 : VC := .block 0 k35_12
def k35_14 : VC := .reg [⟨(some 12), .allocB 103 5, none⟩]
def k35_15 : VC := .reg [⟨(some 42), .fieldA 0 (.tmp 4), none⟩,
    ⟨(some 43), .load1 (.int .i64) (.tmp 42), none⟩,
    ⟨(some 44), .fieldA 1 (.tmp 4), none⟩,
    ⟨(some 45), .load1 (.int .i64) (.tmp 44), none⟩,
    ⟨(some 46), .mv (.tmp 10), none⟩,
    ⟨(some 47), .build [(.int .i64 0), (.int .i64 0), (.int .i64 0), (.int .i64 0)] [(0, 1, (.tmp 43)), (1, 1, (.tmp 45)), (2, 1, (.tmp 46)), (3, 1, (.const (.int .i64 0)))], none⟩,
    ⟨(some 48), .mv (.const (.int .i64 0)), none⟩]
def k35_16 : VC := .reg [⟨(some 49), .bin .lss (.tmp 48) (.const (.int .i64 4)), none⟩]
def k35_17 : VC := .cond (.tmp 49) .skip (.exit 1)
def k35_18 : VC := .reg [⟨(some 50), .idxV1 4 (.tmp 47) (.tmp 48), none⟩,
    ⟨(some 14), .mv (.tmp 50), none⟩]
def k35_19 : VC := .reg [⟨(some 51), .mv (.tmp 14), none⟩,
    ⟨(some 52), .conv .u64 (.tmp 51), none⟩,
    ⟨(some 53), .callF 44 [(.tmp 52), (.const (.int .i64 2))], none⟩,
    ⟨(some 54), .callF 57 [(.tmp 12), (.tmp 53)], none⟩]
def k35_20 : VC := .seq k35_18 k35_19
def k35_21 : VC := .block 2 k35_20
def k35_22 : VC := .reg [⟨(some 55), .bin .add (.tmp 48) (.const (.int .i64 1)), none⟩,
    ⟨(some 48), .mv (.tmp 55), none⟩]
def k35_23 : VC := .seq k35_21 k35_22
def k35_24 : VC := .seq k35_17 k35_23
def k35_25 : VC := .seq k35_16 k35_24
def k35_26 : VC := .loop k35_25
def k35_27 : VC := .block 1 k35_26
def k35_28 : VC := .seq k35_15 k35_27
def k35_29 : VC := .reg [⟨(some 56), .mv (.tmp 3), none⟩,
    ⟨(some 57), .callF 57 [(.tmp 12), (.tmp 56)], none⟩]
def k35_30 : VC := .reg [⟨(some 58), .callF 58 [(.tmp 12)], none⟩,
    ⟨(some 15), .mv (.tmp 58), none⟩]
def k35_31 : VC := .reg [⟨(some 59), .mv (.tmp 11), none⟩,
    ⟨(some 60), .mv (.tmp 15), none⟩,
    ⟨(some 61), .bin .add (.tmp 59) (.tmp 60), none⟩,
    ⟨(some 62), .callF 49 [(.tmp 61)], none⟩,
    ⟨(some 16), .mv (.tmp 62), none⟩]
def k35_32 : VC := .reg [⟨(some 63), .mv (.tmp 16), none⟩,
    ⟨(some 64), .bin .eql (.tmp 63) (.const (.int .i64 0)), none⟩]
def k35_33 : VC := .reg [⟨(some 16), .mv (.const (.int .i64 65535)), none⟩]
def k35_34 : VC := .cond (.tmp 64) k35_33 .skip
def k35_35 : VC := .seq k35_32 k35_34
def k35_36 : VC := .reg [⟨(some 65), .mv (.tmp 15), none⟩,
    ⟨(some 66), .mv (.tmp 16), none⟩,
    ⟨(some 67), .conv .u64 (.tmp 66), none⟩,
    ⟨(some 68), .callF 28 [(.tmp 65), (.const (.int .i64 6)), (.const (.int .i64 2)), (.tmp 67)], none⟩,
    ⟨(some 8), .mv (.tmp 68), none⟩,
    ⟨(some 9), .mv (.const (.int .i64 0)), none⟩]
def k35_37 : VC := .seq k35_36 .ret
def k35_38 : VC := .seq k35_35 k35_37
def k35_39 : VC := .seq k35_31 k35_38
def k35_40 : VC := .seq k35_30 k35_39
def k35_41 : VC := .seq k35_29 k35_40
def k35_42 : VC := .seq k35_28 k35_41
def k35_43 : VC := .seq k35_14 k35_42
def k35_44 : VC := .seq k35_13 k35_43
def k35_45 : VC := .seq k35_2 k35_44
def k35_46 : VC := .seq k35_1 k35_45
def k35_47 : VC := .seq k35_0 k35_46
def fn35 : VFn := ⟨69, k35_47, [.tmp 8, .tmp 9]⟩
def k56_0 : VC := .reg [⟨(some 2), .mv (.const (.bool false)), none⟩]
def k56_1 : VC := .reg [⟨(some 3), .mv (.tmp 0), none⟩,
    ⟨(some 4), .bin .leq (.const (.int .i64 0)) (.tmp 3), none⟩,
    ⟨(some 5), .mv (.tmp 4), none⟩,
    ⟨(some 6), .mv (.tmp 0), (some (5, true))⟩,
    ⟨(some 7), .bin .leq (.tmp 6) (.const (.int .i64 65535)), (some (5, true))⟩,
    ⟨(some 8), .pick (.tmp 5) (.tmp 7) (.const (.bool false)), none⟩,
    ⟨(some 2), .mv (.tmp 8), none⟩]
def k56_2 : VC := .seq k56_1 .ret
def k56_3 : VC := .seq k56_0 k56_2
def fn56 : VFn := ⟨9, k56_3, [.tmp 2]⟩
def k5_0 : VC := .reg [⟨(some 5), .box (.tmp 0), none⟩,
    ⟨(some 10), .mv (.const (.bool false)), none⟩]
def k5_1 : VC := .reg [⟨(some 19), .mv (.tmp 2), none⟩,
    ⟨(some 20), .mv (.tmp 4), none⟩,
    ⟨(some 21), .buildSl 2 1 [(.string ⟨⟨[]⟩⟩), (.string ⟨⟨[]⟩⟩)] [(0, 1, (.tmp 19)), (1, 1, (.tmp 20))], none⟩,
    ⟨(some 22), .callF 7 [(.tmp 21), (.const (.int .i64 50))], none⟩,
    ⟨(some 23), .not (.tmp 22), none⟩]
def k5_2 : VC := .reg [⟨(some 24), .callF 13 [], none⟩,
    ⟨(some 10), .mv (.tmp 24), none⟩]
def k5_3 : VC := .seq k5_2 .ret
def k5_4 : VC := .cond (.tmp 23) k5_3 .skip
def k5_5 : VC := .seq k5_1 k5_4
def k5_6 : VC := .reg [⟨(some 26), .loadN [(.int .i64), .bool, (.int .u64), (.int .u64), .bool, (.int .u64), (.int .u64), (.int .i64), (.int .i64)] (.tmp 5), none⟩,
    ⟨(some 27), .mv (.tmp 1), none⟩,
    ⟨(some 28), .mv (.tmp 2), none⟩,
    ⟨(some 29), .callF 14 [(.tmp 26), (.tmp 27), (.const (.string ⟨⟨[]⟩⟩)), (.tmp 28)], none⟩,
    ⟨(some 25), .mv (.tmp 29), none⟩,
    ⟨(some 30), .extract 0 (.tmp 25), none⟩,
    ⟨(some 31), .extract 1 (.tmp 25), none⟩,
    ⟨(some 11), .mv (.tmp 30), none⟩,
    ⟨(some 12), .mv (.tmp 31), none⟩]
def k5_7 : VC := .reg [⟨(some 33), .loadN [(.int .i64), .bool, (.int .u64), (.int .u64), .bool, (.int .u64), (.int .u64), (.int .i64), (.int .i64)] (.tmp 5), none⟩,
    ⟨(some 34), .mv (.tmp 2), none⟩,
    ⟨(some 35), .callF 17 [(.tmp 33), (.tmp 34)], none⟩,
    ⟨(some 32), .mv (.tmp 35), none⟩,
    ⟨(some 36), .extract 0 (.tmp 32), none⟩,
    ⟨(some 37), .extract 1 (.tmp 32), none⟩,
    ⟨(some 13), .mv (.tmp 36), none⟩,
    ⟨(some 14), .mv (.tmp 37), none⟩]
def k5_8 : VC := .reg [⟨(some 38), .mv (.tmp 14), none⟩,
    ⟨(some 39), .bin .eql (.tmp 38) (.const (.int .i64 0)), none⟩]
def k5_9 : VC := .reg [⟨(some 40), .mv (.tmp 13), none⟩,
    ⟨(some 11), .mv (.tmp 40), none⟩]
def k5_10 : VC := .reg [⟨(some 41), .mv (.tmp 12), none⟩,
    ⟨(some 42), .bin .neq (.tmp 41) (.const (.int .i64 0)), none⟩]
def k5_11 : VC := .reg [⟨(some 43), .mv (.tmp 11), none⟩,
    ⟨(some 44), .bin .eql (.tmp 43) (.const (.string ⟨⟨[]⟩⟩)), none⟩,
    ⟨(some 45), .mv (.tmp 44), none⟩,
    ⟨(some 46), .mv (.tmp 13), (some (45, true))⟩,
    ⟨(some 47), .bin .eql (.tmp 46) (.const (.string ⟨⟨[]⟩⟩)), (some (45, true))⟩,
    ⟨(some 48), .pick (.tmp 45) (.tmp 47) (.const (.bool false)), none⟩,
    ⟨(some 49), .mv (.tmp 48), none⟩,
    ⟨(some 50), .callF 13 [], (some (49, true))⟩,
    ⟨(some 51), .pick (.tmp 49) (.tmp 50) (.const (.bool false)), none⟩,
    ⟨(some 10), .mv (.tmp 51), none⟩]
def k5_12 : VC := .seq k5_11 .ret
def k5_13 : VC := .cond (.tmp 42) k5_12 .skip
def k5_14 : VC := .seq k5_10 k5_13
def k5_15 : VC := .cond (.tmp 39) k5_9 k5_14
def k5_16 : VC := .seq k5_8 k5_15
def k5_17 : VC := .reg [⟨(some 52), .mv (.tmp 11), none⟩,
    ⟨(some 53), .lenS (.tmp 52), none⟩,
    ⟨(some 54), .bin .eql (.tmp 53) (.const (.int .i64 0)), none⟩]
def k5_18 : VC := .reg [⟨(some 10), .mv (.const (.bool false)), none⟩]
def k5_19 : VC := .seq k5_18 .ret
def k5_20 : VC := .cond (.tmp 54) k5_19 .skip
def k5_21 : VC := .seq k5_17 k5_20
def k5_22 : VC := .reg [⟨(some 56), .mv (.tmp 11), none⟩,
    ⟨(some 57), .mv (.tmp 3), none⟩,
    ⟨(some 58), .conv .i64 (.tmp 57), none⟩,
    ⟨(some 59), .mv (.tmp 11), none⟩,
    ⟨(some 60), .lenS (.tmp 59), none⟩,
    ⟨(some 61), .bin .rem (.tmp 58) (.tmp 60), none⟩,
    ⟨(some 62), .sliceS (.tmp 56) none (some (.tmp 61)), none⟩,
    ⟨(some 63), .callF 16 [(.tmp 62)], none⟩,
    ⟨(some 55), .mv (.tmp 63), none⟩,
    ⟨(some 64), .extract 0 (.tmp 55), none⟩,
    ⟨(some 65), .extract 1 (.tmp 55), none⟩,
    ⟨(some 15), .alloc [(.int .i64 0), (.bool false), (.int .u64 0), (.int .u64 0), (.bool false), (.int .u64 0), (.int .u64 0), (.int .i64 0), (.int .i64 0), (.int .i64 0), (.bool false), (.int .u32 0), (.int .u32 0), (.bool false), (.string ⟨⟨[]⟩⟩), (.int .i64 0)], none⟩,
    ⟨none, .store 16 (.tmp 15) (.tmp 64), none⟩,
    ⟨(some 16), .mv (.tmp 65), none⟩]
def k5_23 : VC := .reg [⟨(some 67), .mv (.tmp 11), none⟩,
    ⟨(some 68), .mv (.tmp 4), none⟩,
    ⟨(some 69), .bin .add (.tmp 67) (.tmp 68), none⟩,
    ⟨(some 70), .callF 16 [(.tmp 69)], none⟩,
    ⟨(some 66), .mv (.tmp 70), none⟩,
    ⟨(some 71), .extract 0 (.tmp 66), none⟩,
    ⟨(some 72), .extract 1 (.tmp 66), none⟩,
    ⟨(some 17), .alloc [(.int .i64 0), (.bool false), (.int .u64 0), (.int .u64 0), (.bool false), (.int .u64 0), (.int .u64 0), (.int .i64 0), (.int .i64 0), (.int .i64 0), (.bool false), (.int .u32 0), (.int .u32 0), (.bool false), (.string ⟨⟨[]⟩⟩), (.int .i64 0)], none⟩,
    ⟨none, .store 16 (.tmp 17) (.tmp 71), none⟩,
    ⟨(some 18), .mv (.tmp 72), none⟩]
def k5_24 : VC := .reg [⟨(some 73), .mv (.tmp 16), none⟩,
    ⟨(some 74), .bin .eql (.tmp 73) (.const (.int .i64 2)), none⟩,
    ⟨(some 75), .mv (.tmp 74), none⟩,
    ⟨(some 76), .mv (.tmp 4), (some (75, true))⟩,
    ⟨(some 77), .bin .eql (.tmp 76) (.const (.string ⟨⟨[]⟩⟩)), (some (75, true))⟩,
    ⟨(some 78), .mv (.tmp 77), (some (75, true))⟩,
    ⟨(some 79), .mv (.tmp 18), (some (78, true))⟩,
    ⟨(some 80), .bin .eql (.tmp 79) (.const (.int .i64 0)), (some (78, true))⟩,
    ⟨(some 81), .pick (.tmp 78) (.tmp 80) (.const (.bool false)), (some (75, true))⟩,
    ⟨(some 82), .mv (.tmp 81), (some (75, true))⟩,
    ⟨(some 83), .mv (.tmp 4), (some (82, false))⟩,
    ⟨(some 84), .bin .neq (.tmp 83) (.const (.string ⟨⟨[]⟩⟩)), (some (82, false))⟩,
    ⟨(some 85), .mv (.tmp 84), (some (82, false))⟩,
    ⟨(some 86), .mv (.tmp 18), (some (85, true))⟩,
    ⟨(some 87), .bin .eql (.tmp 86) (.const (.int .i64 5)), (some (85, true))⟩,
    ⟨(some 88), .pick (.tmp 85) (.tmp 87) (.const (.bool false)), (some (82, false))⟩,
    ⟨(some 89), .pick (.tmp 82) (.const (.bool true)) (.tmp 88), (some (75, true))⟩,
    ⟨(some 90), .pick (.tmp 75) (.tmp 89) (.const (.bool false)), none⟩,
    ⟨(some 91), .mv (.tmp 90), none⟩,
    ⟨(some 92), .callF 13 [], (some (91, true))⟩,
    ⟨(some 93), .pick (.tmp 91) (.tmp 92) (.const (.bool false)), none⟩,
    ⟨(some 10), .mv (.tmp 93), none⟩]
def k5_25 : VC := .seq k5_24 .ret
def k5_26 : VC := .seq k5_23 k5_25
def k5_27 : VC := .seq k5_22 k5_26
def k5_28 : VC := .seq k5_21 k5_27
def k5_29 : VC := .seq k5_16 k5_28
def k5_30 : VC := .seq k5_7 k5_29
def k5_31 : VC := .seq k5_6 k5_30
def k5_32 : VC := .seq k5_5 k5_31
def k5_33 : VC := .seq k5_0 k5_32
def fn5 : VFn := ⟨94, k5_33, [.tmp 10]⟩
def k4_0 : VC := .reg [⟨(some 6), .box (.tmp 0), none⟩,
    ⟨(some 12), .mv (.const (.bool false)), none⟩]
def k4_1 : VC := .reg [⟨(some 20), .mv (.tmp 4), none⟩,
    ⟨(some 21), .lenS (.tmp 20), none⟩,
    ⟨(some 22), .bin .gtr (.tmp 21) (.const (.int .i64 100)), none⟩]
def k4_2 : VC := .reg [⟨(some 23), .callF 13 [], none⟩,
    ⟨(some 12), .mv (.tmp 23), none⟩]
def k4_3 : VC := .seq k4_2 .ret
def k4_4 : VC := .cond (.tmp 22) k4_3 .skip
def k4_5 : VC := .seq k4_1 k4_4
def k4_6 : VC := .regD [⟨(some 25), .loadN [(.int .i64), .bool, (.int .u64), (.int .u64), .bool, (.int .u64), (.int .u64), (.int .i64), (.int .i64)] (.tmp 6), none⟩,
    ⟨(some 26), .mv (.tmp 1), none⟩,
    ⟨(some 27), .conv .i64 (.tmp 26), none⟩,
    ⟨(some 28), .mv (.tmp 2), none⟩,
    ⟨(some 29), .mv (.tmp 3), none⟩,
    ⟨(some 30), .callF 15 [(.tmp 28), (.tmp 29)], none⟩,
    ⟨(some 31), .mv (.tmp 4), none⟩,
    ⟨(some 32), .callF 14 [(.tmp 25), (.tmp 27), (.tmp 30), (.tmp 31)], none⟩,
    ⟨(some 24), .mv (.tmp 32), none⟩,
    ⟨(some 33), .extract 0 (.tmp 24), none⟩,
    ⟨(some 34), .extract 1 (.tmp 24), none⟩,
    ⟨(some 13), .mv (.tmp 33), none⟩] [(0, 5)] [⟨(some 14), .mv (.tmp 34), none⟩]
def k4_7 : VC := .reg [⟨(some 35), .mv (.tmp 14), none⟩,
    ⟨(some 36), .bin .neq (.tmp 35) (.const (.int .i64 0)), none⟩]
def k4_8 : VC := .reg [⟨(some 37), .mv (.tmp 13), none⟩,
    ⟨(some 38), .bin .eql (.tmp 37) (.const (.string ⟨⟨[]⟩⟩)), none⟩,
    ⟨(some 39), .mv (.tmp 38), none⟩,
    ⟨(some 40), .callF 13 [], (some (39, true))⟩,
    ⟨(some 41), .pick (.tmp 39) (.tmp 40) (.const (.bool false)), none⟩,
    ⟨(some 12), .mv (.tmp 41), none⟩]
def k4_9 : VC := .seq k4_8 .ret
def k4_10 : VC := .cond (.tmp 36) k4_9 .skip
def k4_11 : VC := .seq k4_7 k4_10
def k4_12 : VC := .reg [⟨(some 42), .mv (.tmp 13), none⟩,
    ⟨(some 43), .lenS (.tmp 42), none⟩,
    ⟨(some 44), .bin .lss (.tmp 43) (.const (.int .i64 52)), none⟩]
def k4_13 : VC := .reg [⟨(some 12), .mv (.const (.bool false)), none⟩]
def k4_14 : VC := .seq k4_13 .ret
def k4_15 : VC := .cond (.tmp 44) k4_14 .skip
def k4_16 : VC := .seq k4_12 k4_15
def k4_17 : VC := .reg [⟨(some 15), .mv (.const (.int .i64 1)), none⟩]
def k4_18 : VC := .reg [⟨(some 45), .fieldA 1 (.tmp 6), none⟩,
    ⟨(some 46), .fieldA 0 (.tmp 45), none⟩,
    ⟨(some 47), .load1 .bool (.tmp 46), none⟩]
def k4_19 : VC := .reg [⟨(some 15), .mv (.const (.int .i64 4)), none⟩]
def k4_20 : VC := .cond (.tmp 47) k4_19 .skip
def k4_21 : VC := .seq k4_18 k4_20
def k4_22 : VC := .reg [⟨(some 48), .mv (.tmp 15), none⟩,
    ⟨(some 49), .bin .mul (.const (.int .i64 8)) (.tmp 48), none⟩,
    ⟨(some 50), .mv (.tmp 5), none⟩,
    ⟨(some 51), .conv .i64 (.tmp 50), none⟩,
    ⟨(some 52), .mv (.tmp 13), none⟩,
    ⟨(some 53), .lenS (.tmp 52), none⟩,
    ⟨(some 54), .bin .mul (.const (.int .i64 8)) (.tmp 53), none⟩,
    ⟨(some 55), .mv (.tmp 15), none⟩,
    ⟨(some 56), .bin .mul (.const (.int .i64 8)) (.tmp 55), none⟩,
    ⟨(some 57), .bin .sub (.tmp 54) (.tmp 56), none⟩,
    ⟨(some 58), .bin .rem (.tmp 51) (.tmp 57), none⟩,
    ⟨(some 59), .bin .add (.tmp 49) (.tmp 58), none⟩,
    ⟨(some 16), .mv (.tmp 59), none⟩]
def k4_23 : VC := .reg [⟨(some 60), .fieldA 1 (.tmp 6), none⟩,
    ⟨(some 61), .fieldA 0 (.tmp 60), none⟩,
    ⟨(some 62), .load1 .bool (.tmp 61), none⟩,
    ⟨(some 63), .mv (.tmp 62), none⟩,
    ⟨(some 64), .mv (.tmp 16), (some (63, true))⟩,
    ⟨(some 65), .bin .quo (.tmp 64) (.const (.int .i64 8)), (some (63, true))⟩,
    ⟨(some 66), .bin .eql (.tmp 65) (.const (.int .i64 7)), (some (63, true))⟩,
    ⟨(some 67), .pick (.tmp 63) (.tmp 66) (.const (.bool false)), none⟩]
def k4_24 : VC := .reg [⟨(some 68), .callF 13 [], none⟩,
    ⟨(some 12), .mv (.tmp 68), none⟩]
def k4_25 : VC := .seq k4_24 .ret
def k4_26 : VC := .cond (.tmp 67) k4_25 .skip
def k4_27 : VC := .seq k4_23 k4_26
def k4_28 : VC := .reg [⟨(some 69), .mv (.tmp 13), none⟩,
    ⟨(some 70), .s2b (.tmp 69), none⟩,
    ⟨(some 17), .mv (.tmp 70), none⟩]
def k4_29 : VC := .regD [⟨(some 71), .mv (.tmp 17), none⟩,
    ⟨(some 72), .mv (.tmp 16), none⟩,
    ⟨(some 73), .bin .quo (.tmp 72) (.const (.int .i64 8)), none⟩,
    ⟨(some 74), .mv (.tmp 17), none⟩,
    ⟨(some 75), .mv (.tmp 16), none⟩,
    ⟨(some 76), .bin .quo (.tmp 75) (.const (.int .i64 8)), none⟩,
    ⟨(some 77), .idxAL 1 (.tmp 74) (.tmp 76), none⟩,
    ⟨(some 78), .load1 (.int .u8) (.tmp 77), none⟩,
    ⟨(some 79), .mv (.tmp 16), none⟩,
    ⟨(some 80), .bin .rem (.tmp 79) (.const (.int .i64 8)), none⟩,
    ⟨(some 81), .bin .shl (.const (.int .u8 1)) (.tmp 80), none⟩,
    ⟨(some 82), .bin .xor (.tmp 78) (.tmp 81), none⟩] [] [⟨(some 83), .idxAL 1 (.tmp 71) (.tmp 73), none⟩,
    ⟨none, .store 1 (.tmp 83) (.tmp 82), none⟩]
def k4_30 : VC := .reg [⟨(some 85), .mv (.tmp 17), none⟩,
    ⟨(some 86), .b2s (.tmp 85), none⟩,
    ⟨(some 87), .callF 16 [(.tmp 86)], none⟩,
    ⟨(some 84), .mv (.tmp 87), none⟩,
    ⟨(some 88), .extract 0 (.tmp 84), none⟩,
    ⟨(some 89), .extract 1 (.tmp 84), none⟩,
    ⟨(some 18), .alloc [(.int .i64 0), (.bool false), (.int .u64 0), (.int .u64 0), (.bool false), (.int .u64 0), (.int .u64 0), (.int .i64 0), (.int .i64 0), (.int .i64 0), (.bool false), (.int .u32 0), (.int .u32 0), (.bool false), (.string ⟨⟨[]⟩⟩), (.int .i64 0)], none⟩,
    ⟨none, .store 16 (.tmp 18) (.tmp 88), none⟩,
    ⟨(some 19), .mv (.tmp 89), none⟩]
def k4_31 : VC := .reg [⟨(some 90), .mv (.tmp 19), none⟩,
    ⟨(some 91), .bin .neq (.tmp 90) (.const (.int .i64 0)), none⟩,
    ⟨(some 92), .mv (.tmp 91), none⟩,
    ⟨(some 93), .loadN [(.int .i64), .bool, (.int .u64), (.int .u64), .bool, (.int .u64), (.int .u64), (.int .i64), (.int .i64), (.int .i64), .bool, (.int .u32), (.int .u32), .bool, .str, (.int .i64)] (.tmp 18), (some (92, true))⟩,
    ⟨(some 94), .build [(.int .i64 0), (.bool false), (.int .u64 0), (.int .u64 0), (.bool false), (.int .u64 0), (.int .u64 0), (.int .i64 0), (.int .i64 0), (.int .i64 0), (.bool false), (.int .u32 0), (.int .u32 0), (.bool false), (.string ⟨⟨[]⟩⟩), (.int .i64 0)] [], (some (92, true))⟩,
    ⟨(some 95), .eqAgg false [(0, (.int .i64)), (1, .bool), (2, (.int .u64)), (3, (.int .u64)), (4, .bool), (5, (.int .u64)), (6, (.int .u64)), (7, (.int .i64)), (8, (.int .i64)), (9, (.int .i64)), (10, .bool), (11, (.int .u32)), (12, (.int .u32)), (13, .bool), (14, .str), (15, (.int .i64))] (.tmp 93) (.tmp 94), (some (92, true))⟩,
    ⟨(some 96), .pick (.tmp 92) (.tmp 95) (.const (.bool false)), none⟩,
    ⟨(some 97), .mv (.tmp 96), none⟩,
    ⟨(some 98), .callF 13 [], (some (97, true))⟩,
    ⟨(some 99), .pick (.tmp 97) (.tmp 98) (.const (.bool false)), none⟩,
    ⟨(some 12), .mv (.tmp 99), none⟩]
def k4_32 : VC := .seq k4_31 .ret
def k4_33 : VC := .seq k4_30 k4_32
def k4_34 : VC := .seq k4_29 k4_33
def k4_35 : VC := .seq k4_28 k4_34
def k4_36 : VC := .seq k4_27 k4_35
def k4_37 : VC := .seq k4_22 k4_36
def k4_38 : VC := .seq k4_21 k4_37
def k4_39 : VC := .seq k4_17 k4_38
def k4_40 : VC := .seq k4_16 k4_39
def k4_41 : VC := .seq k4_11 k4_40
def k4_42 : VC := .seq k4_6 k4_41
def k4_43 : VC := .seq k4_5 k4_42
def k4_44 : VC := .seq k4_0 k4_43
def fn4 : VFn := ⟨100, k4_44, [.tmp 12]⟩
theorem fn6_ok : (Try.prog.funcs[6]?).bind (compFn Try.prog) = some fn6 := by kernel_rfl
theorem fn7_ok : (Try.prog.funcs[7]?).bind (compFn Try.prog) = some fn7 := by kernel_rfl
theorem fn13_ok : (Try.prog.funcs[13]?).bind (compFn Try.prog) = some fn13 := by kernel_rfl
theorem fn16_ok : (Try.prog.funcs[16]?).bind (compFn Try.prog) = some fn16 := by kernel_rfl
theorem fn34_ok : (Try.prog.funcs[34]?).bind (compFn Try.prog) = some fn34 := by kernel_rfl
theorem fn53_ok : (Try.prog.funcs[53]?).bind (compFn Try.prog) = some fn53 := by kernel_rfl
theorem fn80_ok : (Try.prog.funcs[80]?).bind (compFn Try.prog) = some fn80 := by kernel_rfl
theorem fn99_ok : (Try.prog.funcs[99]?).bind (compFn Try.prog) = some fn99 := by kernel_rfl
theorem fn103_ok : (Try.prog.funcs[103]?).bind (compFn Try.prog) = some fn103 := by kernel_rfl
theorem fn104_ok : (Try.prog.funcs[104]?).bind (compFn Try.prog) = some fn104 := by kernel_rfl
theorem fn106_ok : (Try.prog.funcs[106]?).bind (compFn Try.prog) = some fn106 := by kernel_rfl
theorem fn105_ok : (Try.prog.funcs[105]?).bind (compFn Try.prog) = some fn105 := by kernel_rfl
theorem fn25_ok : (Try.prog.funcs[25]?).bind (compFn Try.prog) = some fn25 := by kernel_rfl
theorem fn101_ok : (Try.prog.funcs[101]?).bind (compFn Try.prog) = some fn101 := by kernel_rfl
theorem fn77_ok : (Try.prog.funcs[77]?).bind (compFn Try.prog) = some fn77 := by kernel_rfl
theorem fn42_ok : (Try.prog.funcs[42]?).bind (compFn Try.prog) = some fn42 := by kernel_rfl
theorem fn71_ok : (Try.prog.funcs[71]?).bind (compFn Try.prog) = some fn71 := by kernel_rfl
theorem fn73_ok : (Try.prog.funcs[73]?).bind (compFn Try.prog) = some fn73 := by kernel_rfl
theorem fn116_ok : (Try.prog.funcs[116]?).bind (compFn Try.prog) = some fn116 := by kernel_rfl
theorem fn117_ok : (Try.prog.funcs[117]?).bind (compFn Try.prog) = some fn117 := by kernel_rfl
theorem fn100_ok : (Try.prog.funcs[100]?).bind (compFn Try.prog) = some fn100 := by kernel_rfl
theorem fn54_ok : (Try.prog.funcs[54]?).bind (compFn Try.prog) = some fn54 := by kernel_rfl
theorem fn81_ok : (Try.prog.funcs[81]?).bind (compFn Try.prog) = some fn81 := by kernel_rfl
theorem fn46_ok : (Try.prog.funcs[46]?).bind (compFn Try.prog) = some fn46 := by kernel_rfl
theorem fn50_ok : (Try.prog.funcs[50]?).bind (compFn Try.prog) = some fn50 := by kernel_rfl
theorem fn74_ok : (Try.prog.funcs[74]?).bind (compFn Try.prog) = some fn74 := by kernel_rfl
theorem fn44_ok : (Try.prog.funcs[44]?).bind (compFn Try.prog) = some fn44 := by kernel_rfl
theorem fn75_ok : (Try.prog.funcs[75]?).bind (compFn Try.prog) = some fn75 := by kernel_rfl
theorem fn57_ok : (Try.prog.funcs[57]?).bind (compFn Try.prog) = some fn57 := by kernel_rfl
theorem fn84_ok : (Try.prog.funcs[84]?).bind (compFn Try.prog) = some fn84 := by kernel_rfl
theorem fn58_ok : (Try.prog.funcs[58]?).bind (compFn Try.prog) = some fn58 := by kernel_rfl
theorem fn102_ok : (Try.prog.funcs[102]?).bind (compFn Try.prog) = some fn102 := by kernel_rfl
theorem fn91_ok : (Try.prog.funcs[91]?).bind (compFn Try.prog) = some fn91 := by kernel_rfl
theorem fn92_ok : (Try.prog.funcs[92]?).bind (compFn Try.prog) = some fn92 := by kernel_rfl
theorem fn114_ok : (Try.prog.funcs[114]?).bind (compFn Try.prog) = some fn114 := by kernel_rfl
theorem fn64_ok : (Try.prog.funcs[64]?).bind (compFn Try.prog) = some fn64 := by kernel_rfl
theorem fn55_ok : (Try.prog.funcs[55]?).bind (compFn Try.prog) = some fn55 := by kernel_rfl
theorem fn82_ok : (Try.prog.funcs[82]?).bind (compFn Try.prog) = some fn82 := by kernel_rfl
theorem fn83_ok : (Try.prog.funcs[83]?).bind (compFn Try.prog) = some fn83 := by kernel_rfl
theorem fn107_ok : (Try.prog.funcs[107]?).bind (compFn Try.prog) = some fn107 := by kernel_rfl
theorem fn108_ok : (Try.prog.funcs[108]?).bind (compFn Try.prog) = some fn108 := by kernel_rfl
theorem fn109_ok : (Try.prog.funcs[109]?).bind (compFn Try.prog) = some fn109 := by kernel_rfl
theorem fn14_ok : (Try.prog.funcs[14]?).bind (compFn Try.prog) = some fn14 := by kernel_rfl
theorem fn31_ok : (Try.prog.funcs[31]?).bind (compFn Try.prog) = some fn31 := by kernel_rfl
theorem fn47_ok : (Try.prog.funcs[47]?).bind (compFn Try.prog) = some fn47 := by kernel_rfl
theorem fn76_ok : (Try.prog.funcs[76]?).bind (compFn Try.prog) = some fn76 := by kernel_rfl
theorem fn48_ok : (Try.prog.funcs[48]?).bind (compFn Try.prog) = some fn48 := by kernel_rfl
theorem fn49_ok : (Try.prog.funcs[49]?).bind (compFn Try.prog) = some fn49 := by kernel_rfl
theorem fn28_ok : (Try.prog.funcs[28]?).bind (compFn Try.prog) = some fn28 := by kernel_rfl
theorem fn32_ok : (Try.prog.funcs[32]?).bind (compFn Try.prog) = some fn32 := by kernel_rfl
theorem fn51_ok : (Try.prog.funcs[51]?).bind (compFn Try.prog) = some fn51 := by kernel_rfl
theorem fn78_ok : (Try.prog.funcs[78]?).bind (compFn Try.prog) = some fn78 := by kernel_rfl
theorem fn52_ok : (Try.prog.funcs[52]?).bind (compFn Try.prog) = some fn52 := by kernel_rfl
theorem fn79_ok : (Try.prog.funcs[79]?).bind (compFn Try.prog) = some fn79 := by kernel_rfl
theorem fn97_ok : (Try.prog.funcs[97]?).bind (compFn Try.prog) = some fn97 := by kernel_rfl
theorem fn98_ok : (Try.prog.funcs[98]?).bind (compFn Try.prog) = some fn98 := by kernel_rfl
theorem fn15_ok : (Try.prog.funcs[15]?).bind (compFn Try.prog) = some fn15 := by kernel_rfl
theorem fn33_ok : (Try.prog.funcs[33]?).bind (compFn Try.prog) = some fn33 := by kernel_rfl
theorem fn24_ok : (Try.prog.funcs[24]?).bind (compFn Try.prog) = some fn24 := by kernel_rfl
theorem fn18_ok : (Try.prog.funcs[18]?).bind (compFn Try.prog) = some fn18 := by kernel_rfl
theorem fn19_ok : (Try.prog.funcs[19]?).bind (compFn Try.prog) = some fn19 := by kernel_rfl
theorem fn17_ok : (Try.prog.funcs[17]?).bind (compFn Try.prog) = some fn17 := by kernel_rfl
theorem fn35_ok : (Try.prog.funcs[35]?).bind (compFn Try.prog) = some fn35 := by kernel_rfl
theorem fn56_ok : (Try.prog.funcs[56]?).bind (compFn Try.prog) = some fn56 := by kernel_rfl
theorem fn5_ok : (Try.prog.funcs[5]?).bind (compFn Try.prog) = some fn5 := by kernel_rfl
theorem fn4_ok : (Try.prog.funcs[4]?).bind (compFn Try.prog) = some fn4 := by kernel_rfl
def tab : List (Nat × VFn) := [(6, fn6), (7, fn7), (13, fn13), (16, fn16), (34, fn34), (53, fn53), (80, fn80), (99, fn99), (103, fn103), (104, fn104), (106, fn106), (105, fn105), (25, fn25), (101, fn101), (77, fn77), (42, fn42), (71, fn71), (73, fn73), (116, fn116), (117, fn117), (100, fn100), (54, fn54), (81, fn81), (46, fn46), (50, fn50), (74, fn74), (44, fn44), (75, fn75), (57, fn57), (84, fn84), (58, fn58), (102, fn102), (91, fn91), (92, fn92), (114, fn114), (64, fn64), (55, fn55), (82, fn82), (83, fn83), (107, fn107), (108, fn108), (109, fn109), (14, fn14), (31, fn31), (47, fn47), (76, fn76), (48, fn48), (49, fn49), (28, fn28), (32, fn32), (51, fn51), (78, fn78), (52, fn52), (79, fn79), (97, fn97), (98, fn98), (15, fn15), (33, fn33), (24, fn24), (18, fn18), (19, fn19), (17, fn17), (35, fn35), (56, fn56), (5, fn5), (4, fn4)]
theorem tab_ok : FnsOK Try.prog (aget tab) := FnsOK.of_tab ⟨fn6_ok, fn7_ok, fn13_ok, fn16_ok, fn34_ok, fn53_ok, fn80_ok, fn99_ok, fn103_ok, fn104_ok, fn106_ok, fn105_ok, fn25_ok, fn101_ok, fn77_ok, fn42_ok, fn71_ok, fn73_ok, fn116_ok, fn117_ok, fn100_ok, fn54_ok, fn81_ok, fn46_ok, fn50_ok, fn74_ok, fn44_ok, fn75_ok, fn57_ok, fn84_ok, fn58_ok, fn102_ok, fn91_ok, fn92_ok, fn114_ok, fn64_ok, fn55_ok, fn82_ok, fn83_ok, fn107_ok, fn108_ok, fn109_ok, fn14_ok, fn31_ok, fn47_ok, fn76_ok, fn48_ok, fn49_ok, fn28_ok, fn32_ok, fn51_ok, fn78_ok, fn52_ok, fn79_ok, fn97_ok, fn98_ok, fn15_ok, fn33_ok, fn24_ok, fn18_ok, fn19_ok, fn17_ok, fn35_ok, fn56_ok, fn5_ok, fn4_ok, trivial⟩
end Go.Vm.Code
namespace Go.Vm.Code
open Go Go.Vm Go.Proofs
set_option maxRecDepth 100000
set_option maxHeartbeats 4000000
set_option linter.unusedVariables false
@[ext] structure api_Addr where
  V6 : Bool
  Hi : Int
  Lo : Int
  deriving DecidableEq
@[ext] structure api_Tuple where
  Proto : Int
  Src : api_Addr
  Dst : api_Addr
  SPort : Int
  DPort : Int
  deriving DecidableEq
@[ext] structure quic_Head where
  Long : Bool
  Bits : Int
  Version : Int
  DCID : List UInt8
  SCID : List UInt8
  Rest : List UInt8
  deriving DecidableEq
@[ext] structure api_Packet where
  Tuple : api_Tuple
  Flags : Int
  Stamped : Bool
  Val : Int
  Echo : Int
  Long : Bool
  CID : List UInt8
  Size : Int
  deriving DecidableEq
@[ext] structure packet_outer where
  src : api_Addr
  dst : api_Addr
  proto : Int
  body : List UInt8
  deriving DecidableEq
@[ext] structure ipfour_Head where
  Class : Int
  Mark : Int
  Whole : Bool
  TTL : Int
  Proto : Int
  Src : api_Addr
  Dst : api_Addr
  Options : List UInt8
  deriving DecidableEq
@[ext] structure octet_Reader where
  s : List UInt8
  made : Bool
  bad : Bool
  deriving DecidableEq
@[ext] structure ipfour_fields where
  Reader : octet_Reader
  deriving DecidableEq
@[ext] structure ipsix_Head where
  Class : Int
  Label : Int
  Next : Int
  Hop : Int
  Src : api_Addr
  Dst : api_Addr
  deriving DecidableEq
@[ext] structure tcp_Head where
  SPort : Int
  DPort : Int
  Seq : Int
  Ack : Int
  Flags : Int
  Window : Int
  Urgent : Int
  Options : List UInt8
  deriving DecidableEq
@[ext] structure tcp_Opt where
  Kind : Int
  Data : List UInt8
  deriving DecidableEq
@[ext] structure udp_Head where
  SPort : Int
  DPort : Int
  deriving DecidableEq
def capi_Addr (x : api_Addr) : List Value := [.bool x.V6, .int .u64 x.Hi, .int .u64 x.Lo]
theorem capi_Addr_len (x : api_Addr) : (capi_Addr x).length = 3 := rfl
theorem capi_Addr_flat (x : api_Addr) : flatV.flatL (capi_Addr x) = true := rfl
theorem capi_Addr_one (x : api_Addr) : (capi_Addr x).all oneC = true := rfl
@[simp] theorem capi_Addr_lens (xs : List api_Addr) : (vT capi_Addr xs).length = xs.length * 3 := vT_len capi_Addr_len xs
@[simp] theorem capi_Addr_take (xs : List api_Addr) (n : Nat) : (vT capi_Addr xs).take (n * 3) = vT capi_Addr (xs.take n) := vT_take capi_Addr_len xs n
@[simp] theorem capi_Addr_drop (xs : List api_Addr) (n : Nat) : (vT capi_Addr xs).drop (n * 3) = vT capi_Addr (xs.drop n) := vT_drop capi_Addr_len xs n
def unapi_Addr : List Value → Option api_Addr
  | [.bool a1, .int .u64 a2, .int .u64 a3] => some (api_Addr.mk a1 a2 a3)
  | _ => none
theorem unapi_Addr_eq (cs : List Value) (x : api_Addr) (h : unapi_Addr cs = some x) : cs = capi_Addr x := by
  unfold unapi_Addr at h; split at h
  · cases h; rfl
  · cases h
def uvapi_Addr : Value → Option api_Addr
  | .agg ⟨cs⟩ => unapi_Addr cs
  | _ => none
theorem uvapi_Addr_eq (v : Value) (x : api_Addr) (h : uvapi_Addr v = some x) : v = .agg ⟨capi_Addr x⟩ := by
  unfold uvapi_Addr at h; split at h
  · rw [unapi_Addr_eq _ _ h]
  · cases h
theorem uvapi_Addr_c (x : api_Addr) : uvapi_Addr (.agg ⟨capi_Addr x⟩) = some x := rfl
def capi_Tuple (x : api_Tuple) : List Value := [.int .i64 x.Proto, .bool x.Src.V6, .int .u64 x.Src.Hi, .int .u64 x.Src.Lo, .bool x.Dst.V6, .int .u64 x.Dst.Hi, .int .u64 x.Dst.Lo, .int .i64 x.SPort, .int .i64 x.DPort]
theorem capi_Tuple_len (x : api_Tuple) : (capi_Tuple x).length = 9 := rfl
theorem capi_Tuple_flat (x : api_Tuple) : flatV.flatL (capi_Tuple x) = true := rfl
theorem capi_Tuple_one (x : api_Tuple) : (capi_Tuple x).all oneC = true := rfl
@[simp] theorem capi_Tuple_lens (xs : List api_Tuple) : (vT capi_Tuple xs).length = xs.length * 9 := vT_len capi_Tuple_len xs
@[simp] theorem capi_Tuple_take (xs : List api_Tuple) (n : Nat) : (vT capi_Tuple xs).take (n * 9) = vT capi_Tuple (xs.take n) := vT_take capi_Tuple_len xs n
@[simp] theorem capi_Tuple_drop (xs : List api_Tuple) (n : Nat) : (vT capi_Tuple xs).drop (n * 9) = vT capi_Tuple (xs.drop n) := vT_drop capi_Tuple_len xs n
def unapi_Tuple : List Value → Option api_Tuple
  | [.int .i64 a1, .bool a2, .int .u64 a3, .int .u64 a4, .bool a5, .int .u64 a6, .int .u64 a7, .int .i64 a8, .int .i64 a9] => some (api_Tuple.mk a1 (api_Addr.mk a2 a3 a4) (api_Addr.mk a5 a6 a7) a8 a9)
  | _ => none
theorem unapi_Tuple_eq (cs : List Value) (x : api_Tuple) (h : unapi_Tuple cs = some x) : cs = capi_Tuple x := by
  unfold unapi_Tuple at h; split at h
  · cases h; rfl
  · cases h
def uvapi_Tuple : Value → Option api_Tuple
  | .agg ⟨cs⟩ => unapi_Tuple cs
  | _ => none
theorem uvapi_Tuple_eq (v : Value) (x : api_Tuple) (h : uvapi_Tuple v = some x) : v = .agg ⟨capi_Tuple x⟩ := by
  unfold uvapi_Tuple at h; split at h
  · rw [unapi_Tuple_eq _ _ h]
  · cases h
theorem uvapi_Tuple_c (x : api_Tuple) : uvapi_Tuple (.agg ⟨capi_Tuple x⟩) = some x := rfl
def cquic_Head (x : quic_Head) : List Value := [.bool x.Long, .int .i64 x.Bits, .int .u32 x.Version, .string ⟨⟨x.DCID⟩⟩, .string ⟨⟨x.SCID⟩⟩, .string ⟨⟨x.Rest⟩⟩]
theorem cquic_Head_len (x : quic_Head) : (cquic_Head x).length = 6 := rfl
theorem cquic_Head_flat (x : quic_Head) : flatV.flatL (cquic_Head x) = true := rfl
theorem cquic_Head_one (x : quic_Head) : (cquic_Head x).all oneC = true := rfl
@[simp] theorem cquic_Head_lens (xs : List quic_Head) : (vT cquic_Head xs).length = xs.length * 6 := vT_len cquic_Head_len xs
@[simp] theorem cquic_Head_take (xs : List quic_Head) (n : Nat) : (vT cquic_Head xs).take (n * 6) = vT cquic_Head (xs.take n) := vT_take cquic_Head_len xs n
@[simp] theorem cquic_Head_drop (xs : List quic_Head) (n : Nat) : (vT cquic_Head xs).drop (n * 6) = vT cquic_Head (xs.drop n) := vT_drop cquic_Head_len xs n
def capi_Packet (x : api_Packet) : List Value := [.int .i64 x.Tuple.Proto, .bool x.Tuple.Src.V6, .int .u64 x.Tuple.Src.Hi, .int .u64 x.Tuple.Src.Lo, .bool x.Tuple.Dst.V6, .int .u64 x.Tuple.Dst.Hi, .int .u64 x.Tuple.Dst.Lo, .int .i64 x.Tuple.SPort, .int .i64 x.Tuple.DPort, .int .i64 x.Flags, .bool x.Stamped, .int .u32 x.Val, .int .u32 x.Echo, .bool x.Long, .string ⟨⟨x.CID⟩⟩, .int .i64 x.Size]
theorem capi_Packet_len (x : api_Packet) : (capi_Packet x).length = 16 := rfl
theorem capi_Packet_flat (x : api_Packet) : flatV.flatL (capi_Packet x) = true := rfl
theorem capi_Packet_one (x : api_Packet) : (capi_Packet x).all oneC = true := rfl
@[simp] theorem capi_Packet_lens (xs : List api_Packet) : (vT capi_Packet xs).length = xs.length * 16 := vT_len capi_Packet_len xs
@[simp] theorem capi_Packet_take (xs : List api_Packet) (n : Nat) : (vT capi_Packet xs).take (n * 16) = vT capi_Packet (xs.take n) := vT_take capi_Packet_len xs n
@[simp] theorem capi_Packet_drop (xs : List api_Packet) (n : Nat) : (vT capi_Packet xs).drop (n * 16) = vT capi_Packet (xs.drop n) := vT_drop capi_Packet_len xs n
def unapi_Packet : List Value → Option api_Packet
  | [.int .i64 a1, .bool a2, .int .u64 a3, .int .u64 a4, .bool a5, .int .u64 a6, .int .u64 a7, .int .i64 a8, .int .i64 a9, .int .i64 a10, .bool a11, .int .u32 a12, .int .u32 a13, .bool a14, .string ⟨⟨a15⟩⟩, .int .i64 a16] => some (api_Packet.mk (api_Tuple.mk a1 (api_Addr.mk a2 a3 a4) (api_Addr.mk a5 a6 a7) a8 a9) a10 a11 a12 a13 a14 a15 a16)
  | _ => none
theorem unapi_Packet_eq (cs : List Value) (x : api_Packet) (h : unapi_Packet cs = some x) : cs = capi_Packet x := by
  unfold unapi_Packet at h; split at h
  · cases h; rfl
  · cases h
theorem unapi_Packet_c (x : api_Packet) : unapi_Packet (capi_Packet x) = some x := rfl
def cpacket_outer (x : packet_outer) : List Value := [.bool x.src.V6, .int .u64 x.src.Hi, .int .u64 x.src.Lo, .bool x.dst.V6, .int .u64 x.dst.Hi, .int .u64 x.dst.Lo, .int .i64 x.proto, .string ⟨⟨x.body⟩⟩]
theorem cpacket_outer_len (x : packet_outer) : (cpacket_outer x).length = 8 := rfl
theorem cpacket_outer_flat (x : packet_outer) : flatV.flatL (cpacket_outer x) = true := rfl
theorem cpacket_outer_one (x : packet_outer) : (cpacket_outer x).all oneC = true := rfl
@[simp] theorem cpacket_outer_lens (xs : List packet_outer) : (vT cpacket_outer xs).length = xs.length * 8 := vT_len cpacket_outer_len xs
@[simp] theorem cpacket_outer_take (xs : List packet_outer) (n : Nat) : (vT cpacket_outer xs).take (n * 8) = vT cpacket_outer (xs.take n) := vT_take cpacket_outer_len xs n
@[simp] theorem cpacket_outer_drop (xs : List packet_outer) (n : Nat) : (vT cpacket_outer xs).drop (n * 8) = vT cpacket_outer (xs.drop n) := vT_drop cpacket_outer_len xs n
def unpacket_outer : List Value → Option packet_outer
  | [.bool a1, .int .u64 a2, .int .u64 a3, .bool a4, .int .u64 a5, .int .u64 a6, .int .i64 a7, .string ⟨⟨a8⟩⟩] => some (packet_outer.mk (api_Addr.mk a1 a2 a3) (api_Addr.mk a4 a5 a6) a7 a8)
  | _ => none
theorem unpacket_outer_eq (cs : List Value) (x : packet_outer) (h : unpacket_outer cs = some x) : cs = cpacket_outer x := by
  unfold unpacket_outer at h; split at h
  · cases h; rfl
  · cases h
def uvpacket_outer : Value → Option packet_outer
  | .agg ⟨cs⟩ => unpacket_outer cs
  | _ => none
theorem uvpacket_outer_eq (v : Value) (x : packet_outer) (h : uvpacket_outer v = some x) : v = .agg ⟨cpacket_outer x⟩ := by
  unfold uvpacket_outer at h; split at h
  · rw [unpacket_outer_eq _ _ h]
  · cases h
theorem uvpacket_outer_c (x : packet_outer) : uvpacket_outer (.agg ⟨cpacket_outer x⟩) = some x := rfl
def cipfour_Head (x : ipfour_Head) : List Value := [.int .i64 x.Class, .int .i64 x.Mark, .bool x.Whole, .int .i64 x.TTL, .int .i64 x.Proto, .bool x.Src.V6, .int .u64 x.Src.Hi, .int .u64 x.Src.Lo, .bool x.Dst.V6, .int .u64 x.Dst.Hi, .int .u64 x.Dst.Lo, .string ⟨⟨x.Options⟩⟩]
theorem cipfour_Head_len (x : ipfour_Head) : (cipfour_Head x).length = 12 := rfl
theorem cipfour_Head_flat (x : ipfour_Head) : flatV.flatL (cipfour_Head x) = true := rfl
theorem cipfour_Head_one (x : ipfour_Head) : (cipfour_Head x).all oneC = true := rfl
@[simp] theorem cipfour_Head_lens (xs : List ipfour_Head) : (vT cipfour_Head xs).length = xs.length * 12 := vT_len cipfour_Head_len xs
@[simp] theorem cipfour_Head_take (xs : List ipfour_Head) (n : Nat) : (vT cipfour_Head xs).take (n * 12) = vT cipfour_Head (xs.take n) := vT_take cipfour_Head_len xs n
@[simp] theorem cipfour_Head_drop (xs : List ipfour_Head) (n : Nat) : (vT cipfour_Head xs).drop (n * 12) = vT cipfour_Head (xs.drop n) := vT_drop cipfour_Head_len xs n
def unipfour_Head : List Value → Option ipfour_Head
  | [.int .i64 a1, .int .i64 a2, .bool a3, .int .i64 a4, .int .i64 a5, .bool a6, .int .u64 a7, .int .u64 a8, .bool a9, .int .u64 a10, .int .u64 a11, .string ⟨⟨a12⟩⟩] => some (ipfour_Head.mk a1 a2 a3 a4 a5 (api_Addr.mk a6 a7 a8) (api_Addr.mk a9 a10 a11) a12)
  | _ => none
theorem unipfour_Head_eq (cs : List Value) (x : ipfour_Head) (h : unipfour_Head cs = some x) : cs = cipfour_Head x := by
  unfold unipfour_Head at h; split at h
  · cases h; rfl
  · cases h
def uvipfour_Head : Value → Option ipfour_Head
  | .agg ⟨cs⟩ => unipfour_Head cs
  | _ => none
theorem uvipfour_Head_eq (v : Value) (x : ipfour_Head) (h : uvipfour_Head v = some x) : v = .agg ⟨cipfour_Head x⟩ := by
  unfold uvipfour_Head at h; split at h
  · rw [unipfour_Head_eq _ _ h]
  · cases h
theorem uvipfour_Head_c (x : ipfour_Head) : uvipfour_Head (.agg ⟨cipfour_Head x⟩) = some x := rfl
def coctet_Reader (x : octet_Reader) : List Value := [.string ⟨⟨x.s⟩⟩, .bool x.made, .bool x.bad]
theorem coctet_Reader_len (x : octet_Reader) : (coctet_Reader x).length = 3 := rfl
theorem coctet_Reader_flat (x : octet_Reader) : flatV.flatL (coctet_Reader x) = true := rfl
theorem coctet_Reader_one (x : octet_Reader) : (coctet_Reader x).all oneC = true := rfl
@[simp] theorem coctet_Reader_lens (xs : List octet_Reader) : (vT coctet_Reader xs).length = xs.length * 3 := vT_len coctet_Reader_len xs
@[simp] theorem coctet_Reader_take (xs : List octet_Reader) (n : Nat) : (vT coctet_Reader xs).take (n * 3) = vT coctet_Reader (xs.take n) := vT_take coctet_Reader_len xs n
@[simp] theorem coctet_Reader_drop (xs : List octet_Reader) (n : Nat) : (vT coctet_Reader xs).drop (n * 3) = vT coctet_Reader (xs.drop n) := vT_drop coctet_Reader_len xs n
def unoctet_Reader : List Value → Option octet_Reader
  | [.string ⟨⟨a1⟩⟩, .bool a2, .bool a3] => some (octet_Reader.mk a1 a2 a3)
  | _ => none
theorem unoctet_Reader_eq (cs : List Value) (x : octet_Reader) (h : unoctet_Reader cs = some x) : cs = coctet_Reader x := by
  unfold unoctet_Reader at h; split at h
  · cases h; rfl
  · cases h
theorem unoctet_Reader_c (x : octet_Reader) : unoctet_Reader (coctet_Reader x) = some x := rfl
def cipsix_Head (x : ipsix_Head) : List Value := [.int .i64 x.Class, .int .i64 x.Label, .int .i64 x.Next, .int .i64 x.Hop, .bool x.Src.V6, .int .u64 x.Src.Hi, .int .u64 x.Src.Lo, .bool x.Dst.V6, .int .u64 x.Dst.Hi, .int .u64 x.Dst.Lo]
theorem cipsix_Head_len (x : ipsix_Head) : (cipsix_Head x).length = 10 := rfl
theorem cipsix_Head_flat (x : ipsix_Head) : flatV.flatL (cipsix_Head x) = true := rfl
theorem cipsix_Head_one (x : ipsix_Head) : (cipsix_Head x).all oneC = true := rfl
@[simp] theorem cipsix_Head_lens (xs : List ipsix_Head) : (vT cipsix_Head xs).length = xs.length * 10 := vT_len cipsix_Head_len xs
@[simp] theorem cipsix_Head_take (xs : List ipsix_Head) (n : Nat) : (vT cipsix_Head xs).take (n * 10) = vT cipsix_Head (xs.take n) := vT_take cipsix_Head_len xs n
@[simp] theorem cipsix_Head_drop (xs : List ipsix_Head) (n : Nat) : (vT cipsix_Head xs).drop (n * 10) = vT cipsix_Head (xs.drop n) := vT_drop cipsix_Head_len xs n
def unipsix_Head : List Value → Option ipsix_Head
  | [.int .i64 a1, .int .i64 a2, .int .i64 a3, .int .i64 a4, .bool a5, .int .u64 a6, .int .u64 a7, .bool a8, .int .u64 a9, .int .u64 a10] => some (ipsix_Head.mk a1 a2 a3 a4 (api_Addr.mk a5 a6 a7) (api_Addr.mk a8 a9 a10))
  | _ => none
theorem unipsix_Head_eq (cs : List Value) (x : ipsix_Head) (h : unipsix_Head cs = some x) : cs = cipsix_Head x := by
  unfold unipsix_Head at h; split at h
  · cases h; rfl
  · cases h
def uvipsix_Head : Value → Option ipsix_Head
  | .agg ⟨cs⟩ => unipsix_Head cs
  | _ => none
theorem uvipsix_Head_eq (v : Value) (x : ipsix_Head) (h : uvipsix_Head v = some x) : v = .agg ⟨cipsix_Head x⟩ := by
  unfold uvipsix_Head at h; split at h
  · rw [unipsix_Head_eq _ _ h]
  · cases h
theorem uvipsix_Head_c (x : ipsix_Head) : uvipsix_Head (.agg ⟨cipsix_Head x⟩) = some x := rfl
def ctcp_Head (x : tcp_Head) : List Value := [.int .i64 x.SPort, .int .i64 x.DPort, .int .u32 x.Seq, .int .u32 x.Ack, .int .i64 x.Flags, .int .i64 x.Window, .int .i64 x.Urgent, .string ⟨⟨x.Options⟩⟩]
theorem ctcp_Head_len (x : tcp_Head) : (ctcp_Head x).length = 8 := rfl
theorem ctcp_Head_flat (x : tcp_Head) : flatV.flatL (ctcp_Head x) = true := rfl
theorem ctcp_Head_one (x : tcp_Head) : (ctcp_Head x).all oneC = true := rfl
@[simp] theorem ctcp_Head_lens (xs : List tcp_Head) : (vT ctcp_Head xs).length = xs.length * 8 := vT_len ctcp_Head_len xs
@[simp] theorem ctcp_Head_take (xs : List tcp_Head) (n : Nat) : (vT ctcp_Head xs).take (n * 8) = vT ctcp_Head (xs.take n) := vT_take ctcp_Head_len xs n
@[simp] theorem ctcp_Head_drop (xs : List tcp_Head) (n : Nat) : (vT ctcp_Head xs).drop (n * 8) = vT ctcp_Head (xs.drop n) := vT_drop ctcp_Head_len xs n
def untcp_Head : List Value → Option tcp_Head
  | [.int .i64 a1, .int .i64 a2, .int .u32 a3, .int .u32 a4, .int .i64 a5, .int .i64 a6, .int .i64 a7, .string ⟨⟨a8⟩⟩] => some (tcp_Head.mk a1 a2 a3 a4 a5 a6 a7 a8)
  | _ => none
theorem untcp_Head_eq (cs : List Value) (x : tcp_Head) (h : untcp_Head cs = some x) : cs = ctcp_Head x := by
  unfold untcp_Head at h; split at h
  · cases h; rfl
  · cases h
def uvtcp_Head : Value → Option tcp_Head
  | .agg ⟨cs⟩ => untcp_Head cs
  | _ => none
theorem uvtcp_Head_eq (v : Value) (x : tcp_Head) (h : uvtcp_Head v = some x) : v = .agg ⟨ctcp_Head x⟩ := by
  unfold uvtcp_Head at h; split at h
  · rw [untcp_Head_eq _ _ h]
  · cases h
theorem uvtcp_Head_c (x : tcp_Head) : uvtcp_Head (.agg ⟨ctcp_Head x⟩) = some x := rfl
def ctcp_Opt (x : tcp_Opt) : List Value := [.int .i64 x.Kind, .string ⟨⟨x.Data⟩⟩]
theorem ctcp_Opt_len (x : tcp_Opt) : (ctcp_Opt x).length = 2 := rfl
theorem ctcp_Opt_flat (x : tcp_Opt) : flatV.flatL (ctcp_Opt x) = true := rfl
theorem ctcp_Opt_one (x : tcp_Opt) : (ctcp_Opt x).all oneC = true := rfl
@[simp] theorem ctcp_Opt_lens (xs : List tcp_Opt) : (vT ctcp_Opt xs).length = xs.length * 2 := vT_len ctcp_Opt_len xs
@[simp] theorem ctcp_Opt_take (xs : List tcp_Opt) (n : Nat) : (vT ctcp_Opt xs).take (n * 2) = vT ctcp_Opt (xs.take n) := vT_take ctcp_Opt_len xs n
@[simp] theorem ctcp_Opt_drop (xs : List tcp_Opt) (n : Nat) : (vT ctcp_Opt xs).drop (n * 2) = vT ctcp_Opt (xs.drop n) := vT_drop ctcp_Opt_len xs n
def cudp_Head (x : udp_Head) : List Value := [.int .i64 x.SPort, .int .i64 x.DPort]
theorem cudp_Head_len (x : udp_Head) : (cudp_Head x).length = 2 := rfl
theorem cudp_Head_flat (x : udp_Head) : flatV.flatL (cudp_Head x) = true := rfl
theorem cudp_Head_one (x : udp_Head) : (cudp_Head x).all oneC = true := rfl
@[simp] theorem cudp_Head_lens (xs : List udp_Head) : (vT cudp_Head xs).length = xs.length * 2 := vT_len cudp_Head_len xs
@[simp] theorem cudp_Head_take (xs : List udp_Head) (n : Nat) : (vT cudp_Head xs).take (n * 2) = vT cudp_Head (xs.take n) := vT_take cudp_Head_len xs n
@[simp] theorem cudp_Head_drop (xs : List udp_Head) (n : Nat) : (vT cudp_Head xs).drop (n * 2) = vT cudp_Head (xs.drop n) := vT_drop cudp_Head_len xs n
def utipfour_fields (k : Nat) : Value → List (Option (List Value)) → Option ipfour_fields
  | .agg ⟨[.pointer (some ⟨k0, 0, none⟩)]⟩, [some c0] => match unoctet_Reader c0 with | some x0 => (if k0 = k + 0 then some (ipfour_fields.mk x0) else none) | none => none
  | _, _ => none
theorem utipfour_fields_eq {k : Nat} {v : Value} {cs : List (Option (List Value))} {x : ipfour_fields} (h : utipfour_fields k v cs = some x) : v = .agg ⟨[.pointer (some ⟨k + 0, 0, none⟩)]⟩ ∧ cs = [some [.string ⟨⟨x.Reader.s⟩⟩, .bool x.Reader.made, .bool x.Reader.bad]] := by
  unfold utipfour_fields at h; split at h <;> try (cases h; done)
  split at h <;> try (cases h; done)
  rename_i x0 e0
  split at h <;> cases h
  rename_i hk
  subst hk
  obtain rfl := unoctet_Reader_eq _ _ e0
  exact ⟨rfl, rfl⟩
theorem utipfour_fields_c (k : Nat) (x : ipfour_fields) : utipfour_fields k (.agg ⟨[.pointer (some ⟨k + 0, 0, none⟩)]⟩) [some [.string ⟨⟨x.Reader.s⟩⟩, .bool x.Reader.made, .bool x.Reader.bad]] = some x := by
  show (if k + 0 = k + 0 then some x else none) = _
  simp
def check_fold_s1 (n1 : Int) : Option (Sum Int Int) :=
  cond (decide (n1 > 65535))
    (
    let t := wI .i64 ((andI .i64 n1 65535) + (n1.fdiv (2 ^ 16)))
    some (.inl t))
    (
    some (.inr (n1)))
def check_foldF (n : Int) : Option Int :=
  iter (fun st => check_fold_s1 st) FUEL n
def rx73 (x : Int) : SRes := ⟨.int .i64 x, [], []⟩
def r73 (g : Int → Option Int) : Dec := dV (asI .i64) fun (y0 : Int) => dEnd (ofG (g y0) rx73)
theorem r73_c {g : Int → Option Int} {y0 : Int} {x : Int} (hx : g y0 = some x) : r73 g [.int .i64 y0] [] = some (rx73 x) := (dV_eq (asI_c _)).trans (ofG_eq hx)
def s73 (g : Int → Option Int) : Summ := ⟨[.v], r73 g⟩
theorem r73_eq {g : Int → Option Int} {y0 : Int} {x : Int} (hx : g y0 = some x) : (s73 g).run [.int .i64 y0] [] = some (rx73 x) := r73_c hx
abbrev sums73 : List (Nat × Summ) := []
def head73_1 (n1 : Int) : VM :=
  ⟨⟨73, 11, [(0, .int .i64 n1)], [.code k73_6, .inLoop k73_6, .inBlock 0, .code k73_10], [], false, none⟩, [], [], 0⟩
theorem loop73_1 (hS : SumsOK Try.prog (aget (sums73))) (res : Int) : ∀ fuel (st : Int) (o : Int), iter (fun st => check_fold_s1 st) fuel st = some o → (o = res) →
    Leads Try.prog 73 0 (head73_1 st) (fun v H _ => Res 0 (rx73 res) v H) := by
  intro fuel st o h hc
  refine iter_leads (head := fun st => head73_1 st) (C := fun o => (o = res)) ?_ fuel st o h hc
  clear h hc o st fuel
  intro n1 o h hc
  replace h : check_fold_s1 n1 = some o := h
  show Leads Try.prog 73 0 (head73_1 n1) (fun v H _ => Res 0 (rx73 res) v H)
  unfold check_fold_s1 at h
  refine ev_ok tab_ok hS true 3000 ?_
  conv => whnf
  refine br.h2 h ?_ ?_ ?_
  · rfl
  · clear h; intro hb h; conv => whnf
    all_goals (cases h; cases hc; exact Res.z rfl rfl rfl)
  clear h; intro hb h; conv => whnf
  let t : Int := wI .i64 ((andI .i64 n1 65535) + (n1.fdiv (2 ^ 16)))
  cases h; simp only [Sum.elim_inl, head73_1] at hc
  refine Leads.re hc [] rfl ?_ ?_ <;> (repeat' first | exact trivial | refine ⟨⟨_, rfl, rfl⟩, ?_⟩ | refine ⟨⟨_, _, rfl, rfl, .rowF (vI_flat _ _) id⟩, ?_⟩ | refine ⟨⟨_, _, rfl, rfl, .rowF (vS_flat _) id⟩, ?_⟩ | refine ⟨⟨_, _, rfl, rfl, .rowF (vB_flat _) id⟩, ?_⟩ | refine ⟨⟨_, _, rfl, rfl, .rowF (vT_flat (by first | exact capi_Addr_flat | exact capi_Tuple_flat | exact cquic_Head_flat | exact capi_Packet_flat | exact cpacket_outer_flat | exact cipfour_Head_flat | exact coctet_Reader_flat | exact cipsix_Head_flat | exact ctcp_Head_flat | exact ctcp_Opt_flat | exact cudp_Head_flat) _) id⟩, ?_⟩ | refine ⟨⟨_, _, rfl, rfl, .tyF (vI_flat _ _)⟩, ?_⟩ | refine ⟨⟨_, _, rfl, rfl, .ty rfl⟩, ?_⟩ | refine ⟨⟨_, _, rfl, rfl, .cells rfl⟩, ?_⟩ | refine ⟨⟨_, _, rfl, rfl, .row rfl id⟩, ?_⟩ | refine ⟨⟨_, _, rfl, rfl, .cr rfl⟩, ?_⟩ | refine ⟨⟨_, _, rfl, rfl, .rc rfl⟩, ?_⟩ | refine ⟨⟨_, _, rfl, rfl, .marks⟩, ?_⟩ | refine ⟨⟨_, _, rfl, rfl, .siter _ _⟩, ?_⟩ | refine ⟨⟨_, _, rfl, rfl, .loop rfl rfl rfl rfl (by repeat' first | exact trivial | refine ⟨rfl, ?_⟩) rfl rfl rfl rfl⟩, ?_⟩)
theorem leads73 (hS : SumsOK Try.prog (aget (sums73))) (n : Int) (res : Int) (h : check_foldF n = some res) :
    Leads Try.prog 73 0 ⟨⟨73, 11, [(0, .int .i64 n)], [.code k73_12], [], false, none⟩, [], [], 0⟩ (fun v H _ => Res 0 (rx73 res) v H) := by
  unfold check_foldF at h
  refine ev_ok tab_ok hS true 3000 ?_
  conv => whnf
  have hl := loop73_1 hS res _ _ _ h rfl; simp only [head73_1] at hl
  refine Leads.re hl [] rfl ?_ ?_ <;> (repeat' first | exact trivial | refine ⟨⟨_, rfl, rfl⟩, ?_⟩ | refine ⟨⟨_, _, rfl, rfl, .rowF (vI_flat _ _) id⟩, ?_⟩ | refine ⟨⟨_, _, rfl, rfl, .rowF (vS_flat _) id⟩, ?_⟩ | refine ⟨⟨_, _, rfl, rfl, .rowF (vB_flat _) id⟩, ?_⟩ | refine ⟨⟨_, _, rfl, rfl, .rowF (vT_flat (by first | exact capi_Addr_flat | exact capi_Tuple_flat | exact cquic_Head_flat | exact capi_Packet_flat | exact cpacket_outer_flat | exact cipfour_Head_flat | exact coctet_Reader_flat | exact cipsix_Head_flat | exact ctcp_Head_flat | exact ctcp_Opt_flat | exact cudp_Head_flat) _) id⟩, ?_⟩ | refine ⟨⟨_, _, rfl, rfl, .tyF (vI_flat _ _)⟩, ?_⟩ | refine ⟨⟨_, _, rfl, rfl, .ty rfl⟩, ?_⟩ | refine ⟨⟨_, _, rfl, rfl, .cells rfl⟩, ?_⟩ | refine ⟨⟨_, _, rfl, rfl, .row rfl id⟩, ?_⟩ | refine ⟨⟨_, _, rfl, rfl, .cr rfl⟩, ?_⟩ | refine ⟨⟨_, _, rfl, rfl, .rc rfl⟩, ?_⟩ | refine ⟨⟨_, _, rfl, rfl, .marks⟩, ?_⟩ | refine ⟨⟨_, _, rfl, rfl, .siter _ _⟩, ?_⟩ | refine ⟨⟨_, _, rfl, rfl, .loop rfl rfl rfl rfl (by repeat' first | exact trivial | refine ⟨rfl, ?_⟩) rfl rfl rfl rfl⟩, ?_⟩)
theorem ok73 (hS : SumsOK Try.prog (aget (sums73))) : SumOK Try.prog 73 (s73 (check_foldF)) := by
  refine SumOK.of_leads tab_ok (fun ar os r ha hr => ?_) ⟨Try.f73, rfl, by decide, rfl⟩
  replace hr : r73 (check_foldF) ar (conts os) = some r := hr
  unfold r73 at hr
  generalize hc : conts os = C at hr
  replace hr := dV.elim hr; obtain ⟨v0, l1, y0, rfl, e0, hr⟩ := hr; obtain rfl := asI_eq _ _ _ e0
  replace hr := dFin hr; obtain ⟨rfl, rfl, x, h, rfl⟩ := hr
  obtain rfl := kinds_nil hc
  exact ⟨_, rfl, leads73 hS _ x h⟩
def check_fold : Int → Option Int := check_foldF
theorem lift73 : SumOK Try.prog 73 (s73 check_fold) := ok73 (SumsOK.of_tab trivial)
def check_Sum_s1 (check_fold : Int → Option Int) (s : List UInt8) (xat : Int) (n : Int) : Option (Sum (Int × Int) Int) :=
  cond (decide (xat < (s.length : Int)))
    (
    oreq (decide (0 ≤ xat)) <|
    (s[xat.toNat]?).bind fun (b : UInt8) =>
    let t := wI .i64 ((wI .i64 (b.toNat : Int)) * 2 ^ 8)
    let t1 := decide ((wI .i64 (xat + 1)) < (s.length : Int))
    cond (t1)
      (
      oreq (decide (0 ≤ (wI .i64 (xat + 1)))) <|
      (s[(wI .i64 (xat + 1)).toNat]?).bind fun (b1 : UInt8) =>
      let t2 := wI .i64 (n + (iorI .i64 t (wI .i64 (b1.toNat : Int))))
      (check_fold t2).bind fun f =>
      some (.inl (wI .i64 (xat + 2), f)))
      (
      (check_fold (wI .i64 (n + t))).bind fun f1 =>
      some (.inl (wI .i64 (xat + 2), f1))))
    (
    some (.inr (n)))
def check_SumF (check_fold : Int → Option Int) (s : List UInt8) : Option Int :=
  iter (fun st => check_Sum_s1 check_fold s st.1 st.2) FUEL (0, 0)
def rx77 (x : Int) : SRes := ⟨.int .i64 x, [], []⟩
def r77 (g : (List UInt8) → Option Int) : Dec := dV asS fun (y0 : List UInt8) => dEnd (ofG (g y0) rx77)
theorem r77_c {g : (List UInt8) → Option Int} {y0 : List UInt8} {x : Int} (hx : g y0 = some x) : r77 g [.string ⟨⟨y0⟩⟩] [] = some (rx77 x) := (dV_eq (asS_c)).trans (ofG_eq hx)
def s77 (g : (List UInt8) → Option Int) : Summ := ⟨[.v], r77 g⟩
theorem r77_eq {g : (List UInt8) → Option Int} {y0 : List UInt8} {x : Int} (hx : g y0 = some x) : (s77 g).run [.string ⟨⟨y0⟩⟩] [] = some (rx77 x) := r77_c hx
abbrev sums77 (check_fold : Int → Option Int) : List (Nat × Summ) := [(73, s73 check_fold)]
def head77_1 (s : List UInt8) (xat : Int) (n : Int) : VM :=
  ⟨⟨71, 32, [(0, .func (.yield 3) #[] #[]), (1, .pointer (some ⟨1, 0, none⟩)), (3, .int .i64 xat)], [.code k71_17, .inLoop k71_17, .inBlock 0], [], false, none⟩, [⟨77, 13, [(3, .pointer (some ⟨0, 0, none⟩))], [.inRangeFunc 3, .inBlock 0, .code k77_10], [2], false, none⟩], [(0, .cells [.int .i64 n]), (1, .cells [.string ⟨⟨s⟩⟩]), (2, .marks), (3, .loop ⟨.ready, none, 77, 13, [(3, .pointer (some ⟨0, 0, none⟩))], [7], k77_3, k77_5, 2⟩)], 4⟩
theorem loop77_1 (check_fold : Int → Option Int) (hS : SumsOK Try.prog (aget (sums77 check_fold))) (s : List UInt8) (res : Int) : ∀ fuel (st : Int × Int) (o : Int), iter (fun st => check_Sum_s1 check_fold s st.1 st.2) fuel st = some o → (o = res) →
    Leads Try.prog 77 0 (head77_1 s st.1 st.2) (fun v H _ => Res 0 (rx77 res) v H) := by
  intro fuel st o h hc
  refine iter_leads (head := fun st => head77_1 s st.1 st.2) (C := fun o => (o = res)) ?_ fuel st o h hc
  clear h hc o st fuel
  intro st o h hc
  obtain ⟨xat, n⟩ := st
  replace h : check_Sum_s1 check_fold s xat n = some o := h
  show Leads Try.prog 77 0 (head77_1 s xat n) (fun v H _ => Res 0 (rx77 res) v H)
  unfold check_Sum_s1 at h
  refine ev_ok tab_ok hS true 3000 ?_
  conv => whnf
  refine br.h2 h ?_ ?_ ?_
  · rfl
  · clear h; intro hb h; conv => whnf
    all_goals (cases h; cases hc; exact Res.z rfl rfl rfl)
  clear h; intro hb h; conv => whnf
  replace h := oreq.elim h; obtain ⟨hb, h⟩ := h
  first | (refine req.intro hb ?_; conv => whnf) | skip
  replace h := obind.elim h; obtain ⟨b, hy, h⟩ := h
  refine rdS.intro hy ?_
  conv => whnf
  let t : Int := wI .i64 ((wI .i64 (b.toNat : Int)) * 2 ^ 8)
  let t1 : Bool := decide ((wI .i64 (xat + 1)) < (s.length : Int))
  refine br.h2 h ?_ ?_ ?_
  · rfl
  · clear h; intro hb h; conv => whnf
    replace h := obind.elim h; obtain ⟨f1, hy, h⟩ := h
    refine sumK.q rfl rfl (r73_eq hy) rfl rfl rfl ?_
    conv => whnf
    cases h; simp only [Sum.elim_inl, head77_1] at hc
    refine Leads.re hc [(0, 0), (1, 1), (2, 2), (3, 3)] rfl ?_ ?_ (hu := by repeat' first | exact trivial | refine ⟨⟨rfl, rfl, rfl, rfl, rfl, ?_, rfl, rfl⟩, ?_⟩ | refine ⟨⟨_, rfl, rfl⟩, ?_⟩) <;> (repeat' first | exact trivial | refine ⟨⟨_, rfl, rfl⟩, ?_⟩ | refine ⟨⟨_, _, rfl, rfl, .rowF (vI_flat _ _) id⟩, ?_⟩ | refine ⟨⟨_, _, rfl, rfl, .rowF (vS_flat _) id⟩, ?_⟩ | refine ⟨⟨_, _, rfl, rfl, .rowF (vB_flat _) id⟩, ?_⟩ | refine ⟨⟨_, _, rfl, rfl, .rowF (vT_flat (by first | exact capi_Addr_flat | exact capi_Tuple_flat | exact cquic_Head_flat | exact capi_Packet_flat | exact cpacket_outer_flat | exact cipfour_Head_flat | exact coctet_Reader_flat | exact cipsix_Head_flat | exact ctcp_Head_flat | exact ctcp_Opt_flat | exact cudp_Head_flat) _) id⟩, ?_⟩ | refine ⟨⟨_, _, rfl, rfl, .tyF (vI_flat _ _)⟩, ?_⟩ | refine ⟨⟨_, _, rfl, rfl, .ty rfl⟩, ?_⟩ | refine ⟨⟨_, _, rfl, rfl, .cells rfl⟩, ?_⟩ | refine ⟨⟨_, _, rfl, rfl, .row rfl id⟩, ?_⟩ | refine ⟨⟨_, _, rfl, rfl, .cr rfl⟩, ?_⟩ | refine ⟨⟨_, _, rfl, rfl, .rc rfl⟩, ?_⟩ | refine ⟨⟨_, _, rfl, rfl, .marks⟩, ?_⟩ | refine ⟨⟨_, _, rfl, rfl, .siter _ _⟩, ?_⟩ | refine ⟨⟨_, _, rfl, rfl, .loop rfl rfl rfl rfl (by repeat' first | exact trivial | refine ⟨rfl, ?_⟩) rfl rfl rfl rfl⟩, ?_⟩)
  clear h; intro hb h; conv => whnf
  replace h := oreq.elim h; obtain ⟨hb, h⟩ := h
  first | (refine req.intro hb ?_; conv => whnf) | skip
  replace h := obind.elim h; obtain ⟨b1, hy, h⟩ := h
  refine rdS.intro hy ?_
  conv => whnf
  let t2 : Int := wI .i64 (n + (iorI .i64 t (wI .i64 (b1.toNat : Int))))
  replace h := obind.elim h; obtain ⟨f, hy, h⟩ := h
  refine sumK.q rfl rfl (r73_eq hy) rfl rfl rfl ?_
  conv => whnf
  cases h; simp only [Sum.elim_inl, head77_1] at hc
  refine Leads.re hc [(0, 0), (1, 1), (2, 2), (3, 3)] rfl ?_ ?_ (hu := by repeat' first | exact trivial | refine ⟨⟨rfl, rfl, rfl, rfl, rfl, ?_, rfl, rfl⟩, ?_⟩ | refine ⟨⟨_, rfl, rfl⟩, ?_⟩) <;> (repeat' first | exact trivial | refine ⟨⟨_, rfl, rfl⟩, ?_⟩ | refine ⟨⟨_, _, rfl, rfl, .rowF (vI_flat _ _) id⟩, ?_⟩ | refine ⟨⟨_, _, rfl, rfl, .rowF (vS_flat _) id⟩, ?_⟩ | refine ⟨⟨_, _, rfl, rfl, .rowF (vB_flat _) id⟩, ?_⟩ | refine ⟨⟨_, _, rfl, rfl, .rowF (vT_flat (by first | exact capi_Addr_flat | exact capi_Tuple_flat | exact cquic_Head_flat | exact capi_Packet_flat | exact cpacket_outer_flat | exact cipfour_Head_flat | exact coctet_Reader_flat | exact cipsix_Head_flat | exact ctcp_Head_flat | exact ctcp_Opt_flat | exact cudp_Head_flat) _) id⟩, ?_⟩ | refine ⟨⟨_, _, rfl, rfl, .tyF (vI_flat _ _)⟩, ?_⟩ | refine ⟨⟨_, _, rfl, rfl, .ty rfl⟩, ?_⟩ | refine ⟨⟨_, _, rfl, rfl, .cells rfl⟩, ?_⟩ | refine ⟨⟨_, _, rfl, rfl, .row rfl id⟩, ?_⟩ | refine ⟨⟨_, _, rfl, rfl, .cr rfl⟩, ?_⟩ | refine ⟨⟨_, _, rfl, rfl, .rc rfl⟩, ?_⟩ | refine ⟨⟨_, _, rfl, rfl, .marks⟩, ?_⟩ | refine ⟨⟨_, _, rfl, rfl, .siter _ _⟩, ?_⟩ | refine ⟨⟨_, _, rfl, rfl, .loop rfl rfl rfl rfl (by repeat' first | exact trivial | refine ⟨rfl, ?_⟩) rfl rfl rfl rfl⟩, ?_⟩)
theorem leads77 (check_fold : Int → Option Int) (hS : SumsOK Try.prog (aget (sums77 check_fold))) (s : List UInt8) (res : Int) (h : check_SumF check_fold s = some res) :
    Leads Try.prog 77 0 ⟨⟨77, 13, [(0, .string ⟨⟨s⟩⟩)], [.code k77_13], [], false, none⟩, [], [], 0⟩ (fun v H _ => Res 0 (rx77 res) v H) := by
  unfold check_SumF at h
  refine ev_ok tab_ok hS true 3000 ?_
  conv => whnf
  have hl := loop77_1 check_fold hS _ res _ _ _ h rfl; simp only [head77_1] at hl
  refine Leads.re hl [(0, 0), (1, 1), (2, 2), (3, 3)] rfl ?_ ?_ (hu := by repeat' first | exact trivial | refine ⟨⟨rfl, rfl, rfl, rfl, rfl, ?_, rfl, rfl⟩, ?_⟩ | refine ⟨⟨_, rfl, rfl⟩, ?_⟩) <;> (repeat' first | exact trivial | refine ⟨⟨_, rfl, rfl⟩, ?_⟩ | refine ⟨⟨_, _, rfl, rfl, .rowF (vI_flat _ _) id⟩, ?_⟩ | refine ⟨⟨_, _, rfl, rfl, .rowF (vS_flat _) id⟩, ?_⟩ | refine ⟨⟨_, _, rfl, rfl, .rowF (vB_flat _) id⟩, ?_⟩ | refine ⟨⟨_, _, rfl, rfl, .rowF (vT_flat (by first | exact capi_Addr_flat | exact capi_Tuple_flat | exact cquic_Head_flat | exact capi_Packet_flat | exact cpacket_outer_flat | exact cipfour_Head_flat | exact coctet_Reader_flat | exact cipsix_Head_flat | exact ctcp_Head_flat | exact ctcp_Opt_flat | exact cudp_Head_flat) _) id⟩, ?_⟩ | refine ⟨⟨_, _, rfl, rfl, .tyF (vI_flat _ _)⟩, ?_⟩ | refine ⟨⟨_, _, rfl, rfl, .ty rfl⟩, ?_⟩ | refine ⟨⟨_, _, rfl, rfl, .cells rfl⟩, ?_⟩ | refine ⟨⟨_, _, rfl, rfl, .row rfl id⟩, ?_⟩ | refine ⟨⟨_, _, rfl, rfl, .cr rfl⟩, ?_⟩ | refine ⟨⟨_, _, rfl, rfl, .rc rfl⟩, ?_⟩ | refine ⟨⟨_, _, rfl, rfl, .marks⟩, ?_⟩ | refine ⟨⟨_, _, rfl, rfl, .siter _ _⟩, ?_⟩ | refine ⟨⟨_, _, rfl, rfl, .loop rfl rfl rfl rfl (by repeat' first | exact trivial | refine ⟨rfl, ?_⟩) rfl rfl rfl rfl⟩, ?_⟩)
theorem ok77 (check_fold : Int → Option Int) (hS : SumsOK Try.prog (aget (sums77 check_fold))) : SumOK Try.prog 77 (s77 (check_SumF check_fold)) := by
  refine SumOK.of_leads tab_ok (fun ar os r ha hr => ?_) ⟨Try.f77, rfl, by decide, rfl⟩
  replace hr : r77 (check_SumF check_fold) ar (conts os) = some r := hr
  unfold r77 at hr
  generalize hc : conts os = C at hr
  replace hr := dV.elim hr; obtain ⟨v0, l1, y0, rfl, e0, hr⟩ := hr; obtain rfl := asS_eq _ _ e0
  replace hr := dFin hr; obtain ⟨rfl, rfl, x, h, rfl⟩ := hr
  obtain rfl := kinds_nil hc
  exact ⟨_, rfl, leads77 check_fold hS _ x h⟩
def check_Sum : (List UInt8) → Option Int := check_SumF check_fold
theorem lift77 : SumOK Try.prog 77 (s77 check_Sum) := ok77 check_fold (SumsOK.of_tab ⟨lift73, trivial⟩)
end Go.Vm.Code
namespace Go.Vm.Code
open Go Go.Vm
def wsum : List UInt8 → Nat
  | [] => 0
  | [b] => b.toNat * 256
  | b :: c :: l => b.toNat * 256 + c.toNat + wsum l
def norm (n : Nat) : Nat := if n = 0 then 0 else (n - 1) % 65535 + 1
theorem norm_eq {n r : Nat} (h1 : r ≤ 65535) (h2 : r % 65535 = n % 65535) (h3 : r = 0 ↔ n = 0) : norm n = r := by unfold norm; split <;> omega
theorem norm_le (n : Nat) : norm n ≤ 65535 := by unfold norm; split <;> omega
theorem norm_mod (n : Nat) : norm n % 65535 = n % 65535 := by unfold norm; split <;> omega
theorem norm_zero (n : Nat) : norm n = 0 ↔ n = 0 := by unfold norm; split <;> omega
theorem norm_same {n : Nat} (h : n ≤ 65535) : norm n = n := norm_eq h rfl Iff.rfl
theorem norm_add (a b : Nat) : norm (norm a + b) = norm (a + b) :=
  (norm_eq (norm_le _) (by have h1 := norm_mod a; have h2 := norm_mod (norm a + b); omega) (by have h1 := norm_zero a; have h2 := norm_zero (norm a + b); omega)).symm
theorem fold_eq {n : Int} (h0 : 0 ≤ n) (h1 : n < 2 ^ 62) : check_fold n = some ((norm n.toNat : Nat) : Int) := by
  unfold check_fold check_foldF
  refine iter_eq (fun n => ((norm n.toNat : Nat) : Int)) (fun n => 0 ≤ n ∧ n < 2 ^ 62) (fun n => n.toNat) ?_ FUEL _ ⟨h0, h1⟩ (by rw [FUEL_eq]; omega)
  intro s ⟨a, b⟩
  unfold check_fold_s1
  by_cases hs : s > 65535
  · refine .inr ⟨s % 65536 + s / 65536, ?_, ⟨by omega, by omega⟩, by omega, ?_⟩
    · rw [cond_p hs, andI64_mask (m := 65535) 16 (by decide) (by decide) a (by omega), fdivP, wI64 (by omega) (by omega)]; rfl
    · have : norm (s % 65536 + s / 65536).toNat = norm s.toNat :=
        (norm_eq (norm_le _) (by have := norm_mod (s % 65536 + s / 65536).toNat; omega) (by have := norm_zero (s % 65536 + s / 65536).toNat; omega)).symm
      rw [this]
  · refine .inl ?_
    rw [cond_n hs]
    have := norm_same (n := s.toNat) (by omega)
    simp only [this]
    rw [Int.toNat_of_nonneg a]
theorem wsum_two {s : List UInt8} {i : Nat} (h : i + 1 < s.length) : wsum (s.drop i) = s[i].toNat * 256 + s[i + 1].toNat + wsum (s.drop (i + 2)) := by
  rw [List.drop_eq_getElem_cons (by omega : i < s.length), List.drop_eq_getElem_cons h]; rfl
theorem wsum_one {s : List UInt8} {i : Nat} (h : i + 1 = s.length) : wsum (s.drop i) = s[i].toNat * 256 := by
  rw [List.drop_eq_getElem_cons (by omega : i < s.length), List.drop_eq_nil_of_le (by omega)]; rfl
theorem wsum_none {s : List UInt8} {i : Nat} (h : s.length ≤ i) : wsum (s.drop i) = 0 := by
  rw [List.drop_eq_nil_of_le h]; rfl
theorem sum_eq (s : List UInt8) (h : s.length < 2 ^ 61) : check_Sum s = some ((norm (wsum s) : Nat) : Int) := by
  unfold check_Sum check_SumF
  have key := iter_eq (step := fun (st : Int × Int) => check_Sum_s1 check_fold s st.1 st.2) (fun (st : Int × Int) => ((norm (st.2.toNat + wsum (s.drop st.1.toNat)) : Nat) : Int)) (fun (st : Int × Int) => 0 ≤ st.1 ∧ st.1 ≤ s.length + 1 ∧ 0 ≤ st.2 ∧ st.2 ≤ 65535) (fun (st : Int × Int) => (s.length + 2 - st.1).toNat) ?_ FUEL (0, 0) ⟨by simp, by simp; omega, by simp, by simp⟩ (by rw [FUEL_eq]; simp only; omega)
  · rw [key]; simp
  rintro ⟨p, n⟩ ⟨h1, h2, h3, h4⟩
  simp only at h1 h2 h3 h4 ⊢
  obtain ⟨i, rfl⟩ := Int.eq_ofNat_of_zero_le h1
  obtain ⟨m, rfl⟩ := Int.eq_ofNat_of_zero_le h3
  unfold check_Sum_s1
  by_cases hp : i < s.length
  · by_cases hq : i + 1 < s.length
    · have b1 := s[i].toNat_lt
      have b2 := s[i + 1].toNat_lt
      refine .inr ⟨(((i + 2 : Nat) : Int), ((norm (m + (s[i].toNat * 256 + s[i + 1].toNat)) : Nat) : Int)), ?_, ⟨by simp only; omega, by simp only; omega, by simp only; omega, by simp only; have := norm_le (m + (s[i].toNat * 256 + s[i + 1].toNat)); omega⟩, by simp only; omega, ?_⟩
      · simp (disch := omega) only [wI64, oreq_p, cond_p]
        have e : ((i : Int) + 1).toNat = i + 1 := by omega
        rw [e]
        simp (disch := omega) only [Int.toNat_natCast, List.getElem?_eq_getElem, Option.bind_some, iorI64_low, wI64, fold_eq]
        congr 3 <;> omega
      · simp only [Int.toNat_natCast]
        rw [norm_add, wsum_two hq, Nat.add_assoc]
    · have b1 := s[i].toNat_lt
      refine .inr ⟨(((i + 2 : Nat) : Int), ((norm (m + s[i].toNat * 256) : Nat) : Int)), ?_, ⟨by simp only; omega, by simp only; omega, by simp only; omega, by simp only; have := norm_le (m + s[i].toNat * 256); omega⟩, by simp only; omega, ?_⟩
      · simp (disch := omega) only [wI64, oreq_p, cond_p, cond_n, Int.toNat_natCast, List.getElem?_eq_getElem, Option.bind_some, fold_eq]
        congr 3 <;> omega
      · simp only [Int.toNat_natCast]
        rw [norm_add, wsum_none (i := i + 2) (by omega), Nat.add_zero, wsum_one (i := i) (by omega)]
  · refine .inl ?_
    simp (disch := omega) only [cond_n]
    simp only [Int.toNat_natCast]
    rw [wsum_none (by omega), Nat.add_zero, norm_same (by omega)]
theorem wsum_append : ∀ (a b : List UInt8), a.length % 2 = 0 → wsum (a ++ b) = wsum a + wsum b
  | [], b, _ => by simp [wsum]
  | [_], b, h => by simp at h
  | x :: y :: a, b, h => by
    have := wsum_append a b (by simp at h; omega)
    simp only [List.cons_append, wsum, this]; omega
end Go.Vm.Code
namespace Go.Vm
open Go
def be (n : Nat) : Nat → List UInt8
  | 0 => []
  | r + 1 => UInt8.ofNat (n / 256 ^ r) :: be n r
def valL (l : List UInt8) : Nat := l.foldl (fun n b => n * 256 + b.toNat) 0
@[simp] theorem be_len (n : Nat) : ∀ k, (be n k).length = k
  | 0 => rfl
  | k + 1 => by simp [be, be_len n k]
theorem be_snoc (n : Nat) : ∀ k, be n (k + 1) = be (n / 256) k ++ [UInt8.ofNat n]
  | 0 => by simp [be]
  | k + 1 => by
    rw [be, be_snoc n k, be, Nat.div_div_eq_div_mul, Nat.pow_succ, Nat.mul_comm 256]; rfl
theorem be_mod (n : Nat) : ∀ k, be (n % 256 ^ k) k = be n k
  | 0 => rfl
  | k + 1 => by
    rw [be_snoc, be_snoc, Nat.pow_succ, Nat.mul_comm, Nat.mod_mul_right_div_self, be_mod (n / 256) k]
    congr 2
    apply UInt8.toNat_inj.1
    simp only [UInt8.toNat_ofNat']
    rw [Nat.mod_mul_right_mod]
theorem val_foldl (l : List UInt8) : ∀ n : Nat, l.foldl (fun n b => n * 256 + b.toNat) n = n * 256 ^ l.length + valL l := by
  induction l with
  | nil => intro n; simp [valL]
  | cons b l ih =>
    intro n
    rw [valL, List.foldl_cons, ih, List.foldl_cons, ih, List.length_cons, Nat.pow_succ]
    rw [Nat.zero_mul, Nat.zero_add, Nat.add_mul, Nat.mul_assoc, Nat.mul_comm (256 ^ _) 256, Nat.add_assoc]
@[simp] theorem val_nil : valL [] = 0 := rfl
theorem val_cons (b : UInt8) (l : List UInt8) : valL (b :: l) = b.toNat * 256 ^ l.length + valL l := by
  rw [valL, List.foldl_cons, val_foldl]; simp
theorem val_append (l m : List UInt8) : valL (l ++ m) = valL l * 256 ^ m.length + valL m := by
  rw [valL, List.foldl_append, val_foldl]; rfl
theorem val_snoc (l : List UInt8) (b : UInt8) : valL (l ++ [b]) = valL l * 256 + b.toNat := by
  rw [val_append]; simp [val_cons]
theorem val_lt : ∀ l : List UInt8, valL l < 256 ^ l.length
  | [] => by simp
  | b :: l => by
    have h := val_lt l
    have hb := b.toNat_lt
    rw [val_cons, List.length_cons, Nat.pow_succ]
    have : b.toNat * 256 ^ l.length + 256 ^ l.length ≤ 256 * 256 ^ l.length := by
      rw [← Nat.succ_mul]; exact Nat.mul_le_mul_right _ (by omega)
    rw [Nat.mul_comm (256 ^ l.length)]; omega
theorem val_be (n : Nat) : ∀ k, valL (be n k) = n % 256 ^ k
  | 0 => by simp [be, Nat.mod_one]
  | k + 1 => by
    have e : n % 256 ^ (k + 1) = n % 256 + 256 * (n / 256 % 256 ^ k) := by rw [Nat.pow_succ', Nat.mod_mul]
    rw [be_snoc, val_snoc, val_be (n / 256) k, UInt8.toNat_ofNat', e]
    generalize n / 256 % 256 ^ k = x
    omega
theorem val_be_lt {n k : Nat} (h : n < 256 ^ k) : valL (be n k) = n := by rw [val_be, Nat.mod_eq_of_lt h]
theorem be_val : ∀ l : List UInt8, be (valL l) l.length = l
  | [] => rfl
  | b :: l => by
    have h := val_lt l
    rw [List.length_cons, be]
    have e1 : valL (b :: l) / 256 ^ l.length = b.toNat := by
      rw [val_cons, Nat.mul_comm, Nat.mul_add_div (Nat.pow_pos (by decide)), Nat.div_eq_of_lt h, Nat.add_zero]
    have e2 : be (valL (b :: l)) l.length = be (valL l) l.length := by
      rw [← be_mod (valL (b :: l)), val_cons, Nat.mul_add_mod', be_mod]
    rw [e1, e2, be_val l]
    simp
theorem be_val' {l : List UInt8} {k : Nat} (h : l.length = k) : be (valL l) k = l := by subst h; exact be_val l
theorem be_of {l : List UInt8} {n k : Nat} (h : l.length = k) (hv : valL l = n) : be n k = l := by subst hv; exact be_val' h
theorem val_take_lt {l : List UInt8} {k : Nat} (n : Nat) (h : 256 ^ k ≤ n) : valL (l.take k) < n := by
  have h1 := val_lt (l.take k)
  have h2 : (l.take k).length ≤ k := List.length_take_le _ _
  exact Nat.lt_of_lt_of_le h1 (Nat.le_trans (Nat.pow_le_pow_right (by decide) h2) h)
theorem be_split (n : Nat) (j : Nat) : ∀ k, be n (j + k) = be (n / 256 ^ k) j ++ be n k
  | 0 => by simp [be]
  | k + 1 => by
    rw [show j + (k + 1) = (j + k) + 1 from rfl, be_snoc, be_split (n / 256) j k, be_snoc n k, Nat.div_div_eq_div_mul, Nat.pow_succ, Nat.mul_comm (256 ^ k), List.append_assoc]
end Go.Vm
namespace Go.Vm.Code
open Go Go.Vm Go.Proofs
set_option maxRecDepth 100000
set_option maxHeartbeats 4000000
set_option linter.unusedVariables false
def octet_Put_s1 (n : Int) (k : Int) (t17 : Int) (b : List Int) : Option (Sum (Int × (List Int)) (List UInt8)) :=
  cond (decide (t17 < (k.toNat : Int)))
    (
    let t := wI .i64 (8 * (wI .i64 ((wI .i64 (k - 1)) - t17)))
    oreq (decide (0 ≤ t)) <|
    oreq (decide ((0 : Int) ≤ t17 ∧ t17 < (k.toNat : Int))) <|
    oreq (decide (t17.toNat < b.length)) <|
    let row := b.set t17.toNat (wI .u8 (n.fdiv (2 ^ (min t.toNat 64))))
    some (.inl (wI .i64 (t17 + 1), row)))
    (
    oreq (decide (k.toNat ≤ b.length)) <|
    some (.inr (iB (b.take k.toNat))))
def octet_PutF (n : Int) (k : Int) : Option (List UInt8) :=
  cond (decide (k < 1))
    (
    some ([]))
    (
    cond (decide (k > 8))
      (
      some ([]))
      (
      oreq (decide (0 ≤ k ∧ k ≤ k ∧ k < 2 ^ 63 ∧ (1 : Int) * k ≤ 2 ^ 48)) <|
      iter (fun st => octet_Put_s1 n k st.1 st.2) FUEL (0, List.replicate k.toNat (0))))
def rx44 (x : List UInt8) : SRes := ⟨.string ⟨⟨x⟩⟩, [], []⟩
def r44 (g : Int → Int → Option (List UInt8)) : Dec := dV (asI .u64) fun (y0 : Int) => dV (asI .i64) fun (y1 : Int) => dEnd (ofG (g y0 y1) rx44)
theorem r44_c {g : Int → Int → Option (List UInt8)} {y0 : Int} {y1 : Int} {x : List UInt8} (hx : g y0 y1 = some x) : r44 g [.int .u64 y0, .int .i64 y1] [] = some (rx44 x) := (dV_eq (asI_c _)).trans ((dV_eq (asI_c _)).trans (ofG_eq hx))
def s44 (g : Int → Int → Option (List UInt8)) : Summ := ⟨[.v, .v], r44 g⟩
theorem r44_eq {g : Int → Int → Option (List UInt8)} {y0 : Int} {y1 : Int} {x : List UInt8} (hx : g y0 y1 = some x) : (s44 g).run [.int .u64 y0, .int .i64 y1] [] = some (rx44 x) := r44_c hx
abbrev sums44 : List (Nat × Summ) := []
def head44_1 (n : Int) (k : Int) (t17 : Int) (b : List Int) : VM :=
  ⟨⟨44, 34, [(0, .int .u64 n), (1, .int .i64 k), (5, .slice (some ⟨0, 0, none⟩) k.toNat 1), (16, .int .i64 (k.toNat : Int)), (17, .int .i64 t17)], [.code k44_17, .inLoop k44_17, .inBlock 0, .code k44_22], [], false, none⟩, [], [(0, .row true (vI .u8 b))], 1⟩
theorem loop44_1 (hS : SumsOK Try.prog (aget (sums44))) (n : Int) (k : Int) (res : List UInt8) : ∀ fuel (st : Int × (List Int)) (o : List UInt8), iter (fun st => octet_Put_s1 n k st.1 st.2) fuel st = some o → (o = res) →
    Leads Try.prog 44 0 (head44_1 n k st.1 st.2) (fun v H _ => Res 0 (rx44 res) v H) := by
  intro fuel st o h hc
  refine iter_leads (head := fun st => head44_1 n k st.1 st.2) (C := fun o => (o = res)) ?_ fuel st o h hc
  clear h hc o st fuel
  intro st o h hc
  obtain ⟨t17, b⟩ := st
  replace h : octet_Put_s1 n k t17 b = some o := h
  show Leads Try.prog 44 0 (head44_1 n k t17 b) (fun v H _ => Res 0 (rx44 res) v H)
  unfold octet_Put_s1 at h
  refine ev_ok tab_ok hS true 3000 ?_
  conv => whnf
  refine br.h2 h ?_ ?_ ?_
  · rfl
  · clear h; intro hb h; conv => whnf
    replace h := oreq.elim h; obtain ⟨hb, h⟩ := h
    refine req.intro (by (first | rfl | (simp [vI, vB, vS, bI, oneC, addrBlk, cellsL, Value.cells] at *; omega) | (simp [vI, vB, vS, bI, oneC, addrBlk, cellsL, Value.cells] at *; done))) ?_
    conv => whnf
    refine pk_b2s ?_
    conv => whnf
    all_goals (cases h; cases hc; exact Res.z rfl rfl rfl)
  clear h; intro hb h; conv => whnf
  let t : Int := wI .i64 (8 * (wI .i64 ((wI .i64 (k - 1)) - t17)))
  replace h := oreq.elim h; obtain ⟨hb, h⟩ := h
  first | (refine req.intro hb ?_; conv => whnf) | skip
  replace h := oreq.elim h; obtain ⟨hb, h⟩ := h
  first | (refine req.intro hb ?_; conv => whnf) | skip
  replace h := oreq.elim h; obtain ⟨hb, h⟩ := h
  refine st_I hb (by first | rfl | (rw [Nat.zero_add, Nat.mul_one]; try rfl; done) | omega) ?_
  conv => whnf
  let row : List Int := b.set t17.toNat (wI .u8 (n.fdiv (2 ^ (min t.toNat 64))))
  cases h; simp only [Sum.elim_inl, head44_1] at hc
  refine Leads.re hc [(0, 0)] rfl ?_ ?_ <;> (repeat' first | exact trivial | refine ⟨⟨_, rfl, rfl⟩, ?_⟩ | refine ⟨⟨_, _, rfl, rfl, .rowF (vI_flat _ _) id⟩, ?_⟩ | refine ⟨⟨_, _, rfl, rfl, .rowF (vS_flat _) id⟩, ?_⟩ | refine ⟨⟨_, _, rfl, rfl, .rowF (vB_flat _) id⟩, ?_⟩ | refine ⟨⟨_, _, rfl, rfl, .rowF (vT_flat (by first | exact capi_Addr_flat | exact capi_Tuple_flat | exact cquic_Head_flat | exact capi_Packet_flat | exact cpacket_outer_flat | exact cipfour_Head_flat | exact coctet_Reader_flat | exact cipsix_Head_flat | exact ctcp_Head_flat | exact ctcp_Opt_flat | exact cudp_Head_flat) _) id⟩, ?_⟩ | refine ⟨⟨_, _, rfl, rfl, .tyF (vI_flat _ _)⟩, ?_⟩ | refine ⟨⟨_, _, rfl, rfl, .ty rfl⟩, ?_⟩ | refine ⟨⟨_, _, rfl, rfl, .cells rfl⟩, ?_⟩ | refine ⟨⟨_, _, rfl, rfl, .row rfl id⟩, ?_⟩ | refine ⟨⟨_, _, rfl, rfl, .cr rfl⟩, ?_⟩ | refine ⟨⟨_, _, rfl, rfl, .rc rfl⟩, ?_⟩ | refine ⟨⟨_, _, rfl, rfl, .marks⟩, ?_⟩ | refine ⟨⟨_, _, rfl, rfl, .siter _ _⟩, ?_⟩ | refine ⟨⟨_, _, rfl, rfl, .loop rfl rfl rfl rfl (by repeat' first | exact trivial | refine ⟨rfl, ?_⟩) rfl rfl rfl rfl⟩, ?_⟩)
theorem leads44 (hS : SumsOK Try.prog (aget (sums44))) (n : Int) (k : Int) (res : List UInt8) (h : octet_PutF n k = some res) :
    Leads Try.prog 44 0 ⟨⟨44, 34, [(0, .int .u64 n), (1, .int .i64 k)], [.code k44_26], [], false, none⟩, [], [], 0⟩ (fun v H _ => Res 0 (rx44 res) v H) := by
  unfold octet_PutF at h
  refine ev_ok tab_ok hS true 3000 ?_
  conv => whnf
  refine br.h h ?_ ?_ ?_
  · rfl
  · clear h; intro hb h; conv => whnf
    all_goals (cases h; exact Res.z rfl rfl rfl)
  clear h; intro hb h; conv => whnf
  refine br.h h ?_ ?_ ?_
  · rfl
  · clear h; intro hb h; conv => whnf
    all_goals (cases h; exact Res.z rfl rfl rfl)
  clear h; intro hb h; conv => whnf
  replace h := oreq.elim h; obtain ⟨hb, h⟩ := h
  first | (refine req.intro hb ?_; conv => whnf) | skip
  refine pk_mkI ?_
  conv => whnf
  have hl := loop44_1 hS _ _ res _ _ _ h rfl; simp only [head44_1] at hl
  refine Leads.re hl [(0, 0)] rfl ?_ ?_ <;> (repeat' first | exact trivial | refine ⟨⟨_, rfl, rfl⟩, ?_⟩ | refine ⟨⟨_, _, rfl, rfl, .rowF (vI_flat _ _) id⟩, ?_⟩ | refine ⟨⟨_, _, rfl, rfl, .rowF (vS_flat _) id⟩, ?_⟩ | refine ⟨⟨_, _, rfl, rfl, .rowF (vB_flat _) id⟩, ?_⟩ | refine ⟨⟨_, _, rfl, rfl, .rowF (vT_flat (by first | exact capi_Addr_flat | exact capi_Tuple_flat | exact cquic_Head_flat | exact capi_Packet_flat | exact cpacket_outer_flat | exact cipfour_Head_flat | exact coctet_Reader_flat | exact cipsix_Head_flat | exact ctcp_Head_flat | exact ctcp_Opt_flat | exact cudp_Head_flat) _) id⟩, ?_⟩ | refine ⟨⟨_, _, rfl, rfl, .tyF (vI_flat _ _)⟩, ?_⟩ | refine ⟨⟨_, _, rfl, rfl, .ty rfl⟩, ?_⟩ | refine ⟨⟨_, _, rfl, rfl, .cells rfl⟩, ?_⟩ | refine ⟨⟨_, _, rfl, rfl, .row rfl id⟩, ?_⟩ | refine ⟨⟨_, _, rfl, rfl, .cr rfl⟩, ?_⟩ | refine ⟨⟨_, _, rfl, rfl, .rc rfl⟩, ?_⟩ | refine ⟨⟨_, _, rfl, rfl, .marks⟩, ?_⟩ | refine ⟨⟨_, _, rfl, rfl, .siter _ _⟩, ?_⟩ | refine ⟨⟨_, _, rfl, rfl, .loop rfl rfl rfl rfl (by repeat' first | exact trivial | refine ⟨rfl, ?_⟩) rfl rfl rfl rfl⟩, ?_⟩)
theorem ok44 (hS : SumsOK Try.prog (aget (sums44))) : SumOK Try.prog 44 (s44 (octet_PutF)) := by
  refine SumOK.of_leads tab_ok (fun ar os r ha hr => ?_) ⟨Try.f44, rfl, by decide, rfl⟩
  replace hr : r44 (octet_PutF) ar (conts os) = some r := hr
  unfold r44 at hr
  generalize hc : conts os = C at hr
  replace hr := dV.elim hr; obtain ⟨v0, l1, y0, rfl, e0, hr⟩ := hr; obtain rfl := asI_eq _ _ _ e0
  replace hr := dV.elim hr; obtain ⟨v1, l2, y1, rfl, e1, hr⟩ := hr; obtain rfl := asI_eq _ _ _ e1
  replace hr := dFin hr; obtain ⟨rfl, rfl, x, h, rfl⟩ := hr
  obtain rfl := kinds_nil hc
  exact ⟨_, rfl, leads44 hS _ _ x h⟩
def octet_Put : Int → Int → Option (List UInt8) := octet_PutF
theorem lift44 : SumOK Try.prog 44 (s44 octet_Put) := ok44 (SumsOK.of_tab trivial)
def octet_Get_s1 (t1 : List UInt8) (n : Int) (t37 : Int) : Option (Sum (Int × Int) (Int × Bool)) :=
  cond (decide (t37 < (t1.length : Int)))
    (
    oreq (decide ((0 : Int) ≤ t37 ∧ t37 < (t1.length : Int))) <|
    ((bI t1)[t37.toNat]?).bind fun (e : Int) =>
    let t2 := iorI .u64 (wI .u64 (n * 2 ^ 8)) (wI .u64 e)
    some (.inl (t2, wI .i64 (t37 + 1))))
    (
    some (.inr ((n, true))))
def octet_GetF (s : List UInt8) (ata1 : Int) (k : Int) : Option (Int × Bool) :=
  cond (decide (k < 1))
    (
    some ((0, false)))
    (
    cond (decide (k > 8))
      (
      some ((0, false)))
      (
      cond (decide (ata1 < 0))
        (
        some ((0, false)))
        (
        let t := decide ((wI .i64 ((s.length : Int) - k)) < ata1)
        cond (t)
          (
          some ((0, false)))
          (
          oreq (decide ((0 : Int) ≤ (wI .i64 (ata1 + k)) ∧ (wI .i64 (ata1 + k)) ≤ (s.length : Int) ∧ (0 : Int) ≤ ata1 ∧ ata1 ≤ ((wI .i64 (ata1 + k)).toNat : Int))) <|
          let t1 := (s.drop ata1.toNat).take ((wI .i64 (ata1 + k)).toNat - ata1.toNat)
          iter (fun st => octet_Get_s1 t1 st.1 st.2) FUEL (0, 0)))))
def rx25 (x : Int × Bool) : SRes := ⟨.tuple ⟨[.int .u64 x.1, .bool x.2]⟩, [], []⟩
def r25 (g : (List UInt8) → Int → Int → Option (Int × Bool)) : Dec := dV asS fun (y0 : List UInt8) => dV (asI .i64) fun (y1 : Int) => dV (asI .i64) fun (y2 : Int) => dEnd (ofG (g y0 y1 y2) rx25)
theorem r25_c {g : (List UInt8) → Int → Int → Option (Int × Bool)} {y0 : List UInt8} {y1 : Int} {y2 : Int} {x : Int × Bool} (hx : g y0 y1 y2 = some x) : r25 g [.string ⟨⟨y0⟩⟩, .int .i64 y1, .int .i64 y2] [] = some (rx25 x) := (dV_eq (asS_c)).trans ((dV_eq (asI_c _)).trans ((dV_eq (asI_c _)).trans (ofG_eq hx)))
def s25 (g : (List UInt8) → Int → Int → Option (Int × Bool)) : Summ := ⟨[.v, .v, .v], r25 g⟩
theorem r25_eq {g : (List UInt8) → Int → Int → Option (Int × Bool)} {y0 : List UInt8} {y1 : Int} {y2 : Int} {x : Int × Bool} (hx : g y0 y1 y2 = some x) : (s25 g).run [.string ⟨⟨y0⟩⟩, .int .i64 y1, .int .i64 y2] [] = some (rx25 x) := r25_c hx
abbrev sums25 : List (Nat × Summ) := []
def head25_1 (t1 : List UInt8) (n : Int) (t37 : Int) : VM :=
  ⟨⟨25, 48, [(8, .int .u64 n), (35, .slice (some ⟨0, 0, none⟩) t1.length 1), (36, .int .i64 (t1.length : Int)), (37, .int .i64 t37)], [.code k25_17, .inLoop k25_17, .inBlock 0, .code k25_22], [], false, none⟩, [], [(0, .row true (vI .u8 (bI t1)))], 1⟩
theorem loop25_1 (hS : SumsOK Try.prog (aget (sums25))) (t1 : List UInt8) (res : Int × Bool) : ∀ fuel (st : Int × Int) (o : Int × Bool), iter (fun st => octet_Get_s1 t1 st.1 st.2) fuel st = some o → (o = res) →
    Leads Try.prog 25 0 (head25_1 t1 st.1 st.2) (fun v H _ => Res 0 (rx25 res) v H) := by
  intro fuel st o h hc
  refine iter_leads (head := fun st => head25_1 t1 st.1 st.2) (C := fun o => (o = res)) ?_ fuel st o h hc
  clear h hc o st fuel
  intro st o h hc
  obtain ⟨n, t37⟩ := st
  replace h : octet_Get_s1 t1 n t37 = some o := h
  show Leads Try.prog 25 0 (head25_1 t1 n t37) (fun v H _ => Res 0 (rx25 res) v H)
  unfold octet_Get_s1 at h
  refine ev_ok tab_ok hS true 3000 ?_
  conv => whnf
  refine br.h2 h ?_ ?_ ?_
  · rfl
  · clear h; intro hb h; conv => whnf
    all_goals (cases h; cases hc; exact Res.z rfl rfl rfl)
  clear h; intro hb h; conv => whnf
  replace h := oreq.elim h; obtain ⟨hb, h⟩ := h
  first | (refine req.intro hb ?_; conv => whnf) | skip
  replace h := obind.elim h; obtain ⟨e, hy, h⟩ := h
  refine rd.I hy (by first | rfl | (rw [Nat.zero_add, Nat.mul_one]; try rfl; done) | omega) ?_
  conv => whnf
  let t2 : Int := iorI .u64 (wI .u64 (n * 2 ^ 8)) (wI .u64 e)
  cases h; simp only [Sum.elim_inl, head25_1] at hc
  refine Leads.re hc [(0, 0)] rfl ?_ ?_ <;> (repeat' first | exact trivial | refine ⟨⟨_, rfl, rfl⟩, ?_⟩ | refine ⟨⟨_, _, rfl, rfl, .rowF (vI_flat _ _) id⟩, ?_⟩ | refine ⟨⟨_, _, rfl, rfl, .rowF (vS_flat _) id⟩, ?_⟩ | refine ⟨⟨_, _, rfl, rfl, .rowF (vB_flat _) id⟩, ?_⟩ | refine ⟨⟨_, _, rfl, rfl, .rowF (vT_flat (by first | exact capi_Addr_flat | exact capi_Tuple_flat | exact cquic_Head_flat | exact capi_Packet_flat | exact cpacket_outer_flat | exact cipfour_Head_flat | exact coctet_Reader_flat | exact cipsix_Head_flat | exact ctcp_Head_flat | exact ctcp_Opt_flat | exact cudp_Head_flat) _) id⟩, ?_⟩ | refine ⟨⟨_, _, rfl, rfl, .tyF (vI_flat _ _)⟩, ?_⟩ | refine ⟨⟨_, _, rfl, rfl, .ty rfl⟩, ?_⟩ | refine ⟨⟨_, _, rfl, rfl, .cells rfl⟩, ?_⟩ | refine ⟨⟨_, _, rfl, rfl, .row rfl id⟩, ?_⟩ | refine ⟨⟨_, _, rfl, rfl, .cr rfl⟩, ?_⟩ | refine ⟨⟨_, _, rfl, rfl, .rc rfl⟩, ?_⟩ | refine ⟨⟨_, _, rfl, rfl, .marks⟩, ?_⟩ | refine ⟨⟨_, _, rfl, rfl, .siter _ _⟩, ?_⟩ | refine ⟨⟨_, _, rfl, rfl, .loop rfl rfl rfl rfl (by repeat' first | exact trivial | refine ⟨rfl, ?_⟩) rfl rfl rfl rfl⟩, ?_⟩)
theorem leads25 (hS : SumsOK Try.prog (aget (sums25))) (s : List UInt8) (ata1 : Int) (k : Int) (res : Int × Bool) (h : octet_GetF s ata1 k = some res) :
    Leads Try.prog 25 0 ⟨⟨25, 48, [(0, .string ⟨⟨s⟩⟩), (1, .int .i64 ata1), (2, .int .i64 k)], [.code k25_26], [], false, none⟩, [], [], 0⟩ (fun v H _ => Res 0 (rx25 res) v H) := by
  unfold octet_GetF at h
  refine ev_ok tab_ok hS true 3000 ?_
  conv => whnf
  refine br.h h ?_ ?_ ?_
  · rfl
  · clear h; intro hb h; conv => whnf
    all_goals (cases h; exact Res.z rfl rfl rfl)
  clear h; intro hb h; conv => whnf
  refine br.h h ?_ ?_ ?_
  · rfl
  · clear h; intro hb h; conv => whnf
    all_goals (cases h; exact Res.z rfl rfl rfl)
  clear h; intro hb h; conv => whnf
  refine br.h h ?_ ?_ ?_
  · rfl
  · clear h; intro hb h; conv => whnf
    all_goals (cases h; exact Res.z rfl rfl rfl)
  clear h; intro hb h; conv => whnf
  let t : Bool := decide ((wI .i64 ((s.length : Int) - k)) < ata1)
  refine br.h h ?_ ?_ ?_
  · rfl
  · clear h; intro hb h; conv => whnf
    all_goals (cases h; exact Res.z rfl rfl rfl)
  clear h; intro hb h; conv => whnf
  replace h := oreq.elim h; obtain ⟨hb, h⟩ := h
  first | (refine req.intro hb ?_; conv => whnf) | skip
  let t1 : List UInt8 := (s.drop ata1.toNat).take ((wI .i64 (ata1 + k)).toNat - ata1.toNat)
  refine pk_s2b ?_
  conv => whnf
  have hl := loop25_1 hS _ res _ _ _ h rfl; simp only [head25_1] at hl
  refine Leads.re hl [(0, 0)] rfl ?_ ?_ <;> (repeat' first | exact trivial | refine ⟨⟨_, rfl, rfl⟩, ?_⟩ | refine ⟨⟨_, _, rfl, rfl, .rowF (vI_flat _ _) id⟩, ?_⟩ | refine ⟨⟨_, _, rfl, rfl, .rowF (vS_flat _) id⟩, ?_⟩ | refine ⟨⟨_, _, rfl, rfl, .rowF (vB_flat _) id⟩, ?_⟩ | refine ⟨⟨_, _, rfl, rfl, .rowF (vT_flat (by first | exact capi_Addr_flat | exact capi_Tuple_flat | exact cquic_Head_flat | exact capi_Packet_flat | exact cpacket_outer_flat | exact cipfour_Head_flat | exact coctet_Reader_flat | exact cipsix_Head_flat | exact ctcp_Head_flat | exact ctcp_Opt_flat | exact cudp_Head_flat) _) id⟩, ?_⟩ | refine ⟨⟨_, _, rfl, rfl, .tyF (vI_flat _ _)⟩, ?_⟩ | refine ⟨⟨_, _, rfl, rfl, .ty rfl⟩, ?_⟩ | refine ⟨⟨_, _, rfl, rfl, .cells rfl⟩, ?_⟩ | refine ⟨⟨_, _, rfl, rfl, .row rfl id⟩, ?_⟩ | refine ⟨⟨_, _, rfl, rfl, .cr rfl⟩, ?_⟩ | refine ⟨⟨_, _, rfl, rfl, .rc rfl⟩, ?_⟩ | refine ⟨⟨_, _, rfl, rfl, .marks⟩, ?_⟩ | refine ⟨⟨_, _, rfl, rfl, .siter _ _⟩, ?_⟩ | refine ⟨⟨_, _, rfl, rfl, .loop rfl rfl rfl rfl (by repeat' first | exact trivial | refine ⟨rfl, ?_⟩) rfl rfl rfl rfl⟩, ?_⟩)
theorem ok25 (hS : SumsOK Try.prog (aget (sums25))) : SumOK Try.prog 25 (s25 (octet_GetF)) := by
  refine SumOK.of_leads tab_ok (fun ar os r ha hr => ?_) ⟨Try.f25, rfl, by decide, rfl⟩
  replace hr : r25 (octet_GetF) ar (conts os) = some r := hr
  unfold r25 at hr
  generalize hc : conts os = C at hr
  replace hr := dV.elim hr; obtain ⟨v0, l1, y0, rfl, e0, hr⟩ := hr; obtain rfl := asS_eq _ _ e0
  replace hr := dV.elim hr; obtain ⟨v1, l2, y1, rfl, e1, hr⟩ := hr; obtain rfl := asI_eq _ _ _ e1
  replace hr := dV.elim hr; obtain ⟨v2, l3, y2, rfl, e2, hr⟩ := hr; obtain rfl := asI_eq _ _ _ e2
  replace hr := dFin hr; obtain ⟨rfl, rfl, x, h, rfl⟩ := hr
  obtain rfl := kinds_nil hc
  exact ⟨_, rfl, leads25 hS _ _ _ x h⟩
def octet_Get : (List UInt8) → Int → Int → Option (Int × Bool) := octet_GetF
theorem lift25 : SumOK Try.prog 25 (s25 octet_Get) := ok25 (SumsOK.of_tab trivial)
end Go.Vm.Code
